/-
  From the model to the given statement.
  How models are reasoned about: what a model answers, rule by rule.
  More rules for models; the order of texts.
  Sorting, in plain Lean: what is used of each exchange, index and number.
  Sorting, in plain Lean: what is sorted holds the same; no index is out of range.
  Telemetry, in plain Lean: how messages are sorted, and what is kept of them.
  Telemetry taken in hand, in plain Lean: what Take, taken, Concat and Equal answer.
  Collecting lists of messages, in plain Lean.
  What is collected of the stations: the same, whatever the workers, as what one hand takes.
-/
import Derived.Test.YticgbjeijocojaaMg23
import Derived.OpenShut
import Derived.Test.YticgbjeijocojaaMg9
import Derived.KernelRfl
import Derived.Lib.Bytealg
import Derived.Test.YticgbjeijocojaaMg21
set_option linter.unusedVariables false
set_option linter.unusedSimpArgs false
section
set_option linter.unusedVariables false
set_option linter.unusedSimpArgs false
namespace Go.Sim
open Go Go.Conc Go.RowKit Go.ChangeShapes Go.WideShapes Go.ChangeAt
theorem law_own : ownKnob Proofs.Try.prog.godebug = none := by kernel_rfl
theorem law_laid : laidOutB Proofs.Try.prog = true := by kernel_rfl
instance : Ok S_api_TelemetryMsg := ⟨fun x => ok x.Point ∧ ok x.Number ∧ ok x.Time ∧ ok x.Value⟩
theorem tread29 : Tread Proofs.Try.prog 29 S_api_TelemetryMsg := by
  intro Hd enc w fuel cs d h
  obtain ⟨xs, n, rfl, rfl, hl, hlen, hf⟩ := DataW.trod_struct Proofs.Try.underlying29 h
  obtain ⟨x0, e0, o0⟩ := field_tread (α := ByteArray) hlen hf 0 (o := 0) rfl rfl (by kernel_rfl) (tread_string Proofs.Try.underlying9)
  obtain ⟨x1, e1, o1⟩ := field_tread (α := Int) hlen hf 1 (o := 1) rfl rfl (by kernel_rfl) (tread_int Proofs.Try.underlying3)
  obtain ⟨x2, e2, o2⟩ := field_tread (α := Int) hlen hf 2 (o := 2) rfl rfl (by kernel_rfl) (tread_int Proofs.Try.underlying3)
  obtain ⟨x3, e3, o3⟩ := field_tread (α := Int) hlen hf 3 (o := 3) rfl rfl (by kernel_rfl) (tread_int Proofs.Try.underlying3)
  exact ⟨⟨x0, x1, x2, x3⟩, piece (o := 0) e0 (by rfl) (piece (o := 1) e1 (by rfl) (piece (o := 2) e2 (by rfl) (piece (o := 3) e3 (by rfl) (piece_end hl (by kernel_rfl))))), ⟨o0, o1, o2, o3⟩⟩
theorem tread27 : Tread Proofs.Try.prog 27 (List S_api_TelemetryMsg) := tread_slice Proofs.Try.underlying27 (by kernel_rfl) rfl tread29
theorem tread22 : Tread Proofs.Try.prog 22 (List (List S_api_TelemetryMsg)) := tread_slice Proofs.Try.underlying22 (by kernel_rfl) rfl tread27

/-- THE RUN. -/
theorem the_run {W : World} {x0 : List (List S_api_TelemetryMsg)} {x1 : Int} {v0 : Value} (hm : m_gridhallkeep4_SecondCollects x0 x1 = some true) (e0 : RdS (snap W) v0 x0) :
    ∃ N last o w' t', runNT Proofs.Try.prog (N + 1) (solo (G (Frame.enter Proofs.Try.prog 3 #[v0, .int .i64 x1] .normal) []) W) #[] = (.ended o w', t') ∧ runN Proofs.Try.prog N (solo (G (Frame.enter Proofs.Try.prog 3 #[v0, .int .i64 x1] .normal) []) W) = .next last ∧
      step Proofs.Try.prog last = .ended o w' ∧ Go.Conc.Good Proofs.Try.prog (fun u W' => u = .bool true ∧ Below W.heap.size W W') last o w' t' := by
  refine run_ends (f := 3) Proofs.Try.func3 (by kernel_rfl) fun m0 hg => ?_
  have hle : (snap W).le (snapG m0 W) := fun b o h => snapG_of (hg b (Array.getElem?_eq_some_iff.1 h).1) h
  have hc := m_gridhallkeep4_SecondCollects_c (w0 := paid m0 W) (hm := hm) (e0.mono hle) (st_as (st_snap (m0 := m0) (w0 := W) (w := W) ⟨rfl, rfl, rfl⟩ (Nat.le_refl _)) rfl rfl rfl)
  intro Stop hk
  refine hc Stop fun fn a w' todo v hf hd hr hp => hk fn a w' todo v hf hd hr ?_
  obtain ⟨H', M', h1, h2, h3, h4⟩ := hp
  exact ⟨H', M', h1, h2, h3, h4⟩

set_option maxRecDepth 100000 in
theorem SecondCollects_lifted (hp : ∀ (x0 : List (List S_api_TelemetryMsg)) (x1 : Int), ok x0 → i64ok x1 → m_gridhallkeep4_SecondCollects x0 x1 = some true) (os : Os) (started : os.Started) (Hd : Type) (enc : TypeId × Value → Hd) :
    ReturnsInLeavingWide {} Proofs.Try.checked os 3 .any (Proofs.Yticgbjeijocojaa.Rows.secondCollectsSpec.pre6 enc Proofs.Try.prog Proofs.Try.f3 Proofs.Yticgbjeijocojaa.Rows.secondCollectsRow.domain false) (Proofs.Yticgbjeijocojaa.Rows.secondCollectsSpec.post enc Proofs.Try.prog Proofs.Try.f3 false true false false) := by
  refine returnsInLeavingWide_of_change_sized (C := Proofs.Try.checked) law_own started Proofs.Try.func3
    (ChangeSpec.witness6 (enc := enc) (C := Proofs.Try.checked) false ⟨#[], #[.slice none 0 0, .int .i64 0], []⟩ 8 (by kernel_rfl) (by kernel_rfl) (by kernel_rfl) (by kernel_rfl)) ?_
  intro W base args ds gs before hval0 hW hcnd _ _
  have hval : ∀ (j : Nat) t v, Proofs.Try.f3.params[j]? = some t → args[j]? = some v → Value.okWide Proofs.Try.prog W .any base t v := hval0
  have hW2 : DataW.Whole enc Proofs.Try.prog Proofs.Try.f3.params.toList Proofs.Yticgbjeijocojaa.Rows.secondCollectsSpec.vars false W args.toList ds gs before := hW
  obtain ⟨p, q, hA0, hV, rfl, hfz, hnd⟩ := hW
  have hA : DataW.TrodAll enc Proofs.Try.prog W 0 (fun _ => true) true Proofs.Try.f3.params.toList args.toList ds p := hA0
  rw [Proofs.Try.params3] at hA hval
  obtain ⟨v0, vs0, d0, ds0, p0, q0, hargs, rfl, rfl, h0, r0⟩ := trodAll_cons hA
  obtain ⟨v1, vs1, d1, ds1, p1, q1, rfl, rfl, rfl, h1, r1⟩ := trodAll_cons r0
  obtain ⟨rfl, rfl, rfl⟩ := trodAll_nil r1
  obtain rfl : args = #[v0, v1] := by cases args; simp_all
  obtain ⟨x0, e0, ok0⟩ := arg_slice Proofs.Try.underlying22 tread22 (hval 0 22 v0 rfl rfl) h0
  obtain ⟨x1, rfl, ok1⟩ := arg_int Proofs.Try.underlying3 (hval 1 3 v1 rfl rfl) h1
  obtain ⟨M, last, o, w', t', a1, a2, a3, a4⟩ := the_run (x1 := x1) (hp _ _ ok0 ok1) e0
  refine ⟨M, last, o, w', t', a1, a2, a3, a4.mono fun v hF => ?_⟩
  obtain ⟨rfl, hB⟩ := hF
  exact law_post law_laid rfl rfl Proofs.Try.underlying4 (by kernel_rfl) hW2 (fun _ => rfl) hB
theorem SecondCollects_law (hp : ∀ (x0 : List (List S_api_TelemetryMsg)) (x1 : Int), ok x0 → i64ok x1 → m_gridhallkeep4_SecondCollects x0 x1 = some true) : Proofs.Yticgbjeijocojaa.Rows.SecondCollectsSaid :=
  OpenClaim.holds_of_wide_leaving 3 Proofs.Try.f3 rfl rfl rfl rfl rfl rfl rfl ⟨rfl, rfl, rfl, rfl, rfl⟩ rfl rfl rfl rfl rfl (by kernel_rfl) Proofs.Try.func3 (by kernel_rfl)
    (of_decide_eq_true (by kernel_rfl)) (by unfold Func.isWrapper; first | (rw [if_pos (by decide +kernel)]; kernel_rfl) | (rw [if_neg (by decide +kernel)]; exact ⟨rfl, rfl⟩))
    (fun os started H enc _ => SecondCollects_lifted hp os started H enc)
end Go.Sim
end

section
namespace Go.Sim
open Go Go.RowKit
set_option linter.unusedVariables false
set_option linter.unusedSimpArgs false
set_option linter.unusedSectionVars false
set_option linter.unnecessarySimpa false

/-- The model answers, and the answer is as wanted. -/
def Gd {R : Type} (o : Option R) (Q : R → Prop) : Prop := ∃ r, o = some r ∧ Q r

section
variable {R α β σ : Type} {Q Q' : R → Prop}
theorem Gd.mono {o : Option R} (h : Gd o Q) (k : ∀ r, Q r → Q' r) : Gd o Q' := by
  obtain ⟨r, e, q⟩ := h; exact ⟨r, e, k r q⟩
theorem Gd.ret {r : R} (h : Q r) : Gd (some r) Q := ⟨r, rfl, h⟩
theorem Gd.nd {p : Prop} [Decidable p] {k : Option R} (h : p) (hk : Gd k Q) : Gd (need p k) Q := by
  unfold Sim.need; rw [if_pos h]; exact hk
theorem Gd.bnd {o : Option α} {k : α → Option R} {P : α → Prop} (h : Gd o P) (hk : ∀ a, P a → Gd (k a) Q) : Gd (o.bind k) Q := by
  obtain ⟨a, rfl, q⟩ := h; exact hk a q
theorem Gd.bind_eq {o : Option α} {a : α} {k : α → Option R} (h : o = some a) (hk : Gd (k a) Q) : Gd (o.bind k) Q := by
  subst h; exact hk
theorem Gd.ite {b : Bool} {p q : Option R} (h1 : b = true → Gd p Q) (h2 : b = false → Gd q Q) : Gd (if b = true then p else q) Q := by
  cases b
  · simpa using h2 rfl
  · simpa using h1 rfl
theorem Gd.ix {l : List α} {i : Int} {k : α → Option R} {y : α} (h0 : 0 ≤ i) (hy : l[i.toNat]? = some y) (hk : Gd (k y) Q) : Gd (idx l i k) Q := by
  unfold Sim.idx; rw [if_pos h0, hy]; exact hk
theorem Gd.idxN {l : List α} {i : Nat} {k : α → Option R} (h : i < l.length) (hk : Gd (k l[i]) Q) : Gd (Sim.idx l (i : Int) k) Q :=
  Gd.ix (by omega) (List.getElem?_eq_getElem (by simpa using h)) hk
theorem Gd.opt {o : Option α} {a : Option R} {f : α → Option R} (h1 : o = none → Gd a Q) (h2 : ∀ s, o = some s → Gd (f s) Q) : Gd (optC o a f) Q := by
  cases o with
  | none => exact h1 rfl
  | some s => exact h2 s rfl
theorem Gd.forI {body : Nat → α → σ → (σ → Option R) → Option R} {k : σ → Option R} (I : Nat → List α → σ → Prop)
    (hb : ∀ i y ys s n, I i (y :: ys) s → (∀ s', I (i + 1) ys s' → Gd (n s') Q) → Gd (body i y s n) Q) (hk : ∀ i s, I i [] s → Gd (k s) Q) :
    ∀ (l : List α) (i : Nat) (s : σ), I i l s → Gd (forI body k i l s) Q
  | [], i, s, h => hk i s h
  | y :: ys, i, s, h => hb i y ys s _ h (fun s' h' => Gd.forI I hb hk ys (i + 1) s' h')
theorem Gd.forN {body : Nat → σ → (σ → Option R) → Option R} {k : σ → Option R} (I : Nat → Nat → σ → Prop)
    (hb : ∀ m i s n, I (m + 1) i s → (∀ s', I m (i + 1) s' → Gd (n s') Q) → Gd (body i s n) Q) (hk : ∀ i s, I 0 i s → Gd (k s) Q) :
    ∀ (m i : Nat) (s : σ), I m i s → Gd (forN body k m i s) Q
  | 0, i, s, h => hk i s h
  | m + 1, i, s, h => hb m i s _ h (fun s' h' => Gd.forN I hb hk m (i + 1) s' h')
theorem Gd.loopF {body : σ → (σ → Option R) → Option R} (I : σ → Prop) (μ : σ → Nat)
    (hb : ∀ s n, I s → (∀ s', I s' → μ s' < μ s → Gd (n s') Q) → Gd (body s n) Q) :
    ∀ (m : Nat) (s : σ), I s → μ s < m → Gd (loopF body m s) Q
  | 0, s, _, h => by omega
  | m + 1, s, hI, h => hb s _ hI (fun s' h' hlt => Gd.loopF I μ hb m s' h' (by omega))
theorem Gd.eq {o : Option R} {r : R} : Gd o (fun x => x = r) ↔ o = Option.some r := by
  constructor
  · rintro ⟨x, h, rfl⟩; exact h
  · intro h; exact ⟨r, h, rfl⟩
end
theorem wrap_id {n : Int} (h : -9223372036854775808 ≤ n ∧ n ≤ 9223372036854775807) : IntKind.i64.wrap n = n := i64_of h.1 h.2
end Go.Sim
end

section
namespace Go.Sim
open Go Go.RowKit
set_option linter.unusedVariables false
set_option linter.unusedSimpArgs false
set_option linter.unusedSectionVars false
set_option linter.unnecessarySimpa false

/-- A loop that looks at each element: what is known of those seen. -/
theorem Gd.seen {R α σ : Type} {Q : R → Prop} {body : Nat → α → σ → (σ → Option R) → Option R} {k : σ → Option R} {l : List α} (I : List α → σ → Prop)
    (hb : ∀ i y s n pre, (∃ post, l = pre ++ y :: post) → I pre s → (∀ s', I (pre ++ [y]) s' → Gd (n s') Q) → Gd (body i y s n) Q) (hk : ∀ s, I l s → Gd (k s) Q) (s : σ) (hs : I [] s) : Gd (Sim.forI body k 0 l s) Q := by
  have key : ∀ (ys pre : List α) (i : Nat) (s : σ), l = pre ++ ys → I pre s → Gd (Sim.forI body k i ys s) Q := by
    intro ys
    induction ys with
    | nil => intro pre i s hl hs; rw [List.append_nil] at hl; subst hl; exact hk s hs
    | cons y ys ih =>
      intro pre i s hl hs
      exact hb i y s _ pre ⟨ys, hl⟩ hs (fun s' hs' => ih (pre ++ [y]) (i + 1) s' (by rw [hl]; simp) hs')
  exact key l [] 0 s rfl hs
theorem pre_lt {α : Type} {l pre : List α} {y : α} (h : ∃ post, l = pre ++ y :: post) : pre.length < l.length ∧ y ∈ l ∧ ∀ x ∈ pre, x ∈ l := by
  obtain ⟨post, rfl⟩ := h
  exact ⟨by simp, by simp, fun x hx => List.mem_append_left _ hx⟩

theorem u8_tri (a b : UInt8) : (a < b ∧ ¬ b < a ∧ a ≠ b) ∨ (a = b ∧ ¬ a < b ∧ ¬ b < a) ∨ (b < a ∧ ¬ a < b ∧ a ≠ b) := by
  simp only [UInt8.lt_iff_toNat_lt, ← UInt8.toNat_inj, ne_eq]; omega
theorem bl_trans : ∀ (x y z : List UInt8), Op.bytesLess x y = true → Op.bytesLess y z = true → Op.bytesLess x z = true
  | _, _, [], _, h => by cases ‹List UInt8› <;> simp [Op.bytesLess] at h
  | [], _, _ :: _, _, _ => rfl
  | _ :: _, [], _ :: _, h, _ => by simp [Op.bytesLess] at h
  | a :: x, b :: y, c :: z, h1, h2 => by
    simp only [Op.bytesLess, Bool.or_eq_true, decide_eq_true_eq, Bool.and_eq_true, beq_iff_eq] at h1 h2 ⊢
    rcases h1 with h1 | ⟨rfl, h1⟩
    · rcases h2 with h2 | ⟨rfl, h2⟩
      · left; rw [UInt8.lt_iff_toNat_lt] at *; omega
      · exact .inl h1
    · rcases h2 with h2 | ⟨rfl, h2⟩
      · exact .inl h2
      · exact .inr ⟨rfl, bl_trans x y z h1 h2⟩
theorem bl_irr : ∀ x : List UInt8, Op.bytesLess x x = false
  | [] => rfl
  | a :: x => by simp [Op.bytesLess, bl_irr x]
theorem ltS_irr (a : ByteArray) : ltS a a = false := bl_irr _
theorem ltS_trans {a b c : ByteArray} (h1 : ltS a b = true) (h2 : ltS b c = true) : ltS a c = true := bl_trans _ _ _ h1 h2
theorem ba_toList {a b : ByteArray} (h : a.toList = b.toList) : a = b := by
  rw [ByteArray.toList_eq, ByteArray.toList_eq] at h
  cases a; cases b
  simp only [Array.toList_inj] at h
  rw [h]
theorem ltS_tri (a b : ByteArray) : ltS a b = true ∨ a = b ∨ ltS b a = true := by
  unfold ltS
  cases h : Op.bytesLess a.toList b.toList
  · right
    by_cases e : a.toList = b.toList
    · exact .inl (ba_toList e)
    · right
      rw [← blt_total, h, beq_false_of_ne e]; rfl
  · exact .inl rfl
theorem ltS_asym {a b : ByteArray} (h : ltS a b = true) : ltS b a = false := by
  cases e : ltS b a
  · rfl
  · have := ltS_trans h e; rw [ltS_irr] at this; cases this
/-- not greater -/
def leS (a b : ByteArray) : Prop := ltS b a = false
theorem leS_trans {a b c : ByteArray} (h1 : leS a b) (h2 : leS b c) : leS a c := by
  unfold leS at *
  cases e : ltS c a
  · rfl
  · rcases ltS_tri a b with h | rfl | h
    · have := ltS_trans e h; rw [h2] at this; cases this
    · rw [h2] at e; cases e
    · rw [h1] at h; cases h
theorem leS_anti {a b : ByteArray} (h1 : leS a b) (h2 : leS b a) : a = b := by
  unfold leS at *
  rcases ltS_tri a b with h | h | h
  · rw [h2] at h; cases h
  · exact h
  · rw [h1] at h; cases h
theorem leS_refl (a : ByteArray) : leS a a := ltS_irr a
theorem leS_total (a b : ByteArray) : leS a b ∨ leS b a := by
  unfold leS
  cases h : ltS b a
  · exact .inl rfl
  · exact .inr (ltS_asym h)
theorem leastS : ∀ (l : List ByteArray), l ≠ [] → ∃ m ∈ l, ∀ z ∈ l, leS m z
  | [a], _ => ⟨a, List.mem_singleton_self _, fun z hz => by simp at hz; subst hz; exact leS_refl _⟩
  | a :: b :: l, _ => by
    obtain ⟨m, hm, h⟩ := leastS (b :: l) (by simp)
    rcases leS_total a m with hle | hle
    · refine ⟨a, List.mem_cons_self .., fun z hz => ?_⟩
      rcases List.mem_cons.1 hz with rfl | hz
      · exact leS_refl _
      · exact leS_trans hle (h z hz)
    · refine ⟨m, List.mem_cons_of_mem _ hm, fun z hz => ?_⟩
      rcases List.mem_cons.1 hz with rfl | hz
      · exact hle
      · exact h z hz
theorem nodup_le {α : Type} [DecidableEq α] : ∀ (a b : List α), a.Nodup → (∀ x ∈ a, x ∈ b) → a.length ≤ b.length
  | [], _, _, _ => Nat.zero_le _
  | x :: xs, b, hn, h => by
    rw [List.nodup_cons] at hn
    have hx := h x (List.mem_cons_self ..)
    have h1 := nodup_le xs (b.erase x) hn.2 (fun y hy => (List.mem_erase_of_ne (fun e : y = x => hn.1 (by rw [← e]; exact hy))).2 (h y (List.mem_cons_of_mem _ hy)))
    rw [List.length_erase_of_mem hx] at h1
    have : 0 < b.length := List.length_pos_of_mem hx
    simp only [List.length_cons]; omega
end Go.Sim
end

section
namespace Go.Sim
open Go
set_option linter.unusedVariables false
set_option linter.unusedSimpArgs false
set_option linter.unusedSectionVars false
set_option linter.unnecessarySimpa false

theorem wi {n : Int} (h0 : -2000000 ≤ n) (h1 : n ≤ 2000000) : IntKind.i64.wrap n = n := wrap_id ⟨by omega, by omega⟩
theorem set_swap_perm {α : Type} (l : List α) (i j : Nat) (hi : i < l.length) (hj : j < l.length) : ((l.set i l[j]).set j l[i]).Perm l := by
  have h := Array.swap_perm (xs := l.toArray) (i := i) (j := j) (by simpa using hi) (by simpa using hj)
  rw [Array.perm_iff_toList_perm] at h
  simpa [Array.toList_swap] using h
section
variable {R α : Type} {Q : R → Prop}
theorem Gd.ixa {l : List α} {i : Int} {k : α → Option R} (h0 : 0 ≤ i) (h1 : i < l.length) (hk : ∀ y, Gd (k y) Q) : Gd (idx l i k) Q :=
  Gd.ix h0 (List.getElem?_eq_getElem (by omega)) (hk _)
theorem Gd.swp {l : List α} {i j : Int} {k : α → α → Option R} (hi : 0 ≤ i) (hi2 : i < l.length) (hj : 0 ≤ j) (hj2 : j < l.length)
    (hk : ∀ y y2, ((l.set i.toNat y).set j.toNat y2).Perm l → Gd (k y y2) Q) : Gd (idx l j fun y => idx l i fun y2 => idx l i fun _ => idx (l.set i.toNat y) j fun _ => k y y2) Q := by
  have hi' : i.toNat < l.length := by omega
  have hj' : j.toNat < l.length := by omega
  refine Gd.ix hj (List.getElem?_eq_getElem hj') (Gd.ix hi (List.getElem?_eq_getElem hi') (Gd.ix hi (List.getElem?_eq_getElem hi') (Gd.ixa hj (by simpa using hj2) (fun _ => hk _ _ (set_swap_perm l _ _ hi' hj')))))
end
theorem npt_list : (List.range 50).all (fun n => decide (n < 8) || match m_slices_nextPowerOfTwo (n : Int) with | some m => decide (1 ≤ m) && decide (m ≤ 2 * (n : Int)) | none => false) = true := by kernel_rfl
theorem npt {n : Int} (h8 : 8 ≤ n) (h : n ≤ 49) : ∃ m, m_slices_nextPowerOfTwo n = some m ∧ 1 ≤ m ∧ m ≤ 2 * n := by
  obtain ⟨k, rfl⟩ : ∃ k : Nat, n = k := ⟨n.toNat, by omega⟩
  have := List.all_eq_true.1 npt_list k (List.mem_range.2 (by omega))
  cases hm : m_slices_nextPowerOfTwo (k : Int) with
  | none => rw [hm] at this; simp at this; omega
  | some m =>
    rw [hm] at this
    simp at this
    exact ⟨m, rfl, by omega, by omega⟩
theorem len_list : (List.range 50).all (fun n => (m_math_bits_Len (IntKind.u64.wrap ((n : Nat) : Int))).isSome) = true := by kernel_rfl
theorem len_z {n : Nat} (h : n ≤ 49) : ∃ z, m_math_bits_Len (IntKind.u64.wrap (n : Int)) = some z :=
  Option.isSome_iff_exists.1 (List.all_eq_true.1 len_list n (List.mem_range.2 (by omega)))
theorem and_lowS (x : Int) {m : Int} (h1 : 1 ≤ m) (h2 : m ≤ 98) :
    0 ≤ IntKind.i64.wrap (IntKind.u64.wrap ((BitVec.ofInt (IntKind.u64).bits x &&& BitVec.ofInt (IntKind.u64).bits (IntKind.u64.wrap (m - 1))).toNat)) ∧ IntKind.i64.wrap (IntKind.u64.wrap ((BitVec.ofInt (IntKind.u64).bits x &&& BitVec.ofInt (IntKind.u64).bits (IntKind.u64.wrap (m - 1))).toNat)) < m := by
  have hu : ∀ z : Int, 0 ≤ z → z < 1000 → IntKind.u64.wrap z = z := fun z g1 g2 => by
    show z % 18446744073709551616 = z
    exact Int.emod_eq_of_lt g1 (by omega)
  rw [hu (m - 1) (by omega) (by omega)]
  have hb : (BitVec.ofInt (IntKind.u64).bits (m - 1)).toNat = (m - 1).toNat := by
    rw [BitVec.toNat_ofInt]
    show ((m - 1) % 18446744073709551616).toNat = _
    rw [Int.emod_eq_of_lt (by omega) (by omega)]
  have hle : (BitVec.ofInt (IntKind.u64).bits x &&& BitVec.ofInt (IntKind.u64).bits (m - 1)).toNat ≤ (m - 1).toNat := by
    rw [BitVec.toNat_and, hb]
    exact Nat.and_le_right
  rw [hu _ (by omega) (by omega), wi (by omega) (by omega)]
  omega
end Go.Sim
end

section
namespace Go.Sim
open Go
set_option linter.unusedVariables false
set_option linter.unusedSimpArgs false
set_option linter.unusedSectionVars false
set_option linter.unnecessarySimpa false

theorem cqM {R : Type} {Q : R → Prop} {b : Bool} {A B : Option R} (h1 : Gd A Q) (h2 : Gd B Q) : Gd (if b = true then A else B) Q := Gd.ite (fun _ => h1) (fun _ => h2)
theorem insM (l : List S_api_TelemetryMsg) (a b : Int) (hl : l.length ≤ 49) (ha : 0 ≤ a) (hab : a ≤ b) (hb : b ≤ l.length) : Gd (m_slices_insertionSortCmpFunc_api_TelemetryMsg__telemetry_Points_List_1 l a b) (fun r => r.Perm l) := by
  unfold m_slices_insertionSortCmpFunc_api_TelemetryMsg__telemetry_Points_List_1
  rw [wi (n := a + 1) (by omega) (by omega)]
  refine Gd.loopF (fun (s : List S_api_TelemetryMsg × Int) => s.1.Perm l ∧ a + 1 ≤ s.2) (fun s => (b + 1 - s.2).toNat) ?_ FUEL _ ⟨List.Perm.refl _, by simp only; omega⟩ (by simp only [FUEL]; omega)
  rintro ⟨d, i⟩ nx ⟨hp, hi⟩ hn
  simp only at hp hi
  dsimp only
  have hd := hp.length_eq
  unfold m_slices_insertionSortCmpFunc_api_TelemetryMsg__telemetry_Points_List_1_b3
  refine Gd.ite (fun h => ?_) (fun h => Gd.ret hp)
  have h : i < b := of_decide_eq_true h
  refine Gd.loopF (fun (s : List S_api_TelemetryMsg × Int) => s.1.Perm l ∧ a ≤ s.2 ∧ s.2 ≤ i) (fun s => (s.2 - a).toNat) ?_ FUEL _ ⟨hp, by simp only; omega, by simp only; omega⟩ (by simp only [FUEL]; omega)
  rintro ⟨e, j⟩ nx2 ⟨hpe, hj, hji⟩ hn2
  simp only at hpe hj hji
  dsimp only
  have he := hpe.length_eq
  have fin : ∀ e', e'.Perm l → Gd (nx (e', IntKind.i64.wrap (i + 1))) (fun r => r.Perm l) := fun e' h' => by
    rw [wi (n := i + 1) (by omega) (by omega)]
    exact hn _ ⟨h', by simp only; omega⟩ (by simp only; omega)
  unfold m_slices_insertionSortCmpFunc_api_TelemetryMsg__telemetry_Points_List_1_b4
  refine Gd.ite (fun h0 => ?_) (fun _ => fin _ hpe)
  have h0 : a < j := of_decide_eq_true h0
  rw [wi (n := j - 1) (by omega) (by omega)]
  refine Gd.ixa (by omega) (by omega) (fun _ => Gd.ixa (by omega) (by omega) (fun _ => cqM (Gd.swp (by omega) (by omega) (by omega) (by omega) (fun y y2 hs => ?_)) (fin _ hpe)))
  exact hn2 _ ⟨hs.trans hpe, by simp only; omega, by simp only; omega⟩ (by simp only; omega)
theorem siftM (l : List S_api_TelemetryMsg) (lo hi first : Int) (hl : l.length ≤ 49) (h0 : 0 ≤ lo) (hlo : lo ≤ hi) (hf : 0 ≤ first) (hh : first + hi ≤ l.length) : Gd (m_slices_siftDownCmpFunc_api_TelemetryMsg__telemetry_Points_List_1 l lo hi first) (fun r => r.Perm l) := by
  unfold m_slices_siftDownCmpFunc_api_TelemetryMsg__telemetry_Points_List_1
  refine Gd.loopF (fun (s : List S_api_TelemetryMsg × Int) => s.1.Perm l ∧ 0 ≤ s.2 ∧ s.2 ≤ hi) (fun s => (hi - s.2).toNat) ?_ FUEL _ ⟨List.Perm.refl _, h0, hlo⟩ (by simp only [FUEL]; omega)
  rintro ⟨d, n⟩ nx ⟨hp, hn0, hnh⟩ hn
  simp only at hp hn0 hnh
  dsimp only
  have hd := hp.length_eq
  have key : ∀ c, c < hi → n < c → Gd (m_slices_siftDownCmpFunc_api_TelemetryMsg__telemetry_Points_List_1_b4 first d n nx c) (fun r => r.Perm l) := fun c hc hnc => by
    unfold m_slices_siftDownCmpFunc_api_TelemetryMsg__telemetry_Points_List_1_b4
    rw [wi (n := first + n) (by omega) (by omega), wi (n := first + c) (by omega) (by omega)]
    refine Gd.ixa (by omega) (by omega) (fun _ => Gd.ixa (by omega) (by omega) (fun _ => cqM (Gd.ret hp) (Gd.swp (by omega) (by omega) (by omega) (by omega) (fun y y2 hs => ?_))))
    exact hn _ ⟨hs.trans hp, by simp only; omega, by simp only; omega⟩ (by simp only; omega)
  unfold m_slices_siftDownCmpFunc_api_TelemetryMsg__telemetry_Points_List_1_b3
  rw [wi (n := 2 * n) (by omega) (by omega), wi (n := 2 * n + 1) (by omega) (by omega), wi (n := 2 * n + 1 + 1) (by omega) (by omega)]
  refine Gd.ite (fun _ => Gd.ret hp) (fun h1 => ?_)
  have h1 : 2 * n + 1 < hi := by simpa using h1
  refine Gd.ite (fun h2 => ?_) (fun _ => key _ h1 (by omega))
  have h2 : 2 * n + 1 + 1 < hi := of_decide_eq_true h2
  rw [wi (n := first + (2 * n + 1)) (by omega) (by omega), wi (n := first + (2 * n + 1) + 1) (by omega) (by omega)]
  exact Gd.ixa (by omega) (by omega) (fun _ => Gd.ixa (by omega) (by omega) (fun _ => cqM (key _ h2 (by omega)) (key _ h1 (by omega))))
theorem heapM (l : List S_api_TelemetryMsg) (a b : Int) (hl : l.length ≤ 49) (ha : 0 ≤ a) (hab : a < b) (hb : b ≤ l.length) : Gd (m_slices_heapSortCmpFunc_api_TelemetryMsg__telemetry_Points_List_1 l a b) (fun r => r.Perm l) := by
  unfold m_slices_heapSortCmpFunc_api_TelemetryMsg__telemetry_Points_List_1
  rw [wi (n := b - a) (by omega) (by omega), wi (n := b - a - 1) (by omega) (by omega), Int.tdiv_eq_ediv_of_nonneg (by omega), wi (n := (b - a - 1) / 2) (by omega) (by omega)]
  refine Gd.loopF (fun (s : List S_api_TelemetryMsg × Int) => s.1.Perm l ∧ s.2 ≤ b - a) (fun s => (s.2 + 1).toNat) ?_ FUEL _ ⟨List.Perm.refl _, by simp only; omega⟩ (by simp only [FUEL]; omega)
  rintro ⟨d, n⟩ nx ⟨hp, hnb⟩ hn
  simp only at hp hnb
  dsimp only
  have hd := hp.length_eq
  unfold m_slices_heapSortCmpFunc_api_TelemetryMsg__telemetry_Points_List_1_b1
  rw [wi (n := b - a) (by omega) (by omega)]
  refine Gd.ite (fun h => ?_) (fun h => ?_)
  · have h : 0 ≤ n := of_decide_eq_true h
    rw [wi (n := n - 1) (by omega) (by omega)]
    refine Gd.bnd (siftM d n (b - a) a (by omega) h hnb ha (by omega)) (fun r hr => hn _ ⟨hr.trans hp, by simp only; omega⟩ (by simp only; omega))
  · rw [wi (n := b - a - 1) (by omega) (by omega)]
    refine Gd.loopF (fun (s : List S_api_TelemetryMsg × Int) => s.1.Perm l ∧ s.2 ≤ b - a - 1) (fun s => (s.2 + 1).toNat) ?_ FUEL _ ⟨hp, by simp only; omega⟩ (by simp only [FUEL]; omega)
    rintro ⟨e, k⟩ nx2 ⟨hpe, hkb⟩ hn2
    simp only at hpe hkb
    dsimp only
    have he := hpe.length_eq
    unfold m_slices_heapSortCmpFunc_api_TelemetryMsg__telemetry_Points_List_1_b2
    refine Gd.ite (fun h => ?_) (fun h => Gd.ret hpe)
    have h : 0 ≤ k := of_decide_eq_true h
    rw [wi (n := a + k) (by omega) (by omega), wi (n := k - 1) (by omega) (by omega)]
    refine Gd.swp (by omega) (by omega) (by omega) (by omega) (fun y y2 hs => ?_)
    have hsl := hs.length_eq
    exact Gd.bnd (siftM _ 0 k a (by omega) (by omega) h ha (by omega)) (fun r hr => hn2 _ ⟨hr.trans (hs.trans hpe), by simp only; omega⟩ (by simp only; omega))
theorem ord2M (l : List S_api_TelemetryMsg) (lo hi i j s : Int) (h0 : 0 ≤ lo) (hh : hi ≤ l.length) (hi' : lo ≤ i ∧ i < hi) (hj : lo ≤ j ∧ j < hi) :
    Gd (m_slices_order2CmpFunc_api_TelemetryMsg__telemetry_Points_List_1 l i j s) (fun r => (lo ≤ r.1 ∧ r.1 < hi) ∧ lo ≤ r.2.1 ∧ r.2.1 < hi) := by
  unfold m_slices_order2CmpFunc_api_TelemetryMsg__telemetry_Points_List_1
  exact Gd.ixa (by omega) (by omega) (fun _ => Gd.ixa (by omega) (by omega) (fun _ => cqM (Gd.ret ⟨hj, hi'⟩) (Gd.ret ⟨hi', hj⟩)))
theorem medM (l : List S_api_TelemetryMsg) (lo hi i j k s : Int) (h0 : 0 ≤ lo) (hh : hi ≤ l.length) (hi' : lo ≤ i ∧ i < hi) (hj : lo ≤ j ∧ j < hi) (hk : lo ≤ k ∧ k < hi) :
    Gd (m_slices_medianCmpFunc_api_TelemetryMsg__telemetry_Points_List_1 l i j k s) (fun r => lo ≤ r.1 ∧ r.1 < hi) := by
  unfold m_slices_medianCmpFunc_api_TelemetryMsg__telemetry_Points_List_1
  refine Gd.bnd (ord2M l lo hi i j s h0 hh hi' hj) (fun r hr => Gd.bnd (ord2M l lo hi _ k _ h0 hh hr.2 hk) (fun q hq => Gd.bnd (ord2M l lo hi _ _ _ h0 hh hr.1 hq.1) (fun p hp => Gd.ret hp.2)))
theorem chooseM (l : List S_api_TelemetryMsg) (a b : Int) (hl : l.length ≤ 49) (ha : 0 ≤ a) (hab : a < b) (hb : b ≤ l.length) : Gd (m_slices_choosePivotCmpFunc_api_TelemetryMsg__telemetry_Points_List_1 l a b) (fun r => a ≤ r.1 ∧ r.1 < b) := by
  have b2 : ∀ n s, a ≤ n → n < b → Gd (m_slices_choosePivotCmpFunc_api_TelemetryMsg__telemetry_Points_List_1_b2 n s) (fun r => a ≤ r.1 ∧ r.1 < b) := fun n s h1 h2 => by
    unfold m_slices_choosePivotCmpFunc_api_TelemetryMsg__telemetry_Points_List_1_b2
    exact Gd.ite (fun _ => Gd.ret ⟨h1, h2⟩) (fun _ => Gd.ite (fun _ => Gd.ret ⟨h1, h2⟩) (fun _ => Gd.ret ⟨h1, h2⟩))
  unfold m_slices_choosePivotCmpFunc_api_TelemetryMsg__telemetry_Points_List_1
  rw [wi (n := b - a) (by omega) (by omega), Int.tdiv_eq_ediv_of_nonneg (by omega), wi (n := (b - a) / 4) (by omega) (by omega), wi (n := (b - a) / 4 * 1) (by omega) (by omega), wi (n := (b - a) / 4 * 2) (by omega) (by omega), wi (n := (b - a) / 4 * 3) (by omega) (by omega),
    wi (n := a + (b - a) / 4 * 1) (by omega) (by omega), wi (n := a + (b - a) / 4 * 2) (by omega) (by omega), wi (n := a + (b - a) / 4 * 3) (by omega) (by omega)]
  refine Gd.ite (fun _ => Gd.ite (fun h => ?_) (fun _ => ?_)) (fun _ => b2 _ _ (by omega) (by omega))
  · have := of_decide_eq_true h
    omega
  · unfold m_slices_choosePivotCmpFunc_api_TelemetryMsg__telemetry_Points_List_1_b3
    exact Gd.bnd (medM l a b _ _ _ _ ha hb (by omega) (by omega) (by omega)) (fun r hr => b2 _ _ hr.1 hr.2)
theorem revM (l : List S_api_TelemetryMsg) (a b : Int) (hl : l.length ≤ 49) (ha : 0 ≤ a) (hab : a < b) (hb : b ≤ l.length) : Gd (m_slices_reverseRangeCmpFunc_api_TelemetryMsg__telemetry_Points_List_1 l a b) (fun r => r.Perm l) := by
  unfold m_slices_reverseRangeCmpFunc_api_TelemetryMsg__telemetry_Points_List_1
  rw [wi (n := b - 1) (by omega) (by omega)]
  refine Gd.loopF (fun (s : List S_api_TelemetryMsg × Int × Int) => s.1.Perm l ∧ a ≤ s.2.1 ∧ s.2.2 < b) (fun s => (s.2.2 - s.2.1).toNat) ?_ FUEL _ ⟨List.Perm.refl _, by simp only; omega, by simp only; omega⟩ (by simp only [FUEL]; omega)
  rintro ⟨d, i, j⟩ nx ⟨hp, hi, hj⟩ hn
  simp only at hp hi hj
  dsimp only
  have hd := hp.length_eq
  unfold m_slices_reverseRangeCmpFunc_api_TelemetryMsg__telemetry_Points_List_1_b1
  refine Gd.ite (fun h => ?_) (fun h => Gd.ret hp)
  have h : i < j := of_decide_eq_true h
  rw [wi (n := i + 1) (by omega) (by omega), wi (n := j - 1) (by omega) (by omega)]
  refine Gd.swp (by omega) (by omega) (by omega) (by omega) (fun y y2 hs => ?_)
  exact hn _ ⟨hs.trans hp, by simp only; omega, by simp only; omega⟩ (by simp only; omega)
theorem pisM (l : List S_api_TelemetryMsg) (a b : Int) (hl : l.length ≤ 49) (ha : 0 ≤ a) (hab : a < b) (hb : b ≤ l.length) : Gd (m_slices_partialInsertionSortCmpFunc_api_TelemetryMsg__telemetry_Points_List_1 l a b) (fun r => r.2 = l) := by
  unfold m_slices_partialInsertionSortCmpFunc_api_TelemetryMsg__telemetry_Points_List_1
  rw [wi (n := a + 1) (by omega) (by omega)]
  refine Gd.loopF (fun (s : List S_api_TelemetryMsg × Int × Int) => s = (l, a + 1, 0)) (fun _ => 0) ?_ FUEL _ rfl (by simp only [FUEL]; omega)
  rintro _ nx rfl hn
  dsimp only
  unfold m_slices_partialInsertionSortCmpFunc_api_TelemetryMsg__telemetry_Points_List_1_b31
  refine Gd.ite (fun _ => ?_) (fun _ => Gd.ret rfl)
  refine Gd.loopF (fun (i : Int) => a + 1 ≤ i ∧ i ≤ b) (fun i => (b - i).toNat) ?_ FUEL _ ⟨by omega, by omega⟩ (by simp only [FUEL]; omega)
  rintro i nx2 ⟨h1, h2⟩ hn2
  have fin : Gd (m_slices_partialInsertionSortCmpFunc_api_TelemetryMsg__telemetry_Points_List_1_b45 a b l 0 nx i) (fun r => r.2 = l) := by
    unfold m_slices_partialInsertionSortCmpFunc_api_TelemetryMsg__telemetry_Points_List_1_b45
    rw [wi (n := b - a) (by omega) (by omega)]
    refine Gd.ite (fun _ => Gd.ret rfl) (fun _ => Gd.ite (fun _ => Gd.ret rfl) (fun h => ?_))
    have := of_decide_eq_false h
    omega
  unfold m_slices_partialInsertionSortCmpFunc_api_TelemetryMsg__telemetry_Points_List_1_b46
  refine Gd.ite (fun h => ?_) (fun _ => fin)
  have h : i < b := of_decide_eq_true h
  rw [wi (n := i - 1) (by omega) (by omega), wi (n := i + 1) (by omega) (by omega)]
  exact Gd.ixa (by omega) (by omega) (fun _ => Gd.ixa (by omega) (by omega) (fun _ => cqM (hn2 _ ⟨by omega, by omega⟩ (by omega)) fin))
/-- Where a partition ends. -/
theorem partM (l : List S_api_TelemetryMsg) (a b p : Int) (hl : l.length ≤ 49) (ha : 0 ≤ a) (hab : a < b) (hb : b ≤ l.length) (hp : a ≤ p ∧ p < b) :
    Gd (m_slices_partitionCmpFunc_api_TelemetryMsg__telemetry_Points_List_1 l a b p) (fun r => (a ≤ r.1 ∧ r.1 < b) ∧ r.2.2.Perm l) := by
  unfold m_slices_partitionCmpFunc_api_TelemetryMsg__telemetry_Points_List_1
  rw [wi (n := a + 1) (by omega) (by omega)]
  refine Gd.swp (by omega) (by omega) (by omega) (by omega) (fun y y2 hs => ?_)
  have hsl := hs.length_eq
  -- what is left, from the second round on
  have rest : ∀ (d : List S_api_TelemetryMsg) (i j : Int), d.Perm l → a + 1 ≤ i → a ≤ j → j < b → Gd (loopF (fun s n => m_slices_partitionCmpFunc_api_TelemetryMsg__telemetry_Points_List_1_b35 a s.1 s.2.1 s.2.2 n) FUEL (d, i, j)) (fun r => (a ≤ r.1 ∧ r.1 < b) ∧ r.2.2.Perm l) := fun d i j hd hi hj hjb => by
    refine Gd.loopF (fun (s : List S_api_TelemetryMsg × Int × Int) => s.1.Perm l ∧ a + 1 ≤ s.2.1 ∧ a ≤ s.2.2 ∧ s.2.2 < b) (fun s => (s.2.2 - s.2.1 + 2).toNat) ?_ FUEL _ ⟨hd, hi, hj, hjb⟩ (by simp only [FUEL]; omega)
    rintro ⟨d, i, j⟩ nx ⟨hd, hi, hj, hjb⟩ hn
    simp only at hd hi hj hjb hn
    dsimp only
    have hdl := hd.length_eq
    unfold m_slices_partitionCmpFunc_api_TelemetryMsg__telemetry_Points_List_1_b35
    have low : ∀ i', i ≤ i' → Gd (m_slices_partitionCmpFunc_api_TelemetryMsg__telemetry_Points_List_1_b40 a d j nx i') (fun r => (a ≤ r.1 ∧ r.1 < b) ∧ r.2.2.Perm l) := fun i' hi' => by
      unfold m_slices_partitionCmpFunc_api_TelemetryMsg__telemetry_Points_List_1_b40
      have fin : ∀ j', a ≤ j' → j' ≤ j → Gd (m_slices_partitionCmpFunc_api_TelemetryMsg__telemetry_Points_List_1_b38 a d nx i' j') (fun r => (a ≤ r.1 ∧ r.1 < b) ∧ r.2.2.Perm l) := fun j' h1 h2 => by
        unfold m_slices_partitionCmpFunc_api_TelemetryMsg__telemetry_Points_List_1_b38 m_slices_partitionCmpFunc_api_TelemetryMsg__telemetry_Points_List_1_b22
        refine Gd.ite (fun _ => Gd.swp (by omega) (by omega) (by omega) (by omega) (fun y y2 hs => Gd.ret ⟨⟨h1, by simp only; omega⟩, hs.trans hd⟩)) (fun h => ?_)
        have h : ¬ j' < i' := of_decide_eq_false h
        rw [wi (n := i' + 1) (by omega) (by omega), wi (n := j' - 1) (by omega) (by omega)]
        refine Gd.swp (by omega) (by omega) (by omega) (by omega) (fun y y2 hs => ?_)
        exact hn _ ⟨hs.trans hd, by simp only; omega, by simp only; omega, by simp only; omega⟩ (by simp only; omega)
      refine Gd.loopF (fun (j' : Int) => a ≤ j' ∧ j' ≤ j) (fun j' => (j' - a).toNat) ?_ FUEL _ ⟨hj, by omega⟩ (by simp only [FUEL]; omega)
      rintro j' nx3 ⟨h1, h2⟩ hn3
      unfold m_slices_partitionCmpFunc_api_TelemetryMsg__telemetry_Points_List_1_b39
      refine Gd.ite (fun h => ?_) (fun _ => fin _ h1 h2)
      have h : i' ≤ j' := of_decide_eq_true h
      rw [wi (n := j' - 1) (by omega) (by omega)]
      exact Gd.ixa (by omega) (by omega) (fun _ => Gd.ixa (by omega) (by omega) (fun _ => cqM (hn3 _ ⟨by omega, by omega⟩ (by omega)) (fin _ h1 h2)))
    refine Gd.loopF (fun (i' : Int) => i ≤ i') (fun i' => (j + 1 - i').toNat) ?_ FUEL _ (Int.le_refl _) (by simp only [FUEL]; omega)
    rintro i' nx3 h1 hn3
    unfold m_slices_partitionCmpFunc_api_TelemetryMsg__telemetry_Points_List_1_b41
    refine Gd.ite (fun h => ?_) (fun _ => low _ h1)
    have h : i' ≤ j := of_decide_eq_true h
    rw [wi (n := i' + 1) (by omega) (by omega)]
    exact Gd.ixa (by omega) (by omega) (fun _ => Gd.ixa (by omega) (by omega) (fun _ => cqM (hn3 _ (by omega) (by omega)) (low _ h1)))
  have low : ∀ i', a + 1 ≤ i' → Gd (m_slices_partitionCmpFunc_api_TelemetryMsg__telemetry_Points_List_1_b44 l a b p y y2 i') (fun r => (a ≤ r.1 ∧ r.1 < b) ∧ r.2.2.Perm l) := fun i' hi' => by
    unfold m_slices_partitionCmpFunc_api_TelemetryMsg__telemetry_Points_List_1_b44
    rw [wi (n := b - 1) (by omega) (by omega)]
    have fin : ∀ j', a ≤ j' → j' < b → Gd (m_slices_partitionCmpFunc_api_TelemetryMsg__telemetry_Points_List_1_b42 l a p y y2 i' j') (fun r => (a ≤ r.1 ∧ r.1 < b) ∧ r.2.2.Perm l) := fun j' h1 h2 => by
      unfold m_slices_partitionCmpFunc_api_TelemetryMsg__telemetry_Points_List_1_b42
      refine Gd.ite (fun _ => Gd.swp (by omega) (by omega) (by omega) (by omega) (fun y y2 hs2 => Gd.ret ⟨⟨h1, by simp only; omega⟩, hs2.trans hs⟩)) (fun h => ?_)
      have h : ¬ j' < i' := of_decide_eq_false h
      rw [wi (n := i' + 1) (by omega) (by omega), wi (n := j' - 1) (by omega) (by omega)]
      refine Gd.swp (by omega) (by omega) (by omega) (by omega) (fun y y2 hs2 => ?_)
      exact rest _ _ _ (hs2.trans hs) (by omega) (by omega) (by omega)
    refine Gd.loopF (fun (j' : Int) => a ≤ j' ∧ j' < b) (fun j' => (j' - a).toNat) ?_ FUEL _ ⟨by omega, by omega⟩ (by simp only [FUEL]; omega)
    rintro j' nx3 ⟨h1, h2⟩ hn3
    unfold m_slices_partitionCmpFunc_api_TelemetryMsg__telemetry_Points_List_1_b43
    refine Gd.ite (fun h => ?_) (fun _ => fin _ h1 h2)
    have h : i' ≤ j' := of_decide_eq_true h
    rw [wi (n := j' - 1) (by omega) (by omega)]
    exact Gd.ixa (by omega) (by omega) (fun _ => Gd.ixa (by omega) (by omega) (fun _ => cqM (hn3 _ ⟨by omega, by omega⟩ (by omega)) (fin _ h1 h2)))
  refine Gd.loopF (fun (i' : Int) => a + 1 ≤ i') (fun i' => (b - i').toNat) ?_ FUEL _ (Int.le_refl _) (by simp only [FUEL]; omega)
  rintro i' nx3 h1 hn3
  unfold m_slices_partitionCmpFunc_api_TelemetryMsg__telemetry_Points_List_1_b45
  rw [wi (n := b - 1) (by omega) (by omega)]
  refine Gd.ite (fun h => ?_) (fun _ => low _ h1)
  have h : i' ≤ b - 1 := of_decide_eq_true h
  rw [wi (n := i' + 1) (by omega) (by omega)]
  exact Gd.ixa (by omega) (by omega) (fun _ => Gd.ixa (by omega) (by omega) (fun _ => cqM (hn3 _ (by omega) (by omega)) (low _ h1)))
theorem peqM (l : List S_api_TelemetryMsg) (a b p : Int) (hl : l.length ≤ 49) (ha : 0 ≤ a) (hab : a < b) (hb : b ≤ l.length) (hp : a ≤ p ∧ p < b) :
    Gd (m_slices_partitionEqualCmpFunc_api_TelemetryMsg__telemetry_Points_List_1 l a b p) (fun r => (a < r.1 ∧ r.1 ≤ b) ∧ r.2.Perm l) := by
  unfold m_slices_partitionEqualCmpFunc_api_TelemetryMsg__telemetry_Points_List_1
  rw [wi (n := a + 1) (by omega) (by omega), wi (n := b - 1) (by omega) (by omega)]
  refine Gd.swp (by omega) (by omega) (by omega) (by omega) (fun y y2 hs => ?_)
  have hsl := hs.length_eq
  refine Gd.loopF (fun (s : List S_api_TelemetryMsg × Int × Int) => s.1.Perm l ∧ (a + 1 ≤ s.2.1 ∧ s.2.1 ≤ b) ∧ a ≤ s.2.2 ∧ s.2.2 < b) (fun s => (s.2.2 - s.2.1 + 2).toNat) ?_ FUEL _ ⟨hs, ⟨by simp only; omega, by simp only; omega⟩, by simp only; omega, by simp only; omega⟩ (by simp only [FUEL]; omega)
  rintro ⟨d, i, j⟩ nx ⟨hd, hi, hj, hjb⟩ hn
  simp only at hd hi hj hjb hn
  dsimp only
  have hdl := hd.length_eq
  unfold m_slices_partitionEqualCmpFunc_api_TelemetryMsg__telemetry_Points_List_1_b33
  have low : ∀ i', i ≤ i' → i' ≤ b → Gd (m_slices_partitionEqualCmpFunc_api_TelemetryMsg__telemetry_Points_List_1_b38 a d j nx i') (fun r => (a < r.1 ∧ r.1 ≤ b) ∧ r.2.Perm l) := fun i' hi' hib => by
    unfold m_slices_partitionEqualCmpFunc_api_TelemetryMsg__telemetry_Points_List_1_b38
    have fin : ∀ j', a ≤ j' → j' ≤ j → Gd (m_slices_partitionEqualCmpFunc_api_TelemetryMsg__telemetry_Points_List_1_b36 d nx i' j') (fun r => (a < r.1 ∧ r.1 ≤ b) ∧ r.2.Perm l) := fun j' h1 h2 => by
      unfold m_slices_partitionEqualCmpFunc_api_TelemetryMsg__telemetry_Points_List_1_b36 m_slices_partitionEqualCmpFunc_api_TelemetryMsg__telemetry_Points_List_1_b20
      refine Gd.ite (fun _ => Gd.ret ⟨⟨by simp only; omega, hib⟩, hd⟩) (fun h => ?_)
      have h : ¬ j' < i' := of_decide_eq_false h
      rw [wi (n := i' + 1) (by omega) (by omega), wi (n := j' - 1) (by omega) (by omega)]
      refine Gd.swp (by omega) (by omega) (by omega) (by omega) (fun y y2 hs => ?_)
      exact hn _ ⟨hs.trans hd, ⟨by simp only; omega, by simp only; omega⟩, by simp only; omega, by simp only; omega⟩ (by simp only; omega)
    refine Gd.loopF (fun (j' : Int) => a ≤ j' ∧ j' ≤ j) (fun j' => (j' - a).toNat) ?_ FUEL _ ⟨hj, by omega⟩ (by simp only [FUEL]; omega)
    rintro j' nx3 ⟨h1, h2⟩ hn3
    unfold m_slices_partitionEqualCmpFunc_api_TelemetryMsg__telemetry_Points_List_1_b37
    refine Gd.ite (fun h => ?_) (fun _ => fin _ h1 h2)
    have h : i' ≤ j' := of_decide_eq_true h
    rw [wi (n := j' - 1) (by omega) (by omega)]
    exact Gd.ixa (by omega) (by omega) (fun _ => Gd.ixa (by omega) (by omega) (fun _ => cqM (hn3 _ ⟨by omega, by omega⟩ (by omega)) (fin _ h1 h2)))
  refine Gd.loopF (fun (i' : Int) => i ≤ i' ∧ i' ≤ b) (fun i' => (b - i').toNat) ?_ FUEL _ ⟨Int.le_refl _, hi.2⟩ (by simp only [FUEL]; omega)
  rintro i' nx3 ⟨h1, h2⟩ hn3
  unfold m_slices_partitionEqualCmpFunc_api_TelemetryMsg__telemetry_Points_List_1_b39
  refine Gd.ite (fun h => ?_) (fun _ => low _ h1 h2)
  have h : i' ≤ j := of_decide_eq_true h
  rw [wi (n := i' + 1) (by omega) (by omega)]
  exact Gd.ixa (by omega) (by omega) (fun _ => Gd.ixa (by omega) (by omega) (fun _ => cqM (hn3 _ ⟨by omega, by omega⟩ (by omega)) (low _ h1 h2)))
theorem brkM (l : List S_api_TelemetryMsg) (a b : Int) (hl : l.length ≤ 49) (ha : 0 ≤ a) (hab : a < b) (hb : b ≤ l.length) : Gd (m_slices_breakPatternsCmpFunc_api_TelemetryMsg__telemetry_Points_List_1 l a b) (fun r => r.Perm l) := by
  unfold m_slices_breakPatternsCmpFunc_api_TelemetryMsg__telemetry_Points_List_1
  rw [wi (n := b - a) (by omega) (by omega)]
  refine Gd.ite (fun h => ?_) (fun _ => Gd.ret (List.Perm.refl _))
  have h8 : 8 ≤ b - a := of_decide_eq_true h
  obtain ⟨m, hm, hm1, hm2⟩ := npt (n := b - a) h8 (by omega)
  refine Gd.bind_eq hm ?_
  rw [Int.tdiv_eq_ediv_of_nonneg (by omega), wi (n := (b - a) / 4) (by omega) (by omega), wi (n := (b - a) / 4 * 2) (by omega) (by omega), wi (n := a + (b - a) / 4 * 2) (by omega) (by omega), wi (n := a + (b - a) / 4 * 2 - 1) (by omega) (by omega)]
  generalize IntKind.u64.wrap (b - a) = seed
  refine Gd.loopF (fun (s : List S_api_TelemetryMsg × Int × Int) => s.1.Perm l ∧ a + (b - a) / 4 * 2 - 1 ≤ s.2.1) (fun s => (a + (b - a) / 4 * 2 + 2 - s.2.1).toNat) ?_ FUEL _ ⟨List.Perm.refl _, by simp only; omega⟩ (by simp only [FUEL]; omega)
  rintro ⟨d, i, x⟩ nx ⟨hd, hi⟩ hn
  simp only at hd hi hn
  dsimp only
  have hdl := hd.length_eq
  have key : ∀ o, 0 ≤ o → o < b - a → i ≤ a + (b - a) / 4 * 2 + 1 → Gd (m_slices_breakPatternsCmpFunc_api_TelemetryMsg__telemetry_Points_List_1_b4 a d i x nx o) (fun r => r.Perm l) := fun o h1 h2 h3 => by
    unfold m_slices_breakPatternsCmpFunc_api_TelemetryMsg__telemetry_Points_List_1_b4
    rw [wi (n := a + o) (by omega) (by omega), wi (n := i + 1) (by omega) (by omega)]
    refine Gd.swp (by omega) (by omega) (by omega) (by omega) (fun y y2 hs => ?_)
    exact hn _ ⟨hs.trans hd, by simp only; omega⟩ (by simp only; omega)
  unfold m_slices_breakPatternsCmpFunc_api_TelemetryMsg__telemetry_Points_List_1_b3
  rw [wi (n := b - a) (by omega) (by omega), Int.tdiv_eq_ediv_of_nonneg (by omega), wi (n := (b - a) / 4) (by omega) (by omega), wi (n := (b - a) / 4 * 2) (by omega) (by omega), wi (n := a + (b - a) / 4 * 2) (by omega) (by omega), wi (n := a + (b - a) / 4 * 2 + 1) (by omega) (by omega)]
  refine Gd.ite (fun h3 => ?_) (fun _ => Gd.ret hd)
  have h3 : i ≤ a + (b - a) / 4 * 2 + 1 := of_decide_eq_true h3
  obtain ⟨o1, o2⟩ := and_lowS ((m_slices_xorshift_Next ⟨x⟩)).1 hm1 (show m ≤ 98 by omega)
  generalize IntKind.i64.wrap (IntKind.u64.wrap ((BitVec.ofInt (IntKind.u64).bits ((m_slices_xorshift_Next ⟨x⟩)).1 &&& BitVec.ofInt (IntKind.u64).bits (IntKind.u64.wrap (m - 1))).toNat)) = o at o1 o2 ⊢
  refine Gd.ite (fun h4 => ?_) (fun h4 => key _ o1 (by have := of_decide_eq_false h4; omega) h3)
  have h4 : b - a ≤ o := of_decide_eq_true h4
  rw [wi (n := o - (b - a)) (by omega) (by omega)]
  exact key _ (by omega) (by omega) h3
theorem pdqM : ∀ (m : Nat) (f : Nat) (l : List S_api_TelemetryMsg) (a b limit : Int), m < f → (b - a).toNat ≤ m → l.length ≤ 49 → 0 ≤ a → a ≤ b → b ≤ l.length → Gd (m_slices_pdqsortCmpFunc_api_TelemetryMsg__telemetry_Points_List_1_fuel f l a b limit) (fun r => r.Perm l)
  | m, 0, l, a, b, limit, hf, _, _, _, _, _ => by omega
  | m, f + 1, l, a0, b0, limit0, hf, hm, hl, ha0, hab0, hb0 => by
    show Gd (m_slices_pdqsortCmpFunc_api_TelemetryMsg__telemetry_Points_List_1_step (m_slices_pdqsortCmpFunc_api_TelemetryMsg__telemetry_Points_List_1_fuel f) l a0 b0 limit0) _
    unfold m_slices_pdqsortCmpFunc_api_TelemetryMsg__telemetry_Points_List_1_step
    refine Gd.loopF (fun (s : List S_api_TelemetryMsg × Int × Int × Int × Bool × Bool) => s.1.Perm l ∧ a0 ≤ s.2.1 ∧ s.2.1 ≤ s.2.2.1 ∧ s.2.2.1 ≤ b0) (fun s => (s.2.2.1 - s.2.1).toNat) ?_ FUEL _ ⟨List.Perm.refl _, Int.le_refl _, hab0, Int.le_refl _⟩ (by simp only [FUEL]; omega)
    rintro ⟨d, a, b, limit, c1, c2⟩ nx ⟨hd, h1, h2, h3⟩ hn
    simp only at hd h1 h2 h3 hn
    dsimp only
    have hdl := hd.length_eq
    have ih : ∀ (e : List S_api_TelemetryMsg) (a' b' k : Int), e.Perm l → a ≤ a' → a' ≤ b' → b' ≤ b → b' - a' < b - a → Gd (m_slices_pdqsortCmpFunc_api_TelemetryMsg__telemetry_Points_List_1_fuel f e a' b' k) (fun r => r.Perm l) := fun e a' b' k he g1 g2 g3 g4 =>
      (pdqM (m - 1) f e a' b' k (by omega) (by omega) (by rw [he.length_eq]; exact hl) (by omega) g2 (by rw [he.length_eq]; omega)).mono (fun r hr => hr.trans he)
    unfold m_slices_pdqsortCmpFunc_api_TelemetryMsg__telemetry_Points_List_1_b10
    rw [wi (n := b - a) (by omega) (by omega)]
    refine Gd.ite (fun _ => Gd.bnd (insM d a b (by omega) (by omega) h2 (by omega)) (fun r hr => Gd.ret (hr.trans hd))) (fun h12 => ?_)
    have h12 : ¬ b - a ≤ 12 := of_decide_eq_false h12
    refine Gd.ite (fun _ => Gd.bnd (heapM d a b (by omega) (by omega) (by omega) (by omega)) (fun r hr => Gd.ret (hr.trans hd))) (fun _ => ?_)
    have b11 : ∀ (e : List S_api_TelemetryMsg) (p k : Int), e.Perm l → a ≤ p → p < b → Gd (m_slices_pdqsortCmpFunc_api_TelemetryMsg__telemetry_Points_List_1_b11 (m_slices_pdqsortCmpFunc_api_TelemetryMsg__telemetry_Points_List_1_fuel f) a b c1 c2 nx k p e) (fun r => r.Perm l) := fun e p k he p1 p2 => by
      have hel := he.length_eq
      have split : Gd ((m_slices_partitionCmpFunc_api_TelemetryMsg__telemetry_Points_List_1 e a b p).bind fun r => if decide ((IntKind.i64.wrap (r.1 - a)) < (IntKind.i64.wrap (b - r.1))) then ((m_slices_pdqsortCmpFunc_api_TelemetryMsg__telemetry_Points_List_1_fuel f r.2.2 a r.1 k).bind fun q => nx (q, IntKind.i64.wrap (r.1 + 1), b, k, decide ((IntKind.i64.wrap (Int.tdiv (IntKind.i64.wrap (b - a)) 8)) ≤ (IntKind.i64.wrap (r.1 - a))), r.2.1))
          else ((m_slices_pdqsortCmpFunc_api_TelemetryMsg__telemetry_Points_List_1_fuel f r.2.2 (IntKind.i64.wrap (r.1 + 1)) b k).bind fun q => nx (q, a, r.1, k, decide ((IntKind.i64.wrap (Int.tdiv (IntKind.i64.wrap (b - a)) 8)) ≤ (IntKind.i64.wrap (b - r.1))), r.2.1))) (fun r => r.Perm l) := by
        refine Gd.bnd (partM e a b p (by omega) (by omega) (by omega) (by omega) ⟨p1, p2⟩) (fun r hr => ?_)
        obtain ⟨⟨r1, r2⟩, r3⟩ := hr
        have hr3 := r3.trans he
        rw [wi (n := r.1 + 1) (by omega) (by omega)]
        refine Gd.ite (fun _ => Gd.bnd (ih _ a r.1 k hr3 (by omega) r1 (by omega) (by omega)) (fun q hq => hn _ ⟨hq, by simp only; omega, by simp only; omega, by simp only; omega⟩ (by simp only; omega)))
          (fun _ => Gd.bnd (ih _ (r.1 + 1) b k hr3 (by omega) (by omega) (by omega) (by omega)) (fun q hq => hn _ ⟨hq, by simp only; omega, by simp only; omega, by simp only; omega⟩ (by simp only; omega)))
      unfold m_slices_pdqsortCmpFunc_api_TelemetryMsg__telemetry_Points_List_1_b11
      refine Gd.ite (fun hpos => ?_) (fun _ => split)
      have hpos : 0 < a := of_decide_eq_true hpos
      rw [wi (n := a - 1) (by omega) (by omega)]
      refine Gd.ixa (by omega) (by omega) (fun _ => Gd.ixa (by omega) (by omega) (fun _ => cqM (Gd.bnd (peqM e a b p (by omega) (by omega) (by omega) (by omega) ⟨p1, p2⟩) (fun r hr => hn _ ⟨hr.2.trans he, by simp only; omega, by simp only; omega, by simp only; omega⟩ (by simp only; omega))) split))
    have b12 : ∀ (e : List S_api_TelemetryMsg) (p k hint : Int), e.Perm l → a ≤ p → p < b → Gd (m_slices_pdqsortCmpFunc_api_TelemetryMsg__telemetry_Points_List_1_b12 (m_slices_pdqsortCmpFunc_api_TelemetryMsg__telemetry_Points_List_1_fuel f) a b c1 c2 nx k e p hint) (fun r => r.Perm l) := fun e p k hint he p1 p2 => by
      have hel := he.length_eq
      unfold m_slices_pdqsortCmpFunc_api_TelemetryMsg__telemetry_Points_List_1_b12
      refine Gd.ite (fun _ => Gd.bnd (pisM e a b (by omega) (by omega) (by omega) (by omega)) (fun r hr => Gd.ite (fun _ => Gd.ret (by rw [hr]; exact he)) (fun _ => ?_))) (fun _ => b11 _ _ _ he p1 p2)
      rw [hr]
      exact b11 _ _ _ he p1 p2
    have b13 : ∀ (e : List S_api_TelemetryMsg) (k : Int), e.Perm l → Gd (m_slices_pdqsortCmpFunc_api_TelemetryMsg__telemetry_Points_List_1_b13 (m_slices_pdqsortCmpFunc_api_TelemetryMsg__telemetry_Points_List_1_fuel f) a b c1 c2 nx e k) (fun r => r.Perm l) := fun e k he => by
      have hel := he.length_eq
      unfold m_slices_pdqsortCmpFunc_api_TelemetryMsg__telemetry_Points_List_1_b13
      refine Gd.bnd (chooseM e a b (by omega) (by omega) (by omega) (by omega)) (fun r hr => Gd.ite (fun _ => Gd.bnd (revM e a b (by omega) (by omega) (by omega) (by omega)) (fun q hq => ?_)) (fun _ => b12 _ _ _ _ he hr.1 hr.2))
      rw [wi (n := b - 1) (by omega) (by omega), wi (n := r.1 - a) (by omega) (by omega), wi (n := b - 1 - (r.1 - a)) (by omega) (by omega)]
      exact b12 _ _ _ _ (hq.trans he) (by omega) (by omega)
    exact Gd.ite (fun _ => Gd.bnd (brkM d a b (by omega) (by omega) (by omega) (by omega)) (fun r hr => b13 _ _ (hr.trans hd))) (fun _ => b13 _ _ hd)
theorem sortm_gd (l : List S_api_TelemetryMsg) (hl : l.length ≤ 49) : Gd (m_slices_SortFunc_api_TelemetryMsg_api_TelemetryMsg__telemetry_Points_List_1 l) (fun r => r.Perm l) := by
  unfold m_slices_SortFunc_api_TelemetryMsg_api_TelemetryMsg__telemetry_Points_List_1 m_slices_pdqsortCmpFunc_api_TelemetryMsg__telemetry_Points_List_1
  obtain ⟨z, hz⟩ := len_z (n := l.length) hl
  exact Gd.bind_eq hz (Gd.bnd (pdqM 49 FUEL l 0 l.length z (by unfold FUEL; omega) (by omega) hl (by omega) (by omega) (by omega)) (fun r hr => Gd.ret hr))
end Go.Sim
end

section
namespace Go.Sim
open Go
set_option linter.unusedVariables false
set_option linter.unusedSimpArgs false
set_option linter.unusedSectionVars false
set_option linter.unnecessarySimpa false

abbrev BA := ByteArray
abbrev Msg := S_api_TelemetryMsg
abbrev Pnt := S_telemetry_point
theorem cmpb_lt : ∀ (a b : List UInt8), Go.Lib.compareBytes a b < 0 ↔ Op.bytesLess a b = true
  | [], [] => by simp [Go.Lib.compareBytes, Op.bytesLess]
  | [], _ :: _ => by simp [Go.Lib.compareBytes, Op.bytesLess]
  | _ :: _, [] => by simp [Go.Lib.compareBytes, Op.bytesLess]
  | a :: x, b :: y => by
    unfold Go.Lib.compareBytes
    simp only [Op.bytesLess, Bool.or_eq_true, decide_eq_true_eq, Bool.and_eq_true, beq_iff_eq]
    rcases u8_tri a b with ⟨h1, h2, h3⟩ | ⟨rfl, h2, h3⟩ | ⟨h1, h2, h3⟩
    · rw [if_pos h1]; simp [h1]
    · rw [if_neg h2, if_neg h2, cmpb_lt x y]; simp [h2]
    · rw [if_neg h2, if_pos h1]; simp [h2, h3]
theorem cmp_lt (a b : BA) : cmpS a b < 0 ↔ ltS a b = true := by
  unfold cmpS ltS
  rw [Go.Lib.cmp_eq, cmpb_lt, ByteArray.toList_eq, ByteArray.toList_eq]
theorem cmp_t {a b : Msg} (h : decide (m_telemetry_Points_List_1 a b < 0) = true) : ltS a.Point b.Point = true :=
  (cmp_lt _ _).1 (of_decide_eq_true h)
theorem cmp_f {a b : Msg} (h : decide (m_telemetry_Points_List_1 a b < 0) = false) : ltS a.Point b.Point = false := by
  cases e : ltS a.Point b.Point
  · rfl
  · exact absurd ((cmp_lt _ _).2 e) (of_decide_eq_false h)
/-! ### Sorting -/
def Srt (l : List Msg) : Prop := ∀ (p q : Nat) (a b : Msg), p < q → l[p]? = some a → l[q]? = some b → leS a.Point b.Point
theorem swap_perm (l : List Msg) (j : Nat) (h : j + 1 < l.length) : ((l.set (j + 1) l[j]).set j l[j + 1]).Perm l := by
  have e : (l.set (j + 1) l[j]).set j l[j + 1] = l.take j ++ (l[j + 1] :: l[j] :: l.drop (j + 2)) := by
    apply List.ext_getElem?
    intro q
    rw [List.getElem?_set, List.getElem?_set, List.getElem?_append]
    simp only [List.length_set, List.length_take, Nat.min_eq_left (show j ≤ l.length by omega), List.getElem?_take]
    by_cases h1 : j = q
    · subst h1; simp; omega
    · rw [if_neg h1]
      by_cases h2 : j + 1 = q
      · subst h2
        rw [if_pos rfl, if_pos h, if_neg (by omega)]
        rw [show j + 1 - j = 1 by omega]; rfl
      · rw [if_neg h2]
        by_cases h3 : q < j
        · rw [if_pos h3, if_pos h3]
        · rw [if_neg h3]
          obtain ⟨d, rfl⟩ : ∃ d, q = j + 2 + d := ⟨q - (j + 2), by omega⟩
          rw [show j + 2 + d - j = d + 2 by omega]
          simp [List.getElem?_drop]
  have e2 : l = l.take j ++ (l[j] :: l[j + 1] :: l.drop (j + 2)) := by
    rw [← List.drop_eq_getElem_cons (show j + 1 < l.length from h), ← List.drop_eq_getElem_cons (show j < l.length by omega), List.take_append_drop]
  rw [e]
  conv => rhs; rw [e2]
  exact List.Perm.append_left _ (List.Perm.swap _ _ _)
/-- Sorted up to i, but for the place j. -/
def SrtBut (l : List Msg) (i j : Nat) : Prop := ∀ (p q : Nat) (a b : Msg), p < q → q ≤ i → q ≠ j → l[p]? = some a → l[q]? = some b → leS a.Point b.Point
theorem isort_gd (l : List Msg) (hl : l.length ≤ 12) : Gd (m_slices_insertionSortCmpFunc_api_TelemetryMsg__telemetry_Points_List_1 l 0 l.length) (fun r => r.Perm l ∧ Srt r) := by
  unfold m_slices_insertionSortCmpFunc_api_TelemetryMsg__telemetry_Points_List_1
  have h01 : IntKind.i64.wrap (0 + 1) = ((1 : Nat) : Int) := rfl
  rw [h01]
  refine Gd.loopF (fun (s : List Msg × Int) => ∃ i : Nat, s.2 = i ∧ 1 ≤ i ∧ s.1.Perm l ∧ ∀ (p q : Nat) (a b : Msg), p < q → q < i → s.1[p]? = some a → s.1[q]? = some b → leS a.Point b.Point) (fun s => 100 - s.2.toNat) ?_ FUEL _ ⟨1, rfl, by omega, List.Perm.refl _, fun p q a b h1 h2 => by omega⟩ (by simp; unfold FUEL; omega)
  rintro ⟨d, i'⟩ nx ⟨i, hi, h1i, hpm, hs⟩ hn
  simp only at hi hpm hs
  subst hi
  have hdl : d.length = l.length := hpm.length_eq
  unfold m_slices_insertionSortCmpFunc_api_TelemetryMsg__telemetry_Points_List_1_b3
  refine Gd.ite (fun h => ?_) (fun h => ?_)
  · have hil : i < l.length := by
      have : (i : Int) < ((l.length : Nat) : Int) := by simpa using h
      omega
    have hwi : IntKind.i64.wrap ((i : Int) + 1) = ((i + 1 : Nat) : Int) := by rw [wrap_id ⟨by omega, by omega⟩]; omega
    refine Gd.loopF (fun (s : List Msg × Int) => ∃ j : Nat, s.2 = j ∧ j ≤ i ∧ s.1.Perm l ∧ SrtBut s.1 i j) (fun s => s.2.toNat) ?_ FUEL _ ⟨i, rfl, Nat.le_refl _, hpm, fun p q a b hpq hq hqj => hs p q a b hpq (by omega)⟩ (by simp; unfold FUEL; omega)
    rintro ⟨e, j'⟩ nx2 ⟨j, hj, hji, hpe, hb⟩ hn2
    simp only at hj hpe hb
    subst hj
    have hel : e.length = l.length := hpe.length_eq
    unfold m_slices_insertionSortCmpFunc_api_TelemetryMsg__telemetry_Points_List_1_b4
    rw [hwi]
    refine Gd.ite (fun h0 => ?_) (fun h0 => ?_)
    · obtain ⟨k, rfl⟩ : ∃ k, j = k + 1 := ⟨j - 1, by
        have : (0 : Int) < (j : Int) := by simpa using h0
        omega⟩
      have hwj : IntKind.i64.wrap (((k + 1 : Nat) : Int) - 1) = (k : Int) := by rw [wrap_id ⟨by omega, by omega⟩]; omega
      have hk1 : k + 1 < e.length := by omega
      have hk0 : k < e.length := by omega
      rw [hwj]
      refine Gd.idxN hk1 (Gd.idxN hk0 (Gd.ite (fun hlt => ?_) (fun hge => ?_)))
      · have hlt : ltS e[k + 1].Point e[k].Point = true := cmp_t hlt
        refine Gd.idxN hk0 (Gd.idxN hk1 (Gd.idxN hk1 (Gd.idxN (by simp; omega) ?_)))
        rw [Int.toNat_natCast, Int.toNat_natCast]
        refine hn2 _ ⟨k, rfl, by omega, (swap_perm e k hk1).trans hpe, ?_⟩ (by simp)
        have g1 : e[k]? = some e[k] := List.getElem?_eq_getElem hk0
        have g2 : e[k + 1]? = some e[k + 1] := List.getElem?_eq_getElem hk1
        have val : ∀ q : Nat, ((e.set (k + 1) e[k]).set k e[k + 1])[q]? = if q = k then some e[k + 1] else if q = k + 1 then some e[k] else e[q]? := by
          intro q
          rw [List.getElem?_set, List.getElem?_set]
          by_cases h1 : k = q
          · subst h1; simp; omega
          · rw [if_neg h1, if_neg (Ne.symm h1)]
            by_cases h2 : k + 1 = q
            · subst h2; simp; omega
            · rw [if_neg h2, if_neg (Ne.symm h2)]
        intro p q a b hpq hqi hqk ha hb'
        simp only at ha hb'
        rw [val] at ha hb'
        rw [if_neg hqk] at hb'
        by_cases q1 : q = k + 1
        · rw [if_pos q1] at hb'
          cases hb'
          by_cases p1 : p = k
          · rw [if_pos p1] at ha; cases ha
            exact ltS_asym hlt
          · rw [if_neg p1, if_neg (by omega)] at ha
            exact hb p k a e[k] (by omega) (by omega) (by omega) ha g1
        · rw [if_neg q1] at hb'
          by_cases p1 : p = k
          · rw [if_pos p1] at ha; cases ha
            exact hb (k + 1) q _ b (by omega) hqi q1 g2 hb'
          · rw [if_neg p1] at ha
            by_cases p2 : p = k + 1
            · rw [if_pos p2] at ha; cases ha
              exact hb k q _ b (by omega) hqi q1 g1 hb'
            · rw [if_neg p2] at ha
              exact hb p q a b hpq hqi q1 ha hb'
      · have hge : ltS e[k + 1].Point e[k].Point = false := cmp_f hge
        refine hn _ ⟨i + 1, rfl, by omega, hpe, ?_⟩ (by simp only [Int.toNat_natCast]; omega)
        intro p q a b hpq hqi ha hb'
        simp only at ha hb'
        by_cases q1 : q = k + 1
        · subst q1
          rw [List.getElem?_eq_getElem hk1] at hb'; cases hb'
          by_cases p1 : p = k
          · subst p1
            rw [List.getElem?_eq_getElem hk0] at ha; cases ha
            exact hge
          · exact leS_trans (hb p k a e[k] (by omega) (by omega) (by omega) ha (List.getElem?_eq_getElem hk0)) hge
        · exact hb p q a b hpq (by omega) q1 ha hb'
    · have hj0 : j = 0 := by
        have : (j : Int) ≤ 0 := by simpa using h0
        omega
      subst hj0
      refine hn _ ⟨i + 1, rfl, by omega, hpe, fun p q a b hpq hqi ha hb' => hb p q a b hpq (by omega) (by omega) ha hb'⟩ (by simp only [Int.toNat_natCast]; omega)
  · have hil : l.length ≤ i := by
      have : ((l.length : Nat) : Int) ≤ (i : Int) := by simpa using h
      omega
    refine Gd.ret ⟨hpm, fun p q a b hpq ha hb => hs p q a b hpq ?_ ha hb⟩
    have hq : q < d.length := (List.getElem?_eq_some_iff.1 hb).1
    omega
theorem sort_gd (l : List Msg) (hl : l.length ≤ 12) : Gd (m_slices_SortFunc_api_TelemetryMsg_api_TelemetryMsg__telemetry_Points_List_1 l) (fun r => r.Perm l ∧ Srt r) := by
  unfold m_slices_SortFunc_api_TelemetryMsg_api_TelemetryMsg__telemetry_Points_List_1
  obtain ⟨z, hz⟩ := len_z (n := l.length) (by omega)
  refine Gd.bind_eq hz (Gd.bnd (P := fun r => r.Perm l ∧ Srt r) ?_ (fun r hr => Gd.ret hr))
  unfold m_slices_pdqsortCmpFunc_api_TelemetryMsg__telemetry_Points_List_1
  obtain ⟨f, hf⟩ : ∃ f, FUEL = f + 1 := ⟨FUEL - 1, by unfold FUEL; omega⟩
  rw [hf]
  show Gd (m_slices_pdqsortCmpFunc_api_TelemetryMsg__telemetry_Points_List_1_step (m_slices_pdqsortCmpFunc_api_TelemetryMsg__telemetry_Points_List_1_fuel f) l 0 l.length z) _
  unfold m_slices_pdqsortCmpFunc_api_TelemetryMsg__telemetry_Points_List_1_step
  refine Gd.loopF (fun (s : List Msg × Int × Int × Int × Bool × Bool) => s.1 = l ∧ s.2.1 = 0 ∧ s.2.2.1 = l.length) (fun _ => 0) ?_ FUEL _ ⟨rfl, rfl, rfl⟩ (by unfold FUEL; omega)
  rintro ⟨d, a, b, k, c1, c2⟩ nx ⟨h1, h2, h3⟩ _
  simp only at h1 h2 h3
  subst h1; subst h2; subst h3
  dsimp only
  unfold m_slices_pdqsortCmpFunc_api_TelemetryMsg__telemetry_Points_List_1_b10
  refine Gd.ite (fun _ => Gd.bnd (isort_gd d hl) (fun r hr => Gd.ret hr)) (fun h => ?_)
  rw [wrap_id ⟨by omega, by omega⟩] at h
  simp at h; omega
end Go.Sim
end

section
namespace Go.Sim
open Go
set_option linter.unusedVariables false
set_option linter.unusedSimpArgs false
set_option linter.unusedSectionVars false
set_option linter.unnecessarySimpa false

theorem tname_gd (s : BA) (h : s.size ≤ maxLen) : Gd (m_netmodel_Name s) (fun _ => True) := by
  unfold m_netmodel_Name
  refine Gd.nd h (Gd.forI (fun _ _ _ => True) (fun i y ys s n _ hn => ?_) (fun i s _ => Gd.ret trivial) _ _ _ trivial)
  unfold m_netmodel_Name_b1
  exact Gd.ite (fun _ => Gd.ret trivial) (fun _ => hn _ trivial)
theorem tcheck_gd (m : Msg) (h : m.Point.size ≤ maxLen) : Gd (m_telemetry_Check m) (fun e => e = 0 → 0 ≤ m.Time ∧ m.Time ≤ 200000) := by
  unfold m_telemetry_Check
  refine Gd.bnd (tname_gd _ h) (fun b _ => Gd.ite (fun _ => Gd.ret (fun h => by simp at h)) (fun _ => Gd.ite (fun _ => Gd.ret (fun h => by simp at h)) (fun _ => Gd.ite (fun _ => Gd.ret (fun h => by simp at h)) (fun h => Gd.ret (fun _ => ?_)))))
  simp only [Bool.or_eq_false_iff, decide_eq_false_iff_not] at h
  omega
theorem tindex_gd (age : Int) (l : List Pnt) (p : BA) : Gd (m_telemetry_Points_index ⟨age, l⟩ p) (fun r => (r = -1 ∧ ∀ x ∈ l, x.TelemetryMsg.Point ≠ p) ∨ ∃ (k : Nat) (h : k < l.length), r = k ∧ l[k].TelemetryMsg.Point = p ∧ ∀ x ∈ l.take k, x.TelemetryMsg.Point ≠ p) := by
  unfold m_telemetry_Points_index
  refine Gd.bnd (P := fun r => (r = -1 ∧ ∀ x ∈ l, x.TelemetryMsg.Point ≠ p) ∨ ∃ (k : Nat) (h : k < l.length), r = k ∧ l[k].TelemetryMsg.Point = p ∧ ∀ x ∈ l.take k, x.TelemetryMsg.Point ≠ p) ?_ (fun r hr => Gd.ret hr)
  unfold m_slices_IndexFunc_telemetry_point_telemetry_point__telemetry_Points_index_1
  refine Gd.forN (fun m i _ => i + m = l.length ∧ ∀ x ∈ l.take i, x.TelemetryMsg.Point ≠ p) ?_ ?_ (l.length : Int).toNat 0 () ⟨by omega, by simp⟩
  · intro m i _ nx ⟨hi, hno⟩ hnx
    have hlt : i < l.length := by omega
    unfold m_slices_IndexFunc_telemetry_point_telemetry_point__telemetry_Points_index_1_b1 m_telemetry_Points_index_1
    refine Gd.idxN hlt (Gd.ite (fun h => Gd.ret (.inr ⟨i, hlt, rfl, by simpa using h, hno⟩)) (fun h => hnx () ⟨by omega, ?_⟩))
    rw [List.take_succ_eq_append_getElem hlt]
    intro x hx
    rcases List.mem_append.1 hx with hx | hx
    · exact hno x hx
    · simp at hx; subst hx; simpa using h
  · intro i _ ⟨hi, hno⟩
    rw [List.take_of_length_le (by omega)] at hno
    exact Gd.ret (.inl ⟨rfl, hno⟩)

def pts (l : List Pnt) : List BA := l.map (fun x => x.TelemetryMsg.Point)
/-- A point that is known meets a message. -/
def tupd (x : Pnt) (m : Msg) : Pnt := if m.Number ≤ x.TelemetryMsg.Number then x else if m.Time < x.TelemetryMsg.Time then x else ⟨m, IntKind.i64.wrap (x.many + 1)⟩
def tk1 : List Pnt → Msg → List Pnt
  | [], m => [⟨m, 1⟩]
  | x :: l, m => if x.TelemetryMsg.Point = m.Point then tupd x m :: l else x :: tk1 l m
/-- What Take leaves, where there is room. -/
def tk (l : List Pnt) (m : Msg) : List Pnt := if m_telemetry_Check m = some 0 then tk1 l m else l
def tks (l : List Pnt) (ms : List Msg) : List Pnt := ms.foldl tk l
theorem tk1_new : ∀ {l : List Pnt} {m : Msg}, (∀ x ∈ l, x.TelemetryMsg.Point ≠ m.Point) → tk1 l m = l ++ [⟨m, 1⟩]
  | [], m, _ => rfl
  | x :: l, m, h => by
    have ih := tk1_new (l := l) (m := m) (fun y hy => h y (List.mem_cons_of_mem _ hy))
    unfold tk1
    rw [if_neg (h x (List.mem_cons_self ..)), ih]
    rfl
theorem tk1_old : ∀ {l : List Pnt} {m : Msg} {i : Nat} (h : i < l.length), l[i].TelemetryMsg.Point = m.Point → (∀ x ∈ l.take i, x.TelemetryMsg.Point ≠ m.Point) → tk1 l m = l.set i (tupd l[i] m)
  | x :: l, m, 0, h, hp, _ => by
    unfold tk1
    rw [if_pos (by simpa using hp)]
    rfl
  | x :: l, m, i + 1, h, hp, hno => by
    have ih := tk1_old (l := l) (m := m) (i := i) (by simpa using h) (by simpa using hp) (fun y hy => hno y (by simp [hy]))
    unfold tk1
    rw [if_neg (hno x (by simp)), ih]
    simp
theorem tk1_len : ∀ (l : List Pnt) (m : Msg), (tk1 l m).length ≤ l.length + 1
  | [], m => by simp [tk1]
  | x :: l, m => by
    have := tk1_len l m
    unfold tk1
    split <;> simp <;> omega
theorem tk_len (l : List Pnt) (m : Msg) : (tk l m).length ≤ l.length + 1 := by
  unfold tk
  split
  · exact tk1_len l m
  · omega
theorem tks_len : ∀ (ms : List Msg) (l : List Pnt), (tks l ms).length ≤ l.length + ms.length
  | [], l => by simp [tks]
  | m :: ms, l => by
    have h1 := tks_len ms (tk l m)
    have h2 := tk_len l m
    simp only [tks, List.foldl_cons, List.length_cons] at h1 ⊢
    omega
theorem tupd_pt {x : Pnt} {m : Msg} (h : x.TelemetryMsg.Point = m.Point) : (tupd x m).TelemetryMsg.Point = m.Point := by
  unfold tupd
  split
  · exact h
  · split
    · exact h
    · rfl
theorem tk1_mem : ∀ {l : List Pnt} {m : Msg} {x : Pnt}, x ∈ tk1 l m → x ∈ l ∨ x.TelemetryMsg = m
  | [], m, x, h => by
    simp [tk1] at h
    subst h; exact .inr rfl
  | y :: l, m, x, h => by
    unfold tk1 at h
    split at h
    · rcases List.mem_cons.1 h with rfl | h
      · unfold tupd
        split
        · exact .inl (List.mem_cons_self ..)
        · split
          · exact .inl (List.mem_cons_self ..)
          · exact .inr rfl
      · exact .inl (List.mem_cons_of_mem _ h)
    · rcases List.mem_cons.1 h with rfl | h
      · exact .inl (List.mem_cons_self ..)
      · rcases tk1_mem h with h | h
        · exact .inl (List.mem_cons_of_mem _ h)
        · exact .inr h
theorem tk_mem {l : List Pnt} {m : Msg} {x : Pnt} (h : x ∈ tk l m) : x ∈ l ∨ (x.TelemetryMsg = m ∧ m_telemetry_Check m = some 0) := by
  unfold tk at h
  split at h
  · rename_i hc
    exact (tk1_mem h).imp id (fun e => ⟨e, hc⟩)
  · exact .inl h
theorem tk1_pts : ∀ (l : List Pnt) (m : Msg), (m.Point ∈ pts l ∧ pts (tk1 l m) = pts l) ∨ (m.Point ∉ pts l ∧ pts (tk1 l m) = pts l ++ [m.Point])
  | [], m => .inr ⟨by simp [pts], by simp [tk1, pts]⟩
  | x :: l, m => by
    have ih := tk1_pts l m
    unfold tk1
    by_cases h : x.TelemetryMsg.Point = m.Point
    · rw [if_pos h]
      have e := tupd_pt h
      exact .inl ⟨by simp [pts, h], by simp only [pts, List.map_cons, e, h]⟩
    · rw [if_neg h]
      rcases ih with ⟨h1, h2⟩ | ⟨h1, h2⟩
      · refine .inl ⟨List.mem_cons_of_mem _ h1, ?_⟩
        show x.TelemetryMsg.Point :: pts (tk1 l m) = x.TelemetryMsg.Point :: pts l
        rw [h2]
      · refine .inr ⟨fun h' => ?_, ?_⟩
        · rcases List.mem_cons.1 (show m.Point ∈ x.TelemetryMsg.Point :: pts l from h') with e | h'
          · exact h e.symm
          · exact h1 h'
        · show x.TelemetryMsg.Point :: pts (tk1 l m) = x.TelemetryMsg.Point :: (pts l ++ [m.Point])
          rw [h2]
theorem tk_nodup {l : List Pnt} {m : Msg} (h : (pts l).Nodup) : (pts (tk l m)).Nodup := by
  unfold tk
  split
  · rcases tk1_pts l m with ⟨_, h2⟩ | ⟨h1, h2⟩
    · rw [h2]; exact h
    · rw [h2, List.nodup_append]
      refine ⟨h, by simp, fun a ha b hb => ?_⟩
      simp at hb; subst hb
      exact fun e => h1 (e ▸ ha)
  · exact h
theorem tk1_app : ∀ {A B : List Pnt} {m : Msg}, (∀ x ∈ A, x.TelemetryMsg.Point ≠ m.Point) → tk1 (A ++ B) m = A ++ tk1 B m
  | [], B, m, _ => rfl
  | x :: A, B, m, h => by
    have ih := tk1_app (A := A) (B := B) (m := m) (fun y hy => h y (List.mem_cons_of_mem _ hy))
    show (if x.TelemetryMsg.Point = m.Point then tupd x m :: (A ++ B) else x :: tk1 (A ++ B) m) = x :: (A ++ tk1 B m)
    rw [if_neg (h x (List.mem_cons_self ..)), ih]
theorem tk_app {A B : List Pnt} {m : Msg} (h : ∀ x ∈ A, x.TelemetryMsg.Point ≠ m.Point) : tk (A ++ B) m = A ++ tk B m := by
  unfold tk
  split
  · exact tk1_app h
  · rfl
/-- Messages of points that differ are all kept. -/
theorem tks_all : ∀ (C : List Msg) (A : List Pnt), (pts A ++ C.map (·.Point)).Nodup → (∀ m ∈ C, m_telemetry_Check m = some 0) → (tks A C).map (·.TelemetryMsg) = A.map (·.TelemetryMsg) ++ C
  | [], A, _, _ => by simp [tks]
  | m :: C, A, hn, hc => by
    have e : tk A m = A ++ [⟨m, 1⟩] := by
      unfold tk
      rw [if_pos (hc m (List.mem_cons_self ..)), tk1_new]
      intro x hx he
      rw [List.nodup_append] at hn
      exact hn.2.2 _ (List.mem_map.2 ⟨x, hx, rfl⟩) _ (List.mem_cons_self ..) he
    have ih := tks_all C (A ++ [⟨m, 1⟩]) (by simpa [pts] using hn) (fun k hk => hc k (List.mem_cons_of_mem _ hk))
    show (tks (tk A m) C).map _ = _
    rw [e, ih]
    simp
theorem take_gd (age : Int) (l : List Pnt) (m : Msg) (hm : m.Point.size ≤ maxLen) (hl : l.length ≤ 24) :
    Gd (m_telemetry_Points_Take ⟨age, l⟩ m) (fun r => r.2.2.age = age ∧ r.2.2.all_.length ≤ 24 ∧ (r.2.2.all_ = tk l m ∨ (l.length = 24 ∧ r.2.2.all_ = l))) := by
  unfold m_telemetry_Points_Take
  obtain ⟨e, he, _⟩ := tcheck_gd m hm
  refine Gd.bind_eq he (Gd.ite (fun h => Gd.ret ⟨rfl, hl, .inl ?_⟩) (fun h => ?_))
  · have h : e ≠ 0 := by simpa using h
    unfold tk
    rw [he, if_neg (fun h' => h (Option.some.inj h'))]
  have h0 : e = 0 := by simpa using h
  subst h0
  have htk : tk l m = tk1 l m := by unfold tk; rw [if_pos he]
  refine Gd.bnd (tindex_gd age l m.Point) (fun r hr => ?_)
  rcases hr with ⟨rfl, hno⟩ | ⟨i, hi, rfl, hp, hno⟩
  · refine Gd.ite (fun h => Gd.ret ⟨rfl, hl, .inr ⟨?_, rfl⟩⟩) (fun h => Gd.ite (fun _ => Gd.nd (by simp; omega) ?_) (fun h => by simp at h))
    · simp at h; omega
    · have h24 : l.length ≠ 24 := by simp at h; omega
      unfold m_telemetry_Points_Take_b1
      exact Gd.ret ⟨rfl, by simp; omega, .inl (by rw [htk, tk1_new hno])⟩
  · have hset := tk1_old hi hp hno
    have same : tupd l[i] m = l[i] → l = tk l m := fun e => by rw [htk, hset, e]; exact (List.set_getElem_self _).symm
    refine Gd.ite (fun h => by simp at h; omega) (fun _ => Gd.ite (fun h => by simp at h; omega) (fun _ => ?_))
    refine Gd.idxN hi (Gd.ite (fun h => Gd.ret ⟨rfl, hl, .inl (same ?_)⟩) (fun h1 => Gd.idxN hi (Gd.ite (fun h2 => Gd.ret ⟨rfl, hl, .inl (same ?_)⟩) (fun h2 => Gd.idxN hi (Gd.idxN hi ?_)))))
    · unfold tupd; rw [if_pos (by simpa using h)]
    · unfold tupd; rw [if_neg (by simpa using h1), if_pos (by simpa using h2)]
    · unfold m_telemetry_Points_Take_b1
      rw [Int.toNat_natCast]
      refine Gd.ret ⟨rfl, by simpa using hl, .inl ?_⟩
      rw [htk, hset]
      unfold tupd
      rw [if_neg (by simpa using h1), if_neg (by simpa using h2)]
/-- Where there is room, Take is tk. -/
theorem take_tk (age : Int) (l : List Pnt) (m : Msg) (hm : m.Point.size ≤ maxLen) (hl : l.length < 24) : Gd (m_telemetry_Points_Take ⟨age, l⟩ m) (fun r => r.2.2.age = age ∧ r.2.2.all_ = tk l m) :=
  (take_gd age l m hm (by omega)).mono (fun r ⟨h1, _, h3⟩ => ⟨h1, h3.elim id (fun h => by omega)⟩)
theorem list_pm (age : Int) (l : List Pnt) (hl : l.length ≤ 24) : Gd (m_telemetry_Points_List ⟨age, l⟩) (fun r => r.Perm (l.map (·.TelemetryMsg))) := by
  unfold m_telemetry_Points_List
  refine Gd.seen (fun pre out => out = pre.map (·.TelemetryMsg)) ?_ ?_ _ rfl
  · rintro i y out nn pre hpre rfl hn
    obtain ⟨hpl, _, _⟩ := pre_lt hpre
    have hpl : pre.length < l.length := hpl
    unfold m_telemetry_Points_List_b1
    refine Gd.nd (by simp only [List.length_map, List.length_singleton]; omega) (hn _ (by simp))
  · rintro out rfl
    exact Gd.bnd (sortm_gd _ (by simp; omega)) (fun r hr => Gd.ret hr)
theorem list_gd (age : Int) (l : List Pnt) (hl : l.length ≤ 12) : Gd (m_telemetry_Points_List ⟨age, l⟩) (fun r => r.Perm (l.map (·.TelemetryMsg)) ∧ Srt r) := by
  unfold m_telemetry_Points_List
  refine Gd.seen (fun pre out => out = pre.map (·.TelemetryMsg)) ?_ ?_ _ rfl
  · rintro i y out nn pre hpre rfl hn
    obtain ⟨hpl, _, _⟩ := pre_lt hpre
    have hpl : pre.length < l.length := hpl
    unfold m_telemetry_Points_List_b1
    refine Gd.nd (by simp only [List.length_map, List.length_singleton]; omega) (hn _ (by simp))
  · rintro out rfl
    exact Gd.bnd (sort_gd _ (by simpa using hl)) (fun r hr => Gd.ret hr)

theorem tcut (n lo hi : Int) (h : lo ≤ hi) (h1 : 0 ≤ lo) (h2 : hi ≤ 1000) : Gd (m_gridhallref4_Cut n lo hi) (fun r => lo ≤ r ∧ r ≤ hi) := by
  have e : IntKind.i64.wrap ((IntKind.i64.wrap (hi - lo)) + 1) = hi - lo + 1 := by rw [wrap_id (n := hi - lo) (by omega), wrap_id (by omega)]
  have h1 : Int.tmod n (hi - lo + 1) < hi - lo + 1 := Int.tmod_lt_of_pos n (by omega)
  have h2 : -(hi - lo + 1) < Int.tmod n (hi - lo + 1) := by
    have := Int.tmod_lt_of_pos (-n) (show (0 : Int) < hi - lo + 1 by omega)
    rw [Int.neg_tmod] at this; omega
  unfold m_gridhallref4_Cut m_gridhallref4_Cut_b1
  rw [e]
  refine Gd.nd (by omega) (Gd.ite (fun h => ?_) (fun h => ?_))
  · simp at h
    rw [wrap_id (n := Int.tmod n (hi - lo + 1) + (hi - lo + 1)) (by omega), wrap_id (by omega)]
    exact Gd.ret ⟨by omega, by omega⟩
  · simp at h
    rw [wrap_id (by omega)]
    exact Gd.ret ⟨by omega, by omega⟩
def MsSz (l : List Msg) : Prop := ∀ m ∈ l, m.Point.size ≤ maxLen

theorem srt_unique2 : ∀ {a b : List Msg}, a.Pairwise (fun x y => leS x.Point y.Point) → b.Pairwise (fun x y => leS x.Point y.Point) → (∀ x ∈ a, ∀ y ∈ a, x.Point = y.Point → x = y) → a.Perm b → a = b
  | [], b, _, _, _, h => (List.Perm.nil_eq h)
  | x :: xs, [], _, _, _, h => absurd h.length_eq (by simp)
  | x :: xs, y :: ys, ha, hb, hu, h => by
    rw [List.pairwise_cons] at ha hb
    have hxy : x = y := by
      have h1 : x ∈ y :: ys := h.mem_iff.1 (List.mem_cons_self ..)
      have h2 : y ∈ x :: xs := h.mem_iff.2 (List.mem_cons_self ..)
      rcases List.mem_cons.1 h1 with e | h1
      · exact e
      · rcases List.mem_cons.1 h2 with e | h2
        · exact e.symm
        · exact hu x (List.mem_cons_self ..) y (List.mem_cons_of_mem _ h2) (leS_anti (ha.1 y h2) (hb.1 x h1))
    subst hxy
    rw [srt_unique2 ha.2 hb.2 (fun p hp q hq => hu p (List.mem_cons_of_mem _ hp) q (List.mem_cons_of_mem _ hq)) ((List.perm_cons x).1 h)]
theorem Srt.pw {l : List Msg} (h : Srt l) : l.Pairwise (fun x y => leS x.Point y.Point) := by
  rw [List.pairwise_iff_getElem]
  intro i j hi hj hij
  exact h i j _ _ hij (List.getElem?_eq_getElem hi) (List.getElem?_eq_getElem hj)
theorem tequal_refl (l : List Msg) : m_slices_Equal_api_TelemetryMsg_api_TelemetryMsg l l = some true := by
  rw [← Gd.eq]
  unfold m_slices_Equal_api_TelemetryMsg_api_TelemetryMsg
  refine Gd.ite (fun h => by simp at h) (fun _ => ?_)
  refine Gd.forN (Q := fun z => z = true) (fun m i (_ : Unit) => i + m = l.length) ?_ (fun _ _ _ => Gd.ret rfl) (l.length : Int).toNat 0 () (by omega)
  intro m i _ nx hi hn
  unfold m_slices_Equal_api_TelemetryMsg_api_TelemetryMsg_b1
  exact Gd.idxN (by omega) (Gd.idxN (by omega) (Gd.ite (fun h => by simp at h) (fun _ => hn _ (by omega))))
end Go.Sim
end

section
namespace Go.Sim
open Go
set_option linter.unusedVariables false
set_option linter.unusedSimpArgs false
set_option linter.unusedSectionVars false
set_option linter.unnecessarySimpa false

theorem tks_snoc (l : List Pnt) (o : List Msg) (m : Msg) : tks l (o ++ [m]) = tk (tks l o) m := by
  unfold tks; rw [List.foldl_append]; rfl
/-- taken answers, with at most 24 messages. -/
theorem taken_gd (l : List Msg) (hl : MsSz l) : Gd (m_second_taken l) (fun r => r.length ≤ 24 ∧ MsSz r) := by
  unfold m_second_taken m_telemetry_New
  refine Gd.seen (fun pre (s : Int × List Pnt) => s.2.length ≤ 24 ∧ ∀ x ∈ s.2, x.TelemetryMsg.Point.size ≤ maxLen) ?_ ?_ _ ⟨by simp, by simp⟩
  · rintro i y ⟨a, s⟩ nn pre hpre ⟨h1, h2⟩ hn
    obtain ⟨_, hyl, _⟩ := pre_lt hpre
    unfold m_second_taken_b2
    refine Gd.bnd (take_gd a s y (hl y hyl) h1) (fun r ⟨_, r1, r2⟩ => hn _ ⟨r1, fun x hx => ?_⟩)
    rcases r2 with r2 | ⟨_, r2⟩
    · rcases tk_mem (r2 ▸ hx) with h | ⟨h, _⟩
      · exact h2 x h
      · rw [h]; exact hl y hyl
    · exact h2 x (r2 ▸ hx)
  · rintro ⟨a, s⟩ ⟨h1, h2⟩
    refine Gd.bnd (list_pm a s h1) (fun r hr => Gd.ret ⟨by rw [hr.length_eq, List.length_map]; exact h1, fun m hm => ?_⟩)
    obtain ⟨x, hx, rfl⟩ := List.mem_map.1 (hr.mem_iff.1 hm)
    exact h2 x hx
/-- What taken answers of a few messages. -/
theorem taken_few (l : List Msg) (hl : MsSz l) (h : l.length ≤ 12) : Gd (m_second_taken l) (fun r => r.Perm ((tks [] l).map (·.TelemetryMsg)) ∧ Srt r) := by
  unfold m_second_taken m_telemetry_New
  refine Gd.seen (fun pre (s : Int × List Pnt) => s.2 = tks [] pre) ?_ ?_ _ rfl
  · rintro i y ⟨a, s⟩ nn pre hpre hs hn
    obtain ⟨hpl, hyl, _⟩ := pre_lt hpre
    have hs : s = tks [] pre := hs
    have := tks_len pre []
    simp only [List.length_nil] at this
    unfold m_second_taken_b2
    refine Gd.bnd (take_tk a s y (hl y hyl) (by rw [hs]; omega)) (fun r ⟨_, r2⟩ => hn _ ?_)
    show r.2.2.all_ = tks [] (pre ++ [y])
    rw [r2, hs, tks_snoc]
  · rintro ⟨a, s⟩ hs
    have hs : s = tks [] l := hs
    have := tks_len l []
    simp only [List.length_nil] at this
    subst hs
    exact Gd.bnd (list_gd a (tks [] l) (by omega)) (fun r hr => Gd.ret hr)
theorem flat_len : ∀ (s : List (List Msg)) (n : Nat), (∀ l ∈ s, l.length ≤ n) → s.flatten.length ≤ s.length * n
  | [], n, _ => by simp
  | l :: s, n, h => by
    have h1 := flat_len s n (fun x hx => h x (List.mem_cons_of_mem _ hx))
    have h2 := h l (List.mem_cons_self ..)
    simp only [List.flatten_cons, List.length_append, List.length_cons, Nat.succ_mul]
    omega
theorem concat_eq (s : List (List Msg)) (h : s.flatten.length ≤ 1000) : m_slices_Concat_api_TelemetryMsg_api_TelemetryMsg s = some s.flatten := by
  rw [← Gd.eq]
  unfold m_slices_Concat_api_TelemetryMsg_api_TelemetryMsg
  refine Gd.seen (fun pre (n : Int) => n = pre.flatten.length) ?_ ?_ _ rfl
  · rintro i y n nn pre ⟨post, rfl⟩ rfl hn
    simp only [List.flatten_append, List.flatten_cons, List.length_append] at h
    have e : IntKind.i64.wrap ((pre.flatten.length : Int) + (y.length : Int)) = ((pre ++ [y]).flatten.length : Int) := by
      rw [wrap_id ⟨by omega, by omega⟩]
      simp
    unfold m_slices_Concat_api_TelemetryMsg_api_TelemetryMsg_b1
    rw [e]
    exact Gd.ite (fun h => by simp at h; omega) (fun _ => hn _ rfl)
  · rintro n rfl
    refine Gd.nd ⟨by omega, by omega⟩ ?_
    refine Gd.seen (fun pre (l : List Msg) => l = pre.flatten) ?_ (fun l hl => Gd.ret hl) _ rfl
    rintro i y l nn pre ⟨post, rfl⟩ rfl hn
    unfold m_slices_Concat_api_TelemetryMsg_api_TelemetryMsg_b2
    exact Gd.nd (by simp; omega) (hn _ (by simp))
theorem takes_gd : ∀ (s : List (List Msg)), (∀ l ∈ s, MsSz l) → ∃ rs, takes s = some rs ∧ rs.length = s.length ∧ ∀ r ∈ rs, r.length ≤ 24 ∧ MsSz r
  | [], _ => ⟨[], rfl, rfl, by simp⟩
  | l :: s, h => by
    obtain ⟨a, ha, h1⟩ := taken_gd l (h l (List.mem_cons_self ..))
    obtain ⟨rs, hrs, h2, h3⟩ := takes_gd s (fun x hx => h x (List.mem_cons_of_mem _ hx))
    refine ⟨a :: rs, by simp [takes, ha, hrs], by simp [h2], fun r hr => ?_⟩
    rcases List.mem_cons.1 hr with rfl | hr
    · exact h1
    · exact h3 r hr
/-- Collect answers the same, whatever the workers. -/
theorem collect_gd (s : List (List Msg)) (h : ∀ l ∈ s, MsSz l) (hs : s.length ≤ 4) : ∃ r, ∀ k, 1 ≤ k → k ≤ 8 → m_second_Collect s k = some (r, 0) := by
  obtain ⟨rs, h1, h2, h3⟩ := takes_gd s h
  have hf := flat_len rs 24 (fun r hr => (h3 r hr).1)
  have hm : rs.length * 24 ≤ 4 * 24 := Nat.mul_le_mul_right _ (by omega)
  obtain ⟨r, hr, _⟩ := taken_gd rs.flatten (fun m hm => by
    obtain ⟨l, hl, hml⟩ := List.mem_flatten.1 hm
    exact (h3 l hl).2 m hml)
  refine ⟨r, fun k k1 k2 => ?_⟩
  unfold m_second_Collect Sim.need
  rw [if_pos ⟨k1, k2, by omega⟩, h1]
  show (m_slices_Concat_api_TelemetryMsg_api_TelemetryMsg rs).bind _ = _
  rw [concat_eq rs (by omega)]
  show (m_second_taken rs.flatten).bind _ = _
  rw [hr]; rfl

/-! ### the stations' own messages -/
/-- What all the stations' messages leave. -/
def PP (own : List (List Msg)) : List Pnt := own.flatMap (tks [])
theorem takes_few : ∀ (s : List (List Msg)), (∀ l ∈ s, MsSz l ∧ l.length ≤ 12) → ∃ rs, takes s = some rs ∧ rs.flatten.Perm ((PP s).map (·.TelemetryMsg))
  | [], _ => ⟨[], rfl, by simp [PP]⟩
  | l :: s, h => by
    obtain ⟨h1, h2⟩ := h l (List.mem_cons_self ..)
    obtain ⟨a, ha, h3, _⟩ := taken_few l h1 h2
    obtain ⟨rs, hrs, h4⟩ := takes_few s (fun x hx => h x (List.mem_cons_of_mem _ hx))
    refine ⟨a :: rs, by simp [takes, ha, hrs], ?_⟩
    simp only [List.flatten_cons, PP, List.flatMap_cons, List.map_append]
    exact h3.append h4
theorem collect_own (s : List (List Msg)) (h : ∀ l ∈ s, MsSz l ∧ l.length ≤ 12) (hs : s.length ≤ 8) (hn : (pts (PP s)).Nodup) (hc : ∀ x ∈ PP s, m_telemetry_Check x.TelemetryMsg = some 0 ∧ x.TelemetryMsg.Point.size ≤ maxLen) (hl : (PP s).length ≤ 12) :
    ∃ r, (r.Perm ((PP s).map (·.TelemetryMsg)) ∧ Srt r) ∧ ∀ k, 1 ≤ k → k ≤ 8 → m_second_Collect s k = some (r, 0) := by
  obtain ⟨rs, h1, h2⟩ := takes_few s h
  have hlen := h2.length_eq
  rw [List.length_map] at hlen
  have hmem : ∀ m ∈ rs.flatten, m_telemetry_Check m = some 0 ∧ m.Point.size ≤ maxLen := fun m hm => by
    obtain ⟨x, hx, rfl⟩ := List.mem_map.1 (h2.mem_iff.1 hm)
    exact hc x hx
  obtain ⟨r, hr, h3, h4⟩ := taken_few rs.flatten (fun m hm => (hmem m hm).2) (by omega)
  have hnd : (rs.flatten.map (·.Point)).Nodup := by
    refine (h2.map (·.Point)).nodup_iff.2 ?_
    rw [List.map_map]
    exact hn
  have e := tks_all rs.flatten [] (by simpa [pts] using hnd) (fun m hm => (hmem m hm).1)
  rw [e] at h3
  refine ⟨r, ⟨h3.trans (by simpa using h2), h4⟩, fun k k1 k2 => ?_⟩
  unfold m_second_Collect Sim.need
  rw [if_pos ⟨k1, k2, by omega⟩, h1]
  show (m_slices_Concat_api_TelemetryMsg_api_TelemetryMsg rs).bind _ = _
  rw [concat_eq rs (by omega)]
  show (m_second_taken rs.flatten).bind _ = _
  rw [hr]; rfl
/-- The same messages, each of its own point, are in the same order. -/
theorem same_own {L : List Pnt} (hn : (pts L).Nodup) {r s : List Msg} (hr : r.Perm (L.map (·.TelemetryMsg)) ∧ Srt r) (hs : s.Perm (L.map (·.TelemetryMsg)) ∧ Srt s) : r = s := by
  refine srt_unique2 hr.2.pw hs.2.pw (fun x hx y hy e => ?_) (hr.1.trans hs.1.symm)
  obtain ⟨p, hp, rfl⟩ := List.mem_map.1 (hr.1.mem_iff.1 hx)
  obtain ⟨q, hq, rfl⟩ := List.mem_map.1 (hr.1.mem_iff.1 hy)
  obtain ⟨i, hi, rfl⟩ := List.mem_iff_getElem.1 hp
  obtain ⟨j, hj, rfl⟩ := List.mem_iff_getElem.1 hq
  have hpw := List.pairwise_iff_getElem.1 hn
  have hi' : i < (pts L).length := by simpa [pts] using hi
  have hj' : j < (pts L).length := by simpa [pts] using hj
  rcases Nat.lt_trichotomy i j with c | c | c
  · exact absurd (by simpa [pts] using e) (hpw i j hi' hj' c)
  · subst c; rfl
  · exact absurd (by simpa [pts] using e.symm) (hpw j i hj' hi' c)
end Go.Sim
end

section
namespace Go.Sim
open Go
set_option linter.unusedVariables false
set_option linter.unusedSimpArgs false
set_option linter.unusedSectionVars false
set_option linter.unnecessarySimpa false

theorem collectFact_true : m_gridhallkeep4_collectFact = some true := by kernel_rfl
/-- The points of a station. -/
def Pts (k : Nat) : List BA :=
  match k with
  | 0 => [⟨#[65]⟩, ⟨#[65, 49]⟩, ⟨#[65, 50]⟩]
  | 1 => [⟨#[66]⟩, ⟨#[66, 49]⟩, ⟨#[66, 50]⟩]
  | 2 => [⟨#[67]⟩, ⟨#[67, 49]⟩, ⟨#[67, 50]⟩]
  | _ => [⟨#[68]⟩, ⟨#[68, 49]⟩, ⟨#[68, 50]⟩]
def PtsAll : List BA := Pts 0 ++ Pts 1 ++ Pts 2 ++ Pts 3
theorem pts_apart : (List.range 4).all (fun k => (List.range k).all fun j => (Pts j).all fun p => (Pts k).all fun q => !(decide (p = q))) = true := by kernel_rfl
theorem pts_apart' {j k : Nat} (h : j < k) (hk : k < 4) {p q : BA} (hp : p ∈ Pts j) (hq : q ∈ Pts k) : p ≠ q := by
  have h1 := List.all_eq_true.1 pts_apart k (List.mem_range.2 hk)
  have h2 := List.all_eq_true.1 (List.all_eq_true.1 (List.all_eq_true.1 h1 j (List.mem_range.2 h)) p hp) q hq
  rintro rfl
  simp at h2
theorem pts_all {j : Nat} (h : j < 4) {p : BA} (hp : p ∈ Pts j) : p ∈ PtsAll := by
  unfold PtsAll
  simp only [List.mem_append]
  have : j = 0 ∨ j = 1 ∨ j = 2 ∨ j = 3 := by omega
  rcases this with rfl | rfl | rfl | rfl
  · exact .inl (.inl (.inl hp))
  · exact .inl (.inl (.inr hp))
  · exact .inl (.inr hp)
  · exact .inr hp
theorem pts_size : PtsAll.all (fun p => decide (p.size ≤ 2)) = true := by kernel_rfl
def stn : List BA := [(⟨#[65]⟩), (⟨#[66]⟩), (⟨#[67]⟩), (⟨#[68]⟩)]
def pos3 : List BA := [(⟨#[]⟩), (⟨#[49]⟩), (⟨#[50]⟩)]
theorem pts_made : (List.range 4).all (fun k => (List.range 3).all fun j => match stn[k]?, pos3[j]? with | some a, some b => decide (a.size + b.size ≤ 2) && (Pts k).any (fun q => decide (a ++ b = q)) | _, _ => false) = true := by kernel_rfl
theorem pts_made' {k j : Nat} (hk : k < 4) (hj : j < 3) : ∃ a b, stn[k]? = some a ∧ pos3[j]? = some b ∧ a.size + b.size ≤ 2 ∧ a ++ b ∈ Pts k := by
  have h1 := List.all_eq_true.1 (List.all_eq_true.1 pts_made k (List.mem_range.2 hk)) j (List.mem_range.2 hj)
  cases ha : stn[k]? with
  | none => rw [ha] at h1; simp at h1
  | some a =>
    cases hb : pos3[j]? with
    | none => rw [ha, hb] at h1; simp at h1
    | some b =>
      rw [ha, hb] at h1
      simp only [Bool.and_eq_true, decide_eq_true_eq] at h1
      obtain ⟨q, hq, e⟩ := List.any_eq_true.1 h1.2
      exact ⟨a, b, rfl, rfl, h1.1, by rw [of_decide_eq_true e]; exact hq⟩
/-- What is kept of the first stations. -/
structure Kp (k : Nat) (l : List Pnt) : Prop where
  nd : (pts l).Nodup
  src : ∀ x ∈ l, m_telemetry_Check x.TelemetryMsg = some 0 ∧ ∃ j, j < k ∧ x.TelemetryMsg.Point ∈ Pts j
theorem Kp.mono {j k : Nat} {l : List Pnt} (h : Kp j l) (hjk : j ≤ k) : Kp k l := ⟨h.nd, fun x hx => ⟨(h.src x hx).1, let ⟨i, h1, h2⟩ := (h.src x hx).2; ⟨i, by omega, h2⟩⟩⟩
theorem Kp.tk {k : Nat} {l : List Pnt} {m : Msg} (h : Kp (k + 1) l) (hm : m.Point ∈ Pts k) : Kp (k + 1) (tk l m) :=
  ⟨tk_nodup h.nd, fun x hx => (tk_mem hx).elim (h.src x) (fun ⟨e, hc⟩ => e ▸ ⟨hc, k, by omega, hm⟩)⟩
theorem Kp.len {k : Nat} {l : List Pnt} (h : Kp k l) (hk : k ≤ 4) : l.length ≤ 12 := by
  have := nodup_le (pts l) PtsAll h.nd (fun p hp => by
    obtain ⟨x, hx, rfl⟩ := List.mem_map.1 hp
    obtain ⟨_, j, hj, hpj⟩ := h.src x hx
    exact pts_all (by omega) hpj)
  simpa [pts, PtsAll, Pts] using this
theorem Kp.size {k : Nat} {l : List Pnt} (h : Kp k l) (hk : k ≤ 4) : ∀ x ∈ l, x.TelemetryMsg.Point.size ≤ maxLen := fun x hx => by
  obtain ⟨_, j, hj, hpj⟩ := h.src x hx
  have := of_decide_eq_true (List.all_eq_true.1 pts_size _ (pts_all (by omega) hpj))
  have : 2 ≤ maxLen := by decide
  omega
theorem PP_snoc (A : List (List Msg)) (o : List Msg) : PP (A ++ [o]) = PP A ++ tks [] o := by
  unfold PP; simp

theorem SecondCollects_true (x0 : List (List Msg)) (x1 : Int) (hx : ∀ l ∈ x0, MsSz l) : m_gridhallkeep4_SecondCollects x0 x1 = some true := by
  rw [← Gd.eq]
  unfold m_gridhallkeep4_SecondCollects
  have hmin : ((min (x0.length : Int) 4 : Int).toNat) ≤ 4 := by omega
  have hL : (slc x0 0 ((min (x0.length : Int) 4 : Int).toNat)).length ≤ 4 := by unfold slc; simp; omega
  have hLs : ∀ l ∈ slc x0 0 ((min (x0.length : Int) 4 : Int).toNat), MsSz l := fun l hl => hx l (by unfold slc at hl; exact List.mem_of_mem_drop (List.mem_of_mem_take hl))
  refine Gd.nd (by omega) ?_
  generalize slc x0 0 ((min (x0.length : Int) 4 : Int).toNat) = L at hL hLs ⊢
  refine Gd.nd (by omega) ?_
  have hn0 : m_telemetry_New 0 = (some ⟨0, []⟩, 0) := rfl
  rw [hn0]
  simp only [optC, Int.toNat_natCast]
  refine Gd.ite (fun h => by simp at h) (fun _ => ?_)
  refine Gd.forI (fun i ys (s : Int × List Pnt × List (List Msg)) => i + ys.length = L.length ∧ ∃ A, s.2.2 = A ++ List.replicate ys.length [] ∧ A.length = i ∧ (∀ o ∈ A, MsSz o ∧ o.length ≤ 12) ∧ s.2.1 = PP A ∧ Kp i s.2.1) ?_ ?_ L 0 _ ⟨by simp, [], by simp, rfl, by simp, rfl, by simp [pts], by simp⟩
  · rintro i y ys ⟨n, l, own⟩ nn ⟨hi, A, hA, hAl, hAo, hl, hk⟩ hn
    simp only at hA hl hk
    dsimp only
    simp only [List.length_cons] at hi
    unfold m_gridhallkeep4_SecondCollects_b3
    have hy : (slc y 0 ((min (y.length : Int) 6 : Int).toNat)).length ≤ 6 := by unfold slc; simp; omega
    refine Gd.nd (by omega) ?_
    generalize slc y 0 ((min (y.length : Int) 6 : Int).toNat) = Y at hy ⊢
    refine Gd.seen (fun pre (s : Int × List Pnt × List (List Msg)) => ∃ o, s.2.2 = A ++ o :: List.replicate ys.length [] ∧ o.length = pre.length ∧ MsSz o ∧ s.2.1 = PP A ++ tks [] o ∧ Kp (i + 1) s.2.1) ?_ ?_ _ ⟨[], hA, rfl, fun m hm => by simp at hm, by rw [hl]; simp [tks], hk.mono (by omega)⟩
    · rintro i2 z ⟨n, l2, own2⟩ nx pre hpre ⟨o, ho, hol, hos, hl2, hk2⟩ hn2
      simp only at ho hl2 hk2
      dsimp only
      obtain ⟨hpl, _, _⟩ := pre_lt hpre
      unfold m_gridhallkeep4_SecondCollects_b4
      obtain ⟨c, hcut, c0, c1⟩ := tcut z.Number 0 2 (by omega) (by omega) (by omega)
      obtain ⟨a, b, ha, hb, hab, hP⟩ := pts_made' (k := i) (j := c.toNat) (by omega) (by omega)
      refine Gd.ix (by omega) (show stn[((i : Nat) : Int).toNat]? = some a by rw [Int.toNat_natCast]; exact ha) (Gd.bind_eq hcut (Gd.ix c0 hb (Gd.nd ?_ ?_)))
      · have : 2 ≤ maxLen := by decide
        omega
      have hget : own2[((i : Nat) : Int).toNat]? = some o := by
        rw [ho, Int.toNat_natCast, ← hAl]; simp
      refine Gd.ix (by omega) hget (Gd.nd (by omega) ?_)
      generalize hm : S_api_TelemetryMsg.mk (a ++ b) z.Number z.Time z.Value = m
      have hmp : m.Point ∈ Pts i := by rw [← hm]; exact hP
      have hms : m.Point.size ≤ maxLen := by
        have := of_decide_eq_true (List.all_eq_true.1 pts_size _ (pts_all (by omega) hmp))
        have : 2 ≤ maxLen := by decide
        omega
      have hlen := hk2.len (by omega)
      refine Gd.bnd (take_tk n l2 m hms (by omega)) (fun r ⟨_, hr⟩ => hn2 _ ⟨o ++ [m], ?_, by simp [hol], fun q hq => ?_, ?_, ?_⟩)
      · show own2.set ((i : Nat) : Int).toNat (o ++ [m]) = _
        rw [ho, Int.toNat_natCast, ← hAl]; simp
      · rcases List.mem_append.1 hq with hq | hq
        · exact hos q hq
        · rw [List.mem_singleton.1 hq]; exact hms
      · show r.2.2.all_ = _
        rw [hr, hl2, tks_snoc, tk_app]
        intro x hx
        obtain ⟨_, j, hj, hpj⟩ := (hl ▸ hk).src x hx
        exact pts_apart' hj (by omega) hpj hmp
      · show Kp (i + 1) r.2.2.all_
        rw [hr]; exact hk2.tk hmp
    · rintro ⟨n, l2, own2⟩ ⟨o, ho, hol, hos, hl2, hk2⟩
      simp only at ho hl2 hk2
      refine hn _ ⟨by omega, A ++ [o], by simpa using ho, by simp [hAl], fun q hq => ?_, by rw [PP_snoc]; exact hl2, hk2⟩
      rcases List.mem_append.1 hq with hq | hq
      · exact hAo q hq
      · rw [List.mem_singleton.1 hq]; exact ⟨hos, by omega⟩
  · rintro i ⟨n, l, own⟩ ⟨hi, A, hA, hAl, hAo, hl, hk⟩
    simp only [List.length_nil, List.replicate_zero, List.append_nil] at hA hl hk hi
    subst hA; subst hl
    dsimp only
    have hi4 : i ≤ 4 := by omega
    have hlen := hk.len hi4
    obtain ⟨r, hr, hrk⟩ := collect_own own hAo (by omega) hk.nd (fun x hx => ⟨(hk.src x hx).1, hk.size hi4 x hx⟩) hlen
    obtain ⟨r2, hr2⟩ := collect_gd L hLs hL
    obtain ⟨c, hcut, c0, c1⟩ := tcut x1 1 8 (by omega) (by omega) (by omega)
    refine Gd.bind_eq hcut (Gd.bind_eq (hrk c c0 c1) (Gd.bind_eq (hrk 1 (by omega) (by omega)) (Gd.bind_eq hcut (Gd.bind_eq (hr2 c c0 c1) (Gd.bind_eq (hr2 1 (by omega) (by omega)) (Gd.bind_eq collectFact_true ?_))))))
    have triv : ∀ {p q : Option Bool} {Q : Bool → Prop}, Gd p Q → Gd (if decide ((0 : Int) = 0) = true then p else q) Q := fun h => h
    refine Gd.ite (fun _ => triv (triv (triv (triv ?_)))) (fun h => by simp at h)
    refine Gd.bind_eq (tequal_refl r) (Gd.ite (fun _ => ?_) (fun h => by simp at h))
    refine Gd.bnd (list_gd n (PP own) hlen) (fun s hs => ?_)
    have e : r = s := same_own hk.nd hr hs
    subst e
    exact Gd.bind_eq (tequal_refl r) (Gd.ite (fun _ => Gd.bind_eq (tequal_refl r2) (Gd.ret rfl)) (fun h => by simp at h))
end Go.Sim
end
