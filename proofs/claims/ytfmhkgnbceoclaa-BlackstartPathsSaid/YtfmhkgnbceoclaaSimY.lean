/-
  More rules for models; the order of texts.
-/
import Derived.Test.YtfmhkgnbceoclaaSimX
import Derived.Test.YtfmhkgnbceoclaaSimW
namespace Go.Sim
open Go Go.RowKit
set_option linter.unusedVariables false
set_option linter.unusedSimpArgs false
set_option linter.unusedSectionVars false
set_option linter.unnecessarySimpa false

/-- A loop that looks at each element: what is known of those seen. -/
theorem Gd.seen {R α σ : Type} {Q : R → Prop} {body : Nat → α → σ → (σ → Option R) → Option R} {k : σ → Option R} {l : List α} (I : List α → σ → Prop)
    (hb : ∀ i y s n pre, (∃ post, l = pre ++ y :: post) → I pre s → (∀ s', I (pre ++ [y]) s' → Gd (n s') Q) → Gd (body i y s n) Q) (hk : ∀ s, I l s → Gd (k s) Q) (s : σ) (hs : I [] s) : Gd (Sim.forI body k 0 l s) Q := by
  have key : ∀ (ys pre : List α) (i : Nat) (s : σ), l = pre ++ ys → I pre s → Gd (Sim.forI body k i ys s) Q := by
    intro ys
    induction ys with
    | nil => intro pre i s hl hs; rw [List.append_nil] at hl; subst hl; exact hk s hs
    | cons y ys ih =>
      intro pre i s hl hs
      exact hb i y s _ pre ⟨ys, hl⟩ hs (fun s' hs' => ih (pre ++ [y]) (i + 1) s' (by rw [hl]; simp) hs')
  exact key l [] 0 s rfl hs
theorem pre_lt {α : Type} {l pre : List α} {y : α} (h : ∃ post, l = pre ++ y :: post) : pre.length < l.length ∧ y ∈ l ∧ ∀ x ∈ pre, x ∈ l := by
  obtain ⟨post, rfl⟩ := h
  exact ⟨by simp, by simp, fun x hx => List.mem_append_left _ hx⟩

theorem u8_tri (a b : UInt8) : (a < b ∧ ¬ b < a ∧ a ≠ b) ∨ (a = b ∧ ¬ a < b ∧ ¬ b < a) ∨ (b < a ∧ ¬ a < b ∧ a ≠ b) := by
  simp only [UInt8.lt_iff_toNat_lt, ← UInt8.toNat_inj, ne_eq]; omega
theorem bl_trans : ∀ (x y z : List UInt8), Op.bytesLess x y = true → Op.bytesLess y z = true → Op.bytesLess x z = true
  | _, _, [], _, h => by cases ‹List UInt8› <;> simp [Op.bytesLess] at h
  | [], _, _ :: _, _, _ => rfl
  | _ :: _, [], _ :: _, h, _ => by simp [Op.bytesLess] at h
  | a :: x, b :: y, c :: z, h1, h2 => by
    simp only [Op.bytesLess, Bool.or_eq_true, decide_eq_true_eq, Bool.and_eq_true, beq_iff_eq] at h1 h2 ⊢
    rcases h1 with h1 | ⟨rfl, h1⟩
    · rcases h2 with h2 | ⟨rfl, h2⟩
      · left; rw [UInt8.lt_iff_toNat_lt] at *; omega
      · exact .inl h1
    · rcases h2 with h2 | ⟨rfl, h2⟩
      · exact .inl h2
      · exact .inr ⟨rfl, bl_trans x y z h1 h2⟩
theorem bl_irr : ∀ x : List UInt8, Op.bytesLess x x = false
  | [] => rfl
  | a :: x => by simp [Op.bytesLess, bl_irr x]
theorem ltS_irr (a : ByteArray) : ltS a a = false := bl_irr _
theorem ltS_trans {a b c : ByteArray} (h1 : ltS a b = true) (h2 : ltS b c = true) : ltS a c = true := bl_trans _ _ _ h1 h2
theorem ba_toList {a b : ByteArray} (h : a.toList = b.toList) : a = b := by
  rw [ByteArray.toList_eq, ByteArray.toList_eq] at h
  cases a; cases b
  simp only [Array.toList_inj] at h
  rw [h]
theorem ltS_tri (a b : ByteArray) : ltS a b = true ∨ a = b ∨ ltS b a = true := by
  unfold ltS
  cases h : Op.bytesLess a.toList b.toList
  · right
    by_cases e : a.toList = b.toList
    · exact .inl (ba_toList e)
    · right
      rw [← blt_total, h, beq_false_of_ne e]; rfl
  · exact .inl rfl
theorem ltS_asym {a b : ByteArray} (h : ltS a b = true) : ltS b a = false := by
  cases e : ltS b a
  · rfl
  · have := ltS_trans h e; rw [ltS_irr] at this; cases this
/-- not greater -/
def leS (a b : ByteArray) : Prop := ltS b a = false
theorem leS_trans {a b c : ByteArray} (h1 : leS a b) (h2 : leS b c) : leS a c := by
  unfold leS at *
  cases e : ltS c a
  · rfl
  · rcases ltS_tri a b with h | rfl | h
    · have := ltS_trans e h; rw [h2] at this; cases this
    · rw [h2] at e; cases e
    · rw [h1] at h; cases h
theorem leS_anti {a b : ByteArray} (h1 : leS a b) (h2 : leS b a) : a = b := by
  unfold leS at *
  rcases ltS_tri a b with h | h | h
  · rw [h2] at h; cases h
  · exact h
  · rw [h1] at h; cases h
theorem leS_refl (a : ByteArray) : leS a a := ltS_irr a
theorem leS_total (a b : ByteArray) : leS a b ∨ leS b a := by
  unfold leS
  cases h : ltS b a
  · exact .inl rfl
  · exact .inr (ltS_asym h)
theorem leastS : ∀ (l : List ByteArray), l ≠ [] → ∃ m ∈ l, ∀ z ∈ l, leS m z
  | [a], _ => ⟨a, List.mem_singleton_self _, fun z hz => by simp at hz; subst hz; exact leS_refl _⟩
  | a :: b :: l, _ => by
    obtain ⟨m, hm, h⟩ := leastS (b :: l) (by simp)
    rcases leS_total a m with hle | hle
    · refine ⟨a, List.mem_cons_self .., fun z hz => ?_⟩
      rcases List.mem_cons.1 hz with rfl | hz
      · exact leS_refl _
      · exact leS_trans hle (h z hz)
    · refine ⟨m, List.mem_cons_of_mem _ hm, fun z hz => ?_⟩
      rcases List.mem_cons.1 hz with rfl | hz
      · exact hle
      · exact h z hz
theorem nodup_le {α : Type} [DecidableEq α] : ∀ (a b : List α), a.Nodup → (∀ x ∈ a, x ∈ b) → a.length ≤ b.length
  | [], _, _, _ => Nat.zero_le _
  | x :: xs, b, hn, h => by
    rw [List.nodup_cons] at hn
    have hx := h x (List.mem_cons_self ..)
    have h1 := nodup_le xs (b.erase x) hn.2 (fun y hy => (List.mem_erase_of_ne (fun e : y = x => hn.1 (by rw [← e]; exact hy))).2 (h y (List.mem_cons_of_mem _ hy)))
    rw [List.length_erase_of_mem hx] at h1
    have : 0 < b.length := List.length_pos_of_mem hx
    simp only [List.length_cons]; omega
end Go.Sim
