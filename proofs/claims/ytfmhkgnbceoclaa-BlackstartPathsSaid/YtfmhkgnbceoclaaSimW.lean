/-
  How models are reasoned about: what a model answers, rule by rule.
-/
import Derived.Test.YtfmhkgnbceoclaaSimV
namespace Go.Sim
open Go Go.RowKit
set_option linter.unusedVariables false
set_option linter.unusedSimpArgs false
set_option linter.unusedSectionVars false
set_option linter.unnecessarySimpa false

/-- The model answers, and the answer is as wanted. -/
def Gd {R : Type} (o : Option R) (Q : R → Prop) : Prop := ∃ r, o = some r ∧ Q r

section
variable {R α β σ : Type} {Q Q' : R → Prop}
theorem Gd.mono {o : Option R} (h : Gd o Q) (k : ∀ r, Q r → Q' r) : Gd o Q' := by
  obtain ⟨r, e, q⟩ := h; exact ⟨r, e, k r q⟩
theorem Gd.ret {r : R} (h : Q r) : Gd (some r) Q := ⟨r, rfl, h⟩
theorem Gd.nd {p : Prop} [Decidable p] {k : Option R} (h : p) (hk : Gd k Q) : Gd (need p k) Q := by
  unfold Sim.need; rw [if_pos h]; exact hk
theorem Gd.bnd {o : Option α} {k : α → Option R} {P : α → Prop} (h : Gd o P) (hk : ∀ a, P a → Gd (k a) Q) : Gd (o.bind k) Q := by
  obtain ⟨a, rfl, q⟩ := h; exact hk a q
theorem Gd.bind_eq {o : Option α} {a : α} {k : α → Option R} (h : o = some a) (hk : Gd (k a) Q) : Gd (o.bind k) Q := by
  subst h; exact hk
theorem Gd.ite {b : Bool} {p q : Option R} (h1 : b = true → Gd p Q) (h2 : b = false → Gd q Q) : Gd (if b = true then p else q) Q := by
  cases b
  · simpa using h2 rfl
  · simpa using h1 rfl
theorem Gd.ix {l : List α} {i : Int} {k : α → Option R} {y : α} (h0 : 0 ≤ i) (hy : l[i.toNat]? = some y) (hk : Gd (k y) Q) : Gd (idx l i k) Q := by
  unfold Sim.idx; rw [if_pos h0, hy]; exact hk
theorem Gd.idxN {l : List α} {i : Nat} {k : α → Option R} (h : i < l.length) (hk : Gd (k l[i]) Q) : Gd (Sim.idx l (i : Int) k) Q :=
  Gd.ix (by omega) (List.getElem?_eq_getElem (by simpa using h)) hk
theorem Gd.opt {o : Option α} {a : Option R} {f : α → Option R} (h1 : o = none → Gd a Q) (h2 : ∀ s, o = some s → Gd (f s) Q) : Gd (optC o a f) Q := by
  cases o with
  | none => exact h1 rfl
  | some s => exact h2 s rfl
theorem Gd.forI {body : Nat → α → σ → (σ → Option R) → Option R} {k : σ → Option R} (I : Nat → List α → σ → Prop)
    (hb : ∀ i y ys s n, I i (y :: ys) s → (∀ s', I (i + 1) ys s' → Gd (n s') Q) → Gd (body i y s n) Q) (hk : ∀ i s, I i [] s → Gd (k s) Q) :
    ∀ (l : List α) (i : Nat) (s : σ), I i l s → Gd (forI body k i l s) Q
  | [], i, s, h => hk i s h
  | y :: ys, i, s, h => hb i y ys s _ h (fun s' h' => Gd.forI I hb hk ys (i + 1) s' h')
theorem Gd.forN {body : Nat → σ → (σ → Option R) → Option R} {k : σ → Option R} (I : Nat → Nat → σ → Prop)
    (hb : ∀ m i s n, I (m + 1) i s → (∀ s', I m (i + 1) s' → Gd (n s') Q) → Gd (body i s n) Q) (hk : ∀ i s, I 0 i s → Gd (k s) Q) :
    ∀ (m i : Nat) (s : σ), I m i s → Gd (forN body k m i s) Q
  | 0, i, s, h => hk i s h
  | m + 1, i, s, h => hb m i s _ h (fun s' h' => Gd.forN I hb hk m (i + 1) s' h')
theorem Gd.loopF {body : σ → (σ → Option R) → Option R} (I : σ → Prop) (μ : σ → Nat)
    (hb : ∀ s n, I s → (∀ s', I s' → μ s' < μ s → Gd (n s') Q) → Gd (body s n) Q) :
    ∀ (m : Nat) (s : σ), I s → μ s < m → Gd (loopF body m s) Q
  | 0, s, _, h => by omega
  | m + 1, s, hI, h => hb s _ hI (fun s' h' hlt => Gd.loopF I μ hb m s' h' (by omega))
theorem Gd.eq {o : Option R} {r : R} : Gd o (fun x => x = r) ↔ o = Option.some r := by
  constructor
  · rintro ⟨x, h, rfl⟩; exact h
  · intro h; exact ⟨r, h, rfl⟩
end
theorem wrap_id {n : Int} (h : -9223372036854775808 ≤ n ∧ n ≤ 9223372036854775807) : IntKind.i64.wrap n = n := i64_of h.1 h.2
end Go.Sim
