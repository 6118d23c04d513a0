/-
  Conditions of rules, in plain Lean: what is checked is a tree, laid out node by node.
-/
import Derived.Test.YtcepgfpbmembnaaDoorTxtB
namespace Go.Sim
open Go
set_option linter.unusedVariables false
set_option linter.unusedSimpArgs false
set_option linter.unusedSectionVars false
set_option linter.unnecessarySimpa false

abbrev Node := S_api_InterlockNode
abbrev Rule := S_api_InterlockRule
theorem get_of {α : Type} {l : List α} {i : Nat} (h : i < l.length) : ∃ x, l[i]? = some x := ⟨_, List.getElem?_eq_getElem h⟩
theorem lt_of {α : Type} {l : List α} {i : Nat} {x : α} (h : l[i]? = some x) : i < l.length := (List.getElem?_eq_some_iff.1 h).1
theorem drop_cons {α : Type} {l : List α} {k : Nat} {y : α} {ys : List α} (h : y :: ys = l.drop k) : l[k]? = some y ∧ ys = l.drop (k + 1) := by
  constructor
  · have := congrArg (·[0]?) h
    simpa [List.getElem?_drop] using this.symm
  · have := congrArg (List.drop 1) h
    simpa using this

/-! ### Names -/
def Nm (s : ByteArray) : Prop := m_netmodel_Name s = some true
theorem name_gd (s : ByteArray) (h : s.size ≤ maxLen) : Gd (m_netmodel_Name s) (fun b => b = true → 1 ≤ s.size ∧ s.size ≤ 8 ∧ (∀ c ∈ bl s, 48 ≤ c.toNat) ∧ ∀ c, (bl s)[0]? = some c → c.toNat ≤ 90) := by
  unfold m_netmodel_Name
  refine Gd.nd h (Gd.forI (fun i l _ => ∃ a b : List UInt8, bl s = a ++ b ∧ a.length = i ∧ l = b.map (fun c : UInt8 => (⟨c.toNat⟩ : U8)) ∧ (∀ c ∈ a, 48 ≤ c.toNat) ∧ ∀ c, a[0]? = some c → c.toNat ≤ 90) (fun i y ys z n hI hn => ?_) (fun i z hI => ?_) _ _ _ ⟨[], bl s, rfl, rfl, rfl, by simp, by simp⟩)
  · obtain ⟨a, b, h1, hi, h2, h3, h4⟩ := hI
    unfold m_netmodel_Name_b1
    refine Gd.ite (fun _ => Gd.ret (fun h => by cases h)) (fun hc => hn _ ?_)
    cases b with
    | nil => cases h2
    | cons c b =>
      simp only [List.map_cons, List.cons.injEq] at h2
      obtain ⟨rfl, rfl⟩ := h2
      refine ⟨a ++ [c], b, by rw [h1]; simp, by simp [hi], rfl, fun x hx => ?_, fun x hx => ?_⟩
      · rcases List.mem_append.1 hx with hx | hx
        · exact h3 x hx
        · rw [List.mem_singleton] at hx; subst hx
          simp at hc
          omega
      · cases a with
        | nil =>
          simp at hx hi; subst hx; subst hi
          simp at hc
          omega
        | cons a0 a => exact h4 x (by simpa using hx)
  · obtain ⟨a, b, h1, hi, h2, h3, h4⟩ := hI
    have hb : b = [] := by cases b with
      | nil => rfl
      | cons _ _ => cases h2
    subst hb
    rw [List.append_nil] at h1
    refine Gd.ret (fun h => ?_)
    simp only [Bool.and_eq_true, decide_eq_true_eq] at h
    exact ⟨by omega, by omega, by rw [h1]; exact h3, by rw [h1]; exact h4⟩
theorem nm_facts {s : ByteArray} (h : Nm s) : 1 ≤ s.size ∧ s.size ≤ 8 ∧ (∀ c ∈ bl s, 48 ≤ c.toNat) ∧ ∀ c, (bl s)[0]? = some c → c.toNat ≤ 90 := by
  by_cases hs : s.size ≤ maxLen
  · obtain ⟨b, hb, hq⟩ := name_gd s hs
    rw [show m_netmodel_Name s = some true from h] at hb; cases hb
    exact hq rfl
  · have h : m_netmodel_Name s = some true := h
    unfold m_netmodel_Name need at h
    rw [if_neg hs] at h; cases h
theorem name_some (s : ByteArray) (h : s.size ≤ maxLen) : ∃ b, m_netmodel_Name s = some b := by
  obtain ⟨b, hb, _⟩ := name_gd s h; exact ⟨b, hb⟩

/-! ### Trees -/
inductive Tr where
  | alw | nev
  | opn (s : ByteArray) | cls (s : ByteArray)
  | not (a : Tr)
  | and (a b : Tr) | or (a b : Tr)
namespace Tr
def sz : Tr → Nat
  | not a => a.sz + 1
  | and a b => a.sz + b.sz + 1
  | or a b => a.sz + b.sz + 1
  | _ => 1
def root (o : Nat) : Tr → Node
  | alw => ⟨0, ⟨#[]⟩, 0, 0⟩
  | nev => ⟨1, ⟨#[]⟩, 0, 0⟩
  | opn s => ⟨2, s, 0, 0⟩
  | cls s => ⟨3, s, 0, 0⟩
  | not a => ⟨4, ⟨#[]⟩, (o : Int) + a.sz - 1, 0⟩
  | and a b => ⟨5, ⟨#[]⟩, (o : Int) + a.sz - 1, (o : Int) + a.sz + b.sz - 1⟩
  | or a b => ⟨6, ⟨#[]⟩, (o : Int) + a.sz - 1, (o : Int) + a.sz + b.sz - 1⟩
def flat (o : Nat) : Tr → List Node
  | not a => a.flat o ++ [root o (not a)]
  | and a b => a.flat o ++ b.flat (o + a.sz) ++ [root o (and a b)]
  | or a b => a.flat o ++ b.flat (o + a.sz) ++ [root o (or a b)]
  | t => [root o t]
def Ok : Tr → Prop
  | opn s => Nm s
  | cls s => Nm s
  | not a => a.Ok
  | and a b => a.Ok ∧ b.Ok
  | or a b => a.Ok ∧ b.Ok
  | _ => True
theorem pos : ∀ t : Tr, 1 ≤ t.sz
  | alw | nev | opn _ | cls _ => Nat.le_refl _
  | not a | and a b | or a b => by simp [sz]
theorem flat_len : ∀ (t : Tr) (o : Nat), (t.flat o).length = t.sz
  | alw, _ | nev, _ | opn _, _ | cls _, _ => rfl
  | not a, o => by simp [flat, sz, flat_len a]
  | and a b, o => by simp [flat, sz, flat_len a, flat_len b]; omega
  | or a b, o => by simp [flat, sz, flat_len a, flat_len b]; omega
end Tr
open Tr

/-! ### One node -/
def Leaf (y : Node) : Prop := y.A = 0 ∧ y.B_ = 0 ∧ ((y.Kind = 0 ∨ y.Kind = 1) ∧ y.Name = ⟨#[]⟩ ∨ (y.Kind = 2 ∨ y.Kind = 3) ∧ Nm y.Name)
def Acc (k : Nat) (y : Node) (l : List Int) (v : Int) : Prop :=
  (Leaf y ∧ v = k) ∨ (y.Kind = 4 ∧ y.Name = ⟨#[]⟩ ∧ 1 ≤ k ∧ y.A = (k : Int) - 1 ∧ y.B_ = 0 ∧ l[k - 1]? = some v)
  ∨ ((y.Kind = 5 ∨ y.Kind = 6) ∧ y.Name = ⟨#[]⟩ ∧ 1 ≤ k ∧ y.B_ = (k : Int) - 1 ∧ ∃ p, l[k - 1]? = some p ∧ p ≠ 0 ∧ y.A = p - 1 ∧ l[y.A.toNat]? = some v)
theorem cond_b16 : m_interlock_condition_b16 = m_interlock_condition_b15 := rfl
theorem b15_gd {k : Nat} {l : List Int} {y : Node} {Q : Int → Prop} {nx : List Int → Option Int} (hk : k < l.length) (h40 : k ≤ 40) (hl : ∀ j < k, ∃ v, l[j]? = some v ∧ 0 ≤ v ∧ v ≤ j)
    (hname : y.Kind = 0 ∨ y.Kind = 1 ∨ y.Kind = 5 ∨ y.Kind = 6 → y.Name = ⟨#[]⟩) (hnm : y.Kind = 2 ∨ y.Kind = 3 → Nm y.Name) (h4 : y.Kind ≠ 4) (h06 : 0 ≤ y.Kind ∧ y.Kind ≤ 6)
    (hrej : (∀ v, ¬ Acc k y l v) → Q 3) (hacc : ∀ v, Acc k y l v → Gd (nx (l.set k v)) Q) (b : Bool) (hb : b = true ↔ y.Kind = 5 ∨ y.Kind = 6) : Gd (m_interlock_condition_b15 l nx y k b) Q := by
  have hw : IntKind.i64.wrap ((k : Int) - 1) = (k : Int) - 1 := wrap_id (by omega)
  have hkn : ((k : Int)).toNat = k := by omega
  unfold m_interlock_condition_b15 m_interlock_condition_b14
  rw [hw, hkn]
  refine Gd.ite (fun h0 => ?_) (fun h0 => ?_)
  · have hk56 := hb.1 h0
    refine Gd.ite (fun h => Gd.ret (hrej fun v hv => ?_)) (fun h1 => ?_)
    · have h : (k : Int) = 0 := by simpa using h
      rcases hv with ⟨⟨_, _, hh⟩, _⟩ | ⟨hh, _⟩ | ⟨_, _, hh, _⟩ <;> omega
    simp only [decide_eq_false_iff_not] at h1
    obtain ⟨p, hp, hp0, hpk⟩ := hl (k - 1) (by omega)
    have hp' : (l.set k (k : Int))[((k : Int) - 1).toNat]? = some p := by
      rw [show ((k : Int) - 1).toNat = k - 1 by omega, List.getElem?_set, if_neg (by omega)]; exact hp
    refine Gd.ite (fun h2 => ?_) (fun h2 => Gd.ret (hrej fun v hv => ?_))
    · simp only [decide_eq_true_eq] at h2
      refine Gd.ix (by omega) hp' (Gd.ite (fun h3 => Gd.ret (hrej fun v hv => ?_)) (fun h3 => ?_))
      · have h3 : p = 0 := by simpa using h3
        rcases hv with ⟨⟨_, _, hh⟩, _⟩ | ⟨hh, _⟩ | ⟨_, _, _, _, q, hq, hq0, _⟩
        · omega
        · omega
        · rw [hp] at hq; cases hq; exact hq0 h3
      simp only [decide_eq_false_iff_not] at h3
      refine Gd.ix (by omega) hp' ?_
      rw [wrap_id (n := p - 1) (by omega)]
      refine Gd.ite (fun h4' => Gd.ret (hrej fun v hv => ?_)) (fun h4' => ?_)
      · have h4' : ¬ y.A = p - 1 := by simpa using h4'
        rcases hv with ⟨⟨_, _, hh⟩, _⟩ | ⟨hh, _⟩ | ⟨_, _, _, _, q, hq, hq0, hA, _⟩
        · omega
        · omega
        · rw [hp] at hq; cases hq; exact h4' hA
      have h4' : y.A = p - 1 := by simpa using h4'
      obtain ⟨q, hq, _, _⟩ := hl y.A.toNat (by omega)
      have hq' : (l.set k (k : Int))[y.A.toNat]? = some q := by
        rw [List.getElem?_set, if_neg (by omega)]; exact hq
      refine Gd.ix (by omega) hq' (Gd.idxN (by simpa using hk) ?_)
      rw [List.set_set]
      exact hacc _ (.inr (.inr ⟨hk56, hname (by omega), by omega, h2, p, hp, h3, h4', hq⟩))
    · have h2 : ¬ y.B_ = (k : Int) - 1 := by simpa using h2
      rcases hv with ⟨⟨_, _, hh⟩, _⟩ | ⟨hh, _⟩ | ⟨_, _, _, hh, _⟩
      · omega
      · omega
      · exact h2 hh
  · have hk56 : ¬ (y.Kind = 5 ∨ y.Kind = 6) := fun h => by rw [hb.2 h] at h0; cases h0
    refine Gd.ite (fun h => Gd.ret (hrej fun v hv => ?_)) (fun h1 => ?_)
    · have h : ¬ y.A = 0 ∨ ¬ y.B_ = 0 := by simpa using h
      rcases hv with ⟨⟨a1, a2, _⟩, _⟩ | ⟨hh, _⟩ | ⟨hh, _⟩
      · exact h.elim (· a1) (· a2)
      · exact h4 hh
      · exact hk56 hh
    · have h1 : y.A = 0 ∧ y.B_ = 0 := by simpa using h1
      refine hacc _ (.inl ⟨⟨h1.1, h1.2, ?_⟩, rfl⟩)
      by_cases h01 : y.Kind = 0 ∨ y.Kind = 1
      · exact .inl ⟨h01, hname (by omega)⟩
      · exact .inr ⟨by omega, hnm (by omega)⟩
theorem node_gd {k : Nat} {l : List Int} {y : Node} {Q : Int → Prop} {nx : List Int → Option Int} (hk : k < l.length) (h40 : k ≤ 40) (hl : ∀ j < k, ∃ v, l[j]? = some v ∧ 0 ≤ v ∧ v ≤ j) (hsz : y.Name.size ≤ maxLen)
    (hrej : (∀ v, ¬ Acc k y l v) → ∀ e, e ≠ 0 → Q e) (hacc : ∀ v, Acc k y l v → Gd (nx (l.set k v)) Q) : Gd (m_interlock_condition_b11 k y l nx) Q := by
  have hkn : ((k : Int)).toNat = k := by omega
  have hw : IntKind.i64.wrap ((k : Int) - 1) = (k : Int) - 1 := wrap_id (by omega)
  unfold m_interlock_condition_b11
  rw [cond_b16]
  refine Gd.ite (fun h => Gd.ret (hrej (fun v hv => ?_) _ (by omega))) (fun h06 => ?_)
  · have h : y.Kind < 0 ∨ 6 < y.Kind := by simpa using h
    rcases hv with ⟨⟨_, _, hh⟩, _⟩ | ⟨hh, _⟩ | ⟨hh, _⟩ <;> omega
  have h06 : 0 ≤ y.Kind ∧ y.Kind ≤ 6 := by simp at h06; omega
  have rest : (y.Kind = 0 ∨ y.Kind = 1 ∨ y.Kind = 4 ∨ y.Kind = 5 ∨ y.Kind = 6 → y.Name = ⟨#[]⟩) → (y.Kind = 2 ∨ y.Kind = 3 → Nm y.Name) →
      Gd (idx l (k : Int) fun y926 => if decide (y.Kind = 4) then (if ((decide ((k : Int) = 0)) || (!decide (y.A = (IntKind.i64.wrap ((k : Int) - 1))))) || (!decide (y.B_ = 0)) then (some 3) else (idx (l.set (((k : Int) : Int).toNat) ((k : Int))) y.A fun y939 => idx (l.set (((k : Int) : Int).toNat) ((k : Int))) (k : Int) fun y943 => m_interlock_condition_b14 nx ((l.set (((k : Int) : Int).toNat) ((k : Int))).set (((k : Int) : Int).toNat) y939))) else (if decide (y.Kind = 5) then (m_interlock_condition_b15 l nx y k (decide (y.Kind = 5))) else (m_interlock_condition_b15 l nx y k (decide (y.Kind = 6))))) Q := fun hname hnm => by
    rw [hw, hkn]
    refine Gd.idxN hk (Gd.ite (fun h4 => ?_) (fun h4 => ?_))
    · have h4 : y.Kind = 4 := by simpa using h4
      refine Gd.ite (fun h5 => Gd.ret (hrej (fun v hv => ?_) _ (by omega))) (fun h5 => ?_)
      · have h5 : ((k : Int) = 0 ∨ ¬ y.A = (k : Int) - 1) ∨ ¬ y.B_ = 0 := by simpa using h5
        rcases hv with ⟨⟨_, _, hh⟩, _⟩ | ⟨_, _, a1, a2, a3, _⟩ | ⟨hh, _⟩ <;> omega
      · simp only [Bool.or_eq_false_iff, decide_eq_false_iff_not, Bool.not_eq_false', decide_eq_true_eq] at h5
        obtain ⟨q, hq, _, _⟩ := hl y.A.toNat (by omega)
        have hq' : (l.set k (k : Int))[y.A.toNat]? = some q := by
          rw [List.getElem?_set, if_neg (by omega)]; exact hq
        refine Gd.ix (by omega) hq' (Gd.idxN (by simpa using hk) ?_)
        unfold m_interlock_condition_b14
        rw [List.set_set]
        refine hacc _ (.inr (.inl ⟨h4, hname (by omega), by omega, h5.1.2, h5.2, ?_⟩))
        rw [show y.A.toNat = k - 1 by omega] at hq; exact hq
    · have h4 : ¬ y.Kind = 4 := by simpa using h4
      have r3 : (∀ v, ¬ Acc k y l v) → Q 3 := fun h => hrej h 3 (by omega)
      refine Gd.ite (fun h5 => ?_) (fun h5 => ?_)
      · have h5' : y.Kind = 5 := by simpa using h5
        exact b15_gd hk h40 hl (fun h => hname (by omega)) hnm h4 h06 r3 hacc _ (by rw [h5]; simp [h5'])
      · have h5' : ¬ y.Kind = 5 := by simpa using h5
        exact b15_gd hk h40 hl (fun h => hname (by omega)) hnm h4 h06 r3 hacc _ (by simp [h5'])
  refine Gd.ite (fun h23 => ?_) (fun h23 => ?_)
  · have h23 : y.Kind = 2 ∨ y.Kind = 3 := by simpa using h23
    obtain ⟨b, hb⟩ := name_some y.Name hsz
    refine Gd.bind_eq hb (Gd.ite (fun h => Gd.ret (hrej (fun v hv => ?_) _ (by omega))) (fun h => rest (fun h => by omega) (fun _ => ?_)))
    · have h : b = false := by simpa using h
      rcases hv with ⟨⟨_, _, hh⟩, _⟩ | ⟨hh, _⟩ | ⟨hh, _⟩
      · rcases hh with ⟨hh, _⟩ | ⟨_, hh⟩
        · omega
        · have hh : m_netmodel_Name y.Name = some true := hh
          rw [hb, h] at hh; cases hh
      · omega
      · omega
    · have h : b = true := by simpa using h
      rw [h] at hb; exact hb
  · have h23 : ¬ y.Kind = 2 ∧ ¬ y.Kind = 3 := by simpa using h23
    refine Gd.ite (fun h => Gd.ret (hrej (fun v hv => ?_) _ (by omega))) (fun h => rest (fun _ => by simpa using h) (fun h => by omega))
    have h : ¬ y.Name = ⟨#[]⟩ := by simpa using h
    rcases hv with ⟨⟨_, _, hh⟩, _⟩ | ⟨_, hh, _⟩ | ⟨_, hh, _⟩
    · rcases hh with ⟨_, hh⟩ | ⟨hh, _⟩
      · exact h hh
      · omega
    · exact h hh
    · exact h hh
end Go.Sim
