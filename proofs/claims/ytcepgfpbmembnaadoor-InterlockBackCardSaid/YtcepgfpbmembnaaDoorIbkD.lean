/-
  A condition is accepted just if it is a tree, laid out node by node.
-/
import Derived.Test.YtcepgfpbmembnaaDoorIbkC
namespace Go.Sim
open Go
set_option linter.unusedVariables false
set_option linter.unusedSimpArgs false
set_option linter.unusedSectionVars false
set_option linter.unnecessarySimpa false
open Tr

def SegL (c : List Node) (s : Nat) (L : List Node) : Prop := ∀ i x, L[i]? = some x → c[s + i]? = some x
theorem SegL.app {c : List Node} {s : Nat} {a b : List Node} (h1 : SegL c s a) (h2 : SegL c (s + a.length) b) : SegL c s (a ++ b) := fun i x hx => by
  by_cases hi : i < a.length
  · rw [List.getElem?_append_left hi] at hx; exact h1 i x hx
  · rw [List.getElem?_append_right (by omega)] at hx
    have := h2 _ _ hx
    rwa [show s + a.length + (i - a.length) = s + i by omega] at this
theorem SegL.one {c : List Node} {s : Nat} {y : Node} (h : c[s]? = some y) : SegL c s [y] := fun i x hx => by
  have hi := lt_of hx
  have : i = 0 := by simpa using hi
  subst this
  simp at hx; subst hx; simpa using h
structure TI (c : List Node) (k : Nat) (l : List Int) : Prop where
  len : l.length = c.length
  tr : ∀ j < k, ∃ (s : Nat) (t : Tr), l[j]? = some (s : Int) ∧ t.Ok ∧ s + t.sz = j + 1 ∧ SegL c s (t.flat s)
theorem TI.set {c : List Node} {k : Nat} {l : List Int} (h : TI c k l) (hk : k < c.length) {s : Nat} {t : Tr} (h1 : t.Ok) (h2 : s + t.sz = k + 1) (h3 : SegL c s (t.flat s)) : TI c (k + 1) (l.set k (s : Int)) := by
  refine ⟨by simp [h.len], fun j hj => ?_⟩
  by_cases e : j = k
  · subst e
    exact ⟨s, t, by rw [List.getElem?_set_self (by rw [h.len]; exact hk)], h1, h2, h3⟩
  · obtain ⟨s', t', q1, q2⟩ := h.tr j (by omega)
    exact ⟨s', t', by rw [List.getElem?_set_ne (by omega)]; exact q1, q2⟩
theorem TI.next {c : List Node} {k : Nat} {l : List Int} {y : Node} {v : Int} (h : TI c k l) (hy : c[k]? = some y) (ha : Acc k y l v) : TI c (k + 1) (l.set k v) := by
  have hk := lt_of hy
  have one : ∀ t : Tr, t.Ok → t.sz = 1 → t.flat k = [y] → TI c (k + 1) (l.set k (k : Int)) := fun t h1 h2 h3 =>
    h.set hk h1 (by omega) (by rw [h3]; exact SegL.one hy)
  cases y with
  | mk K N A B =>
  rcases ha with ⟨⟨hA, hB, hh⟩, rfl⟩ | ⟨hK, hN, hk1, hA, hB, hv⟩ | ⟨hK, hN, hk1, hB, p, hp, hp0, hA, hv⟩
  · simp only at hA hB hh
    subst hA; subst hB
    rcases hh with ⟨rfl | rfl, rfl⟩ | ⟨rfl | rfl, hn⟩
    · exact one .alw trivial rfl rfl
    · exact one .nev trivial rfl rfl
    · exact one (.opn N) hn rfl rfl
    · exact one (.cls N) hn rfl rfl
  · simp only at hK hN hA hB
    subst hK; subst hN; subst hB
    obtain ⟨s, t, q1, q2, q3, q4⟩ := h.tr (k - 1) (by omega)
    rw [q1] at hv; cases hv
    have e : s + (t.flat s).length = k := by rw [flat_len]; omega
    refine h.set hk (t := .not t) q2 (by show s + (t.sz + 1) = k + 1; omega) (q4.app (SegL.one ?_))
    rw [e, hy, hA]
    show some _ = some (S_api_InterlockNode.mk 4 ⟨#[]⟩ ((s : Int) + t.sz - 1) 0)
    congr 2; omega
  · simp only at hK hN hA hB hv
    subst hN
    obtain ⟨s2, t2, q1, q2, q3, q4⟩ := h.tr (k - 1) (by omega)
    rw [q1] at hp; cases hp
    obtain ⟨s1, t1, r1, r2, r3, r4⟩ := h.tr A.toNat (by omega)
    rw [r1] at hv; cases hv
    have e2 : s1 + t1.sz = s2 := by omega
    have e : s1 + ((t1.flat s1) ++ (t2.flat (s1 + t1.sz))).length = k := by rw [List.length_append, flat_len, flat_len]; omega
    have hseg : SegL c s1 ((t1.flat s1) ++ (t2.flat (s1 + t1.sz))) := r4.app (by rw [flat_len, e2]; exact q4)
    rcases hK with rfl | rfl
    · refine h.set hk (t := .and t1 t2) ⟨r2, q2⟩ (by show s1 + (t1.sz + t2.sz + 1) = k + 1; omega) (hseg.app (SegL.one ?_))
      rw [e, hy, hA, hB]
      show some _ = some (S_api_InterlockNode.mk 5 ⟨#[]⟩ ((s1 : Int) + t1.sz - 1) ((s1 : Int) + t1.sz + t2.sz - 1))
      congr 2 <;> omega
    · refine h.set hk (t := .or t1 t2) ⟨r2, q2⟩ (by show s1 + (t1.sz + t2.sz + 1) = k + 1; omega) (hseg.app (SegL.one ?_))
      rw [e, hy, hA, hB]
      show some _ = some (S_api_InterlockNode.mk 6 ⟨#[]⟩ ((s1 : Int) + t1.sz - 1) ((s1 : Int) + t1.sz + t2.sz - 1))
      congr 2 <;> omega
theorem TI.bnd {c : List Node} {k : Nat} {l : List Int} (h : TI c k l) : ∀ j < k, ∃ v, l[j]? = some v ∧ 0 ≤ v ∧ v ≤ j := fun j hj => by
  obtain ⟨s, t, q1, q2, q3, q4⟩ := h.tr j hj
  have := t.pos
  exact ⟨_, q1, by omega, by omega⟩
theorem cond_tree (c : List Node) (hc : ∀ x ∈ c, x.Name.size ≤ maxLen) : Gd (m_interlock_condition c) (fun e => e = 0 → ∃ t : Tr, t.Ok ∧ c = t.flat 0 ∧ t.sz ≤ 40) := by
  unfold m_interlock_condition
  refine Gd.ite (fun _ => Gd.ret (by omega)) (fun h40 => ?_)
  simp only [decide_eq_false_iff_not] at h40
  refine Gd.ite (fun _ => Gd.ret (by omega)) (fun h1 => ?_)
  simp only [decide_eq_false_iff_not] at h1
  refine Gd.nd (by omega) ?_
  refine Gd.forI (fun k ys l => ys = c.drop k ∧ TI c k l) ?_ ?_ c 0 _ ⟨by simp, by simp, fun j hj => by omega⟩
  · rintro k y ys l nx ⟨hys, hI⟩ hnx
    obtain ⟨hy, hys'⟩ := drop_cons hys
    have hk := lt_of hy
    exact node_gd (by rw [hI.len]; exact hk) (by omega) hI.bnd (hc y (List.mem_of_getElem? hy)) (fun _ e he h => absurd h he) (fun v hv => hnx _ ⟨hys', hI.next hy hv⟩)
  · rintro k l ⟨hys, hI⟩
    have hk : c.length ≤ k := by
      have := congrArg List.length hys
      simp at this; omega
    have hw : IntKind.i64.wrap ((c.length : Int) - 1) = (c.length : Int) - 1 := wrap_id (by omega)
    rw [hw]
    obtain ⟨s, t, q1, q2, q3, q4⟩ := hI.tr ((c.length : Int) - 1).toNat (by omega)
    refine Gd.ix (by omega) q1 (Gd.ite (fun _ => Gd.ret (by omega)) (fun hs => Gd.ret fun _ => ?_))
    have hs : s = 0 := by simpa using hs
    subst hs
    have hl : (t.flat 0).length = c.length := by rw [flat_len]; omega
    refine ⟨t, q2, ?_, by rw [flat_len] at hl; omega⟩
    apply List.ext_getElem?
    intro i
    by_cases hi : i < c.length
    · obtain ⟨x, hx⟩ := get_of (l := t.flat 0) (i := i) (by omega)
      have := q4 i x hx
      rw [Nat.zero_add] at this
      rw [this, hx]
    · rw [List.getElem?_eq_none (by omega), List.getElem?_eq_none (by omega)]

/-! ### Trees are accepted -/
abbrev CB : Nat → Node → List Int → (List Int → Option Int) → Option Int := fun k y s n => m_interlock_condition_b11 k y s n
theorem one_node {o : Nat} {y : Node} {ys : List Node} {l : List Int} {fin : List Int → Option Int} {Q : Int → Prop} {v : Int} (ho : o < l.length) (h40 : o ≤ 40) (hl : ∀ j < o, ∃ v, l[j]? = some v ∧ 0 ≤ v ∧ v ≤ j) (hsz : y.Name.size ≤ maxLen)
    (ha : Acc o y l v) (hu : ∀ w, Acc o y l w → w = v) (hk : Gd (forI CB fin (o + 1) ys (l.set o v)) Q) : Gd (forI CB fin o (y :: ys) l) Q := by
  show Gd (m_interlock_condition_b11 o y l (fun s => forI CB fin (o + 1) ys s)) Q
  exact node_gd ho h40 hl hsz (fun h => absurd ha (h v)) (fun w hw => by rw [hu w hw]; exact hk)
def After (o n : Nat) (l l' : List Int) : Prop := l'.length = l.length ∧ l'[o + n - 1]? = some (o : Int) ∧ (∀ j < o, l'[j]? = l[j]?) ∧ ∀ j < o + n, ∃ v, l'[j]? = some v ∧ 0 ≤ v ∧ v ≤ j
theorem After.set {o k n : Nat} {l l' : List Int} (h1 : l'.length = l.length) (h3 : ∀ j < o, l'[j]? = l[j]?) (h4 : ∀ j < k, ∃ v, l'[j]? = some v ∧ 0 ≤ v ∧ v ≤ j) (hk : k + 1 = o + n) (hn : 1 ≤ n) (hl : k < l.length) : After o n l (l'.set k (o : Int)) := by
  refine ⟨by simp [h1], ?_, fun j hj => ?_, fun j hj => ?_⟩
  · rw [show o + n - 1 = k by omega, List.getElem?_set_self (by rw [h1]; exact hl)]
  · rw [List.getElem?_set_ne (by omega)]; exact h3 j hj
  · by_cases e : j = k
    · subst e
      exact ⟨_, by rw [List.getElem?_set_self (by rw [h1]; exact hl)], by omega, by omega⟩
    · obtain ⟨v, q⟩ := h4 j (by omega)
      exact ⟨v, by rw [List.getElem?_set_ne (by omega)]; exact q.1, q.2⟩
theorem nm_size {s : ByteArray} (h : Nm s) : s.size ≤ maxLen := by have := (nm_facts h).2.1; simp only [maxLen]; omega
theorem walk_tr : ∀ (t : Tr) (o : Nat) (ys : List Node) (l : List Int) (fin : List Int → Option Int) (Q : Int → Prop), t.Ok → o + t.sz ≤ l.length → l.length ≤ 40 → (∀ j < o, ∃ v, l[j]? = some v ∧ 0 ≤ v ∧ v ≤ j) →
    (∀ l', After o t.sz l l' → Gd (forI CB fin (o + t.sz) ys l') Q) → Gd (forI CB fin o (t.flat o ++ ys) l) Q := by
  have leaf : ∀ (y : Node) (o : Nat) (ys : List Node) (l : List Int) (fin : List Int → Option Int) (Q : Int → Prop), Leaf y → y.Name.size ≤ maxLen → o + 1 ≤ l.length → l.length ≤ 40 → (∀ j < o, ∃ v, l[j]? = some v ∧ 0 ≤ v ∧ v ≤ j) →
      (∀ l', After o 1 l l' → Gd (forI CB fin (o + 1) ys l') Q) → Gd (forI CB fin o (y :: ys) l) Q := fun y o ys l fin Q hy hs h1 h2 h3 hk =>
    one_node (v := o) (by omega) (by omega) h3 hs (.inl ⟨hy, rfl⟩) (fun w hw => by
      obtain ⟨_, _, hh⟩ := hy
      rcases hw with ⟨_, rfl⟩ | ⟨hw, _⟩ | ⟨hw, _⟩
      · rfl
      · omega
      · omega) (hk _ (After.set rfl (fun _ _ => rfl) h3 rfl (by omega) (by omega)))
  intro t
  induction t with
  | alw => exact fun o ys l fin Q _ h1 h2 h3 hk => leaf _ o ys l fin Q ⟨rfl, rfl, .inl ⟨.inl rfl, rfl⟩⟩ (by show 0 ≤ maxLen; omega) h1 h2 h3 hk
  | nev => exact fun o ys l fin Q _ h1 h2 h3 hk => leaf _ o ys l fin Q ⟨rfl, rfl, .inl ⟨.inr rfl, rfl⟩⟩ (by show 0 ≤ maxLen; omega) h1 h2 h3 hk
  | opn s => exact fun o ys l fin Q h0 h1 h2 h3 hk => leaf _ o ys l fin Q ⟨rfl, rfl, .inr ⟨.inl rfl, h0⟩⟩ (nm_size h0) h1 h2 h3 hk
  | cls s => exact fun o ys l fin Q h0 h1 h2 h3 hk => leaf _ o ys l fin Q ⟨rfl, rfl, .inr ⟨.inr rfl, h0⟩⟩ (nm_size h0) h1 h2 h3 hk
  | not a iha =>
    intro o ys l fin Q h0 h1 h2 h3 hk
    have hp := a.pos
    have hz : (Tr.not a).sz = a.sz + 1 := rfl
    rw [hz] at h1 hk
    show Gd (forI CB fin o ((a.flat o ++ [root o (.not a)]) ++ ys) l) Q
    rw [List.append_assoc]
    refine iha o _ l fin Q h0 (by omega) h2 h3 (fun l' ⟨q1, q2, q3, q4⟩ => ?_)
    refine one_node (v := o) (by omega) (by omega) q4 (by show 0 ≤ maxLen; omega) (.inr (.inl ⟨rfl, rfl, by omega, by show (o : Int) + a.sz - 1 = ((o + a.sz : Nat) : Int) - 1; omega, rfl, q2⟩)) (fun w hw => ?_) (hk _ (After.set q1 q3 q4 rfl (by omega) (by omega)))
    rcases hw with ⟨⟨_, _, hw⟩, _⟩ | ⟨_, _, _, _, _, hw⟩ | ⟨hw, _⟩
    · have : (root o (.not a)).Kind = 4 := rfl
      omega
    · rw [q2] at hw; exact (Option.some.inj hw).symm
    · have : (root o (.not a)).Kind = 4 := rfl
      omega
  | and a b iha ihb =>
    intro o ys l fin Q h0 h1 h2 h3 hk
    have hp := a.pos; have hpb := b.pos
    have hz : (Tr.and a b).sz = a.sz + b.sz + 1 := rfl
    rw [hz] at h1 hk
    show Gd (forI CB fin o ((a.flat o ++ b.flat (o + a.sz) ++ [root o (.and a b)]) ++ ys) l) Q
    rw [List.append_assoc, List.append_assoc]
    refine iha o _ l fin Q h0.1 (by omega) h2 h3 (fun l1 ⟨q1, q2, q3, q4⟩ => ?_)
    refine ihb (o + a.sz) _ l1 fin Q h0.2 (by omega) (by omega) q4 (fun l2 ⟨r1, r2, r3, r4⟩ => ?_)
    have hA : ((o : Int) + a.sz - 1).toNat = o + a.sz - 1 := by omega
    have hv : l2[o + a.sz - 1]? = some (o : Int) := by rw [r3 _ (by omega)]; exact q2
    refine one_node (v := o) (by omega) (by omega) r4 (by show 0 ≤ maxLen; omega) (.inr (.inr ⟨.inl rfl, rfl, by omega, by show (o : Int) + a.sz + b.sz - 1 = ((o + a.sz + b.sz : Nat) : Int) - 1; omega, ((o + a.sz : Nat) : Int), r2, by omega, by show (o : Int) + a.sz - 1 = ((o + a.sz : Nat) : Int) - 1; omega, by show l2[((o : Int) + a.sz - 1).toNat]? = _; rw [hA]; exact hv⟩)) (fun w hw => ?_) ?_
    · have hK : (root o (.and a b)).Kind = 5 := rfl
      rcases hw with ⟨⟨_, _, hw⟩, _⟩ | ⟨hw, _⟩ | ⟨_, _, _, _, p, _, _, _, hw⟩
      · omega
      · omega
      · have hw : l2[((o : Int) + a.sz - 1).toNat]? = some w := hw
        rw [hA, hv] at hw; exact (Option.some.inj hw).symm
    · have := hk _ (After.set (o := o) (k := o + a.sz + b.sz) (n := a.sz + b.sz + 1) (l := l) (l' := l2) (r1.trans q1) (fun j hj => (r3 j (by omega)).trans (q3 j hj)) r4 (by omega) (by omega) (by omega))
      rw [show o + (a.sz + b.sz + 1) = o + a.sz + b.sz + 1 by omega] at this
      exact this
  | or a b iha ihb =>
    intro o ys l fin Q h0 h1 h2 h3 hk
    have hp := a.pos; have hpb := b.pos
    have hz : (Tr.or a b).sz = a.sz + b.sz + 1 := rfl
    rw [hz] at h1 hk
    show Gd (forI CB fin o ((a.flat o ++ b.flat (o + a.sz) ++ [root o (.or a b)]) ++ ys) l) Q
    rw [List.append_assoc, List.append_assoc]
    refine iha o _ l fin Q h0.1 (by omega) h2 h3 (fun l1 ⟨q1, q2, q3, q4⟩ => ?_)
    refine ihb (o + a.sz) _ l1 fin Q h0.2 (by omega) (by omega) q4 (fun l2 ⟨r1, r2, r3, r4⟩ => ?_)
    have hA : ((o : Int) + a.sz - 1).toNat = o + a.sz - 1 := by omega
    have hv : l2[o + a.sz - 1]? = some (o : Int) := by rw [r3 _ (by omega)]; exact q2
    refine one_node (v := o) (by omega) (by omega) r4 (by show 0 ≤ maxLen; omega) (.inr (.inr ⟨.inr rfl, rfl, by omega, by show (o : Int) + a.sz + b.sz - 1 = ((o + a.sz + b.sz : Nat) : Int) - 1; omega, ((o + a.sz : Nat) : Int), r2, by omega, by show (o : Int) + a.sz - 1 = ((o + a.sz : Nat) : Int) - 1; omega, by show l2[((o : Int) + a.sz - 1).toNat]? = _; rw [hA]; exact hv⟩)) (fun w hw => ?_) ?_
    · have hK : (root o (.or a b)).Kind = 6 := rfl
      rcases hw with ⟨⟨_, _, hw⟩, _⟩ | ⟨hw, _⟩ | ⟨_, _, _, _, p, _, _, _, hw⟩
      · omega
      · omega
      · have hw : l2[((o : Int) + a.sz - 1).toNat]? = some w := hw
        rw [hA, hv] at hw; exact (Option.some.inj hw).symm
    · have := hk _ (After.set (o := o) (k := o + a.sz + b.sz) (n := a.sz + b.sz + 1) (l := l) (l' := l2) (r1.trans q1) (fun j hj => (r3 j (by omega)).trans (q3 j hj)) r4 (by omega) (by omega) (by omega))
      rw [show o + (a.sz + b.sz + 1) = o + a.sz + b.sz + 1 by omega] at this
      exact this
theorem cond_flat {t : Tr} (h : t.Ok) (hz : t.sz ≤ 40) : m_interlock_condition (t.flat 0) = some 0 := by
  refine Gd.eq.1 ?_
  have hp := t.pos
  unfold m_interlock_condition
  rw [flat_len]
  refine Gd.ite (fun h => by simp at h; omega) (fun _ => Gd.ite (fun h => by simp at h; omega) (fun _ => Gd.nd (by omega) ?_))
  have hw := walk_tr t 0 [] (List.replicate ((t.sz : Int) : Int).toNat (0 : Int)) (fun s748 => idx s748 (IntKind.i64.wrap ((t.sz : Int) - 1)) fun y1069 => if !decide (y1069 = 0) then (some 3) else (some 0)) (fun r => r = 0) h (by simp) (by simp; omega) (fun j hj => by omega) (fun l' ⟨q1, q2, _, _⟩ => by
    have hw : IntKind.i64.wrap ((t.sz : Int) - 1) = (t.sz : Int) - 1 := wrap_id (by omega)
    show Gd (idx l' (IntKind.i64.wrap ((t.sz : Int) - 1)) fun y1069 => if !decide (y1069 = 0) then (some 3) else (some 0)) _
    rw [hw]
    exact Gd.ix (y := 0) (by omega) (by rw [show ((t.sz : Int) - 1).toNat = 0 + t.sz - 1 by omega]; exact q2) (Gd.ite (fun h => by simp at h) (fun _ => Gd.ret rfl)))
  rw [List.append_nil] at hw
  exact hw
end Go.Sim
