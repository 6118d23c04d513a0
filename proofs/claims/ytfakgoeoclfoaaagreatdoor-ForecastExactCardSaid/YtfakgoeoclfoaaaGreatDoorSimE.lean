/-
  A region that draws its order: each operation is shown once, from what it waits for; whatever order is drawn, the facts are the same.
-/
import Derived.Test.YtfakgoeoclfoaaaGreatDoorSimD
namespace Go.Sim
open Go Go.RowKit

theorem lk_append (X Y : Env) (t : Nat) : lk (X ++ Y) t = (lk X t).or (lk Y t) := by
  induction X with
  | nil => simp [lk]
  | cons p X ih =>
    obtain ⟨u, v⟩ := p
    simp only [List.cons_append, lk_cons]
    split <;> simp [ih]

theorem lk_mem {X : Env} {t : Nat} {v : Value} (h : lk X t = some v) : (t, v) ∈ X := by
  induction X with
  | nil => simp [lk] at h
  | cons p X ih =>
    obtain ⟨u, w⟩ := p
    rw [lk_cons] at h
    split at h
    · rename_i e; subst e; cases h; exact List.mem_cons_self ..
    · exact List.mem_cons_of_mem _ (ih h)

theorem Sl.more {N : Nat} {L X : Env} {a : Act} (h : Sl N L a) (hX : ∀ t v, (t, v) ∈ X → a.tmps[t]? = some v) : Sl N (L ++ X) a :=
  ⟨h.size, h.dfr, fun t v ht => by
    rw [lk_append] at ht
    cases hl : lk L t with
    | some u => rw [hl] at ht; simp at ht; subst ht; exact h.get t _ hl
    | none => rw [hl] at ht; simp at ht; exact hX t v (lk_mem ht)⟩

theorem Sl.cons {N : Nat} {L : Env} {a : Act} {t : Nat} {v : Value} (h : Sl N L a) (hv : a.tmps[t]? = some v) : Sl N ((t, v) :: L) a :=
  ⟨h.size, h.dfr, fun u w hu => by
    rw [lk_cons] at hu
    split at hu
    · rename_i e; subst e; cases hu; exact hv
    · exact h.get u w hu⟩

theorem Sl.left {N : Nat} {L X : Env} {a : Act} (h : Sl N (L ++ X) a) : Sl N L a :=
  ⟨h.size, h.dfr, fun t v ht => h.get t v (by rw [lk_append, ht]; rfl)⟩

/-- What an operation waits for. -/
def waitsFor (o : Oper) : List Nat := (o.after.toList.filter fun e => Region.binds .any e).map (·.on)

def Dep (l : List Oper) (Φ : Nat → Hp → Value → Prop) (H : Hp) : List Nat → Env → (Env → Prop) → Prop
  | [], L, k => k L
  | j :: js, L, k => match (l[j]?).bind (·.dst) with
    | some t => ∀ v, Φ j H v → Dep l Φ H js ((t, v) :: L) k
    | none => Dep l Φ H js L k

/-- What one operation must bring about. -/
def One (x : Cx) (H : Hp) (M : List Res) (L : Env) (t : Nat) (φ : Hp → Value → Prop) : Post := fun e a w =>
  e = .normal ∧ ∃ v H', Sl x.N ((t, v) :: L) a ∧ H.le H' ∧ St x.B x.w0 H' M w ∧ φ H' v

def Hops (x : Cx) (l : List Oper) (Φ : Nat → Hp → Value → Prop) (H : Hp) (M : List Res) (L : Env) : Nat → List Oper → Prop
  | _, [] => True
  | i, o :: r => (∀ H', H.le H' → ∀ X, Dep l Φ H' (waitsFor o) (L ++ X) (fun L' => W x l.toArray (One x H' M L' (o.dst.getD 0) (Φ i)) [o] H' M L')) ∧ Hops x l Φ H M L (i + 1) r

theorem Hops.at {x : Cx} {l : List Oper} {Φ : Nat → Hp → Value → Prop} {H : Hp} {M : List Res} {L : Env} : ∀ {r : List Oper} {i : Nat}, Hops x l Φ H M L i r → ∀ j o, r[j]? = some o →
    ∀ H', H.le H' → ∀ X, Dep l Φ H' (waitsFor o) (L ++ X) (fun L' => W x l.toArray (One x H' M L' (o.dst.getD 0) (Φ (i + j))) [o] H' M L')
  | [], _, _, j, o, h => by simp at h
  | p :: r, i, hh, 0, o, h => by simp at h; subst h; exact hh.1
  | p :: r, i, hh, j + 1, o, h => by
    have := Hops.at hh.2 j o (by simpa using h)
    rwa [show i + 1 + j = i + (j + 1) from by omega] at this

theorem Dep.use {l : List Oper} {Φ : Nat → Hp → Value → Prop} {H : Hp} {a : Act} {N : Nat} : ∀ {js : List Nat} {L : Env} {k : Env → Prop}, Dep l Φ H js L k → Sl N L a →
    (∀ j ∈ js, ∀ t, (l[j]?).bind (·.dst) = some t → ∃ v, a.tmps[t]? = some v ∧ Φ j H v) → ∃ Y, k (Y ++ L) ∧ Sl N (Y ++ L) a ∧ ∀ t v, (t, v) ∈ Y → a.tmps[t]? = some v
  | [], L, k, h, hs, _ => ⟨[], h, hs, by simp⟩
  | j :: js, L, k, h, hs, hv => by
    unfold Dep at h
    cases hd : (l[j]?).bind (·.dst) with
    | none =>
      rw [hd] at h
      exact Dep.use h hs (fun i hi => hv i (List.mem_cons_of_mem _ hi))
    | some t =>
      rw [hd] at h
      obtain ⟨v, h1, h2⟩ := hv j (List.mem_cons_self ..) t hd
      obtain ⟨Y, h3, h4, h5⟩ := Dep.use (h v h2) (hs.cons h1) (fun i hi => hv i (List.mem_cons_of_mem _ hi))
      refine ⟨Y ++ [(t, v)], by simpa using h3, by simpa using h4, ?_⟩
      intro u w hm
      rcases List.mem_append.1 hm with hm | hm
      · exact h5 u w hm
      · simp at hm; obtain ⟨rfl, rfl⟩ := hm; exact h1

theorem mem_ready {ops : Array Oper} {listed : Array Bool} {i : Nat} : i ∈ Region.ready .any ops listed ↔ i < ops.size ∧ listed.getD i true = false ∧ ∃ o, ops[i]? = some o ∧ ∀ j ∈ waitsFor o, listed.getD j false = true := by
  unfold Region.ready waitsFor
  simp only [List.mem_filter, List.mem_range, Bool.and_eq_true, Bool.not_eq_true']
  refine and_congr_right fun hi => and_congr_right fun _ => ?_
  have : ops[i]? = some ops[i] := Array.getElem?_eq_getElem hi
  simp only [this, Option.map_some, Option.getD_some, Array.all_eq_true', Option.some.injEq, List.mem_map, List.mem_filter, Array.mem_toList_iff, Bool.or_eq_true, Bool.not_eq_true']
  constructor
  · intro h
    refine ⟨_, rfl, ?_⟩
    rintro j ⟨e, ⟨he, hb⟩, rfl⟩
    rcases h e he with h | h
    · rw [h] at hb; cases hb
    · exact h
  · rintro ⟨o, rfl, h⟩ e he
    cases hb : Region.binds .any e with
    | false => exact .inl rfl
    | true => exact .inr (h _ ⟨e, ⟨he, hb⟩, rfl⟩)

section
variable {x : Cx} {l : List Oper} {m : Nat} {Φ : Nat → Hp → Value → Prop} {H : Hp} {M : List Res} {L : Env} {Q : Post}

theorem getD_set (b : Array Bool) (i j : Nat) (d : Bool) (hi : i < b.size) : (b.setIfInBounds i true).getD j d = if j = i then true else b.getD j d := by
  simp only [Array.getD_eq_getD_getElem?, Array.getElem?_setIfInBounds]
  by_cases e : i = j
  · subst e; simp [hi]
  · simp [e, Ne.symm e]

/-- How many are still to come. -/
def left (l : List Oper) (listed : Array Bool) : Nat := (List.range l.length).countP fun i => !listed.getD i true

theorem left_set {listed : Array Bool} {i : Nat} (hsz : listed.size = l.length) (hi : i < l.length) (hl : listed.getD i true = false) : left l (listed.setIfInBounds i true) + 1 = left l listed := by
  unfold left
  have key : ∀ n, i < n → n ≤ l.length → (List.range n).countP (fun j => !(listed.setIfInBounds i true).getD j true) + 1 = (List.range n).countP (fun j => !listed.getD j true) := by
    intro n
    induction n with
    | zero => omega
    | succ n ih =>
      intro h1 h2
      rw [List.range_succ, List.countP_append, List.countP_append]
      by_cases e : i = n
      · subst e
        have : ∀ n, n ≤ i → (List.range n).countP (fun j => !(listed.setIfInBounds i true).getD j true) = (List.range n).countP (fun j => !listed.getD j true) := by
          intro n hn
          refine List.countP_congr fun j hj => ?_
          have hj' := List.mem_range.1 hj
          rw [getD_set _ _ _ _ (by omega), if_neg (by omega)]
        rw [this i (Nat.le_refl _)]
        simp only [List.countP_cons, List.countP_nil, getD_set _ _ _ _ (by omega : i < listed.size), hl, if_true]
        simp
      · have := ih (by omega) (by omega)
        have h3 : (listed.setIfInBounds i true).getD n true = listed.getD n true := by rw [getD_set _ _ _ _ (by omega), if_neg (by omega)]
        simp only [List.countP_cons, List.countP_nil, h3]
        omega
  exact key l.length hi (Nat.le_refl _)

end
end Go.Sim
