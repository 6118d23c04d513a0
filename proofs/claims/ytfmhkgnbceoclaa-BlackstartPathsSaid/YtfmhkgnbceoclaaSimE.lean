/-
  A region that draws its order: each operation is shown once, from what it waits for; whatever order is drawn, the facts are the same.
-/
import Derived.Test.YtfmhkgnbceoclaaSimD
namespace Go.Sim
open Go Go.RowKit

theorem lk_append (X Y : Env) (t : Nat) : lk (X ++ Y) t = (lk X t).or (lk Y t) := by
  induction X with
  | nil => simp [lk]
  | cons p X ih =>
    obtain ⟨u, v⟩ := p
    simp only [List.cons_append, lk_cons]
    split <;> simp [ih]

theorem lk_mem {X : Env} {t : Nat} {v : Value} (h : lk X t = some v) : (t, v) ∈ X := by
  induction X with
  | nil => simp [lk] at h
  | cons p X ih =>
    obtain ⟨u, w⟩ := p
    rw [lk_cons] at h
    split at h
    · rename_i e; subst e; cases h; exact List.mem_cons_self ..
    · exact List.mem_cons_of_mem _ (ih h)

theorem Sl.more {N : Nat} {L X : Env} {a : Act} (h : Sl N L a) (hX : ∀ t v, (t, v) ∈ X → a.tmps[t]? = some v) : Sl N (L ++ X) a :=
  ⟨h.size, h.dfr, fun t v ht => by
    rw [lk_append] at ht
    cases hl : lk L t with
    | some u => rw [hl] at ht; simp at ht; subst ht; exact h.get t _ hl
    | none => rw [hl] at ht; simp at ht; exact hX t v (lk_mem ht)⟩

theorem Sl.cons {N : Nat} {L : Env} {a : Act} {t : Nat} {v : Value} (h : Sl N L a) (hv : a.tmps[t]? = some v) : Sl N ((t, v) :: L) a :=
  ⟨h.size, h.dfr, fun u w hu => by
    rw [lk_cons] at hu
    split at hu
    · rename_i e; subst e; cases hu; exact hv
    · exact h.get u w hu⟩

theorem Sl.left {N : Nat} {L X : Env} {a : Act} (h : Sl N (L ++ X) a) : Sl N L a :=
  ⟨h.size, h.dfr, fun t v ht => h.get t v (by rw [lk_append, ht]; rfl)⟩

/-- What an operation waits for. -/
def waitsFor (o : Oper) : List Nat := (o.after.toList.filter fun e => Region.binds .any e).map (·.on)

/-- The first m operations may come in any order that their edges allow; each later one waits for all before it. -/
def anyB (l : List Oper) (m : Nat) : Bool :=
  l.zipIdx.all fun p => (waitsFor p.1).all (fun j => Nat.blt j p.2) && (Nat.blt p.2 m || (List.range p.2).all fun j => (waitsFor p.1).contains j)

def dstsB (l : List Oper) (m : Nat) (L : Env) : Bool :=
  (l.take m).all (fun o => match o.dst with
    | some t => (lk L t).isNone
    | none => false)
def dstsN (l : List Oper) (m : Nat) : Bool := decide (((l.take m).map (·.dst)).Nodup)

def Dep (l : List Oper) (Φ : Nat → Hp → Value → Prop) (H : Hp) : List Nat → Env → (Env → Prop) → Prop
  | [], L, k => k L
  | j :: js, L, k => match (l[j]?).bind (·.dst) with
    | some t => ∀ v, Φ j H v → Dep l Φ H js ((t, v) :: L) k
    | none => Dep l Φ H js L k

/-- What one operation must bring about. -/
def One (x : Cx) (H : Hp) (M : List Res) (L : Env) (t : Nat) (φ : Hp → Value → Prop) : Post := fun e a w =>
  e = .normal ∧ ∃ v H', Sl x.N ((t, v) :: L) a ∧ H.le H' ∧ St x.B x.w0 H' M w ∧ φ H' v

theorem One_end {x : Cx} {H H' : Hp} {M : List Res} {L : Env} {t : Nat} {v : Value} {φ : Hp → Value → Prop} (hle : H.le H') (h : φ H' v) : E x .normal (One x H M L t φ) H' M ((t, v) :: L) :=
  fun _ _ hs ht => ⟨rfl, v, H', hs, hle, ht, h⟩

def Hops (x : Cx) (l : List Oper) (Φ : Nat → Hp → Value → Prop) (H : Hp) (M : List Res) (L : Env) : Nat → List Oper → Prop
  | _, [] => True
  | i, o :: r => (∀ H', H.le H' → ∀ X, Dep l Φ H' (waitsFor o) (L ++ X) (fun L' => W x l.toArray (One x H' M L' (o.dst.getD 0) (Φ i)) [o] H' M L')) ∧ Hops x l Φ H M L (i + 1) r

theorem Hops.at {x : Cx} {l : List Oper} {Φ : Nat → Hp → Value → Prop} {H : Hp} {M : List Res} {L : Env} : ∀ {r : List Oper} {i : Nat}, Hops x l Φ H M L i r → ∀ j o, r[j]? = some o →
    ∀ H', H.le H' → ∀ X, Dep l Φ H' (waitsFor o) (L ++ X) (fun L' => W x l.toArray (One x H' M L' (o.dst.getD 0) (Φ (i + j))) [o] H' M L')
  | [], _, _, j, o, h => by simp at h
  | p :: r, i, hh, 0, o, h => by simp at h; subst h; exact hh.1
  | p :: r, i, hh, j + 1, o, h => by
    have := Hops.at hh.2 j o (by simpa using h)
    rwa [show i + 1 + j = i + (j + 1) from by omega] at this

theorem Dep.use {l : List Oper} {Φ : Nat → Hp → Value → Prop} {H : Hp} {a : Act} {N : Nat} : ∀ {js : List Nat} {L : Env} {k : Env → Prop}, Dep l Φ H js L k → Sl N L a →
    (∀ j ∈ js, ∀ t, (l[j]?).bind (·.dst) = some t → ∃ v, a.tmps[t]? = some v ∧ Φ j H v) → ∃ Y, k (Y ++ L) ∧ Sl N (Y ++ L) a ∧ ∀ t v, (t, v) ∈ Y → a.tmps[t]? = some v
  | [], L, k, h, hs, _ => ⟨[], h, hs, by simp⟩
  | j :: js, L, k, h, hs, hv => by
    unfold Dep at h
    cases hd : (l[j]?).bind (·.dst) with
    | none =>
      rw [hd] at h
      exact Dep.use h hs (fun i hi => hv i (List.mem_cons_of_mem _ hi))
    | some t =>
      rw [hd] at h
      obtain ⟨v, h1, h2⟩ := hv j (List.mem_cons_self ..) t hd
      obtain ⟨Y, h3, h4, h5⟩ := Dep.use (h v h2) (hs.cons h1) (fun i hi => hv i (List.mem_cons_of_mem _ hi))
      refine ⟨Y ++ [(t, v)], by simpa using h3, by simpa using h4, ?_⟩
      intro u w hm
      rcases List.mem_append.1 hm with hm | hm
      · exact h5 u w hm
      · simp at hm; obtain ⟨rfl, rfl⟩ := hm; exact h1

theorem mem_ready {ops : Array Oper} {listed : Array Bool} {i : Nat} : i ∈ Region.ready .any ops listed ↔ i < ops.size ∧ listed.getD i true = false ∧ ∃ o, ops[i]? = some o ∧ ∀ j ∈ waitsFor o, listed.getD j false = true := by
  unfold Region.ready waitsFor
  simp only [List.mem_filter, List.mem_range, Bool.and_eq_true, Bool.not_eq_true']
  refine and_congr_right fun hi => and_congr_right fun _ => ?_
  have : ops[i]? = some ops[i] := Array.getElem?_eq_getElem hi
  simp only [this, Option.map_some, Option.getD_some, Array.all_eq_true', Option.some.injEq, List.mem_map, List.mem_filter, Array.mem_toList_iff, Bool.or_eq_true, Bool.not_eq_true']
  constructor
  · intro h
    refine ⟨_, rfl, ?_⟩
    rintro j ⟨e, ⟨he, hb⟩, rfl⟩
    rcases h e he with h | h
    · rw [h] at hb; cases hb
    · exact h
  · rintro ⟨o, rfl, h⟩ e he
    cases hb : Region.binds .any e with
    | false => exact .inl rfl
    | true => exact .inr (h _ ⟨e, ⟨he, hb⟩, rfl⟩)

section
variable {x : Cx} {l : List Oper} {m : Nat} {Φ : Nat → Hp → Value → Prop} {H : Hp} {M : List Res} {L : Env} {Q : Post}

theorem anyB_on (hB : anyB l m = true) {i : Nat} {o : Oper} (ho : l[i]? = some o) : (∀ j ∈ waitsFor o, j < i) ∧ (i < m ∨ ∀ j, j < i → j ∈ waitsFor o) := by
  unfold anyB at hB
  rw [List.all_eq_true] at hB
  have := hB (o, i) (by rw [List.mem_zipIdx_iff_getElem?]; simpa using ho)
  simp only [Bool.and_eq_true, Bool.or_eq_true, List.all_eq_true, Nat.blt_eq, List.contains_iff_mem, List.mem_range] at this
  exact ⟨this.1, this.2⟩

theorem getD_set (b : Array Bool) (i j : Nat) (d : Bool) (hi : i < b.size) : (b.setIfInBounds i true).getD j d = if j = i then true else b.getD j d := by
  simp only [Array.getD_eq_getD_getElem?, Array.getElem?_setIfInBounds]
  by_cases e : i = j
  · subst e; simp [hi]
  · simp [e, Ne.symm e]

/-- The tail, in its order. -/
theorem tail_any (hB : anyB l m = true) : ∀ (fuel : Nat) (i : Nat) (listed : Array Bool) (a : Act) (w : World), m ≤ i → listed.size = l.length → i + fuel = l.length →
    (∀ j, j < l.length → listed.getD j true = decide (j < i)) → wpList x.P l.toArray Q (l.drop i) a w → wpAny x.P .any l.toArray Q fuel listed a w
  | 0, i, listed, a, w, hm, hsz, hf, hl, h => by
    have hi : i = l.length := by omega
    refine ⟨?_, by rw [hi, List.drop_length] at h; exact h⟩
    rw [List.eq_nil_iff_forall_not_mem]
    intro j hj
    obtain ⟨h1, h2, _⟩ := mem_ready.1 hj
    rw [hl j (by simpa using h1)] at h2
    simp at h1 h2; omega
  | fuel + 1, i, listed, a, w, hm, hsz, hf, hl, h => by
    have hi : i < l.length := by omega
    have ho : l[i]? = some l[i] := List.getElem?_eq_getElem hi
    have hmem : i ∈ Region.ready .any l.toArray listed := by
      refine mem_ready.2 ⟨by simpa using hi, by rw [hl i hi]; simp, l[i], by simp, fun j hj => ?_⟩
      have hj' := (anyB_on hB ho).1 j hj
      have := hl j (by omega)
      simp only [Array.getD_eq_getD_getElem?] at this ⊢
      rw [Array.getElem?_eq_getElem (by omega)] at this ⊢
      simpa [hj'] using this
    have huniq : ∀ j ∈ Region.ready .any l.toArray listed, j = i := by
      intro j hj
      obtain ⟨h1, h2, o, ho', hw⟩ := mem_ready.1 hj
      have h1' : j < l.length := by simpa using h1
      rw [hl j h1'] at h2
      have hji : i ≤ j := by simpa using h2
      by_cases e : j = i
      · exact e
      · exfalso
        have hw' := (anyB_on hB (i := j) (o := o) (by simpa using ho')).2
        rcases hw' with h' | h'
        · omega
        · have := hw i (h' i (by omega))
          have h3 := hl i hi
          simp only [Array.getD_eq_getD_getElem?] at this h3
          rw [Array.getElem?_eq_getElem (by omega)] at this h3
          simp at this h3
          rw [this] at h3; cases h3
    refine ⟨fun he => (by rw [he] at hmem; cases hmem), fun j hj => ?_⟩
    obtain rfl := huniq j hj
    unfold wpOp
    rw [show l.toArray[j]? = some l[j] from by simp]
    have hdrop : l.drop j = l[j] :: l.drop (j + 1) := List.drop_eq_getElem_cons hi
    rw [hdrop] at h
    have step : ∀ a w, wpList x.P l.toArray Q (l.drop (j + 1)) a w → wpAny x.P .any l.toArray Q fuel (listed.setIfInBounds j true) a w := fun a w hh =>
      tail_any hB fuel (j + 1) _ a w (by omega) (by simpa using hsz) (by omega) (fun k hk => by
        rw [getD_set _ _ _ _ (by omega), hl k hk]
        by_cases e : k = j
        · subst e; simp
        · simp [e]; omega) hh
    unfold wpList at h
    dsimp only
    split
    · rename_i hw; rw [if_pos hw] at h; exact h.imp (Oper.wp_mono step) id
    · rename_i hw; rw [if_neg hw] at h; exact step _ _ h

/-- How many are still to come. -/
def left (l : List Oper) (listed : Array Bool) : Nat := (List.range l.length).countP fun i => !listed.getD i true

theorem left_set {listed : Array Bool} {i : Nat} (hsz : listed.size = l.length) (hi : i < l.length) (hl : listed.getD i true = false) : left l (listed.setIfInBounds i true) + 1 = left l listed := by
  unfold left
  have key : ∀ n, i < n → n ≤ l.length → (List.range n).countP (fun j => !(listed.setIfInBounds i true).getD j true) + 1 = (List.range n).countP (fun j => !listed.getD j true) := by
    intro n
    induction n with
    | zero => omega
    | succ n ih =>
      intro h1 h2
      rw [List.range_succ, List.countP_append, List.countP_append]
      by_cases e : i = n
      · subst e
        have : ∀ n, n ≤ i → (List.range n).countP (fun j => !(listed.setIfInBounds i true).getD j true) = (List.range n).countP (fun j => !listed.getD j true) := by
          intro n hn
          refine List.countP_congr fun j hj => ?_
          have hj' := List.mem_range.1 hj
          rw [getD_set _ _ _ _ (by omega), if_neg (by omega)]
        rw [this i (Nat.le_refl _)]
        simp only [List.countP_cons, List.countP_nil, getD_set _ _ _ _ (by omega : i < listed.size), hl, if_true]
        simp
      · have := ih (by omega) (by omega)
        have h3 : (listed.setIfInBounds i true).getD n true = listed.getD n true := by rw [getD_set _ _ _ _ (by omega), if_neg (by omega)]
        simp only [List.countP_cons, List.countP_nil, h3]
        omega
  exact key l.length hi (Nat.le_refl _)

theorem pre_any (hB : anyB l m = true) (hml : m ≤ l.length) (hD : dstsB l m L = true) (hNd : dstsN l m = true)
    (hop : Hops x l Φ H M L 0 (l.take m))
    (k : ∀ H', H.le H' → Dep l Φ H' (List.range m) L (fun L' => W x l.toArray Q (l.drop m) H' M L')) :
    ∀ (fuel : Nat) (listed : Array Bool) (a : Act) (w : World) (H' : Hp), listed.size = l.length → left l listed ≤ fuel → (∀ j, m ≤ j → j < l.length → listed.getD j true = false) →
      H.le H' → St x.B x.w0 H' M w → Sl x.N L a → (∀ i o t, i < m → l[i]? = some o → o.dst = some t → listed.getD i true = true → ∃ v, a.tmps[t]? = some v ∧ Φ i H' v) →
      (∀ i H1 H2 v, H1.le H2 → Φ i H1 v → Φ i H2 v) →
      wpAny x.P .any l.toArray Q fuel listed a w := by
  intro fuel
  induction fuel with
  | zero =>
    intro listed a w H' hsz hf htl hle ht hs hv hmono
    have hall : ∀ j, j < l.length → listed.getD j true = true := by
      intro j hj
      have : left l listed = 0 := by omega
      unfold left at this
      rw [List.countP_eq_zero] at this
      have := this j (List.mem_range.2 hj)
      simpa using this
    have hmm : m = l.length := by
      by_cases e : m < l.length
      · have h1 := hall m e; have h2 := htl m (Nat.le_refl _) e; rw [h1] at h2; cases h2
      · omega
    refine tail_any hB 0 m listed a w (Nat.le_refl _) hsz (by omega) (fun j hj => by rw [hall j hj]; simp; omega) ?_
    obtain ⟨Y, h1, h2, _⟩ := Dep.use (k H' hle) hs (fun j hj t htt => by
      have hj' := List.mem_range.1 hj
      rw [Option.bind_eq_some_iff] at htt
      obtain ⟨o, ho, hd⟩ := htt
      exact hv j o t hj' ho hd (hall j (by omega)))
    exact h1 a w h2 ht
  | succ fuel ih =>
    intro listed a w H' hsz hf htl hle ht hs hv hmono
    by_cases hall : ∀ j, j < m → listed.getD j true = true
    · -- the tail
      have hfm : (m + (l.length - m)) = l.length := by omega
      have hwl : wpList x.P l.toArray Q (l.drop m) a w := by
        obtain ⟨Y, h1, h2, _⟩ := Dep.use (k H' hle) hs (fun j hj t htt => by
          have hj' := List.mem_range.1 hj
          rw [Option.bind_eq_some_iff] at htt
          obtain ⟨o, ho, hd⟩ := htt
          exact hv j o t hj' ho hd (hall j hj'))
        exact h1 a w h2 ht
      have hl : ∀ j, j < l.length → listed.getD j true = decide (j < m) := by
        intro j hj
        by_cases e : j < m
        · rw [hall j e]; simp [e]
        · rw [htl j (by omega) hj]; simp [e]
      -- more fuel than needed does no harm
      have more : ∀ (f i : Nat) (listed : Array Bool) (a : Act) (w : World), m ≤ i → listed.size = l.length → i ≤ l.length → l.length ≤ i + f → (∀ j, j < l.length → listed.getD j true = decide (j < i)) →
          wpList x.P l.toArray Q (l.drop i) a w → wpAny x.P .any l.toArray Q f listed a w := by
        intro f
        induction f with
        | zero =>
          intro i listed a w h1 h2 h3 h4 h5 h6
          exact tail_any hB 0 i listed a w h1 h2 (by omega) h5 h6
        | succ f ihf =>
          intro i listed a w h1 h2 h3 h4 h5 h6
          by_cases e : i + (f + 1) = l.length
          · exact tail_any hB (f + 1) i listed a w h1 h2 e h5 h6
          · by_cases e2 : i = l.length
            · have hempty : Region.ready .any l.toArray listed = [] := by
                rw [List.eq_nil_iff_forall_not_mem]
                intro j hj
                obtain ⟨q1, q2, _⟩ := mem_ready.1 hj
                rw [h5 j (by simpa using q1)] at q2
                simp at q1 q2; omega
              refine ⟨fun _ => by rw [e2, List.drop_length] at h6; exact h6, fun j hj => by rw [hempty] at hj; cases hj⟩
            · -- one step of the tail, with fuel to spare
              have hi : i < l.length := by omega
              have ho : l[i]? = some l[i] := List.getElem?_eq_getElem hi
              have hmem : i ∈ Region.ready .any l.toArray listed := by
                refine mem_ready.2 ⟨by simpa using hi, by rw [h5 i hi]; simp, l[i], by simp, fun j hj => ?_⟩
                have hj' := (anyB_on hB ho).1 j hj
                have := h5 j (by omega)
                simp only [Array.getD_eq_getD_getElem?] at this ⊢
                rw [Array.getElem?_eq_getElem (by omega)] at this ⊢
                simpa [hj'] using this
              have huniq : ∀ j ∈ Region.ready .any l.toArray listed, j = i := by
                intro j hj
                obtain ⟨q1, q2, o, ho', hw⟩ := mem_ready.1 hj
                have q1' : j < l.length := by simpa using q1
                rw [h5 j q1'] at q2
                have hji : i ≤ j := by simpa using q2
                by_cases e : j = i
                · exact e
                · exfalso
                  rcases (anyB_on hB (i := j) (o := o) (by simpa using ho')).2 with h' | h'
                  · omega
                  · have := hw i (h' i (by omega))
                    have h3 := h5 i hi
                    simp only [Array.getD_eq_getD_getElem?] at this h3
                    rw [Array.getElem?_eq_getElem (by omega)] at this h3
                    simp at this h3
                    rw [this] at h3; cases h3
              refine ⟨fun he => (by rw [he] at hmem; cases hmem), fun j hj => ?_⟩
              obtain rfl := huniq j hj
              unfold wpOp
              rw [show l.toArray[j]? = some l[j] from by simp]
              rw [List.drop_eq_getElem_cons hi] at h6
              have step : ∀ a w, wpList x.P l.toArray Q (l.drop (j + 1)) a w → wpAny x.P .any l.toArray Q f (listed.setIfInBounds j true) a w := fun a w hh =>
                ihf (j + 1) _ a w (by omega) (by simpa using h2) (by omega) (by omega) (fun k hk => by
                  rw [getD_set _ _ _ _ (by omega), h5 k hk]
                  by_cases e : k = j
                  · subst e; simp
                  · simp [e]; omega) hh
              unfold wpList at h6
              dsimp only
              split
              · rename_i hw; rw [if_pos hw] at h6; exact h6.imp (Oper.wp_mono step) id
              · rename_i hw; rw [if_neg hw] at h6; exact step _ _ h6
      have hcount : l.length ≤ m + (fuel + 1) := by
        have : l.length - m ≤ left l listed := by
          unfold left
          have h1 : (List.range l.length).countP (fun i => !listed.getD i true) = (List.range l.length).countP (fun i => decide (m ≤ i)) := by
            refine List.countP_congr fun j hj => ?_
            rw [hl j (List.mem_range.1 hj)]
            simp
          rw [h1]
          have h2 : ∀ n, (List.range n).countP (fun i => decide (m ≤ i)) = n - m := by
            intro n
            induction n with
            | zero => simp
            | succ n ihn =>
              rw [List.range_succ, List.countP_append, ihn]
              simp only [List.countP_cons, List.countP_nil]
              by_cases e : m ≤ n
              · simp [e]; omega
              · simp [e]; omega
          rw [h2]; exact Nat.le_refl _
        omega
      exact more (fuel + 1) m listed a w (Nat.le_refl _) hsz hml hcount hl hwl
    · -- some of the first m are still to come
      have hex : ∃ j, j < m ∧ listed.getD j true = false := by
        refine Classical.byContradiction fun hno => hall fun j hj => ?_
        cases hb : listed.getD j true with
        | true => rfl
        | false => exact absurd ⟨j, hj, hb⟩ hno
      obtain ⟨j0, ⟨hj0, hf0⟩, hleast⟩ := least (p := fun j => j < m ∧ listed.getD j true = false) hex.choose hex.choose_spec
      have hne : Region.ready .any l.toArray listed ≠ [] := by
        intro he
        have hlt : j0 < l.length := by omega
        have ho : l[j0]? = some l[j0] := List.getElem?_eq_getElem hlt
        have : j0 ∈ Region.ready .any l.toArray listed := by
          refine mem_ready.2 ⟨by simpa using hlt, hf0, l[j0], by simp, fun j hj => ?_⟩
          have hj' := (anyB_on hB ho).1 j hj
          have h1 : listed.getD j true = true := by
            cases hb : listed.getD j true with
            | true => rfl
            | false => have := hleast j ⟨by omega, hb⟩; omega
          simp only [Array.getD_eq_getD_getElem?] at h1 ⊢
          rw [Array.getElem?_eq_getElem (by omega)] at h1 ⊢
          simpa using h1
        rw [he] at this; cases this
      refine ⟨fun he => absurd he hne, fun i hi => ?_⟩
      obtain ⟨h1, h2, o, ho', hw⟩ := mem_ready.1 hi
      have h1' : i < l.length := by simpa using h1
      have ho : l[i]? = some o := by simpa using ho'
      have him : i < m := by
        rcases (anyB_on hB ho).2 with h' | h'
        · exact h'
        · by_cases e : i < m
          · exact e
          · exfalso
            have := hw j0 (h' j0 (by omega))
            simp only [Array.getD_eq_getD_getElem?] at this hf0
            rw [Array.getElem?_eq_getElem (by omega)] at this hf0
            simp at this hf0
            rw [this] at hf0; cases hf0
      have htake : (l.take m)[i]? = some o := by rw [List.getElem?_take, if_pos him]; exact ho
      have hdst : ∃ t, o.dst = some t ∧ lk L t = none := by
        unfold dstsB at hD
        rw [List.all_eq_true] at hD
        have := hD o (List.mem_of_getElem? htake)
        cases hd : o.dst with
        | none => rw [hd] at this; cases this
        | some t => rw [hd] at this; exact ⟨t, rfl, by simpa using this⟩
      obtain ⟨t, hd, hLt⟩ := hdst
      -- all that has been done so far
      let X : Env := (List.range m).filterMap fun j => if listed.getD j true then (l[j]?).bind fun o => o.dst.map fun u => (u, a.tmps.getD u undef) else none
      have hX : ∀ u v, (u, v) ∈ X → a.tmps[u]? = some v := by
        intro u v hm
        obtain ⟨j, hj, hh⟩ := List.mem_filterMap.1 hm
        split at hh
        · rename_i hlj
          rw [Option.bind_eq_some_iff] at hh
          obtain ⟨oj, hoj, hh⟩ := hh
          rw [Option.map_eq_some_iff] at hh
          obtain ⟨u', hu', hh⟩ := hh
          cases hh
          obtain ⟨v', hv', _⟩ := hv j oj u (List.mem_range.1 hj) hoj hu' hlj
          simp [Array.getD_eq_getD_getElem?, hv']
        · cases hh
      have hdep := (Hops.at hop i o htake) H' hle X
      obtain ⟨Y, hk, hsY, hY⟩ := Dep.use hdep (hs.more hX) (fun j hj u hu => by
        rw [Option.bind_eq_some_iff] at hu
        obtain ⟨oj, hoj, hdj⟩ := hu
        have hji := (anyB_on hB ho).1 j hj
        refine hv j oj u (by omega) hoj hdj ?_
        have := hw j hj
        simp only [Array.getD_eq_getD_getElem?] at this ⊢
        rw [Array.getElem?_eq_getElem (by omega)] at this ⊢
        simpa using this)
      have hone := hk a w hsY ht
      rw [hd] at hone
      simp only [Option.getD_some, Nat.zero_add] at hone
      have fin : ∀ a' w', One x H' M (Y ++ (L ++ X)) t (Φ i) .normal a' w' → wpAny x.P .any l.toArray Q fuel (listed.setIfInBounds i true) a' w' := by
        rintro a' w' ⟨_, v, H2, hs2, hle2, ht2, hφ⟩
        have hcv : a'.tmps[t]? = some v := hs2.get t v (by rw [lk_cons]; simp)
        have hYt : ∀ u z, (u, z) ∈ Y ++ X → u ≠ t → a'.tmps[u]? = some z := by
          intro u z hm hne
          have hz : a.tmps[u]? = some z := by
            rcases List.mem_append.1 hm with hm | hm
            · exact hY u z hm
            · exact hX u z hm
          have hlk : ∃ z', lk (Y ++ (L ++ X)) u = some z' := by
            have hsome : ∀ {E : Env} {u : Nat} {z : Value}, (u, z) ∈ E → ∃ z', lk E u = some z' := by
              intro E u z
              induction E with
              | nil => simp
              | cons p E ihE =>
                obtain ⟨q, r⟩ := p
                intro hm
                rw [lk_cons]
                split
                · exact ⟨_, rfl⟩
                · rename_i hne
                  rcases List.mem_cons.1 hm with e | hm
                  · cases e; exact absurd rfl hne
                  · exact ihE hm
            rcases List.mem_append.1 hm with hm | hm
            · exact hsome (List.mem_append_left _ hm)
            · exact hsome (List.mem_append_right _ (List.mem_append_right _ hm))
          obtain ⟨z', hz'⟩ := hlk
          have e1 := hsY.get u z' hz'
          rw [hz] at e1
          cases e1
          exact hs2.get u z (by rw [lk_cons, if_neg (Ne.symm hne)]; exact hz')
        refine ih (listed.setIfInBounds i true) a' w' H2 (by simpa using hsz) (by have := left_set (l := l) hsz h1' h2; omega) (fun j hj hjl => by rw [getD_set _ _ _ _ (by omega), if_neg (by omega)]; exact htl j hj hjl) (Hp.le_trans hle hle2) ht2 ?_ ?_ hmono
        · refine ⟨hs2.size, hs2.dfr, fun u z hu => ?_⟩
          have hne : t ≠ u := fun e => by subst e; rw [hLt] at hu; cases hu
          by_cases hin : ∃ z', lk Y u = some z'
          · obtain ⟨z', hz'⟩ := hin
            have q1 := hY u z' (lk_mem hz')
            have q2 := hs.get u z hu
            rw [q1] at q2; cases q2
            exact hs2.get u z (by rw [lk_cons, if_neg hne, lk_append, hz']; rfl)
          · have hnone : lk Y u = none := by cases hh : lk Y u with
              | none => rfl
              | some z' => exact absurd ⟨z', hh⟩ hin
            exact hs2.get u z (by rw [lk_cons, if_neg hne, lk_append, hnone, lk_append, hu]; rfl)
        · intro j oj u hjm hoj hdj hlj
          rw [getD_set _ _ _ _ (by omega)] at hlj
          by_cases e : j = i
          · subst e
            rw [ho] at hoj; cases hoj
            rw [hd] at hdj; cases hdj
            exact ⟨v, hcv, hφ⟩
          · rw [if_neg e] at hlj
            obtain ⟨z, hz, hφj⟩ := hv j oj u hjm hoj hdj hlj
            have hut : u ≠ t := by
              intro e2
              subst e2
              unfold dstsN at hNd
              have hnd := of_decide_eq_true hNd
              have p1 : ((l.take m).map (·.dst))[i]? = some (some u) := by rw [List.getElem?_map, htake]; simp [hd]
              have p2 : ((l.take m).map (·.dst))[j]? = some (some u) := by rw [List.getElem?_map, List.getElem?_take, if_pos hjm, hoj]; simp [hdj]
              obtain ⟨hi', p1'⟩ := List.getElem?_eq_some_iff.1 p1
              obtain ⟨hj', p2'⟩ := List.getElem?_eq_some_iff.1 p2
              have hpw := List.pairwise_iff_getElem.1 hnd
              rcases Nat.lt_or_gt_of_ne e with q | q
              · exact hpw j i hj' hi' q (p2'.trans p1'.symm)
              · exact hpw i j hi' hj' q (p1'.trans p2'.symm)
            refine ⟨z, hYt u z (List.mem_append_right _ (List.mem_filterMap.2 ⟨j, List.mem_range.2 hjm, ?_⟩)) hut, hmono _ _ _ _ hle2 hφj⟩
            simp [hlj, hoj, hdj, Array.getD_eq_getD_getElem?, hz]
      unfold wpOp
      rw [show l.toArray[i]? = some o from by simpa using ho]
      unfold wpList at hone
      dsimp only
      by_cases hwn : Region.wanted o (yielded l.toArray a.tmps) = true
      · rw [if_pos hwn] at hone ⊢
        left
        rcases hone with h | ⟨_, a1, w1, h, _⟩
        · unfold Oper.wp at h ⊢
          generalize (execOp a.eval o).run x.P w = r at h
          have fin' : ∀ a' w', wpList x.P l.toArray (One x H' M (Y ++ (L ++ X)) t (Φ i)) [] a' w' → wpAny x.P .any l.toArray Q fuel (listed.setIfInBounds i true) a' w' := fun a' w' h => fin a' w' h
          cases r with
          | ok n w2 =>
            cases n <;> simp only [Oper.upon] at h ⊢ <;> first
              | exact fin' _ _ h
              | exact Calls.mono h (fun e w3 he => match e, he with
                  | .returned v, he => fin' _ _ he
                  | .panicked c, he => absurd he.1 (by simp)
                  | .outgrown, he => absurd he.choose_spec.choose_spec.1 (by simp))
              | exact Rows.mono h (fun v w3 he => fin' _ _ he)
          | halt y w2 =>
            cases y <;> simp only [Oper.upon] at h ⊢
            exact absurd h.1 (by simp)
        · cases h
      · rw [if_neg hwn] at hone ⊢
        exact fin _ _ hone

/-- **A region that draws its order.** -/
theorem C_region_any {id : Nat} (m : Nat) (Φ : Nat → Hp → Value → Prop) (hmix : x.P.follows .mixedOrders = true) (hB : anyB l m = true) (hml : Nat.ble m l.length = true) (hD : dstsB l m L = true) (hNd : dstsN l m = true)
    (hmono : ∀ i H1 H2 v, H1.le H2 → Φ i H1 v → Φ i H2 v)
    (hop : Hops x l Φ H M L 0 (l.take m))
    (k : ∀ H', H.le H' → Dep l Φ H' (List.range m) L (fun L' => W x l.toArray Q (l.drop m) H' M L')) : C x (.region id l.toArray true) Q H M L := by
  intro a w hs ht
  refine wp_region_any hmix ?_
  have hml' : m ≤ l.length := by simpa [Nat.ble_eq] using hml
  have hlist : ∀ j, (Array.replicate l.toArray.size false).getD j true = if j < l.length then false else true := by
    intro j
    simp only [Array.getD_eq_getD_getElem?, Array.getElem?_replicate, List.size_toArray]
    split <;> simp
  refine pre_any (Q := Q) hB hml' hD hNd hop k l.toArray.size _ a _ H (by simp) ?_ (fun j hj hjl => by rw [hlist, if_pos hjl]) (Hp.le_refl _) (ht.drewN _) hs ?_ hmono
  · unfold left
    exact Nat.le_trans (List.countP_le_length ..) (by simp)
  · intro i o t hi ho hd hl
    rw [hlist, if_pos (by omega)] at hl
    cases hl
end
end Go.Sim
