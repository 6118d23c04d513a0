/-
  The pool's trace: a starter, old leavers, workers; who touches what.
-/
import Derived.Test.YticgbjeijocojaaMg15
import Derived.Conc.CrowdInv
set_option linter.unusedVariables false
set_option linter.unusedSimpArgs false
set_option linter.unusedVariables false
set_option linter.unusedSimpArgs false
namespace Go.Sim
open Go Go.Conc
open Go.ConcN (CT Apart Ok0 OkW RelBy handedOver_all)
open Go.ConcR (stA smA rd wr mk)

theorem runNT_ext {P : Program} : ∀ (n : Nat) (m : Machine) (t : Trace), ∃ u, (runNT P n m t).2 = t ++ u
  | 0, m, t => ⟨#[], by simp [runNT]⟩
  | n + 1, m, t => by
    unfold runNT
    split
    · rename_i m' ops _
      obtain ⟨u, hu⟩ := runNT_ext n m' (t ++ ops)
      exact ⟨ops ++ u, by rw [hu, Array.append_assoc]⟩
    · exact ⟨_, rfl⟩

section
variable {P : Program} {m0 : Machine}
theorem At.ext {n n' : Nat} {m m' : Machine} {t t' : Trace} (h : At P m0 n m t) (h' : At P m0 n' m' t') (hn : n ≤ n') : ∃ u, t' = t ++ u := by
  unfold At at h h'
  obtain ⟨k, rfl⟩ : ∃ k, n' = n + k := ⟨n' - n, by omega⟩
  rw [runNT_add, h] at h'
  simp only at h'
  obtain ⟨u, hu⟩ := runNT_ext (P := P) k m t
  exact ⟨u, by rw [← hu, h']⟩
end

section
variable (P : Program) (m0 : Machine)
/-- Goroutine g is the first to get number i from the channel. -/
def Gets (Ch i g : Nat) : Prop := ∃ (n : Nat) (m : Machine) (t : Trace) (p : Nat) (op : MemOp) (cap : Nat), At P m0 n m t ∧ t[p]? = some op ∧ op.g = g ∧ op.act = .recv Ch i cap ∧ ∀ (p' : Nat) (op' : MemOp) (cap' : Nat), p' < p → t[p']? = some op' → op'.act ≠ .recv Ch i cap'
def PoolOwn (b0 Low C Ch : Nat) (k : Nat) (l : Loc) : Prop :=
  b0 ≤ k ∧ ∃ a, l = .cell a ∧ ((Low ≤ a.block ∧ Mk P m0 k a.block) ∨ (a.block = C ∧ Gets P m0 Ch a.off k))
def PoolRd (b0 Low C : Nat) (k : Nat) (l : Loc) : Prop :=
  b0 ≤ k ∧ ∃ a, l = .cell a ∧ a.block < Low ∧ a.block ≠ C ∧ ¬ Gp P m0 a.block
end

section
variable {P : Program} {m0 : Machine}
theorem Gets.uniq {Ch i g g' : Nat} (h : Gets P m0 Ch i g) (h' : Gets P m0 Ch i g') : g = g' := by
  have key : ∀ {g g' : Nat} {n n' : Nat} {m m' : Machine} {t t' : Trace} {p p' : Nat} {op op' : MemOp} {cap cap' : Nat}, At P m0 n m t → t[p]? = some op → op.g = g → op.act = .recv Ch i cap →
      (∀ (p' : Nat) (op' : MemOp) (cap' : Nat), p' < p → t[p']? = some op' → op'.act ≠ .recv Ch i cap') →
      At P m0 n' m' t' → t'[p']? = some op' → op'.g = g' → op'.act = .recv Ch i cap' → (∀ (p : Nat) (op : MemOp) (cap' : Nat), p < p' → t'[p]? = some op → op.act ≠ .recv Ch i cap') → n ≤ n' → g = g' := by
    intro g g' n n' m m' t t' p p' op op' cap cap' h1 h2 h3 h4 h5 k1 k2 k3 k4 k5 hn
    obtain ⟨u, rfl⟩ := h1.ext k1 hn
    have hp : (t ++ u)[p]? = some op := by rw [getElem?_append_old (lt_size_of_getElem? h2)]; exact h2
    have hle : p' ≤ p := Nat.le_of_not_lt fun hlt => k5 p op cap hlt hp h4
    have hge : p ≤ p' := Nat.le_of_not_lt fun hlt => h5 p' op' cap' hlt (by rw [← getElem?_append_old (u := u) (Nat.lt_trans hlt (lt_size_of_getElem? h2))]; exact k2) k4
    obtain rfl : p = p' := by omega
    rw [hp] at k2
    cases k2
    rw [← h3, ← k3]
  obtain ⟨n, m, t, p, op, cap, h1, h2, h3, h4, h5⟩ := h
  obtain ⟨n', m', t', p', op', cap', k1, k2, k3, k4, k5⟩ := h'
  rcases Nat.le_total n n' with hn | hn
  · exact key h1 h2 h3 h4 h5 k1 k2 k3 k4 k5 hn
  · exact (key k1 k2 k3 k4 k5 h1 h2 h3 h4 h5 hn).symm

/-- The number's first receipt. -/
theorem Gets.new {Ch i g cap : Nat} {n : Nat} {m : Machine} {t u v : Trace} {op : MemOp} (h : At P m0 n m (t ++ (u ++ #[op] ++ v))) (hg : op.g = g) (ha : op.act = .recv Ch i cap)
    (ht : ∀ op ∈ t, ∀ cap', op.act ≠ .recv Ch i cap') (hu : ∀ op ∈ u, ∀ cap', op.act ≠ .recv Ch i cap') : Gets P m0 Ch i g := by
  refine ⟨n, m, _, t.size + u.size, op, cap, h, ?_, hg, ha, fun p' op' cap' hlt hop => ?_⟩
  · rw [Array.getElem?_append_right (by omega)]
    rw [Array.getElem?_append_left (by simp)]
    rw [Array.getElem?_append_right (by omega)]
    simp
  · rcases getElem?_append_cases hop with ⟨_, h1⟩ | ⟨hge, h1⟩
    · exact ht op' (Array.mem_of_getElem? h1) cap'
    · rw [Array.getElem?_append_right hge] at hop
      have hl : p' - t.size < u.size := by omega
      rw [Array.getElem?_append_left (by simp; omega), Array.getElem?_append_left hl] at hop
      exact hu op' (Array.mem_of_getElem? hop) cap'

theorem pool_apart {b0 Low C Ch : Nat} (hb : 1 ≤ b0) (hC : C < Low) (hG : ¬ Gp P m0 C) : Apart (Shd P m0) (PoolOwn P m0 b0 Low C Ch) (PoolRd P m0 b0 Low C) := by
  have gp0 : ∀ {k b : Nat}, b0 ≤ k → Mk P m0 k b → ¬ Gp P m0 b := by
    intro k b hk ⟨n, m, t, hbn, ha, hw⟩ ⟨n', m', t', a, hbn', ha', hw', _⟩
    obtain rfl := hbn.uniq hbn'
    obtain ⟨rfl, _⟩ := ha.fun ha'
    rw [hw] at hw'
    have := Option.some.inj hw'
    omega
  refine ⟨?_, ?_, ?_, ?_⟩
  · rintro k k' l ⟨hk, a, rfl, h⟩ ⟨hk', a', e, h'⟩
    cases e
    rcases h with ⟨h1, h2⟩ | ⟨h1, h2⟩ <;> rcases h' with ⟨h1', h2'⟩ | ⟨h1', h2'⟩
    · exact h2.uniq h2'
    · omega
    · omega
    · exact h2.uniq h2'
  · rintro k k' l ⟨hk, a, rfl, h⟩ ⟨hk', a', e, h1', h2', h3'⟩
    cases e
    rcases h with ⟨h1, h2⟩ | ⟨h1, h2⟩ <;> omega
  · rintro k l ⟨hk, a, rfl, h⟩ (⟨a', e, hg⟩ | ⟨r, e⟩)
    · cases e
      rcases h with ⟨h1, h2⟩ | ⟨h1, h2⟩
      · exact gp0 hk h2 hg
      · exact hG (h1 ▸ hg)
    · cases e
  · rintro k l ⟨hk, a, rfl, h1, h2, h3⟩ (⟨a', e, hg⟩ | ⟨r, e⟩)
    · cases e; exact h3 hg
    · cases e

/-- What an operation of the pool's is, besides. -/
structure Bey (P : Program) (m0 : Machine) (b0 : Nat) (op : MemOp) : Prop where
  mem : ∀ x, op.act.touch? = some x → x.loc.isMemory = true
  shy : ∀ x, op.act.touch? = some x → x.kind = .atomic → Shd P m0 x.loc
  old : op.g ≠ 0 → op.g < b0 → op.act.touch? = none
end

/-- The pool's trace, from t0 on; N goroutines; r numbers have been got; the heap's size is B. -/
structure PT (P : Program) (m0 : Machine) (b0 Low C Ch Wg : Nat) (t0 : Trace) (N B r : Nat) (t : Trace) : Prop where
  ct : CT (Shd P m0) (PoolOwn P m0 b0 Low C Ch) (PoolRd P m0 b0 Low C) t (N - 1)
  ext : ∃ u, t = t0 ++ u ∧ ∀ op ∈ u, Bey P m0 b0 op
  low : ∀ op ∈ t, op.act.low B
  got : ∀ op ∈ t, ∀ i cap, op.act = .recv Ch i cap → i < r
  norel : ∀ op ∈ t, ∀ a, op.act ≠ .mark (.release a)

/-- An operation that the pool admits. -/
structure OkP (P : Program) (m0 : Machine) (b0 Ch Wg B r : Nat) (op : MemOp) : Prop where
  bey : Bey P m0 b0 op
  low : op.act.low B
  got : ∀ i cap, op.act = .recv Ch i cap → i < r
  norel : ∀ a, op.act ≠ .mark (.release a)

section
variable {P : Program} {m0 : Machine} {b0 Low C Ch Wg N B r B' r' : Nat} {t0 t u : Trace}

theorem PT.grow (h : PT P m0 b0 Low C Ch Wg t0 N B r t) (hct : CT (Shd P m0) (PoolOwn P m0 b0 Low C Ch) (PoolRd P m0 b0 Low C) (t ++ u) (N - 1)) (hB : B ≤ B') (hr : r ≤ r') (hu : ∀ op ∈ u, OkP P m0 b0 Ch Wg B' r' op) :
    PT P m0 b0 Low C Ch Wg t0 N B' r' (t ++ u) := by
  obtain ⟨v, rfl, hv⟩ := h.ext
  refine ⟨hct, ⟨v ++ u, by rw [Array.append_assoc], fun op hop => (Array.mem_append.1 hop).elim (hv op) fun x => (hu op x).bey⟩, fun op hop => (Array.mem_append.1 hop).elim (fun x => MemAct.low_mono hB (h.low op x)) fun x => (hu op x).low,
    fun op hop i cap e => (Array.mem_append.1 hop).elim (fun x => Nat.lt_of_lt_of_le (h.got op x i cap e) hr) fun x => (hu op x).got i cap e, fun op hop => (Array.mem_append.1 hop).elim (h.norel op) fun x => (hu op x).norel⟩

theorem PT.app0 (A : Apart (Shd P m0) (PoolOwn P m0 b0 Low C Ch) (PoolRd P m0 b0 Low C)) (h : PT P m0 b0 Low C Ch Wg t0 N B r t) (hB : B ≤ B') (hr : r ≤ r')
    (h0 : ∀ op ∈ u, Ok0 (Shd P m0) (PoolOwn P m0 b0 Low C Ch) (PoolRd P m0 b0 Low C) (N - 1) op) (hu : ∀ op ∈ u, OkP P m0 b0 Ch Wg B' r' op) : PT P m0 b0 Low C Ch Wg t0 N B' r' (t ++ u) :=
  h.grow (h.ct.app0 A h0) hB hr hu
theorem PT.appW (A : Apart (Shd P m0) (PoolOwn P m0 b0 Low C Ch) (PoolRd P m0 b0 Low C)) (h : PT P m0 b0 Low C Ch Wg t0 N B r t) {k : Nat} (k1 : 1 ≤ k) (kN : k < N) (hB : B ≤ B') (hr : r ≤ r')
    (h0 : ∀ op ∈ u, OkW (Shd P m0) (PoolOwn P m0 b0 Low C Ch) (PoolRd P m0 b0 Low C) k op) (hu : ∀ op ∈ u, OkP P m0 b0 Ch Wg B' r' op) : PT P m0 b0 Low C Ch Wg t0 N B' r' (t ++ u) :=
  h.grow (h.ct.appW A k1 (by omega) h0) hB hr hu

theorem ct_mute {Sh : Loc → Prop} {Own Rd : Nat → Loc → Prop} (A : Apart Sh Own Rd) {j : Nat} : ∀ (l : List MemOp) (t : Trace), CT Sh Own Rd t j → (∀ op ∈ l, op.g ≤ j ∧ op.act.touch? = none) → CT Sh Own Rd (t ++ l.toArray) j
  | [], t, h, _ => by simpa using h
  | x :: l, t, h, hl => by
    have e : t ++ (x :: l).toArray = (t ++ #[x]) ++ l.toArray := by apply Array.ext'; simp
    rw [e]
    obtain ⟨h1, h2⟩ := hl x (by simp)
    refine ct_mute A l _ ?_ fun op hop => hl op (by simp [hop])
    rcases Nat.eq_zero_or_pos x.g with h0 | h0
    · refine h.app0 A fun op hop => ?_
      have : op = x := by simpa using hop
      subst this
      exact ⟨h0, fun y hy => by rw [h2] at hy; cases hy⟩
    · refine h.appW A h0 h1 fun op hop => ?_
      have : op = x := by simpa using hop
      subst this
      exact ⟨rfl, fun y hy => by rw [h2] at hy; cases hy⟩

/-- Operations that touch nothing. -/
theorem PT.appMute (A : Apart (Shd P m0) (PoolOwn P m0 b0 Low C Ch) (PoolRd P m0 b0 Low C)) (h : PT P m0 b0 Low C Ch Wg t0 N B r t) (hB : B ≤ B') (hr : r ≤ r')
    (h0 : ∀ op ∈ u, op.g ≤ N - 1 ∧ op.act.touch? = none) (hu : ∀ op ∈ u, OkP P m0 b0 Ch Wg B' r' op) : PT P m0 b0 Low C Ch Wg t0 N B' r' (t ++ u) := by
  refine h.grow ?_ hB hr hu
  have := ct_mute A u.toList t h.ct fun op hop => h0 op (by simpa using hop)
  simpa using this

theorem okP_mute {op : MemOp} (h : op.act.touch? = none) (hl : op.act.low B) (hg : ∀ i cap, op.act = .recv Ch i cap → i < r) (hn : ∀ a, op.act ≠ .mark (.release a)) : OkP P m0 b0 Ch Wg B r op :=
  ⟨⟨fun x hx => (by rw [h] at hx; cases hx), fun x hx => (by rw [h] at hx; cases hx), fun _ _ => h⟩, hl, hg, hn⟩

/-- A go statement. -/
theorem PT.fork (A : Apart (Shd P m0) (PoolOwn P m0 b0 Low C Ch) (PoolRd P m0 b0 Low C)) (h : PT P m0 b0 Low C Ch Wg t0 N B r t) (hN : 1 ≤ N) {x y : MemOp} (hx : x.g = 0 ∧ x.act = .go N) (hy : y.g = N ∧ y.act = .start) (h0 : Deaf t 0 = 0) :
    PT P m0 b0 Low C Ch Wg t0 (N + 1) B r (t ++ #[x, y]) := by
  have e : N - 1 + 1 = N := by omega
  have hct := h.ct.fork A (x := x) (y := y) (by rw [e]; exact hx) (by rw [e]; exact hy) h0
  have hm : ∀ op ∈ #[x, y], OkP P m0 b0 Ch Wg B r op := by
    intro op hop
    simp only [List.mem_toArray, List.mem_cons, List.not_mem_nil, or_false] at hop
    rcases hop with rfl | rfl
    · exact okP_mute (by rw [hx.2]; rfl) (by rw [hx.2]; trivial) (by rw [hx.2]; simp) (by rw [hx.2]; simp)
    · exact okP_mute (by rw [hy.2]; rfl) (by rw [hy.2]; trivial) (by rw [hy.2]; simp) (by rw [hy.2]; simp)
  obtain ⟨v, rfl, hv⟩ := h.ext
  refine ⟨by simpa [e] using hct, ⟨v ++ #[x, y], by rw [Array.append_assoc], fun op hop => (Array.mem_append.1 hop).elim (hv op) fun z => (hm op z).bey⟩, fun op hop => (Array.mem_append.1 hop).elim (h.low op) fun z => (hm op z).low,
    fun op hop i cap e => (Array.mem_append.1 hop).elim (fun z => h.got op z i cap e) fun z => (hm op z).got i cap e, fun op hop => (Array.mem_append.1 hop).elim (h.norel op) fun x => (hm op x).norel⟩

/-- THE END: all is known to goroutine 0 again. -/
theorem PT.past (h : PT P m0 b0 Low C Ch Wg t0 N B r t) (h0 : Past (Shd P m0) B t0) (hd : Deaf t 0 = 0) {q : Nat} (all : ∀ i g, t.g? i = some g → b0 ≤ g → ∃ r, RelBy (stA Wg) t g r ∧ r < q)
    (hq : t.act? q = some (.mark (.acquire (stA Wg)))) (hg : t.g? q = some 0) (hh : t.heard q) (hb : 1 ≤ b0) : Past (Shd P m0) B t := by
  obtain ⟨v, rfl, hv⟩ := h.ext
  have over : (t0 ++ v).HandedOver := by
    intro i g hgi hne hc
    rcases Nat.lt_or_ge i t0.size with hlt | hge
    · obtain ⟨j, hj, hb⟩ := h0.over i g (by rw [← g?_old (u := v) hlt]; exact hgi) hne ((counts_old hlt).1 hc)
      have hjl : j < t0.size := by
        unfold Trace.g? at hj
        obtain ⟨z, hz, _⟩ := Option.map_eq_some_iff.1 hj
        exact lt_size_of_getElem? hz
      exact ⟨j, by rw [g?_old hjl]; exact hj, hb_app v hb⟩
    · obtain ⟨op, ho, hog⟩ := Option.map_eq_some_iff.1 hgi
      rcases Nat.lt_or_ge g b0 with hgb | hgb
      · rcases getElem?_append_cases ho with ⟨hi, _⟩ | ⟨_, hov⟩
        · omega
        · obtain ⟨x, hx, _⟩ := hc
          rw [act?_of ho, Option.bind_some, (hv op hov).old (by omega) (by omega)] at hx
          cases hx
      · obtain ⟨r, hr, hrq⟩ := all i g hgi hgb
        have edge : HappensBefore (t0 ++ v) r q := .single (.inr ⟨.marked hrq (.inr hr.act) hq (fun k _ _ e => by obtain ⟨z, hz, hza⟩ := Option.map_eq_some_iff.1 e; exact h.norel z (Array.mem_of_getElem? hz) _ hza), hr.heard, hh⟩)
        have hle : i ≤ r := Nat.le_of_not_lt fun hlt => hr.after i hlt hgi hc
        rcases Nat.lt_or_ge i r with hlt | hge
        · exact ⟨q, hg, .trans (.single (.inl ⟨hlt, g, hgi, hr.g⟩)) edge⟩
        · obtain rfl : i = r := by omega
          exact ⟨q, hg, edge⟩
  refine ⟨h.ct.nr, fun i a ha hm => ?_, over, hd, h.low⟩
  obtain ⟨x, hx, hxa⟩ := touch_of ha
  by_cases h0g : x.g = 0
  · have := knows_own hx
    rw [h0g] at this
    exact .inl this
  · by_cases hk : a.kind = .atomic
    · rcases getElem?_append_cases hx with ⟨_, hx'⟩ | ⟨_, hxv⟩
      · exact (h0.known i a (by rw [touchAt_of hx']; exact hxa) hm).imp (·.app v) id
      · exact .inr ⟨(hv x hxv).shy a hxa hk, hk⟩
    · obtain ⟨j, hj, hb⟩ := over i x.g (by simp [Trace.g?, hx]) h0g ⟨a, ha, hm, .inl hk⟩
      obtain ⟨z, hz, hzg⟩ := Option.map_eq_some_iff.1 hj
      exact .inl ⟨j, z, hz, hzg, .inr hb⟩

/-- .. and every operation is of the frame's kind. -/
theorem PT.opF {Z Z' : Nat → Prop} (h : PT P m0 b0 Low C Ch Wg t0 N B r t) (h0 : ∀ op ∈ t0, OpF P m0 Z' b0 op) (hN : b0 ≤ N) (hb : 1 ≤ b0) (hgot : ∀ op ∈ t, ∀ c i cap, op.act = .recv c i cap → Z c) : ∀ op ∈ t, OpF P m0 Z N op := by
  intro op hop
  obtain ⟨i, hi⟩ := Array.getElem?_of_mem hop
  refine ⟨fun x hx => ?_, by have := h.ct.gs i op hi; omega, fun x hx hs => h.ct.quiet i op x hi hx hs, hgot op hop, h.norel op hop⟩
  obtain ⟨v, rfl, hv⟩ := h.ext
  exact (Array.mem_append.1 hop).elim (fun z => (h0 op z).mem x hx) fun z => (hv op z).mem x hx

/-- THE BEGINNING. -/
theorem pt_begin {Z : Nat → Prop} (h : Past (Shd P m0) B t) (ho : ∀ op ∈ t, OpF P m0 Z b0 op) (hZ : ¬ Z Ch) (hb : 1 ≤ b0) : PT P m0 b0 Low C Ch Wg t b0 B 0 t := by
  have perm : ∀ l, ¬ Shd P m0 l → Perm t 0 l := by
    intro l hl i a ha e
    obtain ⟨x, hx, hxa⟩ := touch_of ha
    rcases h.known i a ha ((ho x (Array.mem_of_getElem? hx)).mem a hxa) with hk | ⟨hs, _⟩
    · exact hk
    · exact absurd (e ▸ hs) hl
  refine ⟨⟨fun i op x hi hx hs => (ho op (Array.mem_of_getElem? hi)).quiet x hx hs, fun k _ hk l hl => absurd hl.1 (by omega), fun k _ hk l hl => absurd hl.1 (by omega), fun l hl _ => perm l hl, fun l hl _ => .of (perm l hl), h.clean, fun i op hi => by have := (ho op (Array.mem_of_getElem? hi)).gs; omega⟩,
    ⟨#[], by simp, by simp⟩, h.seen, fun op hop i cap e => absurd ((ho op hop).got Ch i cap e) hZ, fun op hop => (ho op hop).norel⟩
end
end Go.Sim
