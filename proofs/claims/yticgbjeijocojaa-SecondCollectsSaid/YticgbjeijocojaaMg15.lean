/-
  The run of the machine, step by step: who made which block (a prophecy that the run itself tells); goroutine 0's walk beside leavers.
  Goroutine 0's walk beside leavers, on whatever tape: whatever a walk by contract says, the machine carries out; a call that goes is paid by its own law.
  The measure of many walks at once: whoever takes a step of its own walk lowers it.
-/
import Derived.Test.YticgbjeijocojaaMg3
import Derived.Conc.Beside
import Derived.Conc.FairRun
import Derived.DuoClaim
set_option linter.unusedVariables false
set_option linter.unusedSimpArgs false
section
set_option linter.unusedVariables false
set_option linter.unusedSimpArgs false
namespace Go.Sim
open Go Go.Conc
open Go.ConcN (sumTo upd sumTo_upd upd_ne upd_same)

section
variable (P : Program) (m0 : Machine)
/-- The run's n-th machine, and its trace. -/
def At (n : Nat) (m : Machine) (t : Trace) : Prop := runNT P n m0 #[] = (.next m, t)
/-- Who moves. -/
def whoM (m : Machine) : Option Nat := match move P m with
  | .goroutine _ i => some i
  | _ => none
/-- Block b is made at step n. -/
def Birth (n b : Nat) : Prop :=
  ∃ m t m' t', At P m0 n m t ∧ At P m0 (n + 1) m' t' ∧ b < m'.world.heap.size ∧ ∀ k m'' t'', k ≤ n → At P m0 k m'' t'' → m''.world.heap.size ≤ b
/-- .. by goroutine i. -/
def Mk (i b : Nat) : Prop := ∃ n m t, Birth P m0 n b ∧ At P m0 n m t ∧ whoM P m = some i
/-- A group's block: made by goroutine 0, where it makes a group. -/
def Gp (b : Nat) : Prop := ∃ n m t a, Birth P m0 n b ∧ At P m0 n m t ∧ whoM P m = some 0 ∧ m.gs[0]? = some a ∧ WgRec a = true
end

section
variable {P : Program} {m0 : Machine}
theorem At.fun {n : Nat} {m m' : Machine} {t t' : Trace} (h : At P m0 n m t) (h' : At P m0 n m' t') : m = m' ∧ t = t' := by
  unfold At at h h'
  rw [h] at h'
  simp only [Prod.mk.injEq, Stepped.next.injEq] at h'
  exact h'
theorem At.zero : At P m0 0 m0 #[] := rfl
theorem At.succ {n : Nat} {m m' : Machine} {t : Trace} {ops : Array MemOp} (h : At P m0 n m t) (hs : stepT P m = (.next m', ops)) : At P m0 (n + 1) m' (t ++ ops) := by
  unfold At at h ⊢
  rw [runNT_add, h]
  simp [runNT, hs]
theorem Birth.uniq {n n' b : Nat} (h : Birth P m0 n b) (h' : Birth P m0 n' b) : n = n' := by
  have key : ∀ {n n' : Nat}, Birth P m0 n b → Birth P m0 n' b → ¬ n < n' := by
    intro n n' ⟨_, _, m1, t1, _, h1, hlt, _⟩ ⟨_, _, _, _, _, _, _, hm⟩ hl
    have := hm (n + 1) m1 t1 (by omega) h1
    omega
  have h1 := key h h'
  have h2 := key h' h
  omega
theorem Mk.uniq {i j b : Nat} (h : Mk P m0 i b) (h' : Mk P m0 j b) : i = j := by
  obtain ⟨n, m, t, hb, ha, hw⟩ := h
  obtain ⟨n', m', t', hb', ha', hw'⟩ := h'
  obtain rfl := hb.uniq hb'
  obtain ⟨rfl, rfl⟩ := ha.fun ha'
  rw [hw] at hw'
  exact Option.some.inj hw'

/-- The heap has only grown so far. -/
def Grew (P : Program) (m0 : Machine) (n : Nat) (w : World) : Prop := ∀ k m t, k ≤ n → At P m0 k m t → m.world.heap.size ≤ w.heap.size
theorem Grew.succ {n : Nat} {w w' : World} {m : Machine} {t : Trace} (h : Grew P m0 n w) (ha : At P m0 (n + 1) m t) (hm : m.world.heap.size = w'.heap.size) (hs : w.heap.size ≤ w'.heap.size) : Grew P m0 (n + 1) w' := by
  intro k m1 t1 hk h1
  rcases Nat.lt_or_ge k (n + 1) with hlt | hge
  · exact Nat.le_trans (h k m1 t1 (by omega) h1) hs
  · obtain rfl : k = n + 1 := by omega
    obtain ⟨rfl, _⟩ := ha.fun h1
    omega
theorem Grew.birth {n : Nat} {w : World} {m m' : Machine} {t t' : Trace} (h : Grew P m0 n w) (ha : At P m0 n m t) (ha' : At P m0 (n + 1) m' t') {b : Nat} (h1 : w.heap.size ≤ b) (h2 : b < m'.world.heap.size) : Birth P m0 n b :=
  ⟨m, t, m', t', ha, ha', h2, fun k m1 t1 hk hk1 => Nat.le_trans (h k m1 t1 hk hk1) h1⟩

/-- Who moves, in a crowd. -/
theorem crowd_move {gs : Array Goroutine} {w : World} {sl : Option (Nat × Nat)} (ha : ∀ g ∈ gs, awake g) (some1 : ∃ (i : Nat) (g : Goroutine), gs[i]? = some g ∧ g.status = .running) :
    ∃ (i : Nat) (g : Goroutine) (d : Nat) (sl' : Option (Nat × Nat)), gs[i]? = some g ∧ g.status = .running ∧ whoM P (crowd gs w sl) = some i ∧ stepT P (crowd gs w sl) = runT P (crowd gs (w.at d) sl') i := by
  have hne : runnable (crowd gs w sl).gs (crowd gs w sl).world.os.mono ≠ [] := by
    intro h
    obtain ⟨i, g, hi, hg⟩ := some1
    have : i ∈ runnable (crowd gs w sl).gs (crowd gs w sl).world.os.mono := mem_runnable.2 (by simp [crowd, hi, Goroutine.canRun, hg])
    rw [h] at this; cases this
  obtain ⟨i, hi, d, sl', hs⟩ := move_pick (P := P) (m := crowd gs w sl) rfl rfl (by simp [due, crowd]) (ahead_crowd ha) rfl hne
  have hc := mem_runnable.1 hi
  simp only [crowd] at hc
  cases hg : gs[i]? with
  | none => simp [hg] at hc
  | some g =>
    simp only [hg, Option.any_some] at hc
    exact ⟨i, g, d, sl', hg, (canRun_iff (ha g (Array.mem_of_getElem? hg)) _).1 hc, by simp [whoM, hs], by simp [stepT, hs, crowd_at]⟩
end
end Go.Sim
end

section
set_option linter.unusedVariables false
set_option linter.unusedSimpArgs false
namespace Go.Sim
open Go Go.Conc
open Go.ConcN (sumTo upd sumTo_upd upd_ne upd_same)

section
variable (P : Program) (m0 : Machine)
/-- Places that are shunned: a group's cells, and the objects (channels). -/
def Shd (l : Loc) : Prop := (∃ a, l = .cell a ∧ Gp P m0 a.block) ∨ ∃ r, l = .obj r
/-- What every operation so far is. Z: the channels from which something was got. -/
structure OpF (Z : Nat → Prop) (N : Nat) (op : MemOp) : Prop where
  mem : ∀ x, op.act.touch? = some x → x.loc.isMemory = true
  gs : op.g < N
  quiet : ∀ x, op.act.touch? = some x → Shd P m0 x.loc → x.kind ≠ .plain ∧ (x.kind = .said → op.g = 0)
  got : ∀ c i cap, op.act = .recv c i cap → Z c
  norel : ∀ a, op.act ≠ .mark (.release a)
/-- The frame: goroutine 0 stands at a, all others are leaving. -/
structure Fr (Z : Nat → Prop) (n : Nat) (gs : Array Goroutine) (w : World) (sl : Option (Nat × Nat)) (t : Trace) (q : Nat → Nat) (a : Goroutine) : Prop where
  at_ : At P m0 n (crowd gs w sl) t
  h0 : gs[0]? = some a
  lv : Leavers P t gs q
  past : Past (Shd P m0) w.heap.size t
  grew : Grew P m0 n w
  ops : ∀ op ∈ t, OpF P m0 Z gs.size op
/-- The machine comes to a frame in which this holds. -/
def Comes0 (Z : Nat → Prop) (n : Nat) (S : Goroutine → World → Prop) : Prop :=
  ∃ n' gs' w' sl' t' q' a', n ≤ n' ∧ Fr P m0 Z n' gs' w' sl' t' q' a' ∧ S a' w'
end

section
variable {P : Program} {m0 : Machine} {Z : Nat → Prop}

theorem Comes0.mono {n : Nat} {S S' : Goroutine → World → Prop} (h : Comes0 P m0 Z n S) (m : ∀ a w, S a w → S' a w) : Comes0 P m0 Z n S' :=
  let ⟨n', gs', w', sl', t', q', a', h1, h2, h3⟩ := h; ⟨n', gs', w', sl', t', q', a', h1, h2, m _ _ h3⟩
theorem Comes0.later {n n' : Nat} {S : Goroutine → World → Prop} (h : Comes0 P m0 Z n' S) (hn : n ≤ n') : Comes0 P m0 Z n S :=
  let ⟨k, gs', w', sl', t', q', a', h1, h2, h3⟩ := h; ⟨k, gs', w', sl', t', q', a', Nat.le_trans hn h1, h2, h3⟩

theorem Ev1.evL {c : Bs P} (hQ : ∀ b, ¬ c.Q b) (hK : ∀ b, c.K b ∨ c.R b → ¬ Gp P m0 b) {n : Nat} {e : Event} (h : Ev1 c n e) (hx : outB e.loc = false) : EvL (Shd P m0) n e := by
  rcases h with ⟨a, wr, rfl, h1, h2⟩ | ⟨m, rfl, hm⟩ | hf
  · refine evL_cell a wr ?_ h1
    rintro (⟨b, hb, hg⟩ | ⟨r, hr⟩)
    · cases hb
      exact hK a.block (h2.imp id (·.1)) hg
    · cases hr
  · have : m = .noRoom := hm.elim id fun ⟨a, hq, _⟩ => absurd hq (hQ _)
    subst this
    exact ⟨fun x hx => by simp [MemAct.ofEvent, MemAct.touch?] at hx, by simp, by simp, trivial⟩
  · exact absurd (hx.symm.trans hf) Bool.false_ne_true

theorem Ev1.opF {c : Bs P} (hQ : ∀ b, ¬ c.Q b) (hK : ∀ b, c.K b ∨ c.R b → ¬ Gp P m0 b) {n N g : Nat} {fn : FuncId} {pos : String} {e : Event} (h : Ev1 c n e) (hx : outB e.loc = false) (hg : g < N) : OpF P m0 Z N { g, fn, pos, act := .ofEvent e } := by
  rcases h with ⟨a, wr, rfl, h1, h2⟩ | ⟨m, rfl, hm⟩ | hf
  · refine ⟨fun x hx => ?_, hg, fun x hx hs => ?_, fun c i cap hx => ?_, fun a hx => ?_⟩
    · cases wr <;> simp [MemAct.ofEvent, MemAct.touch?] at hx <;> subst hx <;> rfl
    · have hl : x.loc = .cell a := by cases wr <;> simp [MemAct.ofEvent, MemAct.touch?] at hx <;> subst hx <;> rfl
      rw [hl] at hs
      rcases hs with ⟨b, hb, hg⟩ | ⟨r, hr⟩
      · cases hb; exact absurd hg (hK a.block (h2.imp id (·.1)))
      · cases hr
    · cases wr <;> simp [MemAct.ofEvent] at hx
    · cases wr <;> simp [MemAct.ofEvent] at hx
  · have : m = .noRoom := hm.elim id fun ⟨a, hq, _⟩ => absurd hq (hQ _)
    subst this
    exact ⟨fun x hx => by simp [MemAct.ofEvent, MemAct.touch?] at hx, hg, fun x hx => by simp [MemAct.ofEvent, MemAct.touch?] at hx, fun c i cap hx => by simp [MemAct.ofEvent] at hx, fun a hx => by simp [MemAct.ofEvent] at hx⟩
  · exact absurd (hx.symm.trans hf) Bool.false_ne_true

theorem opF_mute {N g : Nat} {fn : FuncId} {pos : String} {e : Event} (h : e.mute = true) (hg : g < N) : OpF P m0 Z N { g, fn, pos, act := .ofEvent e } := by
  have ht := touch_mute h
  refine ⟨fun x hx => (by rw [ht] at hx; cases hx), hg, fun x hx => (by rw [ht] at hx; cases hx), ?_, ?_⟩
  all_goals
    obtain ⟨loc, wr, sy⟩ := e
    cases loc <;> simp_all [Event.mute]
    rename_i m
    cases m <;> simp_all [MemAct.ofEvent]

theorem opF_app {N : Nat} {t u : Trace} (h : ∀ op ∈ t, OpF P m0 Z N op) (hu : ∀ op ∈ u, OpF P m0 Z N op) : ∀ op ∈ t ++ u, OpF P m0 Z N op :=
  fun op hop => (Array.mem_append.1 hop).elim (h op) (hu op)

/-- ████ GOROUTINE 0's WALK BESIDE LEAVERS. ████ -/
theorem walk_main {c : Bs P} (hmain : c.main = true) (hI : ∀ w d, c.I w → c.I (World.at w d)) (hQ : ∀ b, ¬ c.Q b) (hK : ∀ b, c.K b ∨ c.R b → ¬ Gp P m0 b)
    (hN : ∀ n m t a b, At P m0 n m t → whoM P m = some 0 → m.gs[0]? = some a → WgRec a = false → Birth P m0 n b → c.K b)
    (hJ : ∀ n gs w sl t q a S, Fr P m0 Z n gs w sl t q a → c.J a w S → Comes0 P m0 Z n S)
    {Stop : Goroutine → World → Prop} {a : Goroutine} {w : World} (h : Walks c Stop a w) :
    ∀ n gs sl t q, Fr P m0 Z n gs w sl t q a → Comes0 P m0 Z n Stop := by
  induction h with
  | stop h => exact fun n gs sl t q f => ⟨n, gs, _, sl, t, q, _, Nat.le_refl _, f, h _ (Oth.refl _)⟩
  | jump S hj k ih =>
    intro n gs sl t q f
    obtain ⟨n1, gs1, w1, sl1, t1, q1, a1, h1, f1, s1⟩ := hJ n gs _ sl t q _ S f (hj _ (Oth.refl _))
    exact (ih a1 w1 s1 n1 gs1 sl1 t1 q1 f1).later h1
  | @step g w ng nw ne hs hf h d k ih =>
    have inner : ∀ M n gs w' sl t q, sumTo gs.size q = M → Oth c w w' → Fr P m0 Z n gs w' sl t q g → Comes0 P m0 Z n Stop := by
      intro M
      induction M using Nat.strongRecOn with
      | _ M ihM =>
      intro n gs w' sl t q hM ho f
      have h0 := f.h0
      have hlt0 : 0 < gs.size := (Array.getElem?_eq_some_iff.1 h0).1
      have haw : ∀ x ∈ gs, awake x := by
        intro x hx
        obtain ⟨i, hi, rfl⟩ := Array.mem_iff_getElem.1 hx
        rcases Nat.eq_zero_or_pos i with rfl | hpos
        · have : gs[0] = g := by simpa [Array.getElem?_eq_getElem hi] using h0
          rw [this]; exact awake_of (.inl hs)
        · exact awake_of ((f.lv.old i _ hpos (Array.getElem?_eq_getElem hi)).status.elim .inl fun x => .inr (.inr x))
      obtain ⟨i, x, dd, sl', hi, hx, hwho, hst⟩ := crowd_move (P := P) (w := w') (sl := sl) haw ⟨0, g, h0, hs⟩
      have hoD : Oth c w' (w'.at dd) := ⟨rfl, rfl, rfl, Nat.le_refl _, fun _ _ => rfl, hI _ _⟩
      rcases Nat.eq_zero_or_pos i with rfl | hpos
      · -- goroutine 0's own step
        obtain rfl : x = g := by rw [h0] at hi; exact (Option.some.inj hi).symm
        have o1 := ho.trans hoD
        have hgo := h (w'.at dd) o1
        have hgo' : stepG P (0 == 0) x (w'.at dd) = .go (ng (w'.at dd)) (nw (w'.at dd)) (ne (w'.at dd)) := by rw [hmain] at hgo; exact hgo
        have hrunT := runT_crowd_go (P := P) (sl := sl') (i := 0) hi hgo'
        have hat := f.at_.succ (hst.trans hrunT)
        have hnews : News c (w'.at dd) (nw (w'.at dd)) := by
          rcases hf (w'.at dd) o1 with hf | hf
          · exact fun b h1 h2 => hN n _ _ x b f.at_ hwho h0 hf (f.grew.birth f.at_ hat h1 h2)
          · exact News.of_size hf
        have hd := d (w'.at dd) o1 hnews
        have hsz : ((gs.map (woken P x (ng (w'.at dd)) (nw (w'.at dd)))).setIfInBounds 0 (ng (w'.at dd))).size = gs.size := by simp
        have hother : ∀ j, 0 < j → ∀ op ∈ MemOp.ofEvents 0 x.frame.fn x.frame.place (ne (w'.at dd)), op.g = 0 := fun _ _ op hop => by obtain ⟨e, _, rfl⟩ := Conc.mem_ofEvents hop; rfl
        refine (ih (w'.at dd) o1 hnews (n + 1) _ sl' _ q ⟨hat, by simp [hlt0], ⟨fun j y hj hy => ?_, fun j hj => ?_⟩, ?_, f.grew.succ hat rfl hd.size, ?_⟩).later (Nat.le_succ n)
        · have hne : 0 ≠ j := by omega
          rw [Array.getElem?_setIfInBounds_ne hne, Array.getElem?_map] at hy
          obtain ⟨z, hz, rfl⟩ := Option.map_eq_some_iff.1 hy
          have hq := f.lv.old j z hj hz
          rw [woken_quitsD hq, Deaf_other t (by omega) _ (hother j hj)]
          exact hq
        · rw [Deaf_other t (g' := 0) (by simp at hj; omega) _ (hother 1 (by omega))]
          exact f.lv.above j (by simpa using hj)
        · exact (f.past.mono hd.size).own fun e he => Ev1.evL hQ hK (hd.evs e he) (hd.noext e he)
        · rw [hsz]
          refine opF_app f.ops fun op hop => ?_
          obtain ⟨e, he, rfl⟩ := Conc.mem_ofEvents hop
          exact Ev1.opF hQ hK (hd.evs e he) (hd.noext e he) hlt0
      · -- a leaver slips
        have hq := f.lv.old i x hpos hi
        have hi0 : (i == 0) = false := by simp; omega
        have hlt : i < gs.size := (Array.getElem?_eq_some_iff.1 hi).1
        cases hqi : q i with
        | zero => rw [hqi] at hq; rw [hq.1] at hx; cases hx
        | succ k1 =>
          rw [hqi] at hq
          rcases hq with ⟨hfin, _⟩ | ⟨_, g', es, hm, hstp, hq'⟩
          · rw [hfin] at hx; cases hx
          have hrunT := runT_crowd_go (P := P) (sl := sl') (i := i) hi (by rw [hi0]; exact hstp (w'.at dd))
          have hat := f.at_.succ (hst.trans hrunT)
          have hsz : ((gs.map (woken P x g' (w'.at dd))).setIfInBounds i g').size = gs.size := by simp
          have hsum : sumTo gs.size (upd q i k1) + (k1 + 1) = sumTo gs.size q + k1 := by
            have := sumTo_upd q k1 id hlt
            simpa [hqi] using this
          have hall : ∀ op ∈ MemOp.ofEvents i x.frame.fn x.frame.place es, op.g = i := fun op hop => by obtain ⟨e, _, rfl⟩ := Conc.mem_ofEvents hop; rfl
          refine (ihM (sumTo gs.size (upd q i k1)) (by omega) (n + 1) _ (w'.at dd) sl' _ (upd q i k1) (by rw [hsz]) (ho.trans hoD) ⟨hat, ?_, ⟨fun j y hj hy => ?_, fun j hj => ?_⟩, ?_, f.grew.succ hat rfl (Nat.le_refl _), ?_⟩).later (Nat.le_succ n)
          · have hne : i ≠ 0 := by omega
            rw [Array.getElem?_setIfInBounds_ne hne, Array.getElem?_map, h0]
            simp [woken_run hs]
          · by_cases hji : i = j
            · subst hji
              rw [Array.getElem?_setIfInBounds_self_of_lt (by simpa using hlt)] at hy
              obtain rfl := Option.some.inj hy
              rw [upd_same, Deaf_own]
              exact hq'
            · rw [Array.getElem?_setIfInBounds_ne hji, Array.getElem?_map] at hy
              obtain ⟨z, hz, rfl⟩ := Option.map_eq_some_iff.1 hy
              have hqj := f.lv.old j z hj hz
              rw [woken_quitsD hqj, upd_ne q k1 (Ne.symm hji), Deaf_other t hji _ hall]
              exact hqj
          · rw [Deaf_other t (g' := i) (by simp at hj; omega) _ hall]
            exact f.lv.above j (by simpa using hj)
          · exact f.past.mute (by omega) hm
          · rw [hsz]
            refine opF_app f.ops fun op hop => ?_
            obtain ⟨e, he, rfl⟩ := Conc.mem_ofEvents hop
            exact opF_mute (hm e he) hlt
    exact fun n gs sl t q f => inner _ n gs w sl t q rfl (Oth.refl w) f
end
end Go.Sim
end

section
set_option linter.unusedVariables false
set_option linter.unusedSimpArgs false
namespace Go.Sim
open Go Go.Conc

/-- A walk under way. -/
structure Wk (P : Program) where
  c : Bs P
  S : Goroutine → World → Prop
  g : Goroutine
  w : World

/-- It is at its stop, whatever the others do. -/
def Wk.atStop {P : Program} (x : Wk P) : Prop := ∀ w1, Oth x.c x.w w1 → x.S x.g w1

/-- One step of a walk further on. -/
def WkLt {P : Program} (x' x : Wk P) : Prop :=
  x'.c = x.c ∧ x'.S = x.S ∧ Walks x.c x.S x.g x.w ∧ (∀ g w S, ¬ x.c.J g w S) ∧ ¬ x.atStop ∧ ∃ w1 es, Oth x.c x.w w1 ∧ stepG P x.c.main x.g w1 = .go x'.g x'.w es ∧ News x.c w1 x'.w

/-- How a walk that is not yet at its stop goes on. -/
theorem Wk.goes {P : Program} {x : Wk P} (h : Walks x.c x.S x.g x.w) (hj : ∀ g w S, ¬ x.c.J g w S) (hn : ¬ x.atStop) :
    x.g.status = .running ∧ ∀ w1, Oth x.c x.w w1 → ∃ g' w' es, stepG P x.c.main x.g w1 = .go g' w' es ∧ (WgRec x.g = false ∨ w'.heap.size = w1.heap.size) ∧
      (News x.c w1 w' → DidX x.c w1 w' es ∧ Walks x.c x.S g' w' ∧ WkLt ⟨x.c, x.S, g', w'⟩ x) := by
  obtain ⟨c, S, g, w⟩ := x
  have h0 := h
  cases h with
  | stop h => exact absurd h hn
  | jump S' hJ k => exact absurd (hJ w (Oth.refl w)) (hj _ _ _)
  | step ng nw ne hs hf hh d k => exact ⟨hs, fun w1 h1 => ⟨_, _, _, hh w1 h1, hf w1 h1, fun n => ⟨d w1 h1 n, k w1 h1 n, rfl, rfl, h0, hj, hn, w1, _, h1, hh w1 h1, n⟩⟩⟩

theorem wkLt_acc {P : Program} : ∀ (x : Wk P), Acc WkLt x := by
  have key : ∀ (c : Bs P) (S : Goroutine → World → Prop) (g : Goroutine) (w : World), Walks c S g w → Acc WkLt (⟨c, S, g, w⟩ : Wk P) := by
    intro c S g w h
    induction h with
    | stop h => exact ⟨_, fun x' ⟨_, _, _, _, hn, _⟩ => absurd h hn⟩
    | jump S' hJ k ih => exact ⟨_, fun x' ⟨_, _, _, hj, _⟩ => absurd (hJ _ (Oth.refl _)) (hj _ _ _)⟩
    | step ng nw ne hs hf h d k ih =>
      refine ⟨_, fun x' ⟨hc, hS, hW, hj, hn, w1, es, ho, hst, hnw⟩ => ?_⟩
      obtain ⟨c', S', g', w'⟩ := x'
      simp only at hc hS hst hnw hn ho
      subst hc; subst hS
      have e := h w1 ho
      rw [hst] at e
      cases e
      exact ih w1 ho hnw
  exact fun x => by
    by_cases hx : Walks x.c x.S x.g x.w
    · exact key x.c x.S x.g x.w hx
    · exact ⟨_, fun x' ⟨_, _, hW, _⟩ => absurd hW hx⟩

/-- Many walks: one of the first k goes on. -/
def VecLt {P : Program} (k : Nat) (f' f : Nat → Wk P) : Prop := ∃ i, i < k ∧ WkLt (f' i) (f i) ∧ ∀ j, j ≠ i → f' j = f j

theorem vecLt_acc {P : Program} : ∀ (k : Nat) (f : Nat → Wk P), Acc (VecLt k) f
  | 0, f => ⟨f, fun f' ⟨i, hi, _⟩ => absurd hi (Nat.not_lt_zero i)⟩
  | k + 1, f => by
    have key : ∀ x : Wk P, Acc WkLt x → ∀ f : Nat → Wk P, f k = x → Acc (VecLt (k + 1)) f := by
      intro x hx
      induction hx with
      | intro x _ ih1 =>
        intro f hf
        have h2 := vecLt_acc k f
        induction h2 with
        | intro f _ ih2 =>
          refine ⟨f, fun f' ⟨i, hi, hl, ho⟩ => ?_⟩
          rcases Nat.lt_or_ge i k with hlt | hge
          · exact ih2 f' ⟨i, hlt, hl, ho⟩ (by rw [ho k (by omega)]; exact hf)
          · obtain rfl : i = k := by omega
            exact ih1 (f' i) (hf ▸ hl) f' rfl
    exact key (f k) (wkLt_acc _) f rfl

/-- The measure: stages, walks, and whether somebody tries again. -/
def Mu (P : Program) := Nat × (Nat → Wk P) × Nat
def MuLt {P : Program} (k : Nat) (x y : Mu P) : Prop := Prod.Lex (· < ·) (Prod.Lex (VecLt k) (· < ·)) x y
theorem muLt_wf {P : Program} (k : Nat) : WellFounded (MuLt (P := P) k) :=
  (Prod.lex Nat.lt_wfRel (Prod.lex ⟨VecLt k, ⟨vecLt_acc k⟩⟩ Nat.lt_wfRel)).wf
theorem MuLt.stage {P : Program} {k : Nat} {a a' b b' : Nat} {f f' : Nat → Wk P} (h : a' < a) : MuLt k (a', f', b') (a, f, b) := Prod.Lex.left _ _ h
theorem MuLt.walk {P : Program} {k : Nat} {a a' b b' : Nat} {f f' : Nat → Wk P} (h0 : a' ≤ a) (h : VecLt k f' f) : MuLt k (a', f', b') (a, f, b) := by
  rcases Nat.lt_or_ge a' a with hlt | hge
  · exact Prod.Lex.left _ _ hlt
  · obtain rfl : a' = a := by omega
    exact Prod.Lex.right _ (Prod.Lex.left _ _ h)
theorem MuLt.bit {P : Program} {k : Nat} {a b b' : Nat} {f : Nat → Wk P} (h : b' < b) : MuLt k (a, f, b') (a, f, b) := Prod.Lex.right _ (Prod.Lex.right _ h)
end Go.Sim
end
