/-
  A pool: a starter sends numbers over a channel; workers receive, compute, write one cell each; a group counts them down. Who stands where, and what holds of world and trace.
  The pool: its laws (what each stop's step is), its invariant, a worker's step.
  The pool: the starter's steps, an old leaver's, the channel's.
  The pool: the channel's steps.
-/
import Derived.Test.YticgbjeijocojaaMg16
import Derived.Conc.CrowdStepC2
import Derived.Conc.CrowdComm
set_option linter.unusedVariables false
set_option linter.unusedSimpArgs false
section
set_option linter.unusedVariables false
set_option linter.unusedSimpArgs false
namespace Go.Sim
open Go Go.Conc
open Go.ConcN (CT Apart Ok0 OkW RelBy sumTo upd sumTo_upd upd_ne upd_same WD CTag Mode Vc cnt pend isOpen isW3 isFin OpenSt AllQuit phi phi_mono WgLive)
open Go.ConcR (stA smA rd wr mk KK WgAt Bk)

inductive MTag where
  | skd (j : Nat) | a1 (j : Nat) | ske (j : Nat) | sgo (j : Nat) | snd (i : Nat) | spk (i : Nat) | cls | kd | w1 | w2 (vs : Nat) | w3 | blk | w4 | ke | acq | fin
inductive WTag where
  | recv | park | wok | work (m : Nat) | r0 | k1 (m : Nat) | d1 (m : Nat) | d2 (m : Nat) | d3 (m : Nat) | d4 (m : Nat) | quit (q d : Nat)

namespace WTag
def stage : WTag → Nat
  | .recv | .park | .wok | .work _ | .r0 => 7
  | .k1 _ => 6
  | .d1 _ => 5
  | .d2 _ => 4
  | .d3 _ => 3
  | .d4 _ => 2
  | .quit _ _ => 1
def deaf : WTag → Nat
  | .d1 _ | .d2 _ | .d3 _ | .d4 _ => 1
  | .quit _ d => d
  | _ => 0
def fuel : WTag → Nat
  | .quit q _ => q
  | .k1 m | .d1 m | .d2 m | .d3 m | .d4 m => m
  | _ => 0
def rank : WTag → Nat
  | .work _ => 12
  | .recv => 10
  | .park => 9
  | .wok => 8
  | .r0 => 7
  | .k1 _ => 6
  | .d1 _ => 5
  | .d2 _ => 4
  | .d3 _ => 3
  | .d4 _ => 2
  | .quit _ _ => 1
/-- On a walk by contract. -/
def walk : WTag → Bool
  | .recv | .work _ | .r0 => true
  | _ => false
/-- On its way out, and listing nothing: the stop it goes to. -/
def slow : WTag → Option WTag
  | .k1 _ => some (.k1 0)
  | .d1 _ => some (.d1 0)
  | .d2 _ => some (.d2 0)
  | .d3 _ => some (.d3 0)
  | .d4 _ => some (.d4 0)
  | _ => none
/-- Ahead of the channel's end. -/
def early : WTag → Bool
  | .recv | .park | .work _ => true
  | _ => false
def wd (t : WTag) : WD := ⟨t.stage, 0, t.deaf⟩
end WTag

namespace MTag
def closed : MTag → Bool
  | .skd _ | .a1 _ | .ske _ | .sgo _ | .snd _ | .spk _ | .cls => false
  | _ => true
def walk : MTag → Bool
  | .spk _ | .blk => false
  | _ => true
def deaf : MTag → Nat
  | .a1 _ | .ske _ | .w1 | .w2 _ | .w3 | .blk | .w4 | .ke => 1
  | _ => 0
end MTag

/-- What the pool is: its goroutines, blocks, and where each stands at its stops. -/
structure PD (P : Program) where
  m0 : Machine
  b0 : Nat
  n : Nat
  W : Nat
  Low : Nat
  C : Nat
  Ch : Nat
  Wg : Nat
  ty : TypeId
  ety : TypeId
  z : Value
  zs : Value
  num : Nat → Value
  w0 : World
  M : MTag → Goroutine → World → Prop
  S : Nat → WTag → Goroutine → World → Prop
  Base : Nat → Nat → Value → World → Prop

section
variable {P : Program} (p : PD P)
def PD.R (b : Nat) : Prop := b < p.Low ∧ b ≠ p.Wg ∧ b ≠ p.Ch ∧ b ≠ p.C ∧ ¬ Gp P p.m0 b
/-- Whose blocks are whose: goroutine 0's; worker k's, from B on. -/
def PD.cM : Bs P := ⟨true, fun b => Mk P p.m0 0 b ∧ p.Low ≤ b ∧ ¬ Gp P p.m0 b, p.R, p.w0, fun _ _ _ => False, WgLive p.ty p.Wg, fun b => b = p.Wg⟩
def PD.cW (k B : Nat) : Bs P := ⟨false, fun b => Mk P p.m0 k b ∧ B ≤ b, p.R, p.w0, fun _ _ _ => False, WgLive p.ty p.Wg, fun _ => False⟩
def PD.toC : MTag → CTag
  | .skd j => .sp (p.W - 1 - j) 5
  | .a1 j => .sp (p.W - 1 - j) 4
  | .ske j => .sp (p.W - 1 - j) 3
  | .sgo j => .sp (p.W - 1 - j) 2
  | .snd _ | .spk _ | .cls | .kd => .kd
  | .w1 => .w1
  | .w2 vs => .w2 vs
  | .w3 => .w3
  | .blk => .blk
  | .w4 => .w4
  | .ke => .ke
  | .acq => .acq
  | .fin => .ret
def PD.phi (v : Nat) : MTag → Nat
  | .skd j => 8 * p.W + 8 * p.n + 24 + 32 * (p.W - 1 - j) + 5
  | .a1 j => 8 * p.W + 8 * p.n + 24 + 32 * (p.W - 1 - j) + 4
  | .ske j => 8 * p.W + 8 * p.n + 24 + 32 * (p.W - 1 - j) + 3
  | .sgo j => 8 * p.W + 8 * p.n + 24 + 32 * (p.W - 1 - j) + 2
  | .snd i => 8 * p.W + 8 + 8 * (p.n - i)
  | .spk i => 8 * p.W + 7 + 8 * (p.n - i)
  | .cls => 8 * p.W + 8
  | .kd => 8 * p.W + 7
  | .w1 => 8 * v + 5
  | .w2 vs => 8 * vs + 4
  | .w3 => 5
  | .blk => 5
  | .w4 => 4
  | .ke => 3
  | .acq => 2
  | .fin => 1
def PD.sent : MTag → Nat
  | .skd _ | .a1 _ | .ske _ | .sgo _ => 0
  | .snd i | .spk i => i
  | _ => p.n
def PD.ok (j : Nat) : MTag → Prop
  | .skd i | .a1 i | .ske i | .sgo i => i = j ∧ j < p.W
  | .snd i | .spk i => j = p.W ∧ i < p.n
  | _ => j = p.W
/-- Behind the go statement. -/
def PD.after (j : Nat) : MTag := if j + 1 < p.W then .skd (j + 1) else if 0 < p.n then .snd 0 else .cls
def PD.next (i : Nat) : MTag := if i + 1 < p.n then .snd (i + 1) else .cls

/-- Result i stands in its cell, and what it rests on stands as it did when it was stored. -/
def PD.Kept (B : Nat → Nat) (i : Nat) (w : World) : Prop :=
  ∃ k v w1, k < p.W ∧ p.Base k i v w1 ∧ w1.heap.size ≤ B k ∧ p.Low ≤ w1.heap.size ∧ w.cell? ⟨p.C, i, none⟩ = some v ∧
    ∀ b, b < w1.heap.size → (Mk P p.m0 (p.b0 + k) b ∧ p.Low ≤ b) ∨ p.R b → w.heap[b]? = w1.heap[b]?
def PD.Pay (w : World) : Prop := ∃ cs : Array Value, w.heap[p.C]? = some (.cells cs p.ety) ∧ cs.size = p.n

/-- What a step of goroutine 'me' does to the world: blocks of its own from Lo on, new ones; the group, the channel and the results are looked at apart. -/
structure Turn (me Lo : Nat) (w w' : World) : Prop where
  tape : w'.tape = w.tape
  os : w'.os = w.os
  output : w'.output = w.output
  size : w.heap.size ≤ w'.heap.size
  news : ∀ b, w.heap.size ≤ b → b < w'.heap.size → Mk P p.m0 me b
  block : ∀ b, b < w.heap.size → ¬ (Mk P p.m0 me b ∧ Lo ≤ b) → b ≠ p.Wg → b ≠ p.Ch → b ≠ p.C → w'.heap[b]? = w.heap[b]?
  live : WgLive p.ty p.Wg w → WgLive p.ty p.Wg w'

/-- Where the blocks lie. -/
structure PD.Geo : Prop where
  b1 : 1 ≤ p.b0
  W1 : 1 ≤ p.W
  W2 : p.W < 2147483648
  hW : p.Wg < p.Low
  hC : p.C < p.Low
  hCh : p.Ch < p.Low
  hCW : p.C ≠ p.Wg
  hChW : p.Ch ≠ p.Wg
  hCCh : p.C ≠ p.Ch
  gC : ¬ Gp P p.m0 p.C
  gW : Gp P p.m0 p.Wg
end

section
variable {P : Program} {p : PD P}
theorem Turn.oth {me Lo : Nat} {w w' : World} (h : Turn p me Lo w w') (G : p.Geo) (hL : p.Low ≤ Lo) (hw : p.Low ≤ w.heap.size) {c : Bs P} {k : Nat} (hk : k ≠ me) (hc : ∀ b, c.K b → Mk P p.m0 k b ∧ p.Low ≤ b) (hR : c.R = p.R) (hI : c.I = WgLive p.ty p.Wg) : Oth c w w' := by
  refine ⟨h.tape, h.os, h.output, h.size, fun b hb => ?_, by rw [hI]; exact h.live⟩
  rcases hb with hb | hb
  · obtain ⟨hm, hlow⟩ := hc b hb
    have hne : ¬ Mk P p.m0 me b := fun x => hk (hm.uniq x)
    rcases Nat.lt_or_ge b w.heap.size with hlt | hge
    · exact h.block b hlt (fun x => hne x.1) (by have := G.hW; omega) (by have := G.hCh; omega) (by have := G.hC; omega)
    · rcases Nat.lt_or_ge b w'.heap.size with hlt' | hge'
      · exact absurd (h.news b hge hlt') hne
      · rw [Array.getElem?_eq_none hge', Array.getElem?_eq_none hge]
  · rw [hR] at hb
    obtain ⟨h1, h2, h3, h4, h5⟩ := hb
    exact h.block b (by omega) (fun x => by omega) h2 h3 h4
theorem Turn.othW {me Lo : Nat} {w w' : World} (h : Turn p me Lo w w') (G : p.Geo) (hL : p.Low ≤ Lo) (hw : p.Low ≤ w.heap.size) {k B : Nat} (hk : k ≠ me) (hB : p.Low ≤ B) : Oth (p.cW k B) w w' :=
  h.oth G hL hw hk (fun b hb => ⟨hb.1, Nat.le_trans hB hb.2⟩) rfl rfl
theorem Turn.othM {me Lo : Nat} {w w' : World} (h : Turn p me Lo w w') (G : p.Geo) (hL : p.Low ≤ Lo) (hw : p.Low ≤ w.heap.size) (hk : 0 ≠ me) : Oth p.cM w w' :=
  h.oth G hL hw hk (fun b hb => ⟨hb.1, hb.2.1⟩) rfl rfl

theorem Turn.at (me Lo : Nat) (w : World) (d : Nat) : Turn p me Lo w (w.at d) := ⟨rfl, rfl, rfl, Nat.le_refl _, fun b h1 h2 => absurd h2 (by show ¬ (b < w.heap.size); omega), fun _ _ _ _ _ _ => rfl, id⟩
/-- One of the three blocks turns. -/
theorem Turn.aside {b : Nat} {w w' : World} (h : Aside b w w') (hb : b = p.Wg ∨ b = p.Ch ∨ b = p.C) (hl : WgLive p.ty p.Wg w → WgLive p.ty p.Wg w') (me Lo : Nat) : Turn p me Lo w w' :=
  ⟨h.tape, h.os, h.output, by rw [h.size]; exact Nat.le_refl _, fun x h1 h2 => absurd h2 (by rw [h.size]; omega), fun x _ _ h1 h2 h3 => h.block x (by rintro rfl; rcases hb with e | e | e; exact h1 e; exact h2 e; exact h3 e), hl⟩
theorem live_of_block {w w' : World} {ty : TypeId} {Wg : Nat} (e : w'.heap[Wg]? = w.heap[Wg]?) (h : WgLive ty Wg w) : WgLive ty Wg w' := let ⟨st, sm, x⟩ := h; ⟨st, sm, x.of_block e⟩
theorem Turn.mute (me Lo : Nat) (w : World) : Turn p me Lo w w := ⟨rfl, rfl, rfl, Nat.le_refl _, fun b h1 h2 => absurd h2 (by omega), fun _ _ _ _ _ _ => rfl, id⟩

/-- A step of a walk. -/
theorem turn_walkW (G : p.Geo) {k B : Nat} {w w' : World} {es : Array Event} (h : DidX (p.cW k B) w w' es) (hB : p.Low ≤ B) (hw : p.Low ≤ w.heap.size) (hn : ∀ b, w.heap.size ≤ b → b < w'.heap.size → Mk P p.m0 k b) :
    Turn p k B w w' ∧ ∀ b, b < p.Low → w'.heap[b]? = w.heap[b]? := by
  have low : ∀ b, b < p.Low → w'.heap[b]? = w.heap[b]? := fun b hb => h.block b (by omega) (fun x => by have := x.2; omega)
  exact ⟨⟨h.tape, h.os, h.output, h.size, hn, fun b hb hne _ _ _ => h.block b hb hne, live_of_block (low p.Wg G.hW)⟩, low⟩
theorem turn_walkM (G : p.Geo) {w w' : World} {es : Array Event} (h : DidX p.cM w w' es) (hw : p.Low ≤ w.heap.size) (hn : ∀ b, w.heap.size ≤ b → b < w'.heap.size → Mk P p.m0 0 b) :
    Turn p 0 p.Low w w' ∧ ∀ b, b < p.Low → w'.heap[b]? = w.heap[b]? := by
  have low : ∀ b, b < p.Low → w'.heap[b]? = w.heap[b]? := fun b hb => h.block b (by omega) (fun x => by have := x.2.1; omega)
  exact ⟨⟨h.tape, h.os, h.output, h.size, hn, fun b hb hne _ _ _ => h.block b hb (fun x => hne ⟨x.1, x.2.1⟩), live_of_block (low p.Wg G.hW)⟩, low⟩

theorem PD.Kept.turn {B : Nat → Nat} {i me Lo : Nat} {w w' : World} (h : p.Kept B i w) (t : Turn p me Lo w w') (G : p.Geo) (hL : p.Low ≤ Lo) (hcell : w'.cell? ⟨p.C, i, none⟩ = w.cell? ⟨p.C, i, none⟩)
    (hme : ∀ k, me = p.b0 + k → B k ≤ Lo) (hB : ∀ k, B k ≤ w.heap.size) : p.Kept B i w' := by
  obtain ⟨k, v, w1, hk, hb, h1, h2, h3, h4⟩ := h
  refine ⟨k, v, w1, hk, hb, h1, h2, hcell.trans h3, fun b hb hm => (?_ : _ = _).trans (h4 b hb hm)⟩
  have hbw : b < w.heap.size := by have := hB k; omega
  rcases hm with ⟨hm, hlow⟩ | ⟨r1, r2, r3, r4, r5⟩
  · refine t.block b hbw (fun x => ?_) (by have := G.hW; omega) (by have := G.hCh; omega) (by have := G.hC; omega)
    have := hme k (x.1.uniq hm)
    omega
  · exact t.block b hbw (fun x => by omega) r2 r3 r4
theorem PD.Kept.mono {B B' : Nat → Nat} {i : Nat} {w : World} (h : p.Kept B i w) (hB : ∀ k, B k ≤ B' k) : p.Kept B' i w :=
  let ⟨k, v, w1, hk, hb, h1, h2, h3, h4⟩ := h; ⟨k, v, w1, hk, hb, Nat.le_trans h1 (hB k), h2, h3, h4⟩

/-! ### walks under way -/
def On (c : Bs P) (S : Goroutine → World → Prop) (x : Wk P) (g : Goroutine) (w : World) : Prop := x.c = c ∧ x.S = S ∧ x.g = g ∧ Oth c x.w w ∧ Walks c S g x.w
theorem On.start {c : Bs P} {S : Goroutine → World → Prop} {g : Goroutine} {w : World} (h : Walks c S g w) : On c S ⟨c, S, g, w⟩ g w := ⟨rfl, rfl, rfl, Oth.refl _, h⟩
theorem On.rely {c : Bs P} {S : Goroutine → World → Prop} {x : Wk P} {g : Goroutine} {w w' : World} (h : On c S x g w) (o : Oth c w w') : On c S x g w' := ⟨h.1, h.2.1, h.2.2.1, h.2.2.2.1.trans o, h.2.2.2.2⟩
theorem On.stop {c : Bs P} {S : Goroutine → World → Prop} {x : Wk P} {g : Goroutine} {w : World} (h : On c S x g w) (hs : x.atStop) : S g w := by
  obtain ⟨rfl, rfl, rfl, o, _⟩ := h
  exact hs w o
theorem On.go {c : Bs P} {S : Goroutine → World → Prop} {x : Wk P} {g : Goroutine} {w : World} (h : On c S x g w) (hj : ∀ g w S, ¬ c.J g w S) (hs : ¬ x.atStop) :
    g.status = .running ∧ ∃ g' w' es, stepG P c.main g w = .go g' w' es ∧ (WgRec g = false ∨ w'.heap.size = w.heap.size) ∧ (News c w w' → DidX c w w' es ∧ ∃ x', WkLt x' x ∧ On c S x' g' w') := by
  obtain ⟨rfl, rfl, rfl, o, hw⟩ := h
  obtain ⟨h1, h2⟩ := Wk.goes hw hj hs
  obtain ⟨g', w', es, h3, h4, h5⟩ := h2 w o
  exact ⟨h1, g', w', es, h3, h4, fun n => ⟨(h5 n).1, _, (h5 n).2.2, On.start (h5 n).2.1⟩⟩
theorem On.running {c : Bs P} {S : Goroutine → World → Prop} {x : Wk P} {g : Goroutine} {w : World} (h : On c S x g w) (hj : ∀ g w S, ¬ c.J g w S) (hr : ∀ g w, S g w → g.status = .running) : g.status = .running := by
  by_cases hs : x.atStop
  · exact hr _ _ (h.stop hs)
  · exact (h.go hj hs).1

/-- Where a worker stands. -/
inductive WS (p : PD P) (k B : Nat) (x : Wk P) (w : World) : WTag → Goroutine → Prop
  | on {t : WTag} {g : Goroutine} : t.walk = true → On (p.cW k B) (p.S k t) x g w → WS p k B x w t g
  | park {g : Goroutine} : x.atStop → On (p.cW k B) (p.S k .recv) x g w → WS p k B x w .park (parked (core g) #[rcase p.Ch p.z] (.recv true))
  | wok {g : Goroutine} : x.atStop → On (p.cW k B) (p.S k .recv) x g w → WS p k B x w .wok { parked (core g) #[rcase p.Ch p.z] (.recv true) with status := .running }
  | slow {t s : WTag} {g : Goroutine} : t.slow = some s → Goes P false (Oth (p.cW k p.Low)) Go.ConcR.DC0 (p.S k s) t.fuel g w → WS p k B x w t g
  | quit {q d : Nat} {g : Goroutine} : QuitsD P q d g → WS p k B x w (.quit q d) g
/-- Where the starter stands. -/
inductive MS (p : PD P) (x : Wk P) (w : World) : MTag → Goroutine → Prop
  | on {t : MTag} {g : Goroutine} : t.walk = true → On p.cM (p.M t) x g w → MS p x w t g
  | spk {i : Nat} {g : Goroutine} : x.atStop → On p.cM (p.M (.snd i)) x g w → MS p x w (.spk i) (parked (core g) #[scase p.Ch (p.num i) p.zs] .send)
  | blk {g : Goroutine} : x.atStop → On p.cM (p.M .w3) x g w → MS p x w .blk { g with status := .blocked }

theorem WS.rely {k B : Nat} {x : Wk P} {w w' : World} {t : WTag} {g : Goroutine} (h : WS p k B x w t g) (hB : p.Low ≤ B) (o : ∀ B, p.Low ≤ B → Oth (p.cW k B) w w') : WS p k B x w' t g := by
  cases h with
  | on ht h => exact .on ht (h.rely (o B hB))
  | park hs h => exact .park hs (h.rely (o B hB))
  | wok hs h => exact .wok hs (h.rely (o B hB))
  | slow ht h => exact .slow ht (Goes.rely (R := Oth (p.cW k p.Low)) (fun _ _ _ a b => Oth.trans a b) h (o _ (Nat.le_refl _)))
  | quit h => exact .quit h
theorem MS.rely {x : Wk P} {w w' : World} {t : MTag} {g : Goroutine} (h : MS p x w t g) (o : Oth p.cM w w') : MS p x w' t g := by
  cases h with
  | on ht h => exact .on ht (h.rely o)
  | spk hs h => exact .spk hs (h.rely o)
  | blk hs h => exact .blk hs (h.rely o)
end
end Go.Sim
end

section
set_option linter.unusedVariables false
set_option linter.unusedSimpArgs false
namespace Go.Sim
open Go Go.Conc
open Go.ConcN (CT Apart Ok0 OkW RelBy sumTo upd sumTo_upd upd_ne upd_same WD CTag Mode Vc cnt pend isOpen isW3 isFin OpenSt AllQuit WgLive deafBehind_idle get_map_set get_map_set_same)
open Go.ConcR (stA smA rd wr mk KK WgAt Bk g_of_ofEvents again_blocked)

/-- WHAT THE CODE MUST DO: each stop's step, and the walk to the next. -/
structure PD.Laws {P : Program} (p : PD P) : Prop where
  mrun : ∀ t g w, p.M t g w → g.status = .running
  srun : ∀ k t g w, p.S k t g w → g.status = .running
  skd : ∀ j g w, p.M (.skd j) g w → ∃ g', stepG P true g w = .go g' w #[ConcR.mk .disable] ∧ Walks p.cM (p.M (.a1 j)) g' w
  a1 : ∀ j g w, p.M (.a1 j) g w → ∀ v : Nat, v < 2147483647 → WgAt p.ty p.Wg w (v * KK) 0 →
    ∃ g', stepG P true g w = .go g' (w.setCell (stA p.Wg) (.int .u64 ((v + 1) * KK))) #[rd (stA p.Wg), wr (stA p.Wg)] ∧ Walks p.cM (p.M (.ske j)) g' (w.setCell (stA p.Wg) (.int .u64 ((v + 1) * KK)))
  ske : ∀ j g w, p.M (.ske j) g w → ∃ g', stepG P true g w = .go g' w #[ConcR.mk .enable] ∧ Walks p.cM (p.M (.sgo j)) g' w
  sgo : ∀ j g w, p.M (.sgo j) g w → ∃ g' child, stepG P true g w = .spawn g' child w #[] ∧ (∀ k, p.b0 ≤ k → Walks (p.cW k p.Low) (p.S k .recv) child w) ∧ Walks p.cM (p.M (p.after j)) g' w
  snd : ∀ i g w, p.M (.snd i) g w → stepG P true g w = .comm (core g) #[scase p.Ch (p.num i) p.zs] true .send w #[] ∧ ∀ w', Oth p.cM w w' → Walks p.cM (p.M (p.next i)) (Conc.served (core g) undef) w'
  cls : ∀ g w, p.M .cls g w → mayWake P g = true ∧ ∀ s, w.heap[p.Ch]? = some (.chan 0 #[] false s s false) →
    ∃ g', stepG P true g w = .go g' (w.setChan p.Ch 0 #[] true s s false) #[⟨.obj p.Ch, false, true⟩, ⟨.obj p.Ch, true, true⟩] ∧ g'.status = .running ∧ Walks p.cM (p.M .kd) g' (w.setChan p.Ch 0 #[] true s s false)
  kd : ∀ g w, p.M .kd g w → ∃ g', stepG P true g w = .go g' w #[ConcR.mk .disable] ∧ Walks p.cM (p.M .w1) g' w
  w1 : ∀ g w, p.M .w1 g w → ∀ v : Nat, v < 2147483648 → WgAt p.ty p.Wg w (v * KK) 0 → ∃ g', stepG P true g w = .go g' w #[rd (stA p.Wg)] ∧
    (v = 0 → Walks p.cM (p.M .ke) g' w) ∧ (v ≠ 0 → Walks p.cM (p.M (.w2 v)) g' w)
  w2 : ∀ vs g w, p.M (.w2 vs) g w → ∀ v : Nat, v < 2147483648 → WgAt p.ty p.Wg w (v * KK) 0 →
    (v = vs → ∃ g', stepG P true g w = .go g' (w.setCell (stA p.Wg) (.int .u64 (v * KK + 1))) #[rd (stA p.Wg), wr (stA p.Wg)] ∧ Walks p.cM (p.M .w3) g' (w.setCell (stA p.Wg) (.int .u64 (v * KK + 1)))) ∧
    (v ≠ vs → ∃ g', stepG P true g w = .go g' w #[rd (stA p.Wg)] ∧ Walks p.cM (p.M .w1) g' w)
  w3 : ∀ g w, p.M .w3 g w → g.offers = none ∧ ((∃ st, WgAt p.ty p.Wg w st 0) → stepG P true g w = .go { g with status := .blocked } w #[]) ∧
    (WgAt p.ty p.Wg w 0 1 → ∃ g', stepG P true g w = .go g' (w.setCell (smA p.Wg) (.int .u32 0)) (semEvents (smA p.Wg)) ∧ Walks p.cM (p.M .w4) g' (w.setCell (smA p.Wg) (.int .u32 0)))
  w4 : ∀ g w, p.M .w4 g w → WgAt p.ty p.Wg w 0 0 → ∃ g', stepG P true g w = .go g' w #[rd (stA p.Wg)] ∧ Walks p.cM (p.M .ke) g' w
  ke : ∀ g w, p.M .ke g w → ∃ g', stepG P true g w = .go g' w #[ConcR.mk .enable] ∧ Walks p.cM (p.M .acq) g' w
  acq : ∀ g w, p.M .acq g w → ∃ g', stepG P true g w = .go g' w #[ConcR.mk (.acquire (stA p.Wg))] ∧ Walks p.cM (p.M .fin) g' w
  recv : ∀ k g w, p.S k .recv g w → stepG P false g w = .comm (core g) #[rcase p.Ch p.z] true (.recv true) w #[] ∧
    (∀ m B w', m < p.n → p.Low ≤ B → Oth (p.cW k B) w w' → Walks (p.cW k B) (p.S k (.work m)) (Conc.served (core g) (recvd true (p.num m) true)) w') ∧
    (∀ B w', p.Low ≤ B → Oth (p.cW k B) w w' → Walks (p.cW k B) (p.S k .r0) (Conc.served (core g) (recvd true p.z false)) w')
  work : ∀ k m g w, p.S (p.b0 + k) (.work m) g w → m < p.n → p.Pay w → ∃ v g', stepG P false g w = .go g' (w.setCell ⟨p.C, m, none⟩ v) #[⟨.cell ⟨p.C, m, none⟩, true, false⟩] ∧
    p.Base k m v (w.setCell ⟨p.C, m, none⟩ v) ∧ ∀ B, p.Low ≤ B → Walks (p.cW (p.b0 + k) B) (p.S (p.b0 + k) .recv) g' (w.setCell ⟨p.C, m, none⟩ v)
  r0 : ∀ k g w, p.S k .r0 g w → ∃ g', stepG P false g w = .go g' w #[ConcR.mk (.releaseMerge (stA p.Wg))] ∧ ∃ m, Goes P false (Oth (p.cW k p.Low)) Go.ConcR.DC0 (p.S k (.k1 0)) m g' w
  k1 : ∀ k g w, p.S k (.k1 0) g w → ∃ g', stepG P false g w = .go g' w #[ConcR.mk .disable] ∧ ∃ m, Goes P false (Oth (p.cW k p.Low)) Go.ConcR.DC0 (p.S k (.d1 0)) m g' w
  d1 : ∀ k g w, p.S k (.d1 0) g w → ∀ v wt : Nat, wt ≤ 1 → v < 2147483647 → WgAt p.ty p.Wg w ((v + 1) * KK + wt) 0 →
    ∃ g', stepG P false g w = .go g' (w.setCell (stA p.Wg) (.int .u64 (v * KK + wt))) #[rd (stA p.Wg), wr (stA p.Wg)] ∧
      ((v = 0 ∧ wt = 1) → ∃ m, Goes P false (Oth (p.cW k p.Low)) Go.ConcR.DC0 (p.S k (.d2 0)) m g' (w.setCell (stA p.Wg) (.int .u64 (v * KK + wt)))) ∧ (¬ (v = 0 ∧ wt = 1) → ∃ q, QuitsD P q 1 g')
  d2 : ∀ k g w, p.S k (.d2 0) g w → WgAt p.ty p.Wg w 1 0 → ∃ g', stepG P false g w = .go g' w #[rd (stA p.Wg)] ∧ ∃ m, Goes P false (Oth (p.cW k p.Low)) Go.ConcR.DC0 (p.S k (.d3 0)) m g' w
  d3 : ∀ k g w, p.S k (.d3 0) g w → WgAt p.ty p.Wg w 1 0 → ∃ g', stepG P false g w = .go g' (w.setCell (stA p.Wg) (.int .u64 0)) #[wr (stA p.Wg)] ∧ ∃ m, Goes P false (Oth (p.cW k p.Low)) Go.ConcR.DC0 (p.S k (.d4 0)) m g' (w.setCell (stA p.Wg) (.int .u64 0))
  d4 : ∀ k g w, p.S k (.d4 0) g w → mayWake P g = true ∧ (WgAt p.ty p.Wg w 0 0 → ∃ g', stepG P false g w = .go g' (w.setCell (smA p.Wg) (.int .u32 1)) (semEvents (smA p.Wg)) ∧ ∃ q, QuitsD P q 1 g')

section
variable {P : Program} (p : PD P)
def PD.PT (t0 : Trace) (N B r : Nat) (t : Trace) : Prop := Go.Sim.PT P p.m0 p.b0 p.Low p.C p.Ch p.Wg t0 N B r t
def PD.OkP (B r : Nat) (op : MemOp) : Prop := Go.Sim.OkP P p.m0 p.b0 p.Ch p.Wg B r op
def PD.OkW (k : Nat) (op : MemOp) : Prop := ConcN.OkW (Shd P p.m0) (PoolOwn P p.m0 p.b0 p.Low p.C p.Ch) (PoolRd P p.m0 p.b0 p.Low p.C) k op
def PD.Ok0 (j : Nat) (op : MemOp) : Prop := ConcN.Ok0 (Shd P p.m0) (PoolOwn P p.m0 p.b0 p.Low p.C p.Ch) (PoolRd P p.m0 p.b0 p.Low p.C) j op
def PD.Acqs (j : Nat) (t : Trace) : Prop := ∃ qq, t.act? qq = some (.mark (.acquire (stA p.Wg))) ∧ t.g? qq = some 0 ∧ t.heard qq ∧ ∀ i, i < j → ∃ r, RelBy (stA p.Wg) t (p.b0 + i) r ∧ r < qq

/-- ████ THE INVARIANT. ████ -/
structure PD.Inv (t0 : Trace) (gs : Array Goroutine) (w : World) (t : Trace) (j : Nat) (T : Nat → WTag) (X : Nat → Wk P) (B q : Nat → Nat) (tag : MTag) (st sm : Int) : Prop where
  size : gs.size = p.b0 + j
  main : ∃ a, gs[0]? = some a ∧ MS p (X 0) w tag a
  old : ∀ l g, 0 < l → l < p.b0 → gs[l]? = some g → QuitsD P (q l) (Deaf t l) g
  wk : ∀ i, i < j → ∃ g, gs[p.b0 + i]? = some g ∧ WS p (p.b0 + i) (B i) (X (i + 1)) w (T i) g
  deafW : ∀ i, i < j → Deaf t (p.b0 + i) = (T i).deaf
  deaf0 : Deaf t 0 = tag.deaf
  above : ∀ l, gs.size ≤ l → Deaf t l = 0
  pt : p.PT t0 gs.size w.heap.size (p.sent tag) t
  wg : WgAt p.ty p.Wg w st sm
  mode : ConcN.Mode j (fun i => (T i).wd) (p.toC tag) st sm
  rel : ∀ i, i < j → (T i).stage ≤ 6 → ∃ r, RelBy (stA p.Wg) t (p.b0 + i) r
  acq : tag = .fin → p.Acqs j t
  pay : p.Pay w
  chan : w.heap[p.Ch]? = some (.chan 0 #[] tag.closed (p.sent tag) (p.sent tag) false)
  ok : p.ok j tag
  low : ∀ k, p.Low ≤ B k ∧ B k ≤ w.heap.size
  early : tag.closed = false → ∀ i, i < j → (T i).early = true
  nopark : (tag.closed = true ∨ ∃ i, tag = .spk i) → ∀ i, i < j → T i ≠ .park
  res : ∀ i, i < p.sent tag → (∃ k, k < j ∧ T k = .work i) ∨ p.Kept B i w
  gets : ∀ k m, k < j → T k = .work m → Gets P p.m0 p.Ch m (p.b0 + k) ∧ m < p.n

def PD.bit : MTag → Nat
  | .w3 => 1
  | _ => 0
def PD.mu (j : Nat) (T : Nat → WTag) (X : Nat → Wk P) (q : Nat → Nat) (tag : MTag) : Mu P :=
  (p.phi (Vc j fun i => (T i).wd) tag + sumTo j (fun i => (T i).rank), X, 2 * (sumTo p.b0 q + sumTo j (fun i => (T i).fuel)) + PD.bit tag)
/-- A machine of the pool, at step n. -/
def PD.Good (t0 : Trace) (n : Nat) (μ : Mu P) : Prop :=
  ∃ gs w sl t j T X B q tag st sm, At P p.m0 n (crowd gs w sl) t ∧ Grew P p.m0 n w ∧ p.Inv t0 gs w t j T X B q tag st sm ∧ μ = p.mu j T X q tag
/-- The step from step n on: a machine of the pool again, further on. -/
def PD.Fwd (t0 : Trace) (n : Nat) (μ : Mu P) : Prop := ∃ μ', MuLt (p.W + 1) μ' μ ∧ p.Good t0 (n + 1) μ'
end

section
variable {P : Program} {p : PD P}
theorem PD.Geo.apart (G : p.Geo) : Apart (Shd P p.m0) (PoolOwn P p.m0 p.b0 p.Low p.C p.Ch) (PoolRd P p.m0 p.b0 p.Low p.C) := pool_apart G.b1 G.hC G.gC
theorem PD.Inv.jW {t0 : Trace} {gs : Array Goroutine} {w : World} {t : Trace} {j : Nat} {T : Nat → WTag} {X : Nat → Wk P} {B q : Nat → Nat} {tag : MTag} {st sm : Int} (I : p.Inv t0 gs w t j T X B q tag st sm) : j ≤ p.W := by
  have := I.ok
  cases tag <;> simp only [PD.ok] at this <;> omega
theorem PD.Inv.lowS {t0 : Trace} {gs : Array Goroutine} {w : World} {t : Trace} {j : Nat} {T : Nat → WTag} {X : Nat → Wk P} {B q : Nat → Nat} {tag : MTag} {st sm : Int} (I : p.Inv t0 gs w t j T X B q tag st sm) : p.Low ≤ w.heap.size :=
  Nat.le_trans (I.low 0).1 (I.low 0).2
/-- A draw. -/
theorem PD.Inv.at {t0 : Trace} {gs : Array Goroutine} {w : World} {t : Trace} {j : Nat} {T : Nat → WTag} {X : Nat → Wk P} {B q : Nat → Nat} {tag : MTag} {st sm : Int} (I : p.Inv t0 gs w t j T X B q tag st sm) (d : Nat) :
    p.Inv t0 gs (w.at d) t j T X B q tag st sm := by
  have o : ∀ c : Bs P, c.I = WgLive p.ty p.Wg → Oth c w (w.at d) := fun c hc => ⟨rfl, rfl, rfl, Nat.le_refl _, fun _ _ => rfl, by rw [hc]; exact id⟩
  exact ⟨I.size, let ⟨a, h1, h2⟩ := I.main; ⟨a, h1, h2.rely (o _ rfl)⟩, I.old, fun i hi => let ⟨g, h1, h2⟩ := I.wk i hi; ⟨g, h1, h2.rely (I.low i).1 fun _ _ => o _ rfl⟩, I.deafW, I.deaf0, I.above, I.pt, I.wg, I.mode, I.rel, I.acq, I.pay, I.chan, I.ok, I.low, I.early, I.nopark, I.res, I.gets⟩

/-! ### what the steps list -/
theorem ev1_W (G : p.Geo) {k B N r : Nat} (hk : p.b0 ≤ k) (hB : p.Low ≤ B) {fn : FuncId} {pos : String} {es : Array Event} (h : ∀ e ∈ es, Ev1 (p.cW k B) N e) (hx : ∀ e ∈ es, outB e.loc = false) :
    (∀ op ∈ MemOp.ofEvents k fn pos es, p.OkW k op) ∧ (∀ op ∈ MemOp.ofEvents k fn pos es, p.OkP N r op) ∧ ∀ e ∈ es, e.loc ≠ .mark .disable ∧ e.loc ≠ .mark .enable := by
  refine ⟨fun op hop => ?_, fun op hop => ?_, fun e he => ?_⟩
  · obtain ⟨e, he, rfl⟩ := Conc.mem_ofEvents hop
    refine ⟨rfl, fun x hxx => ?_⟩
    rcases h e he with ⟨a, wr, rfl, h1, h2⟩ | ⟨m, rfl, hm⟩ | hf
    · have ex : x = ⟨.cell a, wr, .plain⟩ := by cases wr <;> simp [MemAct.ofEvent, MemAct.touch?] at hxx <;> exact hxx.symm
      subst ex
      rcases h2 with ⟨h2, h3⟩ | ⟨⟨r1, r2, r3, r4, r5⟩, hw⟩
      · exact .inr (.inl ⟨hk, a, rfl, .inl ⟨Nat.le_trans hB h3, h2⟩⟩)
      · exact .inr (.inr ⟨⟨hk, a, rfl, r1, r4, r5⟩, hw⟩)
    · have : m = .noRoom := hm.elim id fun ⟨_, hq, _⟩ => hq.elim
      subst this
      simp [MemAct.ofEvent, MemAct.touch?] at hxx
    · exact absurd ((hx e he).symm.trans hf) Bool.false_ne_true
  · obtain ⟨e, he, rfl⟩ := Conc.mem_ofEvents hop
    rcases h e he with ⟨a, wr, rfl, h1, h2⟩ | ⟨m, rfl, hm⟩ | hf
    · refine ⟨⟨fun x hxx => ?_, fun x hxx hk => ?_, fun h0 h1 => absurd hk (by simp only at h1; omega)⟩, ?_, fun i cap e => ?_, fun a e => ?_⟩
      · cases wr <;> simp [MemAct.ofEvent, MemAct.touch?] at hxx <;> subst hxx <;> rfl
      · cases wr <;> simp [MemAct.ofEvent, MemAct.touch?] at hxx <;> subst hxx <;> cases hk
      · cases wr <;> exact h1
      · cases wr <;> simp [MemAct.ofEvent] at e
      · cases wr <;> simp [MemAct.ofEvent] at e
    · have : m = .noRoom := hm.elim id fun ⟨_, hq, _⟩ => hq.elim
      subst this
      exact okP_mute rfl trivial (by simp [MemAct.ofEvent]) (by simp [MemAct.ofEvent])
    · exact absurd ((hx e he).symm.trans hf) Bool.false_ne_true
  · rcases h e he with ⟨a, wr, rfl, h1, h2⟩ | ⟨m, rfl, hm⟩ | hf
    · simp
    · have : m = .noRoom := hm.elim id fun ⟨_, hq, _⟩ => hq.elim
      subst this
      simp
    · exact absurd ((hx e he).symm.trans hf) Bool.false_ne_true

theorem ev1_M (G : p.Geo) {N r j : Nat} {fn : FuncId} {pos : String} {es : Array Event} (h : ∀ e ∈ es, Ev1 p.cM N e) (hx : ∀ e ∈ es, outB e.loc = false) :
    (∀ op ∈ MemOp.ofEvents 0 fn pos es, p.Ok0 j op) ∧ (∀ op ∈ MemOp.ofEvents 0 fn pos es, p.OkP N r op) ∧ ∀ e ∈ es, e.loc ≠ .mark .disable ∧ e.loc ≠ .mark .enable := by
  refine ⟨fun op hop => ?_, fun op hop => ?_, fun e he => ?_⟩
  · obtain ⟨e, he, rfl⟩ := Conc.mem_ofEvents hop
    refine ⟨rfl, fun x hxx => ?_⟩
    rcases h e he with ⟨a, wr, rfl, h1, h2⟩ | ⟨m, rfl, hm⟩ | hf
    · have ex : x = ⟨.cell a, wr, .plain⟩ := by cases wr <;> simp [MemAct.ofEvent, MemAct.touch?] at hxx <;> exact hxx.symm
      subst ex
      right
      have hb := G.b1
      rcases h2 with ⟨h2, h3, h4⟩ | ⟨⟨r1, r2, r3, r4, r5⟩, hw⟩
      · refine ⟨?_, fun k k1 kj => ?_, fun _ k k1 kj => ?_⟩
        · rintro (⟨b, e, hg⟩ | ⟨r, e⟩)
          · cases e; exact h4 hg
          · cases e
        · rintro ⟨hk, b, e, ho⟩
          cases e
          rcases ho with ⟨_, hm⟩ | ⟨hc, _⟩
          · have := hm.uniq h2; omega
          · have := G.hC; omega
        · rintro ⟨hk, b, e, hl, _⟩
          cases e; omega
      · refine ⟨?_, fun k k1 kj => ?_, fun hwr => ?_⟩
        · rintro (⟨b, e, hg⟩ | ⟨r, e⟩)
          · cases e; exact r5 hg
          · cases e
        · rintro ⟨hk, b, e, ho⟩
          cases e
          rcases ho with ⟨hl, _⟩ | ⟨hc, _⟩
          · omega
          · exact r4 hc
        · simp only at hwr; rw [hw] at hwr; cases hwr
    · rcases hm with hm | ⟨a, hq, _, rfl | rfl⟩
      · have : m = .noRoom := hm
        subst this
        simp [MemAct.ofEvent, MemAct.touch?] at hxx
      · simp [MemAct.ofEvent, MemAct.touch?] at hxx
        subst hxx
        have hq : a.block = p.Wg := hq
        exact .inl ⟨.inl ⟨a, rfl, hq ▸ G.gW⟩, by simp⟩
      · simp [MemAct.ofEvent, MemAct.touch?] at hxx
        subst hxx
        have hq : a.block = p.Wg := hq
        exact .inl ⟨.inl ⟨a, rfl, hq ▸ G.gW⟩, by simp⟩
    · exact absurd ((hx e he).symm.trans hf) Bool.false_ne_true
  · obtain ⟨e, he, rfl⟩ := Conc.mem_ofEvents hop
    rcases h e he with ⟨a, wr, rfl, h1, h2⟩ | ⟨m, rfl, hm⟩ | hf
    · refine ⟨⟨fun x hxx => ?_, fun x hxx hk => ?_, fun h0 h1 => absurd rfl h0⟩, ?_, fun i cap e => ?_, fun a e => ?_⟩
      · cases wr <;> simp [MemAct.ofEvent, MemAct.touch?] at hxx <;> subst hxx <;> rfl
      · cases wr <;> simp [MemAct.ofEvent, MemAct.touch?] at hxx <;> subst hxx <;> cases hk
      · cases wr <;> exact h1
      · cases wr <;> simp [MemAct.ofEvent] at e
      · cases wr <;> simp [MemAct.ofEvent] at e
    · rcases hm with hm | ⟨a, hq, hl, rfl | rfl⟩
      · have : m = .noRoom := hm
        subst this
        exact okP_mute rfl trivial (by simp [MemAct.ofEvent]) (by simp [MemAct.ofEvent])
      · refine ⟨⟨fun x hxx => ?_, fun x hxx hk => ?_, fun h0 h1 => absurd rfl h0⟩, hl, by simp [MemAct.ofEvent], by simp [MemAct.ofEvent]⟩
        · simp [MemAct.ofEvent, MemAct.touch?] at hxx; subst hxx; rfl
        · simp [MemAct.ofEvent, MemAct.touch?] at hxx; subst hxx; cases hk
      · refine ⟨⟨fun x hxx => ?_, fun x hxx hk => ?_, fun h0 h1 => absurd rfl h0⟩, hl, by simp [MemAct.ofEvent], by simp [MemAct.ofEvent]⟩
        · simp [MemAct.ofEvent, MemAct.touch?] at hxx; subst hxx; rfl
        · simp [MemAct.ofEvent, MemAct.touch?] at hxx; subst hxx; cases hk
    · exact absurd ((hx e he).symm.trans hf) Bool.false_ne_true
  · rcases h e he with ⟨a, wr, rfl, h1, h2⟩ | ⟨m, rfl, hm⟩ | hf
    · simp
    · rcases hm with hm | ⟨a, hq, _, rfl | rfl⟩
      · have : m = .noRoom := hm
        subst this
        simp
      · simp
      · simp
    · exact absurd ((hx e he).symm.trans hf) Bool.false_ne_true

/-- The library's bookkeeping on the group's cells. -/
theorem bk_touch {Wg : Nat} {e : Event} (h : Bk Wg e) : (MemAct.ofEvent e).touch? = none ∨ ∃ a wr, a.block = Wg ∧ (MemAct.ofEvent e).touch? = some ⟨.cell a, wr, .atomic⟩ := by
  obtain ⟨loc, w, s⟩ := e
  rcases h with h | h | ⟨a, b, e, ha⟩
  · simp only at h; subst h; exact .inl rfl
  · simp only at h; subst h; exact .inl rfl
  · cases e; exact .inr ⟨a, w, ha, by cases w <;> rfl⟩
theorem bk_P (G : p.Geo) {k N r : Nat} (hk : k = 0 ∨ p.b0 ≤ k) (hN : p.Wg < N) {fn : FuncId} {pos : String} {es : Array Event} (h : ∀ e ∈ es, Bk p.Wg e) : ∀ op ∈ MemOp.ofEvents k fn pos es, p.OkP N r op := by
  intro op hop
  obtain ⟨e, he, rfl⟩ := Conc.mem_ofEvents hop
  have hb := h e he
  refine ⟨⟨fun x hx => ?_, fun x hx _ => ?_, fun h0 h1 => ?_⟩, ?_, ?_, ?_⟩
  · rcases bk_touch hb with h | ⟨a, wr, ha, h⟩
    · rw [h] at hx; cases hx
    · rw [h] at hx; cases hx; rfl
  · rcases bk_touch hb with h | ⟨a, wr, ha, h⟩
    · rw [h] at hx; cases hx
    · rw [h] at hx; cases hx; exact .inl ⟨a, rfl, ha ▸ G.gW⟩
  · simp only at h0 h1; omega
  all_goals
    obtain ⟨loc, w, s⟩ := e
    rcases hb with h | h | ⟨a, b, e, ha⟩
    · simp only at h; subst h; first | exact trivial | simp [MemAct.ofEvent]
    · simp only at h; subst h; first | exact trivial | simp [MemAct.ofEvent]
    · cases e
      first
        | (cases w <;> exact (show a.block < N by omega))
        | (cases w <;> simp [MemAct.ofEvent])
theorem bk_W (G : p.Geo) {k : Nat} {fn : FuncId} {pos : String} {es : Array Event} (h : ∀ e ∈ es, Bk p.Wg e) : ∀ op ∈ MemOp.ofEvents k fn pos es, p.OkW k op := by
  intro op hop
  obtain ⟨e, he, rfl⟩ := Conc.mem_ofEvents hop
  refine ⟨rfl, fun x hx => ?_⟩
  rcases bk_touch (h e he) with h | ⟨a, wr, ha, h⟩
  · simp only [h] at hx; cases hx
  · simp only [h] at hx; cases hx; exact .inl ⟨.inl ⟨a, rfl, ha ▸ G.gW⟩, by simp, by simp⟩
theorem bk_M (G : p.Geo) {j : Nat} {fn : FuncId} {pos : String} {es : Array Event} (h : ∀ e ∈ es, Bk p.Wg e) : ∀ op ∈ MemOp.ofEvents 0 fn pos es, p.Ok0 j op := by
  intro op hop
  obtain ⟨e, he, rfl⟩ := Conc.mem_ofEvents hop
  refine ⟨rfl, fun x hx => ?_⟩
  rcases bk_touch (h e he) with h | ⟨a, wr, ha, h⟩
  · simp only [h] at hx; cases hx
  · simp only [h] at hx; cases hx; exact .inl ⟨.inl ⟨a, rfl, ha ▸ G.gW⟩, by simp⟩

/-! ### under another's step -/
theorem MS.run (L : p.Laws) {x : Wk P} {w : World} {t : MTag} {g : Goroutine} (h : MS p x w t g) (ht : t.walk = true) : g.status = .running := by
  cases h with
  | on _ h => exact h.running (fun _ _ _ x => x) (L.mrun t)
  | spk _ _ => cases ht
  | blk _ _ => cases ht
theorem MS.woken (L : p.Laws) {x : Wk P} {w : World} {t : MTag} {a : Goroutine} (h : MS p x w t a) (g g' : Goroutine) (hc : (∃ i, t = .spk i) → ∃ s, w.heap[p.Ch]? = some (.chan 0 #[] false s s false)) :
    ∃ t', (t' = t ∨ (t = .blk ∧ t' = .w3)) ∧ MS p x w t' (woken P g g' w a) ∧ (mayWake P g = true → g'.status = .running → t' ≠ .blk) := by
  cases h with
  | on ht h =>
    refine ⟨t, .inl rfl, ?_, fun _ _ e => by subst e; cases ht⟩
    rw [woken_run (h.running (fun _ _ _ x => x) (L.mrun t))]
    exact .on ht h
  | spk hs h =>
    obtain ⟨s, hc⟩ := hc ⟨_, rfl⟩
    refine ⟨_, .inl rfl, ?_, fun _ _ e => by cases e⟩
    rw [woken_send_open _ _ hc]
    exact .spk hs h
  | blk hs h =>
    rename_i a0
    have h3 := h.stop hs
    unfold Go.Conc.woken
    split
    · exact ⟨.w3, .inr ⟨rfl, rfl⟩, by rw [again_blocked (L.mrun _ _ _ h3) (L.w3 _ _ h3).1]; exact .on rfl h, fun _ _ e => by cases e⟩
    · rename_i hcond
      exact ⟨.blk, .inl rfl, .blk hs h, fun h1 h2 => absurd (by simp [h1, h2]) hcond⟩
theorem WS.woken (L : p.Laws) {k B : Nat} {x : Wk P} {w : World} {t : WTag} {a : Goroutine} (h : WS p k B x w t a) (g g' : Goroutine) (hc : t = .park → ∃ s, w.heap[p.Ch]? = some (.chan 0 #[] false s s false)) : Go.Conc.woken P g g' w a = a := by
  cases h with
  | on ht h => exact woken_run (h.running (fun _ _ _ x => x) (L.srun _ t))
  | park hs h =>
    obtain ⟨s, hc⟩ := hc rfl
    exact woken_recv_open _ _ hc
  | wok hs h => exact woken_run rfl
  | slow ht h => exact woken_run (Goes.running (fun _ _ x => L.srun _ _ _ _ x) w (Oth.refl w) h)
  | quit h => exact woken_quitsD h

theorem retag_facts {t t' : MTag} (h : t' = t ∨ (t = .blk ∧ t' = .w3)) : t'.closed = t.closed ∧ p.sent t' = p.sent t ∧ t'.deaf = t.deaf ∧ (∀ j, p.ok j t' ↔ p.ok j t) ∧ (∀ v, p.phi v t' = p.phi v t) ∧ PD.bit t' ≤ PD.bit t + 1 ∧ (t' = .fin → t = .fin) ∧ ((∃ i, t' = .spk i) → ∃ i, t = .spk i) := by
  rcases h with rfl | ⟨rfl, rfl⟩
  · exact ⟨rfl, rfl, rfl, fun _ => Iff.rfl, fun _ => rfl, by omega, id, id⟩
  · exact ⟨rfl, rfl, rfl, fun _ => Iff.rfl, fun _ => rfl, by simp [PD.bit], (by intro e; cases e), (by rintro ⟨i, e⟩; cases e)⟩

theorem upd_self {α : Type} (f : Nat → α) (i : Nat) : upd f i (f i) = f := by
  funext a
  by_cases h : a = i
  · subst h; rw [upd_same]
  · rw [upd_ne _ _ h]
theorem pphi_mono (v v' : Nat) (h : v' ≤ v) (t : MTag) : p.phi v' t ≤ p.phi v t := by
  cases t <;> simp only [PD.phi] <;> omega

/-- ████ WHATEVER STEP OF WORKER NUMBER i (no communication). ████ -/
theorem worker_step (G : p.Geo) (L : p.Laws) {t0 : Trace} {n : Nat} {gs : Array Goroutine} {w0 w w' : World} {sl0 sl : Option (Nat × Nat)} {t : Trace} {j : Nat} {T : Nat → WTag} {X : Nat → Wk P} {B q : Nat → Nat} {tag : MTag} {st sm : Int}
    (hat : At P p.m0 n (crowd gs w0 sl0) t) (hgr : Grew P p.m0 n w) (I : p.Inv t0 gs w t j T X B q tag st sm) {i : Nat} (hi : i < j)
    (hst : stepT P (crowd gs w0 sl0) = runT P (crowd gs w sl) (p.b0 + i)) {g g' : Goroutine} {es : Array Event} (hg : gs[p.b0 + i]? = some g) (hgo : stepG P false g w = .go g' w' es)
    (hT : Turn p (p.b0 + i) (B i) w w') (hchan : w'.heap[p.Ch]? = w.heap[p.Ch]?) {st' sm' : Int} (hwg : WgAt p.ty p.Wg w' st' sm') (hpay : p.Pay w')
    (hokW : ∀ op ∈ MemOp.ofEvents (p.b0 + i) g.frame.fn g.frame.place es, p.OkW (p.b0 + i) op) (hokP : ∀ op ∈ MemOp.ofEvents (p.b0 + i) g.frame.fn g.frame.place es, p.OkP w'.heap.size (p.sent tag) op)
    {t' : WTag} {x' : Wk P} {B' : Nat} (hB1 : B i ≤ B') (hB2 : B' ≤ w'.heap.size) (hws : WS p (p.b0 + i) B' x' w' t' g') (hdeaf : deafBehind (T i).deaf es = t'.deaf)
    (hearly : tag.closed = false → t'.early = true) (hnp : t' ≠ .park) (hwork : ∀ m, t' = .work m → T i = .work m)
    (hres : ∀ idx, idx < p.sent tag → T i = .work idx → t' = .work idx ∨ p.Kept (upd B i B') idx w') (hcell : ∀ idx, T i ≠ .work idx → w'.cell? ⟨p.C, idx, none⟩ = w.cell? ⟨p.C, idx, none⟩)
    (hrel : t'.stage ≤ 6 → ∃ r, RelBy (stA p.Wg) (t ++ MemOp.ofEvents (p.b0 + i) g.frame.fn g.frame.place es) (p.b0 + i) r)
    (hmode : ∀ tag', (tag' = tag ∨ (tag = .blk ∧ tag' = .w3)) → (mayWake P g = true → g'.status = .running → tag' ≠ .blk) → ConcN.Mode j (fun a => (upd T i t' a).wd) (p.toC tag') st' sm')
    (hacq : tag = .fin → p.Acqs j (t ++ MemOp.ofEvents (p.b0 + i) g.frame.fn g.frame.place es))
    (hlt : (t'.rank < (T i).rank ∧ cnt t'.wd ≤ cnt (T i).wd) ∨ (t'.rank = (T i).rank ∧ cnt t'.wd = cnt (T i).wd ∧ (WkLt x' (X (i + 1)) ∨ (x' = X (i + 1) ∧ t'.fuel < (T i).fuel)))) :
    p.Fwd t0 n (p.mu j T X q tag) := by
  have hb := G.b1
  have hW := I.jW
  have hi0 : (p.b0 + i == 0) = false := by simp; omega
  have hrun := runT_crowd_go (P := P) (sl := sl) (i := p.b0 + i) hg (by rw [hi0]; exact hgo)
  have hat' := hat.succ (hst.trans hrun)
  have hlow := I.lowS
  have hBi := (I.low i).1
  obtain ⟨a, ha, hms⟩ := I.main
  have hms' := hms.rely (hT.othM G hBi hlow (by omega))
  obtain ⟨tag', htag, hms'', hwk⟩ := hms'.woken L g g' (fun ⟨i', e⟩ => ⟨p.sent tag, by rw [hchan, I.chan]; subst e; rfl⟩)
  obtain ⟨f1, f2, f3, f4, f5, f6, f7, f8⟩ := retag_facts (p := p) htag
  have hu : ∀ op ∈ MemOp.ofEvents (p.b0 + i) g.frame.fn g.frame.place es, op.g = p.b0 + i := g_of_ofEvents
  have hsz : ((gs.map (Go.Conc.woken P g g' w')).setIfInBounds (p.b0 + i) g').size = gs.size := by simp
  have hlt1 : p.b0 + i < gs.size := by rw [I.size]; omega
  refine ⟨p.mu j (upd T i t') (upd X (i + 1) x') q tag', ?_, _, w', sl, _, j, upd T i t', upd X (i + 1) x', upd B i B', q, tag', st', sm', hat', hgr.succ hat' rfl hT.size, ?_, rfl⟩
  · -- the measure
    have e1 := sumTo_upd T t' (fun x => cnt x.wd) hi
    have e2 := sumTo_upd T t' WTag.rank hi
    have e3 := sumTo_upd T t' WTag.fuel hi
    unfold PD.mu
    rw [f5]
    simp only [Vc] at e1 ⊢
    rcases hlt with ⟨h1, h2⟩ | ⟨h1, h2, h3⟩
    · refine MuLt.stage ?_
      have := pphi_mono (p := p) (sumTo j fun a => cnt (T a).wd) (sumTo j fun a => cnt (upd T i t' a).wd) (by omega) tag
      omega
    · have ev : (sumTo j fun a => cnt (upd T i t' a).wd) = sumTo j fun a => cnt (T a).wd := by omega
      have er : (sumTo j fun a => (upd T i t' a).rank) = sumTo j fun a => (T a).rank := by omega
      rw [ev, er]
      rcases h3 with h3 | ⟨h3, h4⟩
      · exact MuLt.walk (Nat.le_refl _) ⟨i + 1, by omega, by rw [upd_same]; exact h3, fun l hl => upd_ne X x' hl⟩
      · rw [h3, upd_self]
        exact MuLt.bit (by omega)
  · have hTne : ∀ i', i' ≠ i → upd T i t' i' = T i' := fun i' h => upd_ne T t' h
    have hchan' : w'.heap[p.Ch]? = some (.chan 0 #[] tag'.closed (p.sent tag') (p.sent tag') false) := by rw [hchan, I.chan, f1, f2]
    refine ⟨hsz.trans I.size, ⟨_, by rw [get_map_set _ _ _ _ (by omega), ha]; rfl, by rw [upd_ne X x' (by omega)]; exact hms''⟩, fun l y hl hlb hy => ?_, fun i' hi' => ?_, fun i' hi' => ?_, ?_, fun l hl => ?_, ?_, hwg, hmode tag' htag hwk, fun i' hi' hs' => ?_, fun e => hacq (f7 e), hpay, hchan', (f4 j).2 I.ok,
      fun k => ?_, fun hc i' hi' => ?_, fun hc i' hi' => ?_, fun idx hidx => ?_, fun k m hk hkm => ?_⟩
    · rw [get_map_set _ _ _ _ (by omega)] at hy
      obtain ⟨z, hz, rfl⟩ := Option.map_eq_some_iff.1 hy
      have hq := I.old l z hl hlb hz
      rw [woken_quitsD hq, Deaf_other t (g' := p.b0 + i) (by omega) _ hu]
      exact hq
    · by_cases e : i' = i
      · subst e
        exact ⟨g', get_map_set_same _ _ _ hlt1, by rw [upd_same, upd_same, upd_same]; exact hws⟩
      · obtain ⟨y, hy, hys⟩ := I.wk i' hi'
        have hys' := hys.rely (I.low i').1 fun _ hB => hT.othW G hBi hlow (by omega) hB
        refine ⟨y, ?_, by rw [hTne i' e, upd_ne B B' e, upd_ne X x' (by omega)]; exact hys'⟩
        rw [get_map_set _ _ _ _ (by omega), hy, Option.map_some, hys'.woken L g g' fun e => ⟨p.sent tag, by
          rw [hchan, I.chan]
          have : tag.closed = false := by
            cases hc : tag.closed with
            | false => rfl
            | true => exact absurd e (I.nopark (.inl hc) i' hi')
          rw [this]⟩]
    · by_cases e : i' = i
      · subst e; rw [Deaf_own, I.deafW i' hi', upd_same]; exact hdeaf
      · rw [Deaf_other t (g' := p.b0 + i) (by omega) _ hu, I.deafW i' hi', hTne i' e]
    · rw [Deaf_other t (g' := p.b0 + i) (by omega) _ hu, I.deaf0, f3]
    · rw [hsz] at hl
      rw [Deaf_other t (g' := p.b0 + i) (by omega) _ hu]
      exact I.above l hl
    · rw [hsz, f2]
      exact I.pt.appW G.apart (k := p.b0 + i) (by omega) hlt1 hT.size (Nat.le_refl _) hokW hokP
    · by_cases e : i' = i
      · subst e; rw [upd_same] at hs'; exact hrel hs'
      · rw [hTne i' e] at hs'
        obtain ⟨r, hr⟩ := I.rel i' hi' hs'
        exact ⟨r, hr.appOther hu (by omega)⟩
    · by_cases e : k = i
      · subst e; rw [upd_same]; exact ⟨Nat.le_trans (I.low k).1 hB1, hB2⟩
      · rw [upd_ne B B' e]; exact ⟨(I.low k).1, Nat.le_trans (I.low k).2 hT.size⟩
    · rw [f1] at hc
      by_cases e : i' = i
      · subst e; rw [upd_same]; exact hearly hc
      · rw [hTne i' e]; exact I.early hc i' hi'
    · by_cases e : i' = i
      · subst e; rw [upd_same]; exact hnp
      · rw [hTne i' e]; exact I.nopark (by rw [f1] at hc; exact hc.imp id f8) i' hi'
    · rw [f2] at hidx
      have hB12 : ∀ k, B k ≤ upd B i B' k := fun k => by
        by_cases e : k = i
        · subst e; rw [upd_same]; exact hB1
        · rw [upd_ne B B' e]; exact Nat.le_refl _
      rcases I.res idx hidx with ⟨k, hk, hkw⟩ | hkept
      · by_cases e : k = i
        · subst e
          rcases hres idx hidx hkw with h | h
          · exact .inl ⟨k, hk, by rw [upd_same]; exact h⟩
          · exact .inr h
        · exact .inl ⟨k, hk, by rw [hTne k e]; exact hkw⟩
      · by_cases hc : T i = .work idx
        · rcases hres idx hidx hc with h | h
          · exact .inl ⟨i, hi, by rw [upd_same]; exact h⟩
          · exact .inr h
        · exact .inr ((hkept.turn hT G hBi (hcell idx hc) (fun k e => Nat.le_of_eq (congrArg B (show k = i by omega))) (fun k => (I.low k).2)).mono hB12)
    · by_cases e : k = i
      · subst e; rw [upd_same] at hkm; exact I.gets k m hk (hwork m hkm)
      · rw [hTne k e] at hkm; exact I.gets k m hk hkm
end
end Go.Sim
end

section
set_option linter.unusedVariables false
set_option linter.unusedSimpArgs false
namespace Go.Sim
open Go Go.Conc
open Go.ConcN (CT Apart RelBy sumTo upd sumTo_upd sumTo_congr sumTo_upd_out upd_ne upd_same WD CTag Vc cnt pend isOpen isW3 isFin OpenSt AllQuit WgLive deafBehind_idle get_map_set get_map_set_same Deaf_still)
open Go.ConcR (stA smA rd wr KK WgAt Bk g_of_ofEvents again_blocked)

section
variable {P : Program} {p : PD P}

theorem RelBy.appMute {a : Addr} {t u : Trace} {k r : Nat} (h : RelBy a t k r) (hu : ∀ op ∈ u, op.act.touch? = none) : RelBy a (t ++ u) k r := by
  refine h.app fun i hi _ hc => ?_
  obtain ⟨x, hx, _⟩ := hc
  obtain ⟨op, ho, hox⟩ := touch_of hx
  rcases getElem?_append_cases ho with ⟨hlt, _⟩ | ⟨_, hou⟩
  · omega
  · rw [hu op hou] at hox; cases hox

theorem Acqs_app {j : Nat} {t u : Trace} (h : p.Acqs j t) (hu : ∀ i r, i < j → RelBy (stA p.Wg) t (p.b0 + i) r → RelBy (stA p.Wg) (t ++ u) (p.b0 + i) r) : p.Acqs j (t ++ u) := by
  obtain ⟨q, h1, h2, h3, h4⟩ := h
  have hq := lt_of_act? h1
  exact ⟨q, by rw [act?_old hq]; exact h1, by rw [g?_old hq]; exact h2, (heard_old hq).2 h3, fun i hi => let ⟨r, hr, hrq⟩ := h4 i hi; ⟨r, hu i r hi hr, hrq⟩⟩

theorem sumTo_mono {f g : Nat → Nat} (h : ∀ i, f i ≤ g i) : ∀ {j : Nat}, sumTo j f ≤ sumTo j g
  | 0 => Nat.le_refl _
  | j + 1 => by have := sumTo_mono h (j := j); have := h j; simp only [sumTo]; omega

/-- ████ WHATEVER STEP OF THE STARTER's (no communication, no closing, no go statement). ████ -/
theorem main_step (G : p.Geo) (L : p.Laws) {t0 : Trace} {n : Nat} {gs : Array Goroutine} {w0 w w' : World} {sl0 sl : Option (Nat × Nat)} {t : Trace} {j : Nat} {T : Nat → WTag} {X : Nat → Wk P} {B q : Nat → Nat} {tag : MTag} {st sm : Int}
    (hat : At P p.m0 n (crowd gs w0 sl0) t) (hgr : Grew P p.m0 n w) (I : p.Inv t0 gs w t j T X B q tag st sm)
    (hst : stepT P (crowd gs w0 sl0) = runT P (crowd gs w sl) 0) {a a' : Goroutine} {es : Array Event} (ha : gs[0]? = some a) (hgo : stepG P true a w = .go a' w' es)
    (hT : Turn p 0 p.Low w w') (hchan : w'.heap[p.Ch]? = w.heap[p.Ch]?) (hC : w'.heap[p.C]? = w.heap[p.C]?) {st' sm' : Int} (hwg : WgAt p.ty p.Wg w' st' sm')
    (hok0 : ∀ op ∈ MemOp.ofEvents 0 a.frame.fn a.frame.place es, p.Ok0 (gs.size - 1) op) (hokP : ∀ op ∈ MemOp.ofEvents 0 a.frame.fn a.frame.place es, p.OkP w'.heap.size (p.sent tag) op)
    {tag' : MTag} {x' : Wk P} (hms : MS p x' w' tag' a') (hdeaf : deafBehind tag.deaf es = tag'.deaf) (hcl : tag'.closed = tag.closed) (hsent : p.sent tag' = p.sent tag) (hok : p.ok j tag') (hspk : ∀ i, tag' ≠ .spk i)
    (hmode : ConcN.Mode j (fun a => (T a).wd) (p.toC tag') st' sm') (hacq : tag' = .fin → p.Acqs j (t ++ MemOp.ofEvents 0 a.frame.fn a.frame.place es))
    (hlt : p.phi (Vc j fun i => (T i).wd) tag' < p.phi (Vc j fun i => (T i).wd) tag ∨ (p.phi (Vc j fun i => (T i).wd) tag' = p.phi (Vc j fun i => (T i).wd) tag ∧ (WkLt x' (X 0) ∨ (x' = X 0 ∧ PD.bit tag' < PD.bit tag)))) :
    p.Fwd t0 n (p.mu j T X q tag) := by
  have hb := G.b1
  have hW := I.jW
  have hrun := runT_crowd_go (P := P) (sl := sl) (i := 0) ha hgo
  have hat' := hat.succ (hst.trans hrun)
  have hlow := I.lowS
  have hu : ∀ op ∈ MemOp.ofEvents 0 a.frame.fn a.frame.place es, op.g = 0 := g_of_ofEvents
  have hsz : ((gs.map (Go.Conc.woken P a a' w')).setIfInBounds 0 a').size = gs.size := by simp
  have hlt1 : 0 < gs.size := by rw [I.size]; omega
  have hcell : ∀ idx, w'.cell? ⟨p.C, idx, none⟩ = w.cell? ⟨p.C, idx, none⟩ := fun idx => ConcN.cell_of_block hC idx
  refine ⟨p.mu j T (upd X 0 x') q tag', ?_, _, w', sl, _, j, T, upd X 0 x', B, q, tag', st', sm', hat', hgr.succ hat' rfl hT.size, ?_, rfl⟩
  · unfold PD.mu
    rcases hlt with h | ⟨h1, h2 | ⟨h2, h3⟩⟩
    · exact MuLt.stage (by omega)
    · exact MuLt.walk (by omega) ⟨0, by omega, by rw [upd_same]; exact h2, fun l hl => upd_ne X x' hl⟩
    · rw [h2, upd_self, h1]
      exact MuLt.bit (by omega)
  · refine ⟨hsz.trans I.size, ⟨a', get_map_set_same _ _ _ hlt1, by rw [upd_same]; exact hms⟩, fun l y hl hlb hy => ?_, fun i hi => ?_, fun i hi => ?_, ?_, fun l hl => ?_, ?_, hwg, hmode, fun i hi hs => ?_, hacq, ?_, ?_, hok, fun k => ⟨(I.low k).1, Nat.le_trans (I.low k).2 hT.size⟩,
      fun hc i hi => I.early (by rw [← hcl]; exact hc) i hi, fun hc i hi => I.nopark ?_ i hi, fun idx hidx => ?_, I.gets⟩
    · rw [get_map_set _ _ _ _ (by omega)] at hy
      obtain ⟨z, hz, rfl⟩ := Option.map_eq_some_iff.1 hy
      have hq := I.old l z hl hlb hz
      rw [woken_quitsD hq, Deaf_other t (g' := 0) (by omega) _ hu]
      exact hq
    · obtain ⟨y, hy, hys⟩ := I.wk i hi
      have hys' := hys.rely (I.low i).1 fun _ hB => hT.othW G (Nat.le_refl _) hlow (by omega) hB
      refine ⟨y, ?_, by rw [upd_ne X x' (by omega)]; exact hys'⟩
      rw [get_map_set _ _ _ _ (by omega), hy, Option.map_some, hys'.woken L a a' fun e => ⟨p.sent tag, by
        rw [hchan, I.chan]
        have : tag.closed = false := by
          cases hc : tag.closed with
          | false => rfl
          | true => exact absurd e (I.nopark (.inl hc) i hi)
        rw [this]⟩]
    · rw [Deaf_other t (g' := 0) (by omega) _ hu, I.deafW i hi]
    · rw [Deaf_own, I.deaf0, hdeaf]
    · rw [hsz] at hl
      rw [Deaf_other t (g' := 0) (by omega) _ hu]
      exact I.above l hl
    · rw [hsz, hsent]
      exact I.pt.app0 G.apart hT.size (Nat.le_refl _) hok0 hokP
    · obtain ⟨r, hr⟩ := I.rel i hi hs
      exact ⟨r, hr.appOther hu (by omega)⟩
    · obtain ⟨cs, h1, h2⟩ := I.pay
      exact ⟨cs, hC.trans h1, h2⟩
    · rw [hchan, I.chan, hcl, hsent]
    · rcases hc with hc | ⟨i', e⟩
      · exact .inl (by rw [← hcl]; exact hc)
      · exact absurd e (hspk i')
    · rw [hsent] at hidx
      rcases I.res idx hidx with h | h
      · exact .inl h
      · exact .inr (h.turn hT G (Nat.le_refl _) (hcell idx) (fun k e => by omega) (fun k => (I.low k).2))

/-- ████ THE CLOSING. ████ -/
theorem close_step (G : p.Geo) (L : p.Laws) {t0 : Trace} {n : Nat} {gs : Array Goroutine} {w0 w : World} {sl0 sl : Option (Nat × Nat)} {t : Trace} {j : Nat} {T : Nat → WTag} {X : Nat → Wk P} {B q : Nat → Nat} {st sm : Int}
    (hat : At P p.m0 n (crowd gs w0 sl0) t) (hgr : Grew P p.m0 n w) (I : p.Inv t0 gs w t j T X B q .cls st sm)
    (hst : stepT P (crowd gs w0 sl0) = runT P (crowd gs w sl) 0) {a : Goroutine} (ha : gs[0]? = some a) (hM : p.M .cls a w) : p.Fwd t0 n (p.mu j T X q .cls) := by
  have hb := G.b1
  have hW := I.jW
  obtain ⟨hmw, hx⟩ := L.cls a w hM
  obtain ⟨a', hgo, hr', hk⟩ := hx p.n I.chan
  generalize hes : (#[⟨.obj p.Ch, false, true⟩, ⟨.obj p.Ch, true, true⟩] : Array Event) = es at hgo
  have hrun := runT_crowd_go (P := P) (sl := sl) (i := 0) ha hgo
  have hat' := hat.succ (hst.trans hrun)
  have hlow := I.lowS
  have hA : Aside p.Ch w (w.setChan p.Ch 0 #[] true p.n p.n false) := Aside.put _ _ _
  have hT : Turn p 0 p.Low w (w.setChan p.Ch 0 #[] true p.n p.n false) := Turn.aside hA (.inr (.inl rfl)) (live_of_block (hA.block _ (Ne.symm G.hChW))) _ _
  have hTw : ∀ k B, Turn p (p.b0 + k) B w (w.setChan p.Ch 0 #[] true p.n p.n false) := fun k B => Turn.aside hA (.inr (.inl rfl)) (live_of_block (hA.block _ (Ne.symm G.hChW))) _ _
  have hu : ∀ op ∈ MemOp.ofEvents 0 a.frame.fn a.frame.place es, op.g = 0 := g_of_ofEvents
  have hchan : (w.setChan p.Ch 0 #[] true p.n p.n false).heap[p.Ch]? = some (.chan 0 #[] true p.n p.n false) := by
    have : p.Ch < w.heap.size := by have := G.hCh; omega
    simp [World.setChan, this]
  have hC : (w.setChan p.Ch 0 #[] true p.n p.n false).heap[p.C]? = w.heap[p.C]? := hA.block _ G.hCCh
  generalize w.setChan p.Ch 0 #[] true p.n p.n false = w' at *
  have hsz : ((gs.map (Go.Conc.woken P a a' w')).setIfInBounds 0 a').size = gs.size := by simp
  have hlt1 : 0 < gs.size := by rw [I.size]; omega
  let f : WTag → WTag := fun t => match t with | .park => .wok | t => t
  have fwd : ∀ t, (f t).wd = t.wd := fun t => by cases t <;> rfl
  have fdeaf : ∀ t, (f t).deaf = t.deaf := fun t => by cases t <;> rfl
  have ffuel : ∀ t, (f t).fuel = t.fuel := fun t => by cases t <;> rfl
  have frank : ∀ t, (f t).rank ≤ t.rank := fun t => by cases t <;> simp [f, WTag.rank]
  have fstage : ∀ t, (f t).stage = t.stage := fun t => by cases t <;> rfl
  have fwork : ∀ t m, f t = .work m ↔ t = .work m := fun t m => by cases t <;> simp [f]
  have ewd : (fun i => (f (T i)).wd) = fun i => (T i).wd := funext fun i => fwd (T i)
  have okP : ∀ op ∈ MemOp.ofEvents 0 a.frame.fn a.frame.place es, p.OkP w'.heap.size p.n op := by
    intro op hop
    obtain ⟨e, he, rfl⟩ := Conc.mem_ofEvents hop
    subst hes
    have hlt : p.Ch < w'.heap.size := by have := hT.size; have := G.hCh; omega
    simp at he
    rcases he with rfl | rfl
    · refine ⟨⟨fun x hx => ?_, fun x hx _ => ?_, fun h0 _ => absurd rfl h0⟩, hlt, by simp [MemAct.ofEvent], by simp [MemAct.ofEvent]⟩
      · simp [MemAct.ofEvent, MemAct.touch?] at hx; subst hx; rfl
      · simp [MemAct.ofEvent, MemAct.touch?] at hx; subst hx; exact .inr ⟨_, rfl⟩
    · exact okP_mute rfl hlt (by simp [MemAct.ofEvent]) (by simp [MemAct.ofEvent])
  have ok0 : ∀ op ∈ MemOp.ofEvents 0 a.frame.fn a.frame.place es, p.Ok0 (gs.size - 1) op := by
    intro op hop
    obtain ⟨e, he, rfl⟩ := Conc.mem_ofEvents hop
    subst hes
    simp at he
    refine ⟨rfl, fun x hx => ?_⟩
    rcases he with rfl | rfl
    · simp [MemAct.ofEvent, MemAct.touch?] at hx; subst hx; exact .inl ⟨.inr ⟨_, rfl⟩, by simp⟩
    · simp [MemAct.ofEvent, MemAct.touch?] at hx
  have hdeaf : deafBehind 0 es = 0 := by subst hes; simp [deafBehind]
  refine ⟨p.mu j (fun i => f (T i)) (upd X 0 ⟨p.cM, p.M .kd, a', w'⟩) q .kd, ?_, _, w', sl, _, j, fun i => f (T i), upd X 0 ⟨p.cM, p.M .kd, a', w'⟩, B, q, .kd, st, sm, hat', hgr.succ hat' rfl hT.size, ?_, rfl⟩
  · unfold PD.mu
    refine MuLt.stage ?_
    rw [ewd]
    have : sumTo j (fun i => (f (T i)).rank) ≤ sumTo j fun i => (T i).rank := sumTo_mono fun i => frank (T i)
    simp only [PD.phi]
    omega
  · refine ⟨hsz.trans I.size, ⟨a', get_map_set_same _ _ _ hlt1, by rw [upd_same]; exact .on rfl (On.start hk)⟩, fun l y hl hlb hy => ?_, fun i hi => ?_, fun i hi => ?_, ?_, fun l hl => ?_, ?_, I.wg.of_block (hA.block _ (Ne.symm G.hChW)), ?_, fun i hi hs => ?_, (by intro e; cases e), ?_, hchan, I.ok, fun k => ⟨(I.low k).1, Nat.le_trans (I.low k).2 hT.size⟩,
      (by intro e; cases e), fun _ i hi e => ?_, fun idx hidx => ?_, fun k m hk hkm => I.gets k m hk ((fwork _ _).1 hkm)⟩
    · rw [get_map_set _ _ _ _ (by omega)] at hy
      obtain ⟨z, hz, rfl⟩ := Option.map_eq_some_iff.1 hy
      have hq := I.old l z hl hlb hz
      rw [woken_quitsD hq, Deaf_other t (g' := 0) (by omega) _ hu]
      exact hq
    · obtain ⟨y, hy, hys⟩ := I.wk i hi
      have hys' := hys.rely (I.low i).1 fun _ hB => hT.othW G (Nat.le_refl _) hlow (by omega) hB
      refine ⟨Go.Conc.woken P a a' w' y, by rw [get_map_set _ _ _ _ (by omega), hy]; rfl, ?_⟩
      rw [upd_ne X _ (by omega)]
      cases hti : T i with
      | park =>
        rw [hti] at hys'
        cases hys' with
        | on ht _ => cases ht
        | slow ht _ => cases ht
        | park hs h =>
          rename_i g1
          have : Go.Conc.woken P a a' w' (parked (core g1) #[rcase p.Ch p.z] (.recv true)) = { parked (core g1) #[rcase p.Ch p.z] (.recv true) with status := .running } := by
            unfold Go.Conc.woken
            rw [if_pos (by simp [hmw, hr'])]
            exact again_recv_closed hchan
          rw [this]
          exact .wok hs h
      | _ =>
        rw [hti] at hys'
        rw [hys'.woken L a a' (by intro e; cases e)]
        exact hys'
    · rw [Deaf_other t (g' := 0) (by omega) _ hu, I.deafW i hi]
      exact (fdeaf (T i)).symm
    · rw [Deaf_own, I.deaf0]; exact hdeaf
    · rw [hsz] at hl
      rw [Deaf_other t (g' := 0) (by omega) _ hu]
      exact I.above l hl
    · rw [hsz]
      exact I.pt.app0 G.apart hT.size (Nat.le_refl _) ok0 okP
    · rw [ewd]; exact I.mode
    · rw [fstage] at hs
      obtain ⟨r, hr⟩ := I.rel i hi hs
      exact ⟨r, hr.appOther hu (by omega)⟩
    · obtain ⟨cs, h1, h2⟩ := I.pay
      exact ⟨cs, hC.trans h1, h2⟩
    · have : ∀ t, f t ≠ .park := fun t => by cases t <;> simp [f]
      exact this _ e
    · rcases I.res idx hidx with ⟨k, hk, hkw⟩ | h
      · exact .inl ⟨k, hk, (fwork _ _).2 hkw⟩
      · exact .inr (h.turn hT G (Nat.le_refl _) (ConcN.cell_of_block hC idx) (fun k e => by omega) (fun k => (I.low k).2))

/-- ████ AN OLD LEAVER SLIPS. ████ -/
theorem old_step (G : p.Geo) (L : p.Laws) {t0 : Trace} {n : Nat} {gs : Array Goroutine} {w0 w : World} {sl0 sl : Option (Nat × Nat)} {t : Trace} {j : Nat} {T : Nat → WTag} {X : Nat → Wk P} {B q : Nat → Nat} {tag : MTag} {st sm : Int}
    (hat : At P p.m0 n (crowd gs w0 sl0) t) (hgr : Grew P p.m0 n w) (I : p.Inv t0 gs w t j T X B q tag st sm) {l : Nat} (hl0 : 0 < l) (hlb : l < p.b0)
    (hst : stepT P (crowd gs w0 sl0) = runT P (crowd gs w sl) l) {g : Goroutine} (hg : gs[l]? = some g) (hrn : g.status = .running) : p.Fwd t0 n (p.mu j T X q tag) := by
  have hb := G.b1
  have hW := I.jW
  have hlow := I.lowS
  have hq := I.old l g hl0 hlb hg
  cases hql : q l with
  | zero => rw [hql] at hq; rw [hq.1] at hrn; cases hrn
  | succ k1 =>
  rw [hql] at hq
  rcases hq with ⟨hfin, _⟩ | ⟨_, g', es, hm, hstp, hq'⟩
  · rw [hfin] at hrn; cases hrn
  have hl0' : (l == 0) = false := by simp; omega
  have hrun := runT_crowd_go (P := P) (sl := sl) (i := l) hg (by rw [hl0']; exact hstp w)
  have hat' := hat.succ (hst.trans hrun)
  obtain ⟨a, ha, hms⟩ := I.main
  obtain ⟨tag', htag, hms'', hwk⟩ := hms.woken L g g' (fun ⟨i', e⟩ => ⟨p.sent tag, by rw [I.chan]; subst e; rfl⟩)
  obtain ⟨f1, f2, f3, f4, f5, f6, f7, f8⟩ := retag_facts (p := p) htag
  have hu : ∀ op ∈ MemOp.ofEvents l g.frame.fn g.frame.place es, op.g = l := g_of_ofEvents
  have hsz : ((gs.map (Go.Conc.woken P g g' w)).setIfInBounds l g').size = gs.size := by simp
  have hlt1 : l < gs.size := by rw [I.size]; omega
  have hmode : ConcN.Mode j (fun a => (T a).wd) (p.toC tag') st sm := by
    rcases htag with rfl | ⟨rfl, rfl⟩
    · exact I.mode
    · exact I.mode.retag (.inr ⟨rfl, rfl⟩)
  have okP : ∀ op ∈ MemOp.ofEvents l g.frame.fn g.frame.place es, p.OkP w.heap.size (p.sent tag) op := by
    intro op hop
    obtain ⟨e, he, rfl⟩ := Conc.mem_ofEvents hop
    have hme := hm e he
    have hz := opF_mute (P := P) (m0 := p.m0) (Z := fun _ => False) (fn := g.frame.fn) (pos := g.frame.place) hme hlt1
    exact okP_mute (touch_mute hme) (low_mute hme _) (fun i cap e => (hz.got _ i cap e).elim) hz.norel
  have okW : ∀ op ∈ MemOp.ofEvents l g.frame.fn g.frame.place es, p.OkW l op := by
    intro op hop
    obtain ⟨e, he, rfl⟩ := Conc.mem_ofEvents hop
    exact ⟨rfl, fun x hx => by simp only [touch_mute (hm e he)] at hx; cases hx⟩
  refine ⟨p.mu j T X (upd q l k1) tag', ?_, _, w, sl, _, j, T, X, B, upd q l k1, tag', st, sm, hat', hgr.succ hat' rfl (Nat.le_refl _), ?_, rfl⟩
  · unfold PD.mu
    rw [f5]
    have e1 : sumTo p.b0 (upd q l k1) + (k1 + 1) = sumTo p.b0 q + k1 := by
      have := sumTo_upd q k1 id hlb
      simpa [hql] using this
    exact MuLt.bit (by omega)
  · refine ⟨hsz.trans I.size, ⟨_, by rw [get_map_set _ _ _ _ (by omega), ha]; rfl, hms''⟩, fun l' y hl' hlb' hy => ?_, fun i hi => ?_, fun i hi => ?_, ?_, fun l' hl' => ?_, ?_, I.wg, hmode, fun i hi hs => ?_, fun e => Acqs_app (I.acq (f7 e)) fun i r hi hr => hr.appOther hu (by omega), I.pay, by rw [I.chan, f1, f2], (f4 j).2 I.ok, I.low,
      fun hc i hi => I.early (by rw [← f1]; exact hc) i hi, fun hc i hi => I.nopark (by rw [f1] at hc; exact hc.imp id f8) i hi, fun idx hidx => I.res idx (by rw [← f2]; exact hidx), I.gets⟩
    · by_cases e : l' = l
      · subst e
        rw [get_map_set_same _ _ _ hlt1] at hy
        obtain rfl := Option.some.inj hy
        rw [upd_same, Deaf_own]
        exact hq'
      · rw [get_map_set _ _ _ _ (Ne.symm e)] at hy
        obtain ⟨z, hz, rfl⟩ := Option.map_eq_some_iff.1 hy
        have hqz := I.old l' z hl' hlb' hz
        rw [woken_quitsD hqz, Deaf_other t (g' := l) (Ne.symm e) _ hu, upd_ne q k1 e]
        exact hqz
    · obtain ⟨y, hy, hys⟩ := I.wk i hi
      refine ⟨y, ?_, hys⟩
      rw [get_map_set _ _ _ _ (by omega), hy, Option.map_some, hys.woken L g g' fun e => ⟨p.sent tag, by
        rw [I.chan]
        have : tag.closed = false := by
          cases hc : tag.closed with
          | false => rfl
          | true => exact absurd e (I.nopark (.inl hc) i hi)
        rw [this]⟩]
    · rw [Deaf_other t (g' := l) (by omega) _ hu, I.deafW i hi]
    · rw [Deaf_other t (g' := l) (by omega) _ hu, I.deaf0, f3]
    · rw [hsz] at hl'
      rw [Deaf_other t (g' := l) (by omega) _ hu]
      exact I.above l' hl'
    · rw [hsz, f2]
      exact I.pt.appW G.apart (k := l) (by omega) hlt1 (Nat.le_refl _) (Nat.le_refl _) okW okP
    · obtain ⟨r, hr⟩ := I.rel i hi hs
      exact ⟨r, hr.appOther hu (by omega)⟩

/-- ████ A go STATEMENT. ████ -/
theorem spawn_step (G : p.Geo) (L : p.Laws) {t0 : Trace} {n : Nat} {gs : Array Goroutine} {w0 w : World} {sl0 sl : Option (Nat × Nat)} {t : Trace} {j : Nat} {T : Nat → WTag} {X : Nat → Wk P} {B q : Nat → Nat} {i : Nat} {st sm : Int}
    (hat : At P p.m0 n (crowd gs w0 sl0) t) (hgr : Grew P p.m0 n w) (I : p.Inv t0 gs w t j T X B q (.sgo i) st sm)
    (hst : stepT P (crowd gs w0 sl0) = runT P (crowd gs w sl) 0) {a : Goroutine} (ha : gs[0]? = some a) (hM : p.M (.sgo i) a w) : p.Fwd t0 n (p.mu j T X q (.sgo i)) := by
  have hb := G.b1
  have hlow := I.lowS
  obtain ⟨rfl, hjW⟩ : i = j ∧ j < p.W := I.ok
  obtain ⟨a', child, hsp, hch, hk⟩ := L.sgo _ a w hM
  have hrun := runT_crowd_spawn (P := P) (sl := sl) (i := 0) ha hsp
  have hops : ((MemOp.ofEvents 0 a.frame.fn a.frame.place #[]).push { g := 0, fn := a.frame.fn, pos := a.frame.place, act := .go gs.size }).push { g := gs.size, fn := child.frame.fn, pos := a.frame.place, act := .start } =
      #[{ g := 0, fn := a.frame.fn, pos := a.frame.place, act := .go gs.size }, { g := gs.size, fn := child.frame.fn, pos := a.frame.place, act := .start }] := by simp [ofEvents_eq]
  rw [hops] at hrun
  have hat' := hat.succ (hst.trans hrun)
  generalize hx : ({ g := 0, fn := a.frame.fn, pos := a.frame.place, act := .go gs.size } : MemOp) = x at hat' hrun hops
  generalize hy : ({ g := gs.size, fn := child.frame.fn, pos := a.frame.place, act := .start } : MemOp) = y at hat' hrun hops
  have hx' : x.g = 0 ∧ x.act = .go gs.size := by subst hx; exact ⟨rfl, rfl⟩
  have hy' : y.g = gs.size ∧ y.act = .start := by subst hy; exact ⟨rfl, rfl⟩
  have hmem : ∀ op ∈ #[x, y], op.act.touch? = none ∧ op.act ≠ .mark .disable ∧ op.act ≠ .mark .enable := by
    intro op hop
    simp only [List.mem_toArray, List.mem_cons, List.not_mem_nil, or_false] at hop
    rcases hop with rfl | rfl
    · rw [hx'.2]; exact ⟨rfl, by simp, by simp⟩
    · rw [hy'.2]; exact ⟨rfl, by simp, by simp⟩
  have hdf : ∀ l, Deaf (t ++ #[x, y]) l = Deaf t l := fun l => Deaf_still t l _ fun op hop => (hmem op hop).2
  have hsize : ((gs.setIfInBounds 0 a').push child).size = gs.size + 1 := by simp
  have hget : ∀ l, l ≠ 0 → l < gs.size → ((gs.setIfInBounds 0 a').push child)[l]? = gs[l]? := fun l h0 h1 => by
    rw [Array.getElem?_push_lt (by simpa using h1), ← Array.getElem?_eq_getElem, Array.getElem?_setIfInBounds_ne (Ne.symm h0)]
  have hget0 : ((gs.setIfInBounds 0 a').push child)[0]? = some a' := by
    have : 0 < gs.size := by rw [I.size]; omega
    rw [Array.getElem?_push_lt (by simpa using this), ← Array.getElem?_eq_getElem]; simp [this]
  have hgetN : ((gs.setIfInBounds 0 a').push child)[p.b0 + i]? = some child := by
    have : (gs.setIfInBounds 0 a').size = p.b0 + i := by simp [I.size]
    rw [← this, Array.getElem?_push_size]
  have facts : p.ok (i + 1) (p.after i) ∧ p.sent (p.after i) = 0 ∧ (p.after i).closed = false ∧ (p.after i).deaf = 0 ∧ (p.after i).walk = true ∧ isOpen (p.toC (p.after i)) ∧ pend (p.toC (p.after i)) = 0 ∧ (∀ vs, p.toC (p.after i) ≠ .w2 vs) ∧
      (∀ v, p.phi v (p.after i) + 10 < p.phi v (.sgo i)) ∧ p.after i ≠ .fin ∧ (∀ i', p.after i ≠ .spk i') := by
    unfold PD.after
    split
    · exact ⟨⟨rfl, by omega⟩, rfl, rfl, rfl, rfl, trivial, by simp [PD.toC, pend], by simp [PD.toC], fun v => by simp only [PD.phi]; omega, by simp, by simp⟩
    · split
      · exact ⟨⟨by omega, by omega⟩, rfl, rfl, rfl, rfl, trivial, by simp [PD.toC, pend], by simp [PD.toC], fun v => by simp only [PD.phi]; omega, by simp, by simp⟩
      · have hn : p.n = 0 := by omega
        exact ⟨(by show i + 1 = p.W; omega), hn, rfl, rfl, rfl, trivial, by simp [PD.toC, pend], by simp [PD.toC], fun v => by simp only [PD.phi]; omega, by simp, by simp⟩
  obtain ⟨c1, c2, c3, c4, c5, c6, c7, c8, c9, c10, c11⟩ := facts
  have hTne : ∀ k, k < i → upd T i .recv k = T k := fun k h => upd_ne T _ (by omega)
  have eV : (Vc (i + 1) fun k => (upd T i .recv k).wd) = Vc i (fun k => (T k).wd) + 1 := by
    simp only [Vc, sumTo, upd_same]
    rw [sumTo_congr (g := fun k => cnt (T k).wd) fun k hk => by rw [hTne k hk]]
    rfl
  have eR : sumTo (i + 1) (fun k => (upd T i .recv k).rank) = sumTo i (fun k => (T k).rank) + 10 := by
    simp only [sumTo, upd_same]
    rw [sumTo_congr (g := fun k => (T k).rank) fun k hk => by rw [hTne k hk]]
    rfl
  refine ⟨p.mu (i + 1) (upd T i .recv) (upd (upd X 0 ⟨p.cM, p.M (p.after i), a', w⟩) (i + 1) ⟨p.cW (p.b0 + i) p.Low, p.S (p.b0 + i) .recv, child, w⟩) q (p.after i), ?_, _, w, sl, _, i + 1, upd T i .recv, _, upd B i p.Low, q, p.after i, st, sm, hat', hgr.succ hat' rfl (Nat.le_refl _), ?_, rfl⟩
  · unfold PD.mu
    refine MuLt.stage ?_
    rw [eV, eR]
    have h1 := c9 (Vc i (fun k => (T k).wd) + 1)
    have h2 : p.phi (Vc i (fun k => (T k).wd) + 1) (.sgo i) = p.phi (Vc i fun k => (T k).wd) (.sgo i) := rfl
    omega
  · refine ⟨by rw [hsize, I.size]; omega, ⟨a', hget0, by rw [upd_ne _ _ (by omega), upd_same]; exact .on c5 (On.start hk)⟩, fun l z hl hlb hz => ?_, fun k hk' => ?_, fun k hk' => ?_, by rw [hdf, I.deaf0, c4]; rfl, fun l hl => ?_, ?_, I.wg, ?_, fun k hk' hs => ?_, fun e => absurd e c10, I.pay, by rw [c2, c3]; exact I.chan, c1,
      fun k => ?_, fun _ k hk' => ?_, fun hc k hk' => ?_, fun idx hidx => by rw [c2] at hidx; omega, fun k m hk' hkm => ?_⟩
    · rw [hget l (by omega) (by rw [I.size]; omega)] at hz
      rw [hdf]
      exact I.old l z hl hlb hz
    · by_cases e : k = i
      · subst e
        exact ⟨child, hgetN, by rw [upd_same, upd_same, upd_same]; exact .on rfl (On.start (hch _ (by omega)))⟩
      · obtain ⟨z, hz, hzs⟩ := I.wk k (by omega)
        exact ⟨z, by rw [hget _ (by omega) (by rw [I.size]; omega)]; exact hz, by rw [upd_ne T _ e, upd_ne B _ e, upd_ne _ _ (by omega), upd_ne _ _ (by omega)]; exact hzs⟩
    · rw [hdf]
      by_cases e : k = i
      · subst e; rw [upd_same]; exact I.above _ (by rw [I.size]; omega)
      · rw [upd_ne T _ e]; exact I.deafW k (by omega)
    · rw [hsize] at hl
      rw [hdf]
      exact I.above l (by omega)
    · rw [hsize, c2]
      exact I.pt.fork G.apart (by rw [I.size]; omega) hx' hy' I.deaf0
    · -- the group's state
      obtain ⟨ho, rfl, rfl, _⟩ := I.mode.open_inv trivial
      have e : ((Vc i (fun k => (T k).wd) + pend (p.toC (.sgo i)) : Nat) : Int) * KK = ((Vc (i + 1) (fun k => (upd T i .recv k).wd) + pend (p.toC (p.after i)) : Nat) : Int) * KK := by rw [eV, c7]; simp [PD.toC, pend]
      rw [e]
      refine .opn c6 (fun k hk' => ?_) (fun vs ev => absurd ev (c8 vs))
      by_cases ek : k = i
      · subst ek; rw [upd_same]; simp [WTag.wd, WTag.stage]
      · rw [upd_ne T _ ek]; exact ho k (by omega)
    · by_cases e : k = i
      · subst e; rw [upd_same] at hs; exact absurd hs (by simp [WTag.stage])
      · rw [upd_ne T _ e] at hs
        obtain ⟨r, hr⟩ := I.rel k (by omega) hs
        exact ⟨r, RelBy.appMute hr fun op hop => (hmem op hop).1⟩
    · by_cases e : k = i
      · subst e; rw [upd_same]; exact ⟨Nat.le_refl _, hlow⟩
      · rw [upd_ne B _ e]; exact I.low k
    · by_cases e : k = i
      · subst e; rw [upd_same]; rfl
      · rw [upd_ne T _ e]; exact I.early rfl k (by omega)
    · rcases hc with hc | ⟨i', e⟩
      · rw [c3] at hc; cases hc
      · exact absurd e (c11 i')
    · by_cases e : k = i
      · subst e; rw [upd_same] at hkm; cases hkm
      · rw [upd_ne T _ e] at hkm; exact I.gets k m (by omega) hkm
end
end Go.Sim
end

section
set_option linter.unusedVariables false
set_option linter.unusedSimpArgs false
namespace Go.Sim
open Go Go.Conc
open Go.ConcN (CT Apart RelBy sumTo upd sumTo_upd sumTo_congr sumTo_upd_out upd_ne upd_same WD CTag Vc cnt pend isOpen isW3 isFin OpenSt AllQuit WgLive Deaf_still)
open Go.ConcR (stA smA rd wr KK WgAt Bk)

section
variable {P : Program} {p : PD P}

theorem comm_build (G : p.Geo) {t0 : Trace} {n : Nat} {gs gs' : Array Goroutine} {w w' : World} {sl : Option (Nat × Nat)} {t u : Trace} {j : Nat} {T T' : Nat → WTag} {X X' : Nat → Wk P} {B q : Nat → Nat} {tag tag' : MTag} {st sm : Int}
    (hat' : At P p.m0 (n + 1) (crowd gs' w' sl) (t ++ u)) (hgr : Grew P p.m0 n w) (I : p.Inv t0 gs w t j T X B q tag st sm) (hsz : gs'.size = gs.size) (hA : Aside p.Ch w w')
    (hold : ∀ l, 0 < l → l < p.b0 → gs'[l]? = gs[l]?) (hmain : ∃ a, gs'[0]? = some a ∧ MS p (X' 0) w' tag' a)
    (hwk : ∀ i, i < j → ∃ g, gs'[p.b0 + i]? = some g ∧ WS p (p.b0 + i) (B i) (X' (i + 1)) w' (T' i) g)
    (hu : ∀ op ∈ u, op.act.touch? = none ∧ op.g < gs.size ∧ (op.act ≠ .mark .disable ∧ op.act ≠ .mark .enable) ∧ p.OkP w.heap.size (p.sent tag') op)
    (hwd : ∀ i, (T' i).wd = (T i).wd) (htd : tag'.deaf = tag.deaf) (htc : p.toC tag' = p.toC tag) (hsent : p.sent tag ≤ p.sent tag') (hok : p.ok j tag')
    (hchan : w'.heap[p.Ch]? = some (.chan 0 #[] tag'.closed (p.sent tag') (p.sent tag') false)) (hfin : tag' ≠ .fin)
    (hearly : tag'.closed = false → ∀ i, i < j → (T' i).early = true) (hnp : (tag'.closed = true ∨ ∃ i, tag' = .spk i) → ∀ i, i < j → T' i ≠ .park)
    (hw1 : ∀ k m, k < j → T k = .work m → T' k = .work m) (hnew : ∀ idx, p.sent tag ≤ idx → idx < p.sent tag' → ∃ k, k < j ∧ T' k = .work idx)
    (hw2 : ∀ k m, k < j → T' k = .work m → T k = .work m ∨ (Gets P p.m0 p.Ch m (p.b0 + k) ∧ m < p.n))
    (hlt : p.phi (Vc j fun i => (T i).wd) tag' + sumTo j (fun i => (T' i).rank) < p.phi (Vc j fun i => (T i).wd) tag + sumTo j fun i => (T i).rank) :
    p.Fwd t0 n (p.mu j T X q tag) := by
  have ewd : (fun i => (T' i).wd) = fun i => (T i).wd := funext hwd
  have edf : ∀ i, (T' i).deaf = (T i).deaf := fun i => congrArg WD.deaf (hwd i)
  have est : ∀ i, (T' i).stage = (T i).stage := fun i => congrArg WD.stage (hwd i)
  have hdf : ∀ l, Deaf (t ++ u) l = Deaf t l := fun l => Deaf_still t l _ fun op hop => (hu op hop).2.2.1
  have hT : Turn p 0 p.Low w w' := Turn.aside hA (.inr (.inl rfl)) (live_of_block (hA.block _ (Ne.symm G.hChW))) _ _
  have hC := hA.block p.C G.hCCh
  refine ⟨p.mu j T' X' q tag', ?_, _, w', sl, _, j, T', X', B, q, tag', st, sm, hat', hgr.succ hat' rfl hT.size, ?_, rfl⟩
  · unfold PD.mu
    rw [ewd]
    exact MuLt.stage hlt
  · refine ⟨hsz.trans I.size, hmain, fun l y hl hlb hy => ?_, hwk, fun i hi => by rw [hdf, edf]; exact I.deafW i hi, by rw [hdf, htd]; exact I.deaf0, fun l hl => by rw [hdf]; rw [hsz] at hl; exact I.above l hl, ?_, I.wg.of_block (hA.block _ (Ne.symm G.hChW)), by rw [ewd, htc]; exact I.mode,
      fun i hi hs => ?_, fun e => absurd e hfin, ?_, hchan, hok, fun k => ⟨(I.low k).1, by rw [hA.size]; exact (I.low k).2⟩, hearly, hnp, fun idx hidx => ?_, fun k m hk hkm => (hw2 k m hk hkm).elim (I.gets k m hk) id⟩
    · rw [hold l hl hlb] at hy
      rw [hdf]
      exact I.old l y hl hlb hy
    · rw [hsz]
      exact I.pt.appMute G.apart (by rw [hA.size]; exact Nat.le_refl _) hsent (fun op hop => ⟨by have := (hu op hop).2.1; omega, (hu op hop).1⟩) fun op hop => by rw [hA.size]; exact (hu op hop).2.2.2
    · rw [est] at hs
      obtain ⟨r, hr⟩ := I.rel i hi hs
      exact ⟨r, RelBy.appMute hr fun op hop => (hu op hop).1⟩
    · obtain ⟨cs, h1, h2⟩ := I.pay
      exact ⟨cs, hC.trans h1, h2⟩
    · rcases Nat.lt_or_ge idx (p.sent tag) with hlt | hge
      · rcases I.res idx hlt with ⟨k, hk, hkw⟩ | h
        · exact .inl ⟨k, hk, hw1 k idx hk hkw⟩
        · exact .inr (h.turn hT G (Nat.le_refl _) (ConcN.cell_of_block hC idx) (fun k e => by have := G.b1; omega) (fun k => (I.low k).2))
      · exact .inl (hnew idx hge hidx)

/-! ### who offers what -/
theorem old_off {k d : Nat} {x : Goroutine} (h : QuitsD P k d x) (r : Nat) (s : Bool) : offersAt x r s = [] :=
  offersAt_of_not_blocked (by rcases h.status with e | e <;> rw [e] <;> simp) r s
theorem run_off {x : Goroutine} (h : x.status = .running) (r : Nat) (s : Bool) : offersAt x r s = [] := offersAt_of_not_blocked (by rw [h]; simp) r s
/-- Who stands at number jj. -/
theorem PD.Inv.who {t0 : Trace} {gs : Array Goroutine} {w : World} {t : Trace} {j : Nat} {T : Nat → WTag} {X : Nat → Wk P} {B q : Nat → Nat} {tag : MTag} {st sm : Int} (I : p.Inv t0 gs w t j T X B q tag st sm)
    {jj : Nat} {x : Goroutine} (hx : gs[jj]? = some x) : (jj = 0 ∧ MS p (X 0) w tag x) ∨ (∃ k d, 0 < jj ∧ jj < p.b0 ∧ QuitsD P k d x) ∨ ∃ i, i < j ∧ jj = p.b0 + i ∧ WS p (p.b0 + i) (B i) (X (i + 1)) w (T i) x := by
  rcases Nat.eq_zero_or_pos jj with rfl | h0
  · obtain ⟨a, ha, hm⟩ := I.main
    rw [ha] at hx
    cases hx
    exact .inl ⟨rfl, hm⟩
  · rcases Nat.lt_or_ge jj p.b0 with hlt | hge
    · exact .inr (.inl ⟨_, _, h0, hlt, I.old jj x h0 hlt hx⟩)
    · have := (Array.getElem?_eq_some_iff.1 hx).1
      rw [I.size] at this
      obtain ⟨i, rfl⟩ : ∃ i, jj = p.b0 + i := ⟨jj - p.b0, by omega⟩
      obtain ⟨g, hg, hs⟩ := I.wk i (by omega)
      rw [hg] at hx
      cases hx
      exact .inr (.inr ⟨i, by omega, rfl, hs⟩)
theorem MS.off (L : p.Laws) {x : Wk P} {w : World} {t : MTag} {a : Goroutine} (h : MS p x w t a) (r : Nat) : offersAt a r false = [] ∧ ((∀ i, t ≠ .spk i) → offersAt a r true = []) := by
  cases h with
  | on ht h =>
    have hr := h.running (fun _ _ _ x => x) (L.mrun t)
    exact ⟨run_off hr _ _, fun _ => run_off hr _ _⟩
  | spk hs h => exact ⟨offersAt_parked_send' _ _ _ _ _ _, fun e => absurd rfl (e _)⟩
  | blk hs h =>
    have := (L.w3 _ _ (h.stop hs)).1
    exact ⟨by simp [offersAt, this], fun _ => by simp [offersAt, this]⟩
theorem WS.off (L : p.Laws) {k B : Nat} {x : Wk P} {w : World} {t : WTag} {a : Goroutine} (h : WS p k B x w t a) (r : Nat) : offersAt a r true = [] ∧ (t ≠ .park → offersAt a r false = []) := by
  cases h with
  | on ht h =>
    have hr := h.running (fun _ _ _ x => x) (L.srun _ t)
    exact ⟨run_off hr _ _, fun _ => run_off hr _ _⟩
  | park hs h => exact ⟨offersAt_parked_recv' _ _ _ _ _, fun e => absurd rfl e⟩
  | wok hs h => exact ⟨run_off rfl _ _, fun _ => run_off rfl _ _⟩
  | slow ht h =>
    have hr := Goes.running (fun _ _ x => L.srun _ _ _ _ x) w (Oth.refl w) h
    exact ⟨run_off hr _ _, fun _ => run_off hr _ _⟩
  | quit h => exact ⟨old_off h _ _, fun _ => old_off h _ _⟩
theorem no_senders (L : p.Laws) {t0 : Trace} {gs : Array Goroutine} {w : World} {t : Trace} {j : Nat} {T : Nat → WTag} {X : Nat → Wk P} {B q : Nat → Nat} {tag : MTag} {st sm : Int} (I : p.Inv t0 gs w t j T X B q tag st sm)
    (h : ∀ i, tag ≠ .spk i) (i : Nat) : partners (gs.setIfInBounds i ph) p.Ch true = [] := by
  refine partners_nil fun jj x hx => ?_
  rcases getElem?_stand gs i jj x hx with ⟨_, rfl⟩ | ⟨_, hx⟩
  · exact offersAt_ph _ _
  · rcases I.who hx with ⟨_, hm⟩ | ⟨k, d, _, _, hq⟩ | ⟨i', _, _, hs⟩
    · exact (hm.off L _).2 h
    · exact old_off hq _ _
    · exact (hs.off L _).1
theorem no_receivers (L : p.Laws) {t0 : Trace} {gs : Array Goroutine} {w : World} {t : Trace} {j : Nat} {T : Nat → WTag} {X : Nat → Wk P} {B q : Nat → Nat} {tag : MTag} {st sm : Int} (I : p.Inv t0 gs w t j T X B q tag st sm)
    (h : ∀ i, i < j → T i ≠ .park) (i : Nat) : partners (gs.setIfInBounds i ph) p.Ch false = [] := by
  refine partners_nil fun jj x hx => ?_
  rcases getElem?_stand gs i jj x hx with ⟨_, rfl⟩ | ⟨_, hx⟩
  · exact offersAt_ph _ _
  · rcases I.who hx with ⟨_, hm⟩ | ⟨k, d, _, _, hq⟩ | ⟨i', hi', _, hs⟩
    · exact (hm.off L _).1
    · exact old_off hq _ _
    · exact (hs.off L _).2 (h i' hi')

/-- ████ A WORKER PARKS. ████ -/
theorem park_step (G : p.Geo) (L : p.Laws) {t0 : Trace} {n : Nat} {gs : Array Goroutine} {w0 w : World} {sl0 sl : Option (Nat × Nat)} {t : Trace} {j : Nat} {T : Nat → WTag} {X : Nat → Wk P} {B q : Nat → Nat} {tag : MTag} {st sm : Int}
    (hat : At P p.m0 n (crowd gs w0 sl0) t) (hgr : Grew P p.m0 n w) (I : p.Inv t0 gs w t j T X B q tag st sm) {i : Nat} (hi : i < j)
    (hst : stepT P (crowd gs w0 sl0) = runT P (crowd gs w sl) (p.b0 + i)) {g : Goroutine} (hg : gs[p.b0 + i]? = some g) (hTi : T i = .recv) (hx : (X (i + 1)).atStop) (hon : On (p.cW (p.b0 + i) (B i)) (p.S (p.b0 + i) .recv) (X (i + 1)) g w)
    (hcl : tag.closed = false) (hspk : ∀ i, tag ≠ .spk i) : p.Fwd t0 n (p.mu j T X q tag) := by
  have hb := G.b1
  have hi0 : (p.b0 + i == 0) = false := by simp; omega
  obtain ⟨hcm, _, _⟩ := L.recv _ g w (hon.stop hx)
  have hchan : w.heap[p.Ch]? = some (.chan 0 #[] false (p.sent tag) (p.sent tag) false) := by rw [I.chan, hcl]
  have hrun := crowd_waits (P := P) (gs := gs) (w := w) (sl := sl) (i := p.b0 + i) hg (by rw [hi0]; exact hcm) (fun cc hcc => by
    have : cc = rcase p.Ch p.z := by simpa using hcc
    rw [this]
    exact ways_recv_none hchan (no_senders L I hspk _))
  have hu : MemOp.ofEvents (p.b0 + i) g.frame.fn g.frame.place #[] = #[] := rfl
  rw [hu] at hrun
  have hat' := hat.succ (hst.trans hrun)
  have hlt1 : p.b0 + i < gs.size := by rw [I.size]; omega
  have e2 := sumTo_upd T WTag.park WTag.rank hi
  have hTne : ∀ k, k ≠ i → upd T i .park k = T k := fun k h => upd_ne T _ h
  refine comm_build (T' := upd T i .park) (X' := X) (tag' := tag) G hat' hgr I (by simp) (.refl _ _) (fun l hl hlb => by rw [Array.getElem?_setIfInBounds_ne (by omega)]) ?_ (fun k hk => ?_) (by simp) (fun k => ?_) rfl rfl (Nat.le_refl _) I.ok I.chan (by rintro rfl; cases hcl) (fun _ k hk => ?_) (fun hc k hk => ?_) (fun k m hk hkm => ?_) (fun idx h1 h2 => by omega) (fun k m hk hkm => ?_) ?_
  · obtain ⟨a, ha, hm⟩ := I.main
    exact ⟨a, by rw [Array.getElem?_setIfInBounds_ne (by omega)]; exact ha, hm⟩
  · by_cases e : k = i
    · subst e
      exact ⟨_, by rw [Array.getElem?_setIfInBounds_self_of_lt hlt1], by rw [upd_same]; exact .park hx hon⟩
    · obtain ⟨y, hy, hs⟩ := I.wk k hk
      exact ⟨y, by rw [Array.getElem?_setIfInBounds_ne (by omega)]; exact hy, by rw [hTne k e]; exact hs⟩
  · by_cases e : k = i
    · subst e; rw [upd_same, hTi]; rfl
    · rw [hTne k e]
  · by_cases e : k = i
    · subst e; rw [upd_same]; rfl
    · rw [hTne k e]; exact I.early hcl k hk
  · rcases hc with hc | ⟨i', e⟩
    · rw [hcl] at hc; cases hc
    · exact absurd e (hspk i')
  · by_cases e : k = i
    · subst e; rw [hTi] at hkm; cases hkm
    · rw [hTne k e]; exact hkm
  · by_cases e : k = i
    · subst e; rw [upd_same] at hkm; cases hkm
    · rw [hTne k e] at hkm; exact .inl hkm
  · rw [hTi] at e2
    simp only [WTag.rank] at e2 ⊢
    omega

/-- ████ A WORKER HEARS THE CHANNEL's END. ████ -/
theorem closed_step (G : p.Geo) (L : p.Laws) {t0 : Trace} {n : Nat} {gs : Array Goroutine} {w0 w : World} {sl0 sl : Option (Nat × Nat)} {t : Trace} {j : Nat} {T : Nat → WTag} {X : Nat → Wk P} {B q : Nat → Nat} {tag : MTag} {st sm : Int}
    (hat : At P p.m0 n (crowd gs w0 sl0) t) (hgr : Grew P p.m0 n w) (I : p.Inv t0 gs w t j T X B q tag st sm) {i : Nat} (hi : i < j)
    (hst : stepT P (crowd gs w0 sl0) = runT P (crowd gs w sl) (p.b0 + i)) {g g1 : Goroutine} (hg : gs[p.b0 + i]? = some g) (hTi : T i = .recv ∨ T i = .wok) (hS : p.S (p.b0 + i) .recv g1 w) (hstep : stepG P false g w = stepG P false g1 w)
    (hcl : tag.closed = true) (hfin : tag ≠ .fin) : p.Fwd t0 n (p.mu j T X q tag) := by
  have hb := G.b1
  have hi0 : (p.b0 + i == 0) = false := by simp; omega
  obtain ⟨hcm, _, hend⟩ := L.recv _ g1 w hS
  have hchan : w.heap[p.Ch]? = some (.chan 0 #[] true (p.sent tag) (p.sent tag) false) := by rw [I.chan, hcl]
  have hspk : ∀ i, tag ≠ .spk i := fun i e => by subst e; cases hcl
  have hrun := crowd_recv_closed (P := P) (gs := gs) (w := w) (sl := sl) (i := p.b0 + i) hg (by rw [hi0, hstep]; exact hcm) hchan (no_senders L I hspk _)
  rw [finishComm_recv] at hrun
  have hat' := hat.succ (hst.trans hrun)
  have hlt1 : p.b0 + i < gs.size := by rw [I.size]; omega
  have e2 := sumTo_upd T WTag.r0 WTag.rank hi
  have hTne : ∀ k, k ≠ i → upd T i .r0 k = T k := fun k h => upd_ne T _ h
  have hlow := I.lowS
  refine comm_build (T' := upd T i .r0) (X' := upd X (i + 1) ⟨p.cW (p.b0 + i) (B i), p.S (p.b0 + i) .r0, Conc.served (core g1) (recvd true p.z false), w⟩) (tag' := tag) G hat' hgr I (by simp) (.refl _ _) (fun l hl hlb => by rw [Array.getElem?_setIfInBounds_ne (by omega)]) ?_ (fun k hk => ?_) (fun op hop => ?_) (fun k => ?_) rfl rfl (Nat.le_refl _) I.ok I.chan hfin (fun hc => by rw [hcl] at hc; cases hc) (fun hc k hk => ?_) (fun k m hk hkm => ?_) (fun idx h1 h2 => by omega) (fun k m hk hkm => ?_) ?_
  · obtain ⟨a, ha, hm⟩ := I.main
    exact ⟨a, by rw [Array.getElem?_setIfInBounds_ne (by omega)]; exact ha, by rw [upd_ne X _ (by omega)]; exact hm⟩
  · by_cases e : k = i
    · subst e
      exact ⟨_, by rw [Array.getElem?_setIfInBounds_self_of_lt hlt1], by rw [upd_same, upd_same]; exact .on rfl (On.start (hend (B k) w (I.low k).1 (Oth.refl _)))⟩
    · obtain ⟨y, hy, hs⟩ := I.wk k hk
      exact ⟨y, by rw [Array.getElem?_setIfInBounds_ne (by omega)]; exact hy, by rw [hTne k e, upd_ne X _ (by omega)]; exact hs⟩
  · have : op = { g := p.b0 + i, fn := (core g1).frame.fn, pos := (core g1).frame.place, act := .recvClosed p.Ch } := by simpa [ofEvents_eq] using hop
    subst this
    exact ⟨rfl, hlt1, ⟨by simp, by simp⟩, okP_mute rfl (show p.Ch < w.heap.size by have := G.hCh; omega) (by simp) (by simp)⟩
  · by_cases e : k = i
    · subst e; rw [upd_same]; rcases hTi with h | h <;> rw [h] <;> rfl
    · rw [hTne k e]
  · by_cases e : k = i
    · subst e; rw [upd_same]; simp
    · rw [hTne k e]; exact I.nopark hc k hk
  · by_cases e : k = i
    · subst e; rcases hTi with h | h <;> rw [h] at hkm <;> cases hkm
    · rw [hTne k e]; exact hkm
  · by_cases e : k = i
    · subst e; rw [upd_same] at hkm; cases hkm
    · rw [hTne k e] at hkm; exact .inl hkm
  · have : 8 ≤ (T i).rank := by rcases hTi with h | h <;> rw [h] <;> simp [WTag.rank]
    simp only [WTag.rank] at e2 this ⊢
    omega

/-- ████ THE STARTER WAITS AT ITS SEND. ████ -/
theorem wait_step (G : p.Geo) (L : p.Laws) {t0 : Trace} {n : Nat} {gs : Array Goroutine} {w0 w : World} {sl0 sl : Option (Nat × Nat)} {t : Trace} {j : Nat} {T : Nat → WTag} {X : Nat → Wk P} {B q : Nat → Nat} {m : Nat} {st sm : Int}
    (hat : At P p.m0 n (crowd gs w0 sl0) t) (hgr : Grew P p.m0 n w) (I : p.Inv t0 gs w t j T X B q (.snd m) st sm)
    (hst : stepT P (crowd gs w0 sl0) = runT P (crowd gs w sl) 0) {a : Goroutine} (ha : gs[0]? = some a) (hx : (X 0).atStop) (hon : On p.cM (p.M (.snd m)) (X 0) a w) (hnp : ∀ i, i < j → T i ≠ .park) : p.Fwd t0 n (p.mu j T X q (.snd m)) := by
  have hb := G.b1
  obtain ⟨hcm, _⟩ := L.snd m a w (hon.stop hx)
  have hrun := crowd_waits (P := P) (gs := gs) (w := w) (sl := sl) (i := 0) ha hcm (fun cc hcc => by
    have : cc = scase p.Ch (p.num m) p.zs := by simpa using hcc
    rw [this]
    exact ways_send_none I.chan (Nat.zero_le _) (no_receivers L I hnp _))
  have hu : MemOp.ofEvents 0 a.frame.fn a.frame.place #[] = #[] := rfl
  rw [hu] at hrun
  have hat' := hat.succ (hst.trans hrun)
  have hlt1 : 0 < gs.size := by rw [I.size]; omega
  refine comm_build (T' := T) (X' := X) (tag' := .spk m) G hat' hgr I (by simp) (.refl _ _) (fun l hl hlb => by rw [Array.getElem?_setIfInBounds_ne (by omega)]) ⟨_, by rw [Array.getElem?_setIfInBounds_self_of_lt hlt1], .spk hx hon⟩ (fun k hk => ?_) (by simp) (fun k => rfl) rfl rfl (Nat.le_refl _) I.ok I.chan (by simp) (fun _ => I.early rfl) (fun _ => hnp) (fun k m hk hkm => hkm) (fun idx h1 h2 => by simp only [PD.sent] at h1 h2; omega) (fun k m hk hkm => .inl hkm) ?_
  · obtain ⟨y, hy, hs⟩ := I.wk k hk
    exact ⟨y, by rw [Array.getElem?_setIfInBounds_ne (by omega)]; exact hy, hs⟩
  · have := I.ok.2
    simp only [PD.phi]
    omega

theorem next_facts {j m : Nat} (hj : j = p.W) (hm : m < p.n) : p.ok j (p.next m) ∧ p.sent (p.next m) = m + 1 ∧ (p.next m).closed = false ∧ (p.next m).deaf = 0 ∧ (p.next m).walk = true ∧ p.toC (p.next m) = .kd ∧
    (∀ v, p.phi v (p.next m) + 8 ≤ p.phi v (.snd m)) ∧ p.next m ≠ .fin ∧ ∀ i, p.next m ≠ .spk i := by
  unfold PD.next
  split
  · exact ⟨⟨hj, by omega⟩, rfl, rfl, rfl, rfl, rfl, fun v => by simp only [PD.phi]; omega, by simp, by simp⟩
  · have : p.n = m + 1 := by omega
    exact ⟨hj, this, rfl, rfl, rfl, rfl, fun v => by simp only [PD.phi]; omega, by simp, by simp⟩

/-- Both sides of a passing. -/
theorem pass_build (G : p.Geo) (L : p.Laws) {t0 : Trace} {n : Nat} {gs gs' : Array Goroutine} {w w' : World} {sl : Option (Nat × Nat)} {t u : Trace} {j : Nat} {T : Nat → WTag} {X : Nat → Wk P} {B q : Nat → Nat} {tag : MTag} {m : Nat} {st sm : Int}
    (hgr : Grew P p.m0 n w) (I : p.Inv t0 gs w t j T X B q tag st sm) (htag : tag = .snd m ∨ tag = .spk m) {i : Nat} (hi : i < j) (hTi : T i = .recv ∨ T i = .park)
    (hoth : ∀ k, k < j → k ≠ i → T k ≠ .park ∨ tag = .snd m)
    {a g : Goroutine} (hM : p.M (.snd m) a w) (hS : p.S (p.b0 + i) .recv g w) {ca cg : FuncId} {pa pg : String}
    (hw : w' = w.setChan p.Ch 0 #[] false (m + 1) (m + 1) false ∨ ∃ d, w' = (w.at d).setChan p.Ch 0 #[] false (m + 1) (m + 1) false)
    (hg0 : gs'[0]? = some (Conc.served (core a) undef)) (hgi : gs'[p.b0 + i]? = some (Conc.served (core g) (recvd true (p.num m) true))) (hgo : ∀ l, l ≠ 0 → l ≠ p.b0 + i → gs'[l]? = gs[l]?) (hsz : gs'.size = gs.size)
    (hat' : At P p.m0 (n + 1) (crowd gs' w' sl) (t ++ u)) (hu : u = #[{ g := 0, fn := ca, pos := pa, act := .send p.Ch m }, { g := p.b0 + i, fn := cg, pos := pg, act := .recv p.Ch m 0 }, { g := 0, fn := ca, pos := pa, act := .sendDone p.Ch m }, { g := p.b0 + i, fn := cg, pos := pg, act := .recvDone p.Ch m }]) :
    p.Fwd t0 n (p.mu j T X q tag) := by
  have hb := G.b1
  have hlow := I.lowS
  have hjm : j = p.W ∧ m < p.n := by rcases htag with rfl | rfl <;> exact I.ok
  have hst : p.sent tag = m ∧ tag.deaf = 0 ∧ p.toC tag = .kd ∧ tag.closed = false ∧ ∀ v, p.phi v (.snd m) ≤ p.phi v tag + 1 := by
    rcases htag with rfl | rfl <;> exact ⟨rfl, rfl, rfl, rfl, fun v => by simp only [PD.phi]; omega⟩
  obtain ⟨c1, c2, c3, c4, c5, c6, c7, c8, c9⟩ := next_facts (p := p) hjm.1 hjm.2
  have hA : Aside p.Ch w w' := by
    rcases hw with rfl | ⟨d, rfl⟩
    · exact Aside.put _ _ _
    · exact (Aside.at p.Ch w d).trans (Aside.put _ _ _)
  have hchan : w'.heap[p.Ch]? = some (.chan 0 #[] false (m + 1) (m + 1) false) := by
    have : p.Ch < w.heap.size := by have := G.hCh; omega
    rcases hw with rfl | ⟨d, rfl⟩
    · simp [World.setChan, this]
    · have h2 : p.Ch < (w.at d).heap.size := this
      simp [World.setChan, h2]
  have hT : Turn p 0 p.Low w w' := Turn.aside hA (.inr (.inl rfl)) (live_of_block (hA.block _ (Ne.symm G.hChW))) _ _
  have hTm : Turn p 1 p.Low w w' := Turn.aside hA (.inr (.inl rfl)) (live_of_block (hA.block _ (Ne.symm G.hChW))) _ _
  have oW : ∀ k B, p.Low ≤ B → Oth (p.cW (p.b0 + k) B) w w' := fun k _ hB => hT.othW G (Nat.le_refl _) hlow (by omega) hB
  have oM : Oth p.cM w w' := hTm.othM G (Nat.le_refl _) hlow (by omega)
  have hlt1 : p.b0 + i < gs.size := by rw [I.size]; omega
  have e2 := sumTo_upd T (WTag.work m) WTag.rank hi
  have hTne : ∀ k, k ≠ i → upd T i (.work m) k = T k := fun k h => upd_ne T _ h
  have hgets : Gets P p.m0 p.Ch m (p.b0 + i) := by
    subst hu
    refine Gets.new (u := #[{ g := 0, fn := ca, pos := pa, act := .send p.Ch m }]) (op := { g := p.b0 + i, fn := cg, pos := pg, act := .recv p.Ch m 0 }) (v := #[{ g := 0, fn := ca, pos := pa, act := .sendDone p.Ch m }, { g := p.b0 + i, fn := cg, pos := pg, act := .recvDone p.Ch m }]) (by simpa using hat') rfl rfl (fun op hop cap' e => ?_) (fun op hop cap' e => ?_)
    · have := I.pt.got op hop m cap' e
      rw [hst.1] at this
      omega
    · have : op = { g := 0, fn := ca, pos := pa, act := .send p.Ch m } := by simpa using hop
      subst this
      cases e
  refine comm_build (T' := upd T i (.work m)) (X' := upd (upd X 0 ⟨p.cM, p.M (p.next m), Conc.served (core a) undef, w'⟩) (i + 1) ⟨p.cW (p.b0 + i) (B i), p.S (p.b0 + i) (.work m), Conc.served (core g) (recvd true (p.num m) true), w'⟩) (tag' := p.next m)
    G hat' hgr I hsz hA (fun l hl hlb => hgo l (by omega) (by omega)) ⟨_, hg0, ?_⟩ (fun k hk => ?_) (fun op hop => ?_) (fun k => ?_) (by rw [c4, hst.2.1]) (by rw [c6, hst.2.2.1]) (by rw [c2, hst.1]; omega) c1 (by rw [c2, c3]; exact hchan) c8 (fun _ k hk => ?_) (fun hc k hk => ?_) (fun k m' hk hkm => ?_) (fun idx h1 h2 => ?_) (fun k m' hk hkm => ?_) ?_
  · rw [upd_ne _ _ (by omega), upd_same]
    exact .on c5 (On.start ((L.snd m a w hM).2 w' oM))
  · by_cases e : k = i
    · subst e
      exact ⟨_, hgi, by rw [upd_same, upd_same]; exact .on rfl (On.start ((L.recv _ g w hS).2.1 m (B k) w' hjm.2 (I.low k).1 (oW k _ (I.low k).1)))⟩
    · obtain ⟨y, hy, hs⟩ := I.wk k hk
      exact ⟨y, by rw [hgo _ (by omega) (by omega)]; exact hy, by rw [hTne k e, upd_ne _ _ (by omega), upd_ne _ _ (by omega)]; exact hs.rely (I.low k).1 (oW k)⟩
  · have hCh : p.Ch < w.heap.size := by have := G.hCh; omega
    subst hu
    simp only [List.mem_toArray, List.mem_cons, List.not_mem_nil, or_false] at hop
    rcases hop with rfl | rfl | rfl | rfl
    · exact ⟨rfl, by show 0 < gs.size; omega, ⟨by simp, by simp⟩, okP_mute rfl hCh (by simp) (by simp)⟩
    · exact ⟨rfl, hlt1, ⟨by simp, by simp⟩, okP_mute rfl hCh (fun i' cap e => by simp at e; rw [c2]; omega) (by simp)⟩
    · exact ⟨rfl, by show 0 < gs.size; omega, ⟨by simp, by simp⟩, okP_mute rfl hCh (by simp) (by simp)⟩
    · exact ⟨rfl, hlt1, ⟨by simp, by simp⟩, okP_mute rfl hCh (by simp) (by simp)⟩
  · by_cases e : k = i
    · subst e; rw [upd_same]; rcases hTi with h | h <;> rw [h] <;> rfl
    · rw [hTne k e]
  · by_cases e : k = i
    · subst e; rw [upd_same]; rfl
    · rw [hTne k e]; exact I.early hst.2.2.2.1 k hk
  · rcases hc with hc | ⟨i', e⟩
    · rw [c3] at hc; cases hc
    · exact absurd e (c9 i')
  · by_cases e : k = i
    · subst e; rcases hTi with h | h <;> rw [h] at hkm <;> cases hkm
    · rw [hTne k e]; exact hkm
  · rw [hst.1] at h1
    rw [c2] at h2
    have : idx = m := by omega
    subst this
    exact ⟨i, hi, by rw [upd_same]⟩
  · by_cases e : k = i
    · subst e; rw [upd_same] at hkm; cases hkm; exact .inr ⟨hgets, hjm.2⟩
    · rw [hTne k e] at hkm; exact .inl hkm
  · have h1 := c7 (Vc j fun i => (T i).wd)
    have h2 := hst.2.2.2.2 (Vc j fun i => (T i).wd)
    have : 9 ≤ (T i).rank := by rcases hTi with h | h <;> rw [h] <;> simp [WTag.rank]
    simp only [WTag.rank] at e2 this ⊢
    omega

/-- ████ THE STARTER's SEND MEETS A WORKER. ████ -/
theorem meet1_step (G : p.Geo) (L : p.Laws) {t0 : Trace} {n : Nat} {gs : Array Goroutine} {w0 w : World} {sl0 sl : Option (Nat × Nat)} {t : Trace} {j : Nat} {T : Nat → WTag} {X : Nat → Wk P} {B q : Nat → Nat} {m : Nat} {st sm : Int}
    (hat : At P p.m0 n (crowd gs w0 sl0) t) (hgr : Grew P p.m0 n w) (I : p.Inv t0 gs w t j T X B q (.snd m) st sm)
    (hst : stepT P (crowd gs w0 sl0) = runT P (crowd gs w sl) 0) {a : Goroutine} (ha : gs[0]? = some a) (hx : (X 0).atStop) (hon : On p.cM (p.M (.snd m)) (X 0) a w) {i0 : Nat} (hi0 : i0 < j) (hT0 : T i0 = .park) : p.Fwd t0 n (p.mu j T X q (.snd m)) := by
  have hb := G.b1
  have hM := hon.stop hx
  obtain ⟨hcm, _⟩ := L.snd m a w hM
  -- whoever is parked at the channel
  have hpark : ∀ jj x, jj ≠ 0 → gs[jj]? = some x → x.status = .blocked → ∃ i g, i < j ∧ jj = p.b0 + i ∧ T i = .park ∧ x = parked (core g) #[rcase p.Ch p.z] (.recv true) ∧ p.S (p.b0 + i) .recv g w := by
    intro jj x hne hxx hbl
    rcases I.who hxx with ⟨e, _⟩ | ⟨k, d, _, _, hq⟩ | ⟨i, hi, e, hs⟩
    · exact absurd e hne
    · rcases hq.status with e | e <;> rw [e] at hbl <;> cases hbl
    · generalize hti : T i = ti at hs
      cases hs with
      | on ht h => rw [h.running (fun _ _ _ x => x) (L.srun _ _)] at hbl; cases hbl
      | park hs h => exact ⟨i, _, hi, e, hti, rfl, h.stop hs⟩
      | wok hs h => cases hbl
      | slow ht h => rw [Goes.running (fun _ _ x => L.srun _ _ _ _ x) w (Oth.refl w) h] at hbl; cases hbl
      | quit hq => rcases hq.status with e | e <;> rw [e] at hbl <;> cases hbl
  have hpart : ∀ jj k, (jj, k) ∈ partners (gs.setIfInBounds 0 ph) p.Ch false → ∃ x, jj ≠ 0 ∧ gs[jj]? = some x ∧ k ∈ offersAt x p.Ch false := by
    intro jj k hk
    obtain ⟨x, hxx, hkx⟩ := mem_partners.1 hk
    rcases getElem?_stand gs 0 jj x hxx with ⟨_, rfl⟩ | ⟨hne, hxx⟩
    · rw [offersAt_ph] at hkx; cases hkx
    · exact ⟨x, hne, hxx, hkx⟩
  obtain ⟨jj, gj, zj, shj, d, hne, hgj, hrun⟩ := crowd_send_meets_some (P := P) (gs := gs) (w := w) (sl := sl) (i := 0) ha hcm I.chan
    (by
      obtain ⟨y, hy, hs⟩ := I.wk i0 hi0
      rw [hT0] at hs
      intro hnil
      have : (p.b0 + i0, 0) ∈ partners (gs.setIfInBounds 0 ph) p.Ch false := by
        refine mem_partners.2 ⟨y, by rw [Array.getElem?_setIfInBounds_ne (by omega)]; exact hy, ?_⟩
        cases hs with
        | on ht _ => cases ht
        | slow ht _ => cases ht
        | park hs h => rw [offersAt_parked_recv]; simp
      rw [hnil] at this
      cases this)
    (fun jj k hk => by
      obtain ⟨x, hne, hxx, hkx⟩ := hpart jj k hk
      have hbl : x.status = .blocked := by
        by_cases e : x.status = .blocked
        · exact e
        · rw [offersAt_of_not_blocked e] at hkx; cases hkx
      obtain ⟨i, g, hi, rfl, hti, rfl, hS⟩ := hpark jj x hne hxx hbl
      rw [offersAt_parked_recv] at hkx
      simp at hkx
      exact ⟨hkx, hne, _, _, _, hxx⟩)
  obtain ⟨i, g, hi, rfl, hti, heq, hS⟩ := hpark jj _ hne hgj rfl
  have hoff : (some (#[rcase p.Ch zj], shj) : Option (Array CommCase × CommShape)) = some (#[rcase p.Ch p.z], .recv true) := congrArg Goroutine.offers heq
  have hsh : shj = .recv true := by cases hoff; rfl
  have hfc : gj.finishComm P #[rcase p.Ch zj] shj 0 (p.num m) true = Conc.served (core g) (recvd true (p.num m) true) := by
    rw [← finishComm_parked P gj #[rcase p.Ch zj] #[rcase p.Ch zj] shj shj, heq, finishComm_parked, hsh, finishComm_recv]
  rw [hfc, finishComm_send] at hrun
  have hat' := hat.succ (hst.trans hrun)
  have hlt1 : p.b0 + i < gs.size := by rw [I.size]; omega
  have hsz0 : 0 < gs.size := by omega
  exact pass_build (a := a) (g := g) (ca := (core a).frame.fn) (cg := gj.frame.fn) (pa := (core a).frame.place) (pg := gj.frame.place) G L hgr I (.inl rfl) hi (.inr hti) (fun _ _ _ => .inr rfl) hM hS (.inr ⟨d, rfl⟩) (by simp [hsz0]) (by rw [Array.getElem?_setIfInBounds_ne (by omega), Array.getElem?_setIfInBounds_self_of_lt hlt1]) (fun l h0 h1 => by rw [Array.getElem?_setIfInBounds_ne (Ne.symm h0), Array.getElem?_setIfInBounds_ne (Ne.symm h1)]) (by simp) hat' (by simp [ofEvents_eq, PD.sent])

/-- ████ A WORKER's RECEIPT MEETS THE STARTER. ████ -/
theorem meet2_step (G : p.Geo) (L : p.Laws) {t0 : Trace} {n : Nat} {gs : Array Goroutine} {w0 w : World} {sl0 sl : Option (Nat × Nat)} {t : Trace} {j : Nat} {T : Nat → WTag} {X : Nat → Wk P} {B q : Nat → Nat} {m : Nat} {st sm : Int}
    (hat : At P p.m0 n (crowd gs w0 sl0) t) (hgr : Grew P p.m0 n w) (I : p.Inv t0 gs w t j T X B q (.spk m) st sm) {i : Nat} (hi : i < j)
    (hst : stepT P (crowd gs w0 sl0) = runT P (crowd gs w sl) (p.b0 + i)) {g : Goroutine} (hg : gs[p.b0 + i]? = some g) (hTi : T i = .recv) (hx : (X (i + 1)).atStop) (hon : On (p.cW (p.b0 + i) (B i)) (p.S (p.b0 + i) .recv) (X (i + 1)) g w) :
    p.Fwd t0 n (p.mu j T X q (.spk m)) := by
  have hb := G.b1
  have hi0 : (p.b0 + i == 0) = false := by simp; omega
  have hS := hon.stop hx
  obtain ⟨hcm, _, _⟩ := L.recv _ g w hS
  obtain ⟨a, ha, hm⟩ := I.main
  cases hm with
  | on ht _ => cases ht
  | spk hs h =>
  rename_i a0
  have hM := h.stop hs
  have hp : partners (gs.setIfInBounds (p.b0 + i) ph) p.Ch true = [(0, 0)] := by
    rw [partners_one (j := 0) (g := parked (core a0) #[scase p.Ch (p.num m) p.zs] .send) (by rw [Array.getElem?_setIfInBounds_ne (by omega)]; exact ha) fun k x hk hxx => ?_, offersAt_parked_send]
    · simp
    · rcases getElem?_stand gs _ k x hxx with ⟨_, rfl⟩ | ⟨_, hxx⟩
      · exact offersAt_ph _ _
      · rcases I.who hxx with ⟨e, _⟩ | ⟨k, d, _, _, hq⟩ | ⟨i', hi', _, hs⟩
        · exact absurd e hk
        · exact old_off hq _ _
        · exact (hs.off L _).1
  have hrun := crowd_recv_meets (P := P) (gs := gs) (w := w) (sl := sl) (i := p.b0 + i) (j := 0) hg (by rw [hi0]; exact hcm) I.chan (by omega) ha hp
  rw [finishComm_recv, finishComm_send] at hrun
  have hat' := hat.succ (hst.trans hrun)
  have hlt1 : p.b0 + i < gs.size := by rw [I.size]; omega
  have hsz0 : 0 < gs.size := by omega
  exact pass_build (a := a0) (g := g) (ca := (core a0).frame.fn) (cg := (core g).frame.fn) (pa := (core a0).frame.place) (pg := (core g).frame.place) G L hgr I (.inr rfl) hi (.inl hTi) (fun k hk _ => .inl (I.nopark (.inr ⟨m, rfl⟩) k hk)) hM hS (.inl rfl) (by rw [Array.getElem?_setIfInBounds_ne (by omega), Array.getElem?_setIfInBounds_self_of_lt hsz0]) (by rw [Array.getElem?_setIfInBounds_self_of_lt (by simpa using hlt1)])
    (fun l h0 h1 => by rw [Array.getElem?_setIfInBounds_ne (Ne.symm h1), Array.getElem?_setIfInBounds_ne (Ne.symm h0)]) (by simp) hat' (by simp [ofEvents_eq, PD.sent])
end
end Go.Sim
end
