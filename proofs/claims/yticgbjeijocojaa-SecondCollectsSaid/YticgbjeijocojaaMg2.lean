/-
  One goroutine in company: it alone makes and writes the blocks K; the blocks R are there for all to read; ahead of each of its steps the others may have turned everything else. An inductive judgement (no count of steps), and the rules of the walk over it.
  In company, the basis of the walk: heap facts H, owned resources M, slot facts L; the state assertion and how it moves.
  In company, the calculus: one rule for each operation, on symbolic states (slot facts L, owned resources M, heap facts H).
  One rule for each operation.
-/
import Derived.Test.YticgbjeijocojaaMg1
import Derived.Conc.CompanyDraw
import Derived.WalkKit
import Derived.WalkSpells
import Derived.WalkLawsBesides
import Derived.Conc.WrSpec
set_option linter.unusedVariables false
set_option linter.unusedSimpArgs false
section
set_option linter.unusedVariables false
set_option linter.unusedSimpArgs false
namespace Go.Sim
open Go Go.Conc Go.RowKit

/-- Where a contract begins: whose blocks are whose, and the world at that time. -/
structure Bs (P : Program) where
  main : Bool
  K : Nat → Prop
  R : Nat → Prop
  w : World
  /-- What a call that goes may bring about: from this record, in this world, one of these. -/
  J : Goroutine → World → (Goroutine → World → Prop) → Prop
  /-- What the others keep, besides. -/
  I : World → Prop
  /-- Of whose cells I may say 'take it that I read | write here'. -/
  Q : Nat → Prop := fun _ => False

section
variable {P : Program} (c : Bs P)
/-- What the others may do. -/
structure Oth (w w1 : World) : Prop where
  tape : w1.tape = w.tape
  os : w1.os = w.os
  output : w1.output = w.output
  size : w.heap.size ≤ w1.heap.size
  block : ∀ b, c.K b ∨ c.R b → w1.heap[b]? = w.heap[b]?
  inv : c.I w → c.I w1
/-- What is new is mine. -/
def News (w w1 : World) : Prop := ∀ b, w.heap.size ≤ b → b < w1.heap.size → c.K b
/-- A word on a cell. -/
def Bs.said (n : Nat) (m : Mark) : Prop := ∃ a, c.Q a.block ∧ a.block < n ∧ (m = .read a ∨ m = .write a)
/-- The mark of a call outside Go's own text: the last kind of mark. -/
def outB : Loc → Bool
  | .mark (.acquire _) => false
  | .mark (.release _) => false
  | .mark (.releaseMerge _) => false
  | .mark .disable => false
  | .mark .enable => false
  | .mark (.read _) => false
  | .mark (.write _) => false
  | .mark .noRoom => false
  | .mark _ => true
  | _ => false
/-- An access that I may make. -/
def Ev1 (n : Nat) (e : Event) : Prop :=
  (∃ a wr, e = ⟨.cell a, wr, false⟩ ∧ a.block < n ∧ (c.K a.block ∨ (c.R a.block ∧ wr = false))) ∨ (∃ m, e = ⟨.mark m, false, true⟩ ∧ (Neutral m ∨ c.said n m)) ∨ outB e.loc = true
/-- What a step of mine does. -/
structure Did (w w1 : World) (es : Array Event) : Prop where
  tape : w1.tape = w.tape
  os : w1.os = w.os
  output : w1.output = w.output
  size : w.heap.size ≤ w1.heap.size
  block : ∀ b, b < w.heap.size → ¬ c.K b → w1.heap[b]? = w.heap[b]?
  evs : ∀ e ∈ es, Ev1 c w1.heap.size e

/-- .. and what of it the trace keeps. -/
structure DidX (w w1 : World) (es : Array Event) : Prop extends Did c w w1 es where
  noext : ∀ e ∈ es, outB e.loc = false
end

section
variable {P : Program} {c : Bs P}
theorem Oth.refl (w : World) : Oth c w w := ⟨rfl, rfl, rfl, Nat.le_refl _, fun _ _ => rfl, id⟩
theorem Oth.trans {a b d : World} (h : Oth c a b) (k : Oth c b d) : Oth c a d :=
  ⟨k.tape.trans h.tape, k.os.trans h.os, k.output.trans h.output, Nat.le_trans h.size k.size, fun x hx => (k.block x hx).trans (h.block x hx), fun i => k.inv (h.inv i)⟩
theorem Did.idle (w : World) : Did c w w #[] := ⟨rfl, rfl, rfl, Nat.le_refl _, fun _ _ _ => rfl, by simp⟩
theorem DidX.idle (w : World) : DidX c w w #[] := ⟨Did.idle w, by simp⟩
theorem Did.draw (w : World) : Did c w { w with drawn := w.drawn + 1 } #[] := ⟨rfl, rfl, rfl, Nat.le_refl _, fun _ _ _ => rfl, by simp⟩
theorem DidX.draw (w : World) : DidX c w { w with drawn := w.drawn + 1 } #[] := ⟨Did.draw w, by simp⟩
theorem seen_noext (quiet : FuncId → Bool) : ∀ (l : List Event) (q : Bool) (kept : Array Event), (∀ e ∈ kept, outB e.loc = false) → ∀ e ∈ (l.foldl (seenStep quiet) (q, kept)).2, outB e.loc = false
  | [], _, _, h => h
  | a :: l, q, kept, h => by
    simp only [List.foldl_cons, seenStep]
    split
    · exact seen_noext quiet l _ kept h
    · rename_i hne
      refine seen_noext quiet l _ _ ?_
      split
      · exact h
      · intro e he
        rcases Array.mem_push.1 he with he | rfl
        · exact h e he
        · cases hl : e.loc with
          | mark m => cases m <;> first | rfl | exact (hne _ hl).elim
          | _ => rfl
theorem News.same (w : World) : News c w w := fun b h1 h2 => absurd h2 (by omega)
theorem News.of_size {w w' : World} (h : w'.heap.size = w.heap.size) : News c w w' := fun b h1 h2 => absurd h2 (by omega)

/-- g is on its way to a stop. -/
inductive Walks (c : Bs P) (Stop : Goroutine → World → Prop) : Goroutine → World → Prop
  | stop {g : Goroutine} {w : World} (h : ∀ w1, Oth c w w1 → Stop g w1) : Walks c Stop g w
  | step {g : Goroutine} {w : World} (ng : World → Goroutine) (nw : World → World) (ne : World → Array Event) (hs : g.status = .running) (hf : ∀ w1, Oth c w w1 → WgRec g = false ∨ (nw w1).heap.size = w1.heap.size)
      (h : ∀ w1, Oth c w w1 → stepG P c.main g w1 = .go (ng w1) (nw w1) (ne w1))
      (d : ∀ w1, Oth c w w1 → News c w1 (nw w1) → DidX c w1 (nw w1) (ne w1))
      (k : ∀ w1, Oth c w w1 → News c w1 (nw w1) → Walks c Stop (ng w1) (nw w1)) : Walks c Stop g w
  | jump {g : Goroutine} {w : World} (S : Goroutine → World → Prop) (hJ : ∀ w1, Oth c w w1 → c.J g w1 S) (k : ∀ g' w', S g' w' → Walks c Stop g' w') : Walks c Stop g w

def gOf : GStep → Goroutine | .go g _ _ => g | _ => default
def wOf : GStep → World | .go _ w _ => w | _ => default
def eOf : GStep → Array Event | .go _ _ e => e | _ => #[]

theorem Walks.step' {Stop : Goroutine → World → Prop} {g : Goroutine} {w : World} (hs : g.status = .running) (hf : WgRec g = false)
    (h : ∀ w1, Oth c w w1 → (stepG P c.main g w1).goes fun g' w' es => News c w1 w' → DidX c w1 w' es ∧ Walks c Stop g' w') : Walks c Stop g w := by
  have key : ∀ w1, Oth c w w1 → stepG P c.main g w1 = .go (gOf (stepG P c.main g w1)) (wOf (stepG P c.main g w1)) (eOf (stepG P c.main g w1)) ∧
      (News c w1 (wOf (stepG P c.main g w1)) → DidX c w1 (wOf (stepG P c.main g w1)) (eOf (stepG P c.main g w1)) ∧ Walks c Stop (gOf (stepG P c.main g w1)) (wOf (stepG P c.main g w1))) := by
    intro w1 h1
    have := h w1 h1
    revert this
    cases stepG P c.main g w1 <;> simp only [GStep.goes, gOf, wOf, eOf] <;> intro x
    · exact ⟨trivial, x⟩
    all_goals exact x.elim
  exact .step _ _ _ hs (fun _ _ => .inl hf) (fun w1 h1 => (key w1 h1).1) (fun w1 h1 n => ((key w1 h1).2 n).1) (fun w1 h1 n => ((key w1 h1).2 n).2)

/-- A step that leaves the world alone and lists nothing. -/
theorem Walks.still {Stop : Goroutine → World → Prop} {g : Goroutine} {w : World} (hs : g.status = .running)
    (h : ∀ w1, Oth c w w1 → ∃ g', stepG P c.main g w1 = .go g' w1 #[] ∧ Walks c Stop g' w1) : Walks c Stop g w := by
  have key : ∀ w1, Oth c w w1 → stepG P c.main g w1 = .go (gOf (stepG P c.main g w1)) w1 #[] ∧ Walks c Stop (gOf (stepG P c.main g w1)) w1 := by
    intro w1 h1
    obtain ⟨g', e, k⟩ := h w1 h1
    rw [e]; exact ⟨rfl, k⟩
  exact .step _ id (fun _ => #[]) hs (fun _ _ => .inr rfl) (fun w1 h1 => (key w1 h1).1) (fun w1 h1 _ => DidX.idle _) (fun w1 h1 _ => (key w1 h1).2)

/-- A step of control: it looks at no world. -/
theorem Walks.move {Stop : Goroutine → World → Prop} {g g' : Goroutine} {w : World} (hs : g.status = .running)
    (h : ∀ w1, stepG P c.main g w1 = .go g' w1 #[]) (k : ∀ w1, Oth c w w1 → Walks c Stop g' w1) : Walks c Stop g w :=
  .still hs fun w1 h1 => ⟨g', h w1, k w1 h1⟩

theorem Walks.rely {Stop : Goroutine → World → Prop} {g : Goroutine} {w w1 : World} (h : Walks c Stop g w) (o : Oth c w w1) : Walks c Stop g w1 := by
  cases h with
  | stop h => exact .stop fun w2 h2 => h w2 (o.trans h2)
  | jump S hJ k => exact .jump S (fun w2 h2 => hJ w2 (o.trans h2)) k
  | step ng nw ne hs hf h d k => exact .step ng nw ne hs (fun w2 h2 => hf w2 (o.trans h2)) (fun w2 h2 => h w2 (o.trans h2)) (fun w2 h2 => d w2 (o.trans h2)) (fun w2 h2 => k w2 (o.trans h2))

theorem Walks.mono {Stop Stop' : Goroutine → World → Prop} {g : Goroutine} {w : World} (h : Walks c Stop g w) (m : ∀ g w, Stop g w → Stop' g w) : Walks c Stop' g w := by
  induction h with
  | stop h => exact .stop fun w1 h1 => m _ _ (h w1 h1)
  | jump S hJ k ih => exact .jump S hJ ih
  | step ng nw ne hs hf h d k ih => exact .step ng nw ne hs hf h d ih

/-- .. and on from there. -/
theorem Walks.trans {Stop Stop' : Goroutine → World → Prop} {g : Goroutine} {w : World} (h : Walks c Stop g w) (m : ∀ g w, Stop g w → Walks c Stop' g w) : Walks c Stop' g w := by
  induction h with
  | stop h => exact m _ _ (h _ (Oth.refl _))
  | jump S hJ k ih => exact .jump S hJ ih
  | step ng nw ne hs hf h d k ih => exact .step ng nw ne hs hf h d ih

/-- The library's walks, where they leave the world alone. -/
theorem walks_of_goes {Stop : Goroutine → World → Prop} {R : World → World → Prop} (hR : ∀ w w1, Oth c w w1 → R w w1) :
    ∀ {n : Nat} {g : Goroutine} {w : World}, Goes P c.main R Go.ConcR.DC0 Stop n g w → Walks c Stop g w
  | 0, g, w, h => .stop fun w1 h1 => h w1 (hR _ _ h1)
  | n + 1, g, w, h => by
    rcases h with h | ⟨hs, h⟩
    · exact .stop fun w1 h1 => h w1 (hR _ _ h1)
    · refine .still hs fun w1 h1 => ?_
      have := h w1 (hR _ _ h1)
      revert this
      cases stepG P c.main g w1 <;> simp only [GStep.goes] <;> intro x
      · obtain ⟨⟨rfl, rfl⟩, k⟩ := x
        exact ⟨_, rfl, walks_of_goes hR k⟩
      all_goals exact x.elim

/-! ### pieces of code -/
def AfterK (c : Bs P) (Stop : Goroutine → World → Prop) (b : Frame) (k : List Item) (cs : List Frame) : Exit → Act → World → Prop
  | .normal, a, w => Walks c Stop (G (b.at a k) cs) w
  | .exit id, a, w => ∃ k', exitTo id k = some k' ∧ Walks c Stop (G (b.at a k') cs) w
  | .ret, a, w => ∀ todo, Walks c Stop (G { b.at a todo with mode := .returning } cs) w
  | _, _, _ => False

theorem AfterK.push {Stop : Goroutine → World → Prop} {b : Frame} {x : Item} {k : List Item} {cs : List Frame} {e : Exit} {a : Act} {w : World} (hx : x.plain = true) (he : e ≠ .normal)
    (h : AfterK c Stop b k cs e a w) : AfterK c Stop b (x :: k) cs e a w := by
  cases e with
  | normal => exact absurd rfl he
  | exit id => obtain ⟨k', hk, hg⟩ := h; exact ⟨k', by cases x <;> simp_all [exitTo, Item.plain], hg⟩
  | ret => exact h
  | goto l => exact h
  | panic ch => exact h
  | outgrown => exact h

/-- The piece of code is left in a way and a state that satisfy Q, in company. -/
def wpK (c : Bs P) (d : Code) (Q : Exit → Act → World → Prop) (a : Act) (w : World) : Prop :=
  ∀ (b : Frame) (k : List Item) (cs : List Frame) (Stop : Goroutine → World → Prop), b.kind ≠ .early →
    (∀ e a' w', Q e a' w' → AfterK c Stop b k cs e a' w') → Walks c Stop (G (b.at a (.code d :: k)) cs) w

/-- A contract in company. -/
def CallsK (c : Bs P) (f : FuncId) (args : Array Value) (w : World) (Post : Value → World → Prop) : Prop :=
  ∀ (cf : Frame) (cs : List Frame) (Stop : Goroutine → World → Prop), (∀ v w', Post v w' → Walks c Stop (G (cf.finish v) cs) w') →
    Walks c Stop (G (Frame.enter P f args .normal) (cf :: cs)) w

section rules
variable {Q : Exit → Act → World → Prop} {a : Act} {w : World}

theorem wpK_mono {d : Code} {Q' : Exit → Act → World → Prop} (h : wpK c d Q a w) (hq : ∀ e a w, Q e a w → Q' e a w) : wpK c d Q' a w :=
  fun b k cs Stop hk hc => h b k cs Stop hk fun e a' w' q => hc e a' w' (hq e a' w' q)

theorem wpK_rely {d : Code} {w1 : World} (h : wpK c d Q a w) (o : Oth c w w1) : wpK c d Q a w1 :=
  fun b k cs Stop hk hc => (h b k cs Stop hk hc).rely o

theorem wpK_skip (h : Q .normal a w) : wpK c .skip Q a w := fun b k cs Stop hk hc =>
  Walks.move rfl (fun w1 => stepG_skip) fun w1 h1 => (hc _ _ _ h : Walks _ _ _ _).rely h1

theorem wpK_exit {id : Nat} (h : Q (.exit id) a w) : wpK c (.exit id) Q a w := fun b k cs Stop hk hc => by
  obtain ⟨k', hk', hg⟩ := hc _ _ _ h
  exact Walks.move rfl (fun w1 => stepG_exit hk') fun w1 h1 => hg.rely h1

theorem wpK_ret (h : Q .ret a w) : wpK c .ret Q a w := fun b k cs Stop hk hc =>
  Walks.move rfl (fun w1 => stepG_ret') fun w1 h1 => (hc _ _ _ h _).rely h1

theorem wpK_seq {x y : Code} (h : wpK c x (Exit.then (wpK c y Q) Q) a w) : wpK c (.seq x y) Q a w := by
  intro b k cs Stop hk hc
  refine Walks.move rfl (fun w1 => stepG_seq) fun w1 h1 => Walks.rely ?_ h1
  refine h b (.code y :: k) cs Stop hk fun e a' w' q => ?_
  cases e with
  | normal => exact q b k cs Stop hk hc
  | exit id => exact (hc _ _ _ q).push rfl (by simp)
  | ret => exact (hc _ _ _ q).push (x := .code y) rfl (by simp)
  | goto l => exact hc _ _ _ q
  | panic ch => exact hc _ _ _ q
  | outgrown => exact hc _ _ _ q

theorem wpK_cond_split {o : Operand} {x y : Code} {t : Bool} (ho : a.eval o = .bool t) (ht : t = true → wpK c x Q a w) (hf : t = false → wpK c y Q a w) :
    wpK c (.cond o x y) Q a w := by
  have h : wpK c (if t then x else y) Q a w := by
    cases t
    · exact hf rfl
    · exact ht rfl
  exact fun b k cs Stop hk hc => Walks.move rfl (fun w1 => stepG_cond ho) fun w1 h1 => (h b k cs Stop hk hc).rely h1

theorem wpK_block {id : Nat} {d : Code} (h : wpK c d (Exit.inBlock id Q) a w) : wpK c (.block id d) Q a w := by
  intro b k cs Stop hk hc
  refine Walks.move rfl (fun w1 => stepG_block) fun w1 h1 => Walks.rely ?_ h1
  refine h b (.inBlock id :: k) cs Stop hk fun e a' w' q => ?_
  cases e with
  | normal => exact Walks.move rfl (fun w1 => stepG_inBlock) fun w1 h1 => (hc _ _ _ q : Walks _ _ _ _).rely h1
  | exit id' =>
    by_cases hid : id' = id
    · simp only [Exit.inBlock, hid, if_true] at q
      exact ⟨k, by simp [exitTo, hid], hc _ _ _ q⟩
    · simp only [Exit.inBlock, hid, if_false] at q
      obtain ⟨k', hk', hg⟩ := hc _ _ _ q
      have : (id == id') = false := by simp; exact fun h => hid h.symm
      exact ⟨k', by simp [exitTo, this, hk'], hg⟩
  | ret => exact fun todo => hc _ _ _ q todo
  | goto l => exact hc _ _ _ q
  | panic ch => exact hc _ _ _ q
  | outgrown => exact hc _ _ _ q

/-- A loop, by a measure over the states. -/
theorem wpK_loopN {d : Code} (J : Nat → Act → World → Prop) {n : Nat} (h0 : J n a w)
    (round : ∀ n a w, J n a w → wpK c d (Exit.then (fun a' w' => ∃ m, m < n ∧ J m a' w') Q) a w) : wpK c (.loop d) Q a w := by
  intro b k cs Stop hk hc
  have key : ∀ n a w, J n a w → Walks c Stop (G (b.at a (.code d :: .inLoop d :: k)) cs) w := by
    intro n
    induction n using Nat.strongRecOn with
    | _ n ih =>
      intro a w hJ
      refine round n a w hJ b (.inLoop d :: k) cs Stop hk fun e a' w' q => ?_
      cases e with
      | normal =>
        obtain ⟨m, hm, hJ'⟩ := q
        exact Walks.move rfl (fun w1 => stepG_inLoop) fun w1 h1 => (ih m hm a' w' hJ').rely h1
      | exit id => exact (hc _ _ _ q).push rfl (by simp)
      | ret => exact (hc _ _ _ q).push (x := .inLoop d) rfl (by simp)
      | goto l => exact hc _ _ _ q
      | panic ch => exact hc _ _ _ q
      | outgrown => exact hc _ _ _ q
  exact Walks.move rfl (fun w1 => stepG_loop) fun w1 h1 => (key n a w h0).rely h1

/-- A loop unrolled: at most n rounds. -/
def roundsK (c : Bs P) (d : Code) (Q : Exit → Act → World → Prop) : Nat → Act → World → Prop
  | 0, _, _ => False
  | n + 1, a, w => wpK c d (Exit.then (roundsK c d Q n) Q) a w

theorem wpK_loop_rounds {d : Code} (n : Nat) (h : roundsK c d Q n a w) : wpK c (.loop d) Q a w := by
  refine wpK_loopN (fun n a w => roundsK c d Q n a w) h fun n a w h => ?_
  cases n with
  | zero => exact h.elim
  | succ n =>
    refine wpK_mono h fun e a' w' q => ?_
    cases e with
    | normal => exact ⟨n, Nat.lt_succ_self n, q⟩
    | exit id => exact q
    | ret => exact q
    | goto l => exact q
    | panic ch => exact q
    | outgrown => exact q

/-! ### operations -/
/-- What is asked of an operation's outcome, in the world w1 in which it is carried out. -/
def uponL (c : Bs P) (o : Oper) (a : Act) (w1 : World) (es : Array Event) (K : Act → World → Prop) : Result Next → Prop
  | .ok (.value v) w' => News c w1 w' → Did c w1 w' es ∧ K (a.put o.dst v) w'
  | .ok .skip w' => News c w1 w' → Did c w1 w' es ∧ K (a.put o.dst undef) w'
  | .ok (.enter f args) w' => es = #[] ∧ w' = w1 ∧ CallsK c f args w' fun v w'' => K (a.put o.dst v) w''
  | _ => False

/-- One operation in company. -/
def OpK (c : Bs P) (o : Oper) (a : Act) (w : World) (K : Act → World → Prop) : Prop :=
  ∀ w1, Oth c w w1 → uponL c o a w1 ((execOp a.eval o).events P w1 #[]) K ((execOp a.eval o).run P w1)

theorem CallsK.mono {f : FuncId} {args : Array Value} {Post Post' : Value → World → Prop} (h : CallsK c f args w Post) (m : ∀ v w', Post v w' → Post' v w') : CallsK c f args w Post' :=
  fun cf cs Stop hc => h cf cs Stop fun v w' p => hc v w' (m v w' p)

theorem uponL_mono {o : Oper} {a : Act} {w1 : World} {es : Array Event} {K K' : Act → World → Prop} (h : ∀ a w, K a w → K' a w) {r : Result Next} (hh : uponL c o a w1 es K r) : uponL c o a w1 es K' r := by
  cases r with
  | ok n w' =>
    cases n <;> first
      | exact fun n => ⟨(hh n).1, h _ _ (hh n).2⟩
      | exact ⟨hh.1, hh.2.1, hh.2.2.mono fun v w'' p => h _ _ p⟩
      | exact hh
  | halt x w' => exact hh

theorem OpK_mono {o : Oper} {K K' : Act → World → Prop} (h : ∀ a w, K a w → K' a w) (hh : OpK c o a w K) : OpK c o a w K' := fun w1 h1 => uponL_mono h (hh w1 h1)
theorem OpK_rely {o : Oper} {K : Act → World → Prop} {w1 : World} (hh : OpK c o a w K) (r : Oth c w w1) : OpK c o a w1 K := fun w2 h2 => hh w2 (r.trans h2)

/-- Operations that are still to come, in this order. -/
def opsK (c : Bs P) (ops : Array Oper) (Q : Exit → Act → World → Prop) : List Nat → Act → World → Prop
  | [], a, w => Q .normal a w
  | i :: rest, a, w =>
    match ops[i]? with
    | none => False
    | some o => isWg o = false ∧ if Region.wanted o (yielded ops a.tmps) then OpK c o a w (opsK c ops Q rest) else opsK c ops Q rest (a.put o.dst undef) w

theorem wgRec_op {b : Frame} {a : Act} {k : List Item} {cs : List Frame} {ops : Array Oper} {i : Nat} {rest : List Nat} {o : Oper} (ho : ops[i]? = some o) (hg : isWg o = false) :
    WgRec (G (b.at a (.inRegion ops (i :: rest) :: k)) cs) = false := by
  simp [WgRec, G, Frame.at, ho, hg]

theorem Walks.oper {Stop : Goroutine → World → Prop} {b : Frame} {k : List Item} {cs : List Frame} {ops : Array Oper} {i : Nat} {rest : List Nat} {o : Oper} {K : Act → World → Prop}
    (ho : ops[i]? = some o) (hw : Region.wanted o (yielded ops a.tmps) = true) (hk : b.kind ≠ .early) (hg : isWg o = false) (h : OpK c o a w K)
    (hn : ∀ a' w', K a' w' → Walks c Stop (G (b.at a' (.inRegion ops rest :: k)) cs) w') : Walks c Stop (G (b.at a (.inRegion ops (i :: rest) :: k)) cs) w := by
  refine Walks.step' rfl (wgRec_op ho hg) fun w1 h1 => ?_
  have hh := h w1 h1
  generalize hr : (execOp a.eval o).run P w1 = r at hh
  have hev : ∀ {w'' : World}, Did c w1 w'' ((execOp a.eval o).events P w1 #[]) → DidX c w1 w'' (listed P b.fn a o w1) := fun d => ⟨⟨d.tape, d.os, d.output, d.size, d.block, fun e he => d.evs e (mem_listed he)⟩, fun e he => by
    unfold listed at he
    rw [seen_def] at he
    exact seen_noext _ _ _ _ (by simp) e he⟩
  match r, hh with
  | .ok (.value v) w', hh => rw [stepG_value ho hw hk hr]; exact fun n => ⟨hev (hh n).1, hn _ _ (hh n).2⟩
  | .ok .skip w', hh => rw [stepG_none ho hw hk hr]; exact fun n => ⟨hev (hh n).1, hn _ _ (hh n).2⟩
  | .ok (.enter f args) w', hh =>
    rw [stepG_enter ho hw hk hr]
    obtain ⟨he, rfl, hc⟩ := hh
    refine fun n => ⟨?_, ?_⟩
    · have : listed P b.fn a o w' = #[] := by unfold listed; rw [he]; exact seen_none P _
      rw [this]; exact DidX.idle _
    · refine hc _ cs Stop fun v w'' p => ?_
      have hfin : (b.at a (.inRegion ops (i :: rest) :: k)).finish v = b.at (a.put o.dst v) (.inRegion ops rest :: k) := by rw [Frame.finish_at, ho]; rfl
      rw [hfin]; exact hn _ _ p

theorem walks_ops {ops : Array Oper} : ∀ (todo : List Nat) (a : Act) (w : World), opsK c ops Q todo a w → ∀ (b : Frame) (k : List Item) (cs : List Frame) (Stop : Goroutine → World → Prop), b.kind ≠ .early →
    (∀ e a' w', Q e a' w' → AfterK c Stop b k cs e a' w') → Walks c Stop (G (b.at a (.inRegion ops todo :: k)) cs) w
  | [], a, w, h, b, k, cs, Stop, hk, hc => Walks.move rfl (fun w1 => stepG_region_end) fun w1 h1 => (hc _ _ _ h : Walks _ _ _ _).rely h1
  | i :: rest, a, w, h, b, k, cs, Stop, hk, hc => by
    unfold opsK at h
    split at h
    · exact h.elim
    · rename_i o ho
      obtain ⟨hg, h⟩ := h
      split at h
      · rename_i hw
        exact Walks.oper ho hw hk hg h fun a' w' hh => walks_ops rest a' w' hh b k cs Stop hk hc
      · rename_i hw
        exact Walks.move rfl (fun w1 => stepG_unwanted ho (by simpa using hw)) fun w1 h1 => (walks_ops rest _ _ h b k cs Stop hk hc).rely h1

theorem wpK_region {id : Nat} {ops : Array Oper} (h : opsK c ops Q (List.range ops.size) a w) : wpK c (.region id ops false) Q a w :=
  fun b k cs Stop hk hc => Walks.move rfl (fun w1 => stepG_region) fun w1 h1 => (walks_ops _ a w h b k cs Stop hk hc).rely h1

theorem wpK_region_draw {id : Nat} {ops : Array Oper} (h : ∀ w1, Oth c w w1 → ∀ t, opsK c ops Q (Region.schedule (P.follows .mixedOrders) ops t) a { w1 with drawn := w1.drawn + 1 }) : wpK c (.region id ops true) Q a w :=
  fun b k cs Stop hk hc => Walks.step' rfl rfl fun w1 h1 => by
    rw [stepG_region_draw]
    exact fun _ => ⟨DidX.draw _, walks_ops _ a _ (h w1 h1 _) b k cs Stop hk hc⟩

/-- The same over a list of operations: the lone walk's 'wpList'. -/
def listK (c : Bs P) (ops : Array Oper) (Q : Exit → Act → World → Prop) : List Oper → Act → World → Prop
  | [], a, w => Q .normal a w
  | o :: rest, a, w => isWg o = false ∧ if Region.wanted o (yielded ops a.tmps) then OpK c o a w (listK c ops Q rest) else listK c ops Q rest (a.put o.dst undef) w

theorem opsK_of_list {l : List Oper} : ∀ (n : Nat) (a : Act) (w : World), listK c l.toArray Q (l.drop n) a w → opsK c l.toArray Q (List.range' n (l.length - n)) a w := by
  have key : ∀ (m n : Nat), l.length - n = m → ∀ (a : Act) (w : World), listK c l.toArray Q (l.drop n) a w → opsK c l.toArray Q (List.range' n m) a w := by
    intro m
    induction m with
    | zero =>
      intro n hn a w h
      have : l.drop n = [] := List.drop_eq_nil_of_le (by omega)
      rw [this] at h
      exact h
    | succ m ih =>
      intro n hn a w h
      have hlt : n < l.length := by omega
      rw [List.drop_eq_getElem_cons hlt] at h
      have ho : l.toArray[n]? = some l[n] := by simp [hlt]
      simp only [List.range'_succ]
      unfold opsK
      simp only [ho]
      unfold listK at h
      obtain ⟨hg, h⟩ := h
      refine ⟨hg, ?_⟩
      split at h
      · rename_i hw
        rw [if_pos hw]
        exact OpK_mono (fun a' w' hh => ih (n + 1) (by omega) a' w' hh) h
      · rename_i hw
        rw [if_neg hw]
        exact ih (n + 1) (by omega) _ _ h
  exact fun n a w h => key _ n rfl a w h

theorem wpK_region_lit {id : Nat} {l : List Oper} (h : listK c l.toArray Q l a w) : wpK c (.region id l.toArray false) Q a w := by
  refine wpK_region ?_
  have := opsK_of_list (c := c) (Q := Q) (l := l) 0 a w (by simpa using h)
  simpa [List.range_eq_range'] using this

/-! ### a region whose order is drawn -/
def anyOp (c : Bs P) (ops : Array Oper) (i : Nat) (K : Act → World → Prop) (a : Act) (w : World) : Prop :=
  match ops[i]? with
  | none => False
  | some o => isWg o = false ∧ if Region.wanted o (yielded ops a.tmps) then OpK c o a w K else K (a.put o.dst undef) w

def anyK (c : Bs P) (md : Region.Mode) (ops : Array Oper) (Q : Exit → Act → World → Prop) : Nat → Array Bool → Act → World → Prop
  | 0, listed, a, w => Region.ready md ops listed = [] ∧ Q .normal a w
  | fuel + 1, listed, a, w =>
    (Region.ready md ops listed = [] → Q .normal a w) ∧
    ∀ i ∈ Region.ready md ops listed, anyOp c ops i (anyK c md ops Q fuel (listed.setIfInBounds i true)) a w

theorem opsK_cons {ops : Array Oper} (i : Nat) (rest : List Nat) (a : Act) (w : World) : opsK c ops Q (i :: rest) a w = anyOp c ops i (opsK c ops Q rest) a w := by
  cases h : ops[i]? <;> simp [opsK, anyOp, h]

theorem anyOp_mono {ops : Array Oper} {i : Nat} {K K' : Act → World → Prop} (h : ∀ a w, K a w → K' a w) (hh : anyOp c ops i K a w) : anyOp c ops i K' a w := by
  unfold anyOp at *
  split
  · simp_all
  · rename_i o ho
    simp only [ho] at hh
    obtain ⟨hg, hh⟩ := hh
    refine ⟨hg, ?_⟩
    split
    · rename_i hw; simp only [hw, if_true] at hh; exact OpK_mono h hh
    · rename_i hw; simp only [hw] at hh; exact h _ _ hh

theorem anyK_sound {md : Region.Mode} {ops : Array Oper} : ∀ (fuel t : Nat) (listed : Array Bool) (a : Act) (w : World), anyK c md ops Q fuel listed a w →
    opsK c ops Q (Region.linearise.go md ops fuel t listed []) a w := by
  intro fuel
  induction fuel with
  | zero => intro t listed a w h; simpa [Region.linearise.go, opsK] using h.2
  | succ fuel ih =>
    intro t listed a w h
    obtain ⟨h₀, h₁⟩ := h
    simp only [Region.linearise.go]
    change opsK c ops Q (match (Region.ready md ops listed)[t % (Region.ready md ops listed).length]? with
      | some i => Region.linearise.go md ops fuel (t / (Region.ready md ops listed).length) (listed.setIfInBounds i true) [i]
      | none => [].reverse) a w
    cases hi : (Region.ready md ops listed)[t % (Region.ready md ops listed).length]? with
    | none =>
      have hnil : Region.ready md ops listed = [] := by
        cases hr : Region.ready md ops listed with
        | nil => rfl
        | cons x xs =>
          rw [hr] at hi
          have hlt : t % (x :: xs).length < (x :: xs).length := Nat.mod_lt _ (by simp)
          simp at hi
          simp at hlt
          omega
      simpa [opsK] using h₀ hnil
    | some i =>
      simp only []
      rw [linearise_go_acc, List.reverse_singleton, List.singleton_append, opsK_cons]
      exact anyOp_mono (fun a w => ih _ _ a w) (h₁ i (List.mem_of_getElem? hi))

theorem wpK_region_any {id : Nat} {ops : Array Oper} (hm : P.follows .mixedOrders = true)
    (h : ∀ w1, Oth c w w1 → anyK c .any ops Q ops.size (Array.replicate ops.size false) a { w1 with drawn := w1.drawn + 1 }) : wpK c (.region id ops true) Q a w :=
  wpK_region_draw fun w1 h1 t => by
    simp only [Region.schedule, hm, Bool.true_or, if_true]
    exact anyK_sound ops.size t _ a _ (h w1 h1)
end rules
end
end Go.Sim
end

section
namespace Go.Sim
open Go Go.RowKit

abbrev Hp := Nat → Option Obj
def Hp.le (H H' : Hp) : Prop := ∀ b o, H b = some o → H' b = some o
theorem Hp.le_refl (H : Hp) : H.le H := fun _ _ h => h
theorem Hp.le_trans {A B C : Hp} (h : A.le B) (k : B.le C) : A.le C := fun b o x => k b o (h b o x)
def Hp.add (H : Hp) (b : Nat) (o : Obj) : Hp := fun c => if c = b then some o else H c
theorem Hp.le_add {H : Hp} {b : Nat} {o : Obj} (h : H b = none) : H.le (H.add b o) := by
  intro c x hx
  unfold Hp.add
  split
  · rename_i e; subst e; rw [h] at hx; cases hx
  · exact hx
theorem Hp.add_self (H : Hp) (b : Nat) (o : Obj) : H.add b o b = some o := by simp [Hp.add]
/-- The heap of a world as facts. -/
def snap (w : World) : Hp := fun b => w.heap[b]?

/-- A slice that is nil, or lies in a block of its own (from some place on). -/
def OwnsR (w : World) (T : TypeId) (sz : Nat) (v : Value) (n : Nat) (xs : List Value) : Prop :=
  xs.length = n * sz ∧
  ((v = .slice none 0 0 ∧ n = 0) ∨
   ∃ g off cap cur, v = .slice (some ⟨g, off, none⟩) n cap ∧ w.heap[g]? = some (.cells cur T (0, 0)) ∧ n ≤ cap ∧ cap ≤ maxLen ∧ off + cap * sz ≤ cur.size ∧ (cur.toList.drop off).take (n * sz) = xs)

theorem OwnsR.lt {w : World} {T : TypeId} {sz : Nat} {v : Value} {n : Nat} {xs : List Value} (h : OwnsR w T sz v n xs) {k : Nat} (hk : v.ownBlock = some k) : k < w.heap.size := by
  rcases h.2 with ⟨rfl, _⟩ | ⟨g, off, cap, cur, rfl, hg, _⟩
  · simp [Value.ownBlock] at hk
  · simp only [Value.ownBlock, Option.some.injEq] at hk
    subst hk
    exact (Array.getElem?_eq_some_iff.1 hg).1

theorem OwnsR.kept {w w' : World} {T : TypeId} {sz : Nat} {v : Value} {n : Nat} {xs : List Value} {row : Option Nat} (h : OwnsR w T sz v n xs) (hg : w.grownBy w' row)
    (hne : ∀ b, v.ownBlock = some b → row ≠ some b) : OwnsR w' T sz v n xs := by
  refine ⟨h.1, ?_⟩
  rcases h.2 with hn | ⟨g, off, cap, cur, rfl, hgg, rest⟩
  · exact .inl hn
  · refine .inr ⟨g, off, cap, cur, rfl, ?_, rest⟩
    rw [hg.block g (Array.getElem?_eq_some_iff.1 hgg).1 (fun e => hne g rfl e.symm)]
    exact hgg

theorem OwnsR.nil (w : World) (T : TypeId) (sz : Nat) : OwnsR w T sz (.slice none 0 0) 0 [] := ⟨by simp, .inl ⟨rfl, rfl⟩⟩

theorem OwnsR.same {w w' : World} {T : TypeId} {sz : Nat} {v : Value} {n : Nat} {xs : List Value} (h : OwnsR w T sz v n xs)
    (hne : ∀ b, v.ownBlock = some b → w'.heap[b]? = w.heap[b]?) : OwnsR w' T sz v n xs := by
  refine ⟨h.1, ?_⟩
  rcases h.2 with hn | ⟨g, off, cap, cur, rfl, hgg, rest⟩
  · exact .inl hn
  · exact .inr ⟨g, off, cap, cur, rfl, by rw [hne g rfl]; exact hgg, rest⟩
/-- What holds of a world stays as long as the blocks fs stay. -/
def Stab (fs : List Nat) (P : World → Prop) : Prop := ∀ w w', P w → w.heap.size ≤ w'.heap.size → (∀ b ∈ fs, w'.heap[b]? = w.heap[b]?) → P w'

/-- A block, a slice's row, or several that go as one. -/
inductive Res where
  | obj (b : Nat) (o : Obj)
  | row (v : Value) (T : TypeId) (sz n : Nat) (xs : List Value)
  | pack (fs : List Nat) (P : World → Prop)

def Res.foot : Res → Option Nat
  | .obj b _ => some b
  | .row v _ _ _ _ => v.ownBlock
  | .pack _ _ => none
def Res.feet : Res → List Nat
  | .obj b _ => [b]
  | .row v _ _ _ _ => v.ownBlock.toList
  | .pack fs _ => fs

def Res.ok (w : World) : Res → Prop
  | .obj b o => w.heap[b]? = some o
  | .row v T sz n xs => OwnsR w T sz v n xs
  | .pack fs P => P w ∧ (∀ b ∈ fs, b < w.heap.size) ∧ Stab fs P

theorem Res.feet_lt {w : World} {r : Res} (h : r.ok w) {b : Nat} (hb : b ∈ r.feet) : b < w.heap.size := by
  cases r with
  | obj c o =>
    simp only [Res.feet, List.mem_singleton] at hb
    subst hb
    simp only [Res.ok] at h
    exact (Array.getElem?_eq_some_iff.1 h).1
  | row v T sz n xs => exact OwnsR.lt h (Option.mem_toList.1 hb)
  | pack fs P => exact h.2.1 b hb

theorem Res.same {w w' : World} {r : Res} (h : r.ok w) (hs : w.heap.size ≤ w'.heap.size) (hne : ∀ b ∈ r.feet, w'.heap[b]? = w.heap[b]?) : r.ok w' := by
  cases r with
  | obj c o =>
    simp only [Res.ok] at h ⊢
    rw [hne c (by simp [Res.feet])]
    exact h
  | row v T sz n xs =>
    exact OwnsR.same h (fun b hb => hne b (Option.mem_toList.2 hb))
  | pack fs P => exact ⟨h.2.2 _ _ h.1 hs hne, fun b hb => Nat.lt_of_lt_of_le (h.2.1 b hb) hs, h.2.2⟩
theorem Res.kept {w w' : World} {r : Res} {row : Option Nat} (h : r.ok w) (hg : w.grownBy w' row) (hne : ∀ b ∈ r.feet, row ≠ some b) : r.ok w' :=
  Res.same h hg.size fun b hb => hg.block b (Res.feet_lt h hb) fun e => hne b hb e.symm
theorem sub_flat {l l' : List Res} (h : l.Sublist l') : (l.flatMap Res.feet).Sublist (l'.flatMap Res.feet) := by
  induction h with
  | slnil => exact List.Sublist.refl _
  | cons a _ ih => rw [List.flatMap_cons]; exact ih.trans (List.sublist_append_right _ _)
  | cons_cons a _ ih => rw [List.flatMap_cons, List.flatMap_cons]; exact (List.Sublist.refl _).append ih

structure Same (w0 w : World) : Prop where
  tape : w.tape = w0.tape
  os : w.os = w0.os
  output : w.output = w0.output
theorem Same.grown {w0 w w' : World} {row : Option Nat} (h : Same w0 w) (hg : w.grownBy w' row) : Same w0 w' := ⟨hg.tape.trans h.tape, hg.os.trans h.os, hg.output.trans h.output⟩
structure St (B : Nat) {P : Program} (w0 : Bs P) (H : Hp) (M : List Res) (w : World) : Prop where
  below : Same w0.w w
  le : B ≤ w.heap.size
  hin : ∀ b o, H b = some o → w.heap[b]? = some o
  ok : ∀ r ∈ M, r.ok w
  lo : ∀ r ∈ M, ∀ b ∈ r.feet, B ≤ b ∧ H b = none
  nd : (M.flatMap Res.feet).Nodup
  kin : ∀ b o, H b = some o → w0.K b ∨ w0.R b
  kown : ∀ r ∈ M, ∀ b ∈ r.feet, w0.K b
  rlow : ∀ b, w0.R b → b < B
section
variable {B : Nat} {P : Program} {w0 : Bs P} {w w' : World} {H H' : Hp} {M M' : List Res}
theorem St.lt (h : St B w0 H M w) {b : Nat} {o : Obj} (hb : H b = some o) : b < w.heap.size := (Array.getElem?_eq_some_iff.1 (h.hin b o hb)).1
/-- The others' doing does not unseat it. -/
theorem St.oth (h : St B w0 H M w) (o : Oth w0 w w') : St B w0 H M w' :=
  ⟨⟨o.tape.trans h.below.tape, o.os.trans h.below.os, o.output.trans h.below.output⟩, Nat.le_trans h.le o.size,
   fun b x hb => by rw [o.block b (h.kin b x hb)]; exact h.hin b x hb,
   fun r hr => Res.same (h.ok r hr) o.size fun b hb => o.block b (.inl (h.kown r hr b hb)), h.lo, h.nd, h.kin, h.kown, h.rlow⟩
theorem St.perm (h : St B w0 H M w) (p : M.Perm M') : St B w0 H M' w :=
  ⟨h.below, h.le, h.hin, fun r hr => h.ok r (p.mem_iff.2 hr), fun r hr => h.lo r (p.mem_iff.2 hr), (p.flatMap_right _).nodup_iff.1 h.nd, h.kin, fun r hr => h.kown r (p.mem_iff.2 hr), h.rlow⟩

theorem St.sub (h : St B w0 H M w) (p : M'.Sublist M) : St B w0 H M' w :=
  ⟨h.below, h.le, h.hin, fun r hr => h.ok r (p.subset hr), fun r hr => h.lo r (p.subset hr), h.nd.sublist (sub_flat p), h.kin, fun r hr => h.kown r (p.subset hr), h.rlow⟩

theorem St.tail {r : Res} (h : St B w0 H (r :: M) w) : St B w0 H M w := h.sub (List.sublist_cons_self _ _)

/-- Only the count of draws has moved. -/
theorem St.drewN (h : St B w0 H M w) (n : Nat) : St B w0 H M { w with drawn := n } :=
  ⟨⟨h.below.tape, h.below.os, h.below.output⟩, h.le, h.hin, fun r hr => Res.same (h.ok r hr) (Nat.le_refl _) fun _ _ => rfl, h.lo, h.nd, h.kin, h.kown, h.rlow⟩
/-- Memory that nobody owns here may grow; nothing of ours turns. -/
theorem St.grow (h : St B w0 H M w) (hg : w.grownBy w' none) : St B w0 H M w' :=
  ⟨h.below.grown hg, Nat.le_trans h.le hg.size,
   fun b o hb => by rw [hg.block b (h.lt hb) (by simp)]; exact h.hin b o hb,
   fun r hr => Res.kept (h.ok r hr) hg (by simp), h.lo, h.nd, h.kin, h.kown, h.rlow⟩
/-- The head resource is written, or replaced by one in new memory. -/
theorem St.upd {r r' : Res} (h : St B w0 H (r :: M) w) (hg : w.grownBy w' r.foot) (hok : r'.ok w') (hN : News w0 w w')
    (hf : ∀ b, r'.foot = some b → r.foot = some b ∨ w.heap.size ≤ b) (hr : r.feet = r.foot.toList := by rfl) (hr' : r'.feet = r'.foot.toList := by rfl) : St B w0 H (r' :: M) w' := by
  have hnd := h.nd
  have hin : ∀ {b : Nat}, r.foot = some b → b ∈ r.feet := fun e => by rw [hr, e]; simp
  refine ⟨h.below.grown hg, Nat.le_trans h.le hg.size, ?_, ?_, ?_, ?_, h.kin, ?_, h.rlow⟩
  · intro b o hb
    rw [hg.block b (h.lt hb) (fun e => by have := (h.lo r (List.mem_cons_self ..) b (hin e.symm)).2; rw [this] at hb; cases hb)]
    exact h.hin b o hb
  · intro s hs
    rcases List.mem_cons.1 hs with rfl | hs
    · exact hok
    · refine Res.kept (h.ok s (List.mem_cons_of_mem _ hs)) hg ?_
      intro b hb e
      simp only [List.flatMap_cons] at hnd
      exact (List.nodup_append.1 hnd).2.2 b (hin e) b (List.mem_flatMap.2 ⟨s, hs, hb⟩) rfl
  · intro s hs b hb
    rcases List.mem_cons.1 hs with rfl | hs
    · rw [hr'] at hb
      rcases hf b (Option.mem_toList.1 hb) with e | e
      · exact h.lo r (List.mem_cons_self ..) b (hin e)
      · refine ⟨Nat.le_trans h.le e, ?_⟩
        cases hh : H b with
        | none => rfl
        | some o => exact absurd (h.lt hh) (by omega)
    · exact h.lo s (List.mem_cons_of_mem _ hs) b hb
  · have hm : (M.flatMap Res.feet).Nodup := (h.tail).nd
    rw [List.flatMap_cons, hr']
    cases hf' : r'.foot with
    | none => simpa using hm
    | some b =>
      simp only [Option.toList, List.singleton_append, List.nodup_cons]
      refine ⟨fun hmem => ?_, hm⟩
      obtain ⟨s, hs, hb⟩ := List.mem_flatMap.1 hmem
      rcases hf b hf' with e | e
      · simp only [List.flatMap_cons] at hnd
        exact (List.nodup_append.1 hnd).2.2 b (hin e) b hmem rfl
      · have := Res.feet_lt (h.ok s (List.mem_cons_of_mem _ hs)) hb
        omega
  · intro s hs b hb
    rcases List.mem_cons.1 hs with rfl | hs
    · have hlt := Res.feet_lt hok hb
      rw [hr'] at hb
      rcases hf b (Option.mem_toList.1 hb) with e | e
      · exact h.kown r (List.mem_cons_self ..) b (hin e)
      · exact hN b e hlt
    · exact h.kown s (List.mem_cons_of_mem _ hs) b hb

/-- A new resource in new memory. -/
theorem St.add {r' : Res} (h : St B w0 H M w) (hg : w.grownBy w' none) (hok : r'.ok w') (hN : News w0 w w') (hf : ∀ b, r'.foot = some b → w.heap.size ≤ b) (hr' : r'.feet = r'.foot.toList := by rfl) :
    St B w0 H (r' :: M) w' := by
  have h1 : St B w0 H (.row (.slice none 0 0) 0 1 0 [] :: M) w := by
    refine ⟨h.below, h.le, h.hin, ?_, ?_, ?_, h.kin, ?_, h.rlow⟩
    · intro r hr
      rcases List.mem_cons.1 hr with rfl | hr
      · exact OwnsR.nil _ _ _
      · exact h.ok r hr
    · intro r hr
      rcases List.mem_cons.1 hr with rfl | hr
      · intro b hb; simp [Res.feet, Value.ownBlock] at hb
      · exact h.lo r hr
    · simpa [List.flatMap_cons, Res.feet, Value.ownBlock] using h.nd
    · intro r hr
      rcases List.mem_cons.1 hr with rfl | hr
      · intro b hb; simp [Res.feet, Value.ownBlock] at hb
      · exact h.kown r hr
  exact h1.upd hg hok hN (fun b hb => .inr (hf b hb)) rfl hr'

theorem St.nilRow (h : St B w0 H M w) (T : TypeId) (sz : Nat) : St B w0 H (.row (.slice none 0 0) T sz 0 [] :: M) w :=
  h.add ⟨rfl, rfl, rfl, Nat.le_refl _, fun _ _ _ => rfl⟩ (OwnsR.nil _ _ _) (News.same w) (by intro b hb; simp [Res.foot, Value.ownBlock] at hb)

theorem News.alloc {w : World} {o : Obj} (h : w0.K w.heap.size) : News w0 w (w.alloc o) := fun b h1 h2 => by
  have : (w.alloc o).heap.size = w.heap.size + 1 := World.size_alloc ..
  have : b = w.heap.size := by omega
  subst this; exact h
theorem St.alloc (h : St B w0 H M w) (o : Obj) (hN : News w0 w (w.alloc o)) : St B w0 H (.obj w.heap.size o :: M) (w.alloc o) :=
  h.add (World.grownBy_alloc w o none) (heap_alloc_new w o) hN (by intro b hb; simp only [Res.foot, Option.some.injEq] at hb; omega)

theorem St.obj_ok {b : Nat} {o : Obj} (h : St B w0 H M w) (hm : Res.obj b o ∈ M) : w.heap[b]? = some o := h.ok _ hm

theorem St.freeze {b : Nat} {o : Obj} (h : St B w0 H (.obj b o :: M) w) : H.le (H.add b o) ∧ St B w0 (H.add b o) M w := by
  have hb := h.lo _ (List.mem_cons_self ..) b (by simp [Res.feet])
  refine ⟨Hp.le_add hb.2, h.below, h.le, ?_, h.tail.ok, ?_, h.tail.nd, ?_, h.tail.kown, h.rlow⟩
  · intro c x hx
    unfold Hp.add at hx
    split at hx
    · rename_i e; subst e; cases hx; exact h.ok _ (List.mem_cons_self ..)
    · exact h.hin c x hx
  · intro r hr c hc
    refine ⟨(h.tail.lo r hr c hc).1, ?_⟩
    unfold Hp.add
    split
    · rename_i e; subst e
      have hnd := h.nd
      simp only [List.flatMap_cons, Res.feet, List.singleton_append, List.nodup_cons] at hnd
      exact absurd (List.mem_flatMap.2 ⟨r, hr, hc⟩) hnd.1
    · exact (h.tail.lo r hr c hc).2
  · intro c x hx
    unfold Hp.add at hx
    split at hx
    · rename_i e; subst e; exact .inl (h.kown _ (List.mem_cons_self ..) c (by simp [Res.feet]))
    · exact h.kin c x hx

/-- What was borrowed comes back. -/
theorem St.thaw {b : Nat} {o : Obj} (h : St B w0 H' M w) (hB : B ≤ b) (hle : H.le H') (hb : H b = none) (ho : H' b = some o) : St B w0 H (.obj b o :: M) w := by
  refine ⟨h.below, h.le, fun c x hx => h.hin c x (hle c x hx), ?_, ?_, ?_, fun c x hx => h.kin c x (hle c x hx), ?_, h.rlow⟩
  · intro r hr
    rcases List.mem_cons.1 hr with rfl | hr
    · exact h.hin b o ho
    · exact h.ok r hr
  · intro r hr c hc
    rcases List.mem_cons.1 hr with rfl | hr
    · simp only [Res.feet, List.mem_singleton] at hc; subst hc; exact ⟨hB, hb⟩
    · refine ⟨(h.lo r hr c hc).1, ?_⟩
      cases hh : H c with
      | none => rfl
      | some x => have := hle c x hh; rw [(h.lo r hr c hc).2] at this; cases this
  · simp only [List.flatMap_cons, Res.feet, List.singleton_append, List.nodup_cons]
    refine ⟨fun hm => ?_, h.nd⟩
    obtain ⟨r, hr, hc⟩ := List.mem_flatMap.1 hm
    have := (h.lo r hr b hc).2
    rw [this] at ho; cases ho
  · intro r hr c hc
    rcases List.mem_cons.1 hr with rfl | hr
    · simp only [Res.feet, List.mem_singleton] at hc; subst hc
      rcases h.kin _ _ ho with e | e
      · exact e
      · have := h.rlow _ e; omega
    · exact h.kown r hr c hc

/-- Fewer facts. -/
theorem St.weak (h : St B w0 H' M w) (hle : H.le H') : St B w0 H M w :=
  ⟨h.below, h.le, fun b o hb => h.hin b o (hle b o hb), h.ok, fun r hr b hb => ⟨(h.lo r hr b hb).1, by
    cases hh : H b with
    | none => rfl
    | some x => have := hle b x hh; rw [(h.lo r hr b hb).2] at this; cases this⟩, h.nd, fun b o hb => h.kin b o (hle b o hb), h.kown, h.rlow⟩

/-- Several resources as one, and back. -/
def packOf (rs : List Res) : Res := .pack (rs.flatMap Res.feet) (fun w => ∀ r ∈ rs, r.ok w)
theorem stab_pack (rs : List Res) : Stab (rs.flatMap Res.feet) (fun w => ∀ r ∈ rs, r.ok w) := fun _ _ h hg hne r hr =>
  Res.same (h r hr) hg (fun b hb => hne b (List.mem_flatMap.2 ⟨r, hr, hb⟩))
theorem St.unpack {rs : List Res} (h : St B w0 H (packOf rs :: M) w) : St B w0 H (rs ++ M) w :=
  ⟨h.below, h.le, h.hin, fun r hr => by
    rcases List.mem_append.1 hr with hr | hr
    · exact (h.ok _ (List.mem_cons_self ..)).1 r hr
    · exact h.ok r (List.mem_cons_of_mem _ hr), fun r hr b hb => by
    rcases List.mem_append.1 hr with hr | hr
    · exact h.lo _ (List.mem_cons_self ..) b (List.mem_flatMap.2 ⟨r, hr, hb⟩)
    · exact h.lo r (List.mem_cons_of_mem _ hr) b hb, by
    have := h.nd
    rw [List.flatMap_cons] at this
    rw [List.flatMap_append]; exact this, h.kin, fun r hr b hb => by
    rcases List.mem_append.1 hr with hr | hr
    · exact h.kown _ (List.mem_cons_self ..) b (List.mem_flatMap.2 ⟨r, hr, hb⟩)
    · exact h.kown r (List.mem_cons_of_mem _ hr) b hb, h.rlow⟩
theorem St.pack {rs : List Res} (h : St B w0 H (rs ++ M) w) : St B w0 H (packOf rs :: M) w :=
  ⟨h.below, h.le, h.hin, fun r hr => by
    rcases List.mem_cons.1 hr with rfl | hr
    · refine ⟨fun r hr => h.ok r (List.mem_append_left _ hr), fun b hb => ?_, stab_pack rs⟩
      obtain ⟨r, hr, hb⟩ := List.mem_flatMap.1 hb
      exact Res.feet_lt (h.ok r (List.mem_append_left _ hr)) hb
    · exact h.ok r (List.mem_append_right _ hr), fun r hr b hb => by
    rcases List.mem_cons.1 hr with rfl | hr
    · obtain ⟨r, hr, hb⟩ := List.mem_flatMap.1 hb
      exact h.lo r (List.mem_append_left _ hr) b hb
    · exact h.lo r (List.mem_append_right _ hr) b hb, by
    have := h.nd
    rw [List.flatMap_append] at this
    rw [List.flatMap_cons]; exact this, h.kin, fun r hr b hb => by
    rcases List.mem_cons.1 hr with rfl | hr
    · obtain ⟨r, hr, hb⟩ := List.mem_flatMap.1 hb
      exact h.kown r (List.mem_append_left _ hr) b hb
    · exact h.kown r (List.mem_append_right _ hr) b hb, h.rlow⟩

end

end Go.Sim
end

section
namespace Go.Sim
open Go Go.RowKit

abbrev Env := List (Nat × Value)
def lk : Env → Nat → Option Value
  | [], _ => none
  | (t, v) :: r, u => bif Nat.beq t u then some v else lk r u

structure Sl (N : Nat) (L : Env) (a : Act) : Prop where
  size : a.tmps.size = N
  dfr : a.defers = []
  get : ∀ t v, lk L t = some v → a.tmps[t]? = some v

theorem lk_cons (t : Nat) (v : Value) (r : Env) (u : Nat) : lk ((t, v) :: r) u = if t = u then some v else lk r u := by
  show (bif Nat.beq t u then some v else lk r u) = _
  by_cases h : t = u
  · subst h; simp
  · have : Nat.beq t u = false := by
      cases hb : Nat.beq t u with
      | false => rfl
      | true => exact absurd (Nat.eq_of_beq_eq_true hb) h
    simp [this, h]

theorem Sl.put {N : Nat} {L : Env} {a : Act} {d : Nat} {v : Value} (h : Sl N L a) (hd : Nat.blt d N = true) : Sl N ((d, v) :: L) (a.put (some d) v) := by
  have hd' : d < N := by simpa [Nat.blt_eq] using hd
  refine ⟨by simp [Act.put, h.size], h.dfr, fun t u ht => ?_⟩
  rw [lk_cons] at ht
  simp only [Act.put, Array.getElem?_setIfInBounds]
  by_cases e : d = t
  · subst e
    simp only [if_true, Option.some.injEq] at ht
    subst ht
    simp [h.size, hd']
  · simp only [if_neg e] at ht ⊢
    exact h.get t u ht

/-- Facts that follow. -/
def Kept (L : Env) : Env → Prop
  | [] => True
  | (t, v) :: r => lk L t = some v ∧ Kept L r

theorem Kept.lk {L : Env} : ∀ {L' : Env}, Kept L L' → ∀ t v, lk L' t = some v → lk L t = some v
  | [], _, t, v, h => by simp [Sim.lk] at h
  | (u, x) :: r, hk, t, v, h => by
    rw [lk_cons] at h
    split at h
    · rename_i e; subst e; cases h; exact hk.1
    · exact Kept.lk hk.2 t v h

theorem Sl.keep {N : Nat} {L L' : Env} {a : Act} (h : Sl N L a) (hk : Kept L L') : Sl N L' a :=
  ⟨h.size, h.dfr, fun t v ht => h.get t v (hk.lk t v ht)⟩

/-- An operand's value. -/
def ev (L : Env) : Operand → Option Value
  | .tmp t => lk L t
  | .const v => some v
  | .func f => some (.func (.func f) #[] #[])
  | .global g => some (.pointer (some ⟨g, 0, none⟩))

theorem Sl.ev {N : Nat} {L : Env} {a : Act} (h : Sl N L a) {x : Operand} {v : Value} (hx : Sim.ev L x = some v) : a.eval x = v := by
  cases x with
  | tmp t => simp [Act.eval, Array.getD_eq_getD_getElem?, h.get t v hx]
  | const u => simpa [Sim.ev, Act.eval] using hx
  | func f => simpa [Sim.ev, Act.eval] using hx
  | global g => simpa [Sim.ev, Act.eval] using hx

/-- Whether an operation's guard lets it run. -/
def gd (ops : Array Oper) (L : Env) (o : Oper) : Option Bool :=
  match o.guard with
  | none => some true
  | some (j, want) =>
    match (ops[j]?).bind (·.dst) with
    | none => none
    | some t => match lk L t with
      | some (.bool b) => some (b == want)
      | some (.tuple _) => some false
      | _ => none

theorem Sl.gd {N : Nat} {L : Env} {a : Act} (h : Sl N L a) {ops : Array Oper} {o : Oper} {c : Bool} (hg : Sim.gd ops L o = some c) : Region.wanted o (yielded ops a.tmps) = c := by
  unfold Sim.gd at hg
  unfold Region.wanted
  cases ho : o.guard with
  | none => simp only [ho, Option.some.injEq] at hg; simp [← hg]
  | some p =>
    obtain ⟨j, want⟩ := p
    simp only [ho] at hg
    cases hd : (ops[j]?).bind (·.dst) with
    | none => simp [hd] at hg
    | some t =>
      simp only [hd] at hg
      cases hl : lk L t with
      | none => simp [hl] at hg
      | some v =>
        cases v with
        | bool b =>
          simp only [hl, Option.some.injEq] at hg
          have := h.get t _ hl
          simp [yielded, hd, this, ← hg]
        | tuple vs =>
          simp only [hl, Option.some.injEq] at hg
          have := h.get t _ hl
          simp [yielded, hd, this, ← hg]
        | _ => simp [hl] at hg

structure Cx (P : Program) where
  N : Nat
  B : Nat
  w0 : Bs P
abbrev Cx.P {P : Program} (_ : Cx P) : Program := P

abbrev Post := Exit → Act → World → Prop

def W {P : Program} (x : Cx P) (ops : Array Oper) (Q : Post) (rest : List Oper) (H : Hp) (M : List Res) (L : Env) : Prop :=
  ∀ a w, Sl x.N L a → St x.B x.w0 H M w → listK x.w0 ops Q rest a w
def C {P : Program} (x : Cx P) (c : Code) (Q : Post) (H : Hp) (M : List Res) (L : Env) : Prop :=
  ∀ a w, Sl x.N L a → St x.B x.w0 H M w → wpK x.w0 c Q a w
/-- A post at one exit. -/
def E {P : Program} (x : Cx P) (e : Exit) (Q : Post) (H : Hp) (M : List Res) (L : Env) : Prop :=
  ∀ a w, Sl x.N L a → St x.B x.w0 H M w → Q e a w

section
variable {P : Program} {x : Cx P} {ops : Array Oper} {Q : Post} {rest : List Oper} {H : Hp} {M M' : List Res} {L L' : Env}

theorem C_seq {c d : Code} (k : C x c (Exit.then (wpK x.w0 d Q) Q) H M L) : C x (.seq c d) Q H M L :=
  fun a w hs ht => wpK_seq (k a w hs ht)
theorem C_skip (k : E x .normal Q H M L) : C x .skip Q H M L := fun a w hs ht => wpK_skip (k a w hs ht)
theorem C_exit {id : Nat} (k : E x (.exit id) Q H M L) : C x (.exit id) Q H M L := fun a w hs ht => wpK_exit (k a w hs ht)
theorem C_ret (k : E x .ret Q H M L) : C x .ret Q H M L := fun a w hs ht => wpK_ret (k a w hs ht)
theorem C_block {id : Nat} {c : Code} (k : C x c (Exit.inBlock id Q) H M L) : C x (.block id c) Q H M L :=
  fun a w hs ht => wpK_block (k a w hs ht)
theorem C_cond {c : Operand} {p q : Code} {b : Bool} (hb : ev L c = some (.bool b)) (k1 : b = true → C x p Q H M L) (k2 : b = false → C x q Q H M L) :
    C x (.cond c p q) Q H M L :=
  fun a w hs ht => wpK_cond_split (hs.ev hb) (fun e => k1 e a w hs ht) (fun e => k2 e a w hs ht)
theorem C_region {id : Nat} {l : List Oper} (k : W x l.toArray Q l H M L) : C x (.region id l.toArray false) Q H M L :=
  fun a w hs ht => wpK_region_lit (k a w hs ht)
theorem W_end (k : E x .normal Q H M L) : W x ops Q [] H M L := fun a w hs ht => k a w hs ht
theorem E_then {d : Code} {Q' : Post} (k : C x d Q' H M L) : E x .normal (Exit.then (wpK x.w0 d Q') Q) H M L := fun a w hs ht => k a w hs ht

theorem C_keep {c : Code} (hL : Kept L L') (hM : M.Perm M') (k : C x c Q H M' L') : C x c Q H M L :=
  fun a w hs ht => k a w (hs.keep hL) (ht.perm hM)
theorem E_keep {e : Exit} (hL : Kept L L') (hM : M.Perm M') (k : E x e Q H M' L') : E x e Q H M L :=
  fun a w hs ht => k a w (hs.keep hL) (ht.perm hM)
theorem W_keep (hL : Kept L L') (hM : M.Perm M') (k : W x ops Q rest H M' L') : W x ops Q rest H M L :=
  fun a w hs ht => k a w (hs.keep hL) (ht.perm hM)
theorem C_drop {c : Code} (hM : M'.Sublist M) (k : C x c Q H M' L) : C x c Q H M L := fun a w hs ht => k a w hs (ht.sub hM)
theorem E_drop {e : Exit} (hM : M'.Sublist M) (k : E x e Q H M' L) : E x e Q H M L := fun a w hs ht => k a w hs (ht.sub hM)
theorem W_drop (hM : M'.Sublist M) (k : W x ops Q rest H M' L) : W x ops Q rest H M L := fun a w hs ht => k a w hs (ht.sub hM)
theorem W_perm (hM : M.Perm M') (k : W x ops Q rest H M' L) : W x ops Q rest H M L := fun a w hs ht => k a w hs (ht.perm hM)

/-- The general step: an operation that yields a value and leaves a state. -/
theorem W_run {o : Oper} {d : Nat} (hd : o.dst = some d) (hg : gd ops L o = some true) (hN : Nat.blt d x.N = true)
    (hrun : ∀ a w, Sl x.N L a → St x.B x.w0 H M w → ∃ v w', (execOp a.eval o).run P w = .ok (.value v) w' ∧ (News x.w0 w w' → Did x.w0 w w' ((execOp a.eval o).events P w #[]) ∧
      ∃ H' M', St x.B x.w0 H' M' w' ∧ W x ops Q rest H' M' ((d, v) :: L))) (hwg : isWg o = false := by rfl) :
    W x ops Q (o :: rest) H M L := by
  intro a w hs ht
  unfold listK
  refine ⟨hwg, ?_⟩
  rw [if_pos (hs.gd hg)]
  intro w1 h1
  obtain ⟨v, w', hr, hn⟩ := hrun a w1 hs (ht.oth h1)
  rw [hr]
  intro n
  obtain ⟨hD, H', M', ht', k⟩ := hn n
  refine ⟨hD, ?_⟩
  rw [hd]
  exact k _ _ (hs.put hN) ht'

/-- A step that looks at nothing. -/
theorem W_pure0 {o : Oper} {d : Nat} {v : Value} (hd : o.dst = some d) (hg : gd ops L o = some true) (hN : Nat.blt d x.N = true)
    (hsem : ∀ a w, Sl x.N L a → St x.B x.w0 H M w → (execOp a.eval o).run P w = .ok (.value v) w ∧ (execOp a.eval o).events P w #[] = #[]) (k : W x ops Q rest H M ((d, v) :: L)) (hwg : isWg o = false := by rfl) :
    W x ops Q (o :: rest) H M L :=
  W_run hd hg hN (hwg := hwg) fun a w hs ht => ⟨v, w, (hsem a w hs ht).1, fun _ => ⟨by rw [(hsem a w hs ht).2]; exact Did.idle _, H, M, ht, k⟩⟩

/-- A step that reads what we know. -/
theorem W_read {o : Oper} {d : Nat} {v : Value} (hd : o.dst = some d) (hg : gd ops L o = some true) (hN : Nat.blt d x.N = true)
    (hrun : ∀ a w, Sl x.N L a → St x.B x.w0 H M w → (execOp a.eval o).run P w = .ok (.value v) w ∧ ∀ e ∈ (execOp a.eval o).events P w #[], Ev1 x.w0 w.heap.size e) (k : W x ops Q rest H M ((d, v) :: L)) (hwg : isWg o = false := by rfl) :
    W x ops Q (o :: rest) H M L :=
  W_run hd hg hN (hwg := hwg) fun a w hs ht => ⟨v, w, (hrun a w hs ht).1, fun _ => ⟨⟨rfl, rfl, rfl, Nat.le_refl _, fun _ _ _ => rfl, (hrun a w hs ht).2⟩, H, M, ht, k⟩⟩

/-- The guard says no. -/
theorem W_no {o : Oper} {d : Nat} (hd : o.dst = some d) (hg : gd ops L o = some false) (hN : Nat.blt d x.N = true) (k : W x ops Q rest H M ((d, undef) :: L)) (hwg : isWg o = false := by rfl) :
    W x ops Q (o :: rest) H M L := by
  intro a w hs ht
  unfold listK
  refine ⟨hwg, ?_⟩
  rw [if_neg (by rw [hs.gd hg]; simp), hd]
  exact k _ _ (hs.put hN) ht

/-- The guard says no, at an operation without a slot. -/
theorem W_no_ {o : Oper} (hd : o.dst = none) (hg : gd ops L o = some false) (k : W x ops Q rest H M L) (hwg : isWg o = false := by rfl) : W x ops Q (o :: rest) H M L := by
  intro a w hs ht
  unfold listK
  refine ⟨hwg, ?_⟩
  rw [if_neg (by rw [hs.gd hg]; simp), hd]
  exact k _ _ hs ht

/-- A step that yields nothing (a store). -/
theorem W_skip {o : Oper} (hd : o.dst = none) (hg : gd ops L o = some true)
    (hrun : ∀ a w, Sl x.N L a → St x.B x.w0 H M w → ∃ w', (execOp a.eval o).run P w = .ok .skip w' ∧ (News x.w0 w w' → Did x.w0 w w' ((execOp a.eval o).events P w #[]) ∧
      ∃ H' M', St x.B x.w0 H' M' w' ∧ W x ops Q rest H' M' L)) (hwg : isWg o = false := by rfl) :
    W x ops Q (o :: rest) H M L := by
  intro a w hs ht
  unfold listK
  refine ⟨hwg, ?_⟩
  rw [if_pos (hs.gd hg)]
  intro w1 h1
  obtain ⟨w', hr, hn⟩ := hrun a w1 hs (ht.oth h1)
  rw [hr]
  intro n
  obtain ⟨hD, H', M', ht', k⟩ := hn n
  refine ⟨hD, ?_⟩
  rw [hd]
  exact k _ _ hs ht'

/-- What a contract says: of whom, and what comes back. -/
structure Rt (P : Program) where
  c : Bs P
  post : Value → World → Prop
/-- What a call hands back: a value and a state. -/
def Ret (B : Nat) {P : Program} (w0 : Bs P) (Φ : Hp → List Res → Value → Prop) : Rt P :=
  ⟨w0, fun v w' => ∃ H' M', St B w0 H' M' w' ∧ Φ H' M' v⟩
/-- A Go function with a body. -/
def Bodied (P : Program) (f : FuncId) : Prop := ∃ fn c, P.funcs[f]? = some fn ∧ (fn.name == "runtime.NumGoroutine") = false ∧ fn.body = some c
def Calls (P : Program) (f : FuncId) (args : Array Value) (w : World) (R : Rt P) : Prop := Bodied P f ∧ CallsK R.c f args w R.post
theorem Calls.mono {P : Program} {f : FuncId} {args : Array Value} {w : World} {R R' : Rt P} (h : Calls P f args w R) (e : R'.c = R.c) (m : ∀ v w', R.post v w' → R'.post v w') : Calls P f args w R' :=
  ⟨h.1, by rw [e]; exact h.2.mono m⟩
theorem Bodied.call {P : Program} {f : FuncId} (h : Bodied P f) (as : Array Value) (w : World) (es : Array Event) : (callFunc f as).run P w = .ok (.enter f as) w ∧ (callFunc f as).events P w es = es := by
  obtain ⟨fn, c, hf, hn, hb⟩ := h
  have h1 : ¬ fn.name = "runtime.NumGoroutine" := by simpa using hn
  constructor <;> simp [callFunc, hf, h1, hb]

theorem mapM_ev {L : Env} {a : Act} {N : Nat} (hs : Sl N L a) {args : Array Operand} {vs : Array Value} (hv : args.mapM (ev L) = some vs) : args.map a.eval = vs := by
  have hl : ∀ (l : List Operand) (us : List Value), l.mapM (ev L) = some us → l.map a.eval = us := by
    intro l
    induction l with
    | nil => intro us h; simp at h; simp [h]
    | cons y l ih =>
      intro us h
      simp only [List.mapM_cons, Option.bind_eq_bind, Option.bind_eq_some_iff, Option.pure_def, Option.some.injEq] at h
      obtain ⟨v, hv, vs', hvs, rfl⟩ := h
      simp [hs.ev hv, ih vs' hvs]
  have h2 : args.toList.mapM (ev L) = some vs.toList := by
    have := congrArg (Option.map Array.toList) hv
    rw [Array.mapM_eq_mapM_toList] at this
    cases hh : args.toList.mapM (ev L) with
    | none => rw [hh] at this; simp at this
    | some us => rw [hh] at this; simp at this; rw [← this]
  have := hl _ _ h2
  apply Array.ext'
  simpa using this

/-- The operands' values, as a list. -/
def evs (L : Env) : List Operand → Option (List Value)
  | [] => some []
  | y :: r => match ev L y, evs L r with
    | some v, some vs => some (v :: vs)
    | _, _ => none

theorem Sl.evs {L : Env} {a : Act} {N : Nat} (hs : Sl N L a) : ∀ {l : List Operand} {vs : List Value}, Sim.evs L l = some vs → l.map a.eval = vs
  | [], vs, h => by simp [Sim.evs] at h; simp [h]
  | y :: r, vs, h => by
    simp only [Sim.evs] at h
    cases h1 : Sim.ev L y with
    | none => simp [h1] at h
    | some v =>
      cases h2 : Sim.evs L r with
      | none => simp [h1, h2] at h
      | some us =>
        simp only [h1, h2, Option.some.injEq] at h
        subst h
        simp [hs.ev h1, Sl.evs hs h2]

/-- A call of a Go function. -/
theorem W_callG {o : Oper} {d : Nat} {f : FuncId} {vs : List Value} {Φ : Hp → List Res → Value → Prop} (hd : o.dst = some d)
    (hg : gd ops L o = some true) (hN : Nat.blt d x.N = true)
    (hr : ∀ a, Sl x.N L a → execOp a.eval o = callFunc f vs.toArray)
    (hc : ∀ w, St x.B x.w0 H M w → Calls P f vs.toArray w (Ret x.B x.w0 Φ))
    (k : ∀ v H' M', Φ H' M' v → W x ops Q rest H' M' ((d, v) :: L)) (hwg : isWg o = false := by rfl) :
    W x ops Q (o :: rest) H M L := by
  intro a w hs ht
  unfold listK
  refine ⟨hwg, ?_⟩
  rw [if_pos (hs.gd hg)]
  intro w1 h1
  have ht1 := ht.oth h1
  have hcall := (hc w1 ht1).1.call vs.toArray w1 #[]
  rw [hr a hs, hcall.1]
  refine ⟨hcall.2, rfl, (hc w1 ht1).2.mono fun v w' he => ?_⟩
  obtain ⟨H', M', h1, h2⟩ := he
  rw [hd]
  exact k v H' M' h2 _ _ (hs.put hN) h1

theorem W_call {d : Nat} {f : FuncId} {args : List Operand} {tys : Array TypeId} {ty : TypeId} {pos : String} {aft : Array Edge} {g : Option (Nat × Bool)} {vs : List Value}
    {Φ : Hp → List Res → Value → Prop}
    (hcall : ∀ as w, (callFunc f as).run P w = .ok (.enter f as) w)
    (hg : gd ops L ⟨some d, .call ⟨.value (.func f), args.toArray, tys⟩, ty, pos, aft, g⟩ = some true) (hN : Nat.blt d x.N = true)
    (hv : evs L args = some vs)
    (hc : ∀ w, St x.B x.w0 H M w → Calls P f vs.toArray w (Ret x.B x.w0 Φ))
    (k : ∀ v H' M', Φ H' M' v → W x ops Q rest H' M' ((d, v) :: L)) :
    W x ops Q (⟨some d, .call ⟨.value (.func f), args.toArray, tys⟩, ty, pos, aft, g⟩ :: rest) H M L := by
  refine W_callG rfl hg hN (fun a hs => ?_) hc k
  have hargs : args.toArray.map a.eval = vs.toArray := by simp [hs.evs hv]
  simp [execOp, resolve, hargs, Act.eval, Deferred.ofValue, invoke]

/-- A call of a function value. -/
theorem W_callv {d : Nat} {y : Operand} {f : FuncId} {args : List Operand} {tys : Array TypeId} {ty : TypeId} {pos : String} {aft : Array Edge} {g : Option (Nat × Bool)} {vs fs cs : List Value}
    {Φ : Hp → List Res → Value → Prop}
    (hcall : ∀ as w, (callFunc f as).run P w = .ok (.enter f as) w)
    (hg : gd ops L ⟨some d, .call ⟨.value y, args.toArray, tys⟩, ty, pos, aft, g⟩ = some true) (hN : Nat.blt d x.N = true)
    (hy : ev L y = some (.func (.func f) fs.toArray cs.toArray)) (hv : evs L args = some vs)
    (hc : ∀ w, St x.B x.w0 H M w → Calls P f (fs ++ vs ++ cs).toArray w (Ret x.B x.w0 Φ))
    (k : ∀ v H' M', Φ H' M' v → W x ops Q rest H' M' ((d, v) :: L)) :
    W x ops Q (⟨some d, .call ⟨.value y, args.toArray, tys⟩, ty, pos, aft, g⟩ :: rest) H M L := by
  refine W_callG rfl hg hN (fun a hs => ?_) hc k
  have hargs : args.toArray.map a.eval = vs.toArray := by simp [hs.evs hv]
  simp [execOp, resolve, hargs, hs.ev hy, Deferred.ofValue, invoke]
end
end Go.Sim
end

section
set_option linter.unusedSimpArgs false
set_option linter.unusedVariables false
namespace Go.Sim
open Go Go.RowKit

/-- In every world of the state the cell at an address holds this. -/
def CellAt {P : Program} (x : Cx P) (H : Hp) (M : List Res) (ad : Addr) (v : Value) : Prop := ∀ w, St x.B x.w0 H M w → w.cell? ad = some v ∧ (x.w0.K ad.block ∨ x.w0.R ad.block)

/-- A cell that the heap facts tell. -/
def HCell (H : Hp) (ad : Addr) (v : Value) : Prop := ∃ arr T fz, H ad.block = some (.cells arr T fz) ∧ ad.spot = none ∧ arr[ad.off]? = some v

theorem cell_of {w : World} {ad : Addr} {arr : Array Value} {T : TypeId} {fz : Nat × Nat} {v : Value} (h : w.heap[ad.block]? = some (.cells arr T fz)) (hs : ad.spot = none) (hv : arr[ad.off]? = some v) :
    w.cell? ad = some v := by
  simp [World.cell?, h, hs, hv]

theorem HCell.at {P : Program} {x : Cx P} {H : Hp} {M : List Res} {ad : Addr} {v : Value} (h : HCell H ad v) : CellAt x H M ad v := by
  obtain ⟨arr, T, fz, hb, hs, hv⟩ := h
  exact fun w ht => ⟨cell_of (ht.hin _ _ hb) hs hv, ht.kin _ _ hb⟩

theorem HCell.mono {H H' : Hp} {ad : Addr} {v : Value} (hle : H.le H') (h : HCell H ad v) : HCell H' ad v := by
  obtain ⟨arr, T, fz, hb, hs, hv⟩ := h
  exact ⟨arr, T, fz, hle _ _ hb, hs, hv⟩

/-- A cell of an owned block. -/
theorem own_at {P : Program} {x : Cx P} {H : Hp} {M : List Res} {b off : Nat} {l : List Value} {T : TypeId} {fz : Nat × Nat} {v : Value}
    (hm : Res.obj b (.cells l.toArray T fz) ∈ M) (hv : l[off]? = some v) : CellAt x H M ⟨b, off, none⟩ v := by
  intro w ht
  exact ⟨cell_of (ht.obj_ok hm) rfl (by simpa using hv), .inl (ht.kown _ hm b (by simp [Res.feet]))⟩

theorem cell_lt {w : World} {ad : Addr} {v : Value} (h : w.cell? ad = some v) : ad.block < w.heap.size := by
  unfold World.cell? at h
  split at h
  · rename_i he; exact (Array.getElem?_eq_some_iff.1 he).1
  · cases h

/-- A read of a cell that we know. -/
theorem CellAt.ev {P : Program} {x : Cx P} {H : Hp} {M : List Res} {ad : Addr} {v : Value} (h : CellAt x H M ad v) {w : World} (ht : St x.B x.w0 H M w) : Ev1 x.w0 w.heap.size ⟨.cell ad, false, false⟩ :=
  .inl ⟨ad, false, rfl, cell_lt (h w ht).1, (h w ht).2.imp id fun e => ⟨e, rfl⟩⟩

/-- A run of cells. -/
def CellsAt {P : Program} (x : Cx P) (H : Hp) (M : List Res) (ad : Addr) (cs : List Value) : Prop := ∀ j c, cs[j]? = some c → CellAt x H M (ad.add j) c
def HCells (H : Hp) (ad : Addr) (cs : List Value) : Prop := ∀ j c, cs[j]? = some c → HCell H (ad.add j) c
theorem HCells.at {P : Program} {x : Cx P} {H : Hp} {M : List Res} {ad : Addr} {cs : List Value} (h : HCells H ad cs) : CellsAt x H M ad cs := fun j c hc => (h j c hc).at
theorem HCells.mono {H H' : Hp} {ad : Addr} {cs : List Value} (hle : H.le H') (h : HCells H ad cs) : HCells H' ad cs := fun j c hc => (h j c hc).mono hle

theorem own_all {P : Program} {x : Cx P} {H : Hp} {M : List Res} {b : Nat} {l : List Value} {T : TypeId} {fz : Nat × Nat}
    (hm : Res.obj b (.cells l.toArray T fz) ∈ M) : CellsAt x H M ⟨b, 0, none⟩ l := by
  intro j c hc
  rw [Addr.add_lit, Nat.zero_add]
  exact own_at hm hc

theorem run_loadCellsFrom {P : Program} {w : World} {ad : Addr} : ∀ (cs : List Value) (i : Nat) (acc : Array Value), (∀ j c, cs[j]? = some c → w.cell? (ad.add (i + j)) = some c) →
    (loadCellsFrom ad i cs.length acc).run P w = .ok (acc ++ cs.toArray) w
  | [], i, acc, _ => by simp [loadCellsFrom]
  | c :: cs, i, acc, h => by
    have h0 := h 0 c rfl
    simp only [Nat.add_zero] at h0
    have ih := run_loadCellsFrom (P := P) (w := w) (ad := ad) cs (i + 1) (acc.push c) (fun j d hd => by have := h (j + 1) d (by simpa using hd); rwa [show i + (j + 1) = i + 1 + j from by omega] at this)
    simp only [List.length_cons, loadCellsFrom, load, Sem.run_bind, Sem.run, h0, Result.andThen_ok]
    rw [ih]
    simp

theorem events_loadCellsFrom {P : Program} {w : World} {ad : Addr} {Ok : Event → Prop} : ∀ (cs : List Value) (i : Nat) (acc : Array Value) (es : Array Event), (∀ j c, cs[j]? = some c → w.cell? (ad.add (i + j)) = some c ∧ Ok ⟨.cell (ad.add (i + j)), false, false⟩) →
    (∀ e ∈ es, Ok e) → ∀ e ∈ (loadCellsFrom ad i cs.length acc).events P w es, Ok e
  | [], i, acc, es, _, he => by simpa [loadCellsFrom] using he
  | c :: cs, i, acc, es, h, he => by
    have h0 := h 0 c rfl
    simp only [Nat.add_zero] at h0
    have ih := events_loadCellsFrom (P := P) (w := w) (ad := ad) (Ok := Ok) cs (i + 1) (acc.push c) (es.push ⟨.cell (ad.add i), false, false⟩)
      (fun j d hd => by have := h (j + 1) d (by simpa using hd); rwa [show i + (j + 1) = i + 1 + j from by omega] at this)
      (fun e hm => (Array.mem_push.1 hm).elim (he e) fun q => q ▸ h0.2)
    simp only [List.length_cons, loadCellsFrom]
    rw [Sem.events_bind]
    have hr : (load (ad.add i)).run P w = .ok c w := by simp [load, Sem.run, h0.1]
    rw [hr]
    have e0 : (Mode.plain == Mode.atomic) = false := rfl
    simpa [h0.1, e0] using ih

theorem Did.alloc {P : Program} {c : Bs P} (w : World) (o : Obj) : Did c w (w.alloc o) #[] :=
  ⟨rfl, rfl, rfl, by simp [World.size_alloc], fun b hb _ => by have := (World.grownBy_alloc w o none).block b hb (by simp); exact this, by simp⟩

section
variable {P : Program} {x : Cx P} {ops : Array Oper} {Q : Post} {rest : List Oper} {H : Hp} {M M' : List Res} {L L' : Env}
variable {d : Nat} {ty : TypeId} {pos : String} {aft : Array Edge} {g : Option (Nat × Bool)}

theorem W_move {y : Operand} {v : Value} (hg : gd ops L ⟨some d, .move y, ty, pos, aft, g⟩ = some true) (hN : Nat.blt d x.N = true)
    (hy : ev L y = some v) (k : W x ops Q rest H M ((d, v) :: L)) : W x ops Q (⟨some d, .move y, ty, pos, aft, g⟩ :: rest) H M L :=
  W_pure0 rfl hg hN (fun a w hs _ => ⟨by simp [execOp, hs.ev hy], by simp [execOp, hs.ev hy]⟩) k

theorem W_assign {y : Operand} {v : Value} (hg : gd ops L ⟨some d, .assign y, ty, pos, aft, g⟩ = some true) (hN : Nat.blt d x.N = true)
    (hy : ev L y = some v) (k : W x ops Q rest H M ((d, v) :: L)) : W x ops Q (⟨some d, .assign y, ty, pos, aft, g⟩ :: rest) H M L :=
  W_pure0 rfl hg hN (fun a w hs _ => ⟨by simp [execOp, hs.ev hy], by simp [execOp, hs.ev hy]⟩) k

theorem W_pick {c y z : Operand} {b : Bool} {v : Value} (hg : gd ops L ⟨some d, .pick c y z, ty, pos, aft, g⟩ = some true) (hN : Nat.blt d x.N = true)
    (hc : ev L c = some (.bool b)) (hy : (if b then ev L y else ev L z) = some v) (k : W x ops Q rest H M ((d, v) :: L)) :
    W x ops Q (⟨some d, .pick c y z, ty, pos, aft, g⟩ :: rest) H M L :=
  W_pure0 rfl hg hN (fun a w hs _ => by
    refine ⟨?_, ?_⟩
    all_goals
      cases b
      · simp only [Bool.false_eq_true, if_false] at hy; simp [execOp, hs.ev hc, hs.ev hy, asBool]
      · simp only [if_true] at hy; simp [execOp, hs.ev hc, hs.ev hy, asBool]) k

/-- Operators that never fail. -/
def binVal : BinOp → Value → Value → Option Value
  | .add, .int k a, .int k' b => if k = k' then some (.int k (k.wrap (a + b))) else none
  | .sub, .int k a, .int k' b => if k = k' then some (.int k (k.wrap (a - b))) else none
  | .mul, .int k a, .int k' b => if k = k' then some (.int k (k.wrap (a * b))) else none
  | .lss, .int k a, .int k' b => if k = k' then some (.bool (decide (a < b))) else none
  | .leq, .int k a, .int k' b => if k = k' then some (.bool (decide (a ≤ b))) else none
  | .gtr, .int k a, .int k' b => if k = k' then some (.bool (decide (b < a))) else none
  | .geq, .int k a, .int k' b => if k = k' then some (.bool (decide (b ≤ a))) else none
  | .eql, .int k a, .int k' b => if k = k' then some (.bool (decide (a = b))) else none
  | .neq, .int k a, .int k' b => if k = k' then some (.bool (!decide (a = b))) else none
  | .and, .int k a, .int k' b => if k = k' then some (.int k (k.wrap (BitVec.ofInt k.bits a &&& BitVec.ofInt k.bits b).toNat)) else none
  | .or, .int k a, .int k' b => if k = k' then some (.int k (k.wrap (BitVec.ofInt k.bits a ||| BitVec.ofInt k.bits b).toNat)) else none
  | .xor, .int k a, .int k' b => if k = k' then some (.int k (k.wrap (BitVec.ofInt k.bits a ^^^ BitVec.ofInt k.bits b).toNat)) else none
  | .eql, .string s, .string t => some (.bool (decide (s = t)))
  | .neq, .string s, .string t => some (.bool (!decide (s = t)))
  | .lss, .string s, .string t => some (.bool (Op.bytesLess s.toList t.toList))
  | _, _, _ => none

theorem ba_beq (s t : ByteArray) : (s.toList == t.toList) = decide (s = t) := by
  rw [Bool.eq_iff_iff]
  simp only [beq_iff_eq, decide_eq_true_eq]
  constructor
  · intro h
    have hs : ∀ u : ByteArray, u.toList = u.data.toList := ByteArray.toList_eq
    rw [hs, hs] at h
    exact ByteArray.ext (Array.ext' h)
  · intro h; rw [h]

theorem int_beq (a b : Int) : (a == b) = decide (a = b) := by rw [Bool.eq_iff_iff]; simp

theorem ite_none {p : Prop} [Decidable p] {v w : Value} (h : (if p then some v else none) = some w) : p ∧ v = w := by
  split at h
  · exact ⟨‹_›, by simpa using h⟩
  · cases h

theorem binOp_run {op : BinOp} {a b v : Value} (t : TypeId) (P : Program) (w : World) (h : binVal op a b = some v) : (binOp op t a b).run P w = .ok v w := by
  unfold binVal at h
  split at h
  case h_1 | h_2 | h_3 | h_4 | h_5 | h_6 | h_7 | h_8 | h_9 | h_10 | h_11 | h_12 =>
    obtain ⟨rfl, rfl⟩ := ite_none h
    first
      | (simp [binOp, Op.intArith]; done)
      | (simp [binOp, Op.intBits]; done)
      | (simp [binOp, Op.intCmp]; done)
      | (simp [binOp, Op.intCmp, bne, int_beq]; done)
  case h_13 | h_14 | h_15 => cases h; simp [binOp, Op.stringOp, ← ba_beq]
  case h_16 => cases h

theorem eqGuard_run {op : BinOp} {a b v : Value} (t : TypeId) (y z : Operand) (P : Program) (w : World) (h : binVal op a b = some v) : (eqGuard op t y z a b).run P w = .ok () w := by
  unfold binVal at h
  split at h <;> first
    | (simp [eqGuard]; done)
    | (cases h; done)

theorem binOp_ev {op : BinOp} {a b v : Value} (t : TypeId) (P : Program) (w : World) (es : Array Event) (h : binVal op a b = some v) : (binOp op t a b).events P w es = es := by
  unfold binVal at h
  split at h
  case h_1 | h_2 | h_3 | h_4 | h_5 | h_6 | h_7 | h_8 | h_9 | h_10 | h_11 | h_12 =>
    obtain ⟨rfl, rfl⟩ := ite_none h
    first
      | (simp [binOp, Op.intArith]; done)
      | (simp [binOp, Op.intBits]; done)
      | (simp [binOp, Op.intCmp]; done)
      | (simp [binOp, Op.intCmp, bne, int_beq]; done)
  case h_13 | h_14 | h_15 => cases h; simp [binOp, Op.stringOp, ← ba_beq]
  case h_16 => cases h

theorem eqGuard_ev {op : BinOp} {a b v : Value} (t : TypeId) (y z : Operand) (P : Program) (w : World) (es : Array Event) (h : binVal op a b = some v) : (eqGuard op t y z a b).events P w es = es := by
  unfold binVal at h
  split at h <;> first
    | (simp [eqGuard]; done)
    | (cases h; done)

/-- An operation that makes a block. -/
theorem W_new {o : Oper} {d : Nat} {obj : Obj} (hd : o.dst = some d) (hg : gd ops L o = some true) (hN : Nat.blt d x.N = true)
    (hrun : ∀ a w, Sl x.N L a → St x.B x.w0 H M w → (execOp a.eval o).run P w = .ok (.value (.pointer (some ⟨w.heap.size, 0, none⟩))) (w.alloc obj) ∧ (execOp a.eval o).events P w #[] = #[])
    (k : ∀ b, W x ops Q rest H (.obj b obj :: M) ((d, .pointer (some ⟨b, 0, none⟩)) :: L)) (hwg : isWg o = false := by rfl) : W x ops Q (o :: rest) H M L :=
  W_run hd hg hN (hwg := hwg) fun a w hs ht => ⟨_, w.alloc obj, (hrun a w hs ht).1, fun n => ⟨by rw [(hrun a w hs ht).2]; exact Did.alloc _ _, _, _, ht.alloc _ n, k _⟩⟩

theorem W_bin {op : BinOp} {t u : TypeId} {y z : Operand} {a b v : Value} (hg : gd ops L ⟨some d, .binOp op t y z u, ty, pos, aft, g⟩ = some true) (hN : Nat.blt d x.N = true)
    (hy : ev L y = some a) (hz : ev L z = some b) (hv : binVal op a b = some v) (k : W x ops Q rest H M ((d, v) :: L)) :
    W x ops Q (⟨some d, .binOp op t y z u, ty, pos, aft, g⟩ :: rest) H M L :=
  W_pure0 rfl hg hN (fun c w hs _ => by
    refine ⟨?_, ?_⟩
    all_goals
      simp [execOp, hs.ev hy, hs.ev hz, Sem.run_bind, Sem.events_bind, eqGuard_run t y z P w hv, eqGuard_ev t y z P w _ hv, Result.andThen_ok, binOp_run t P w hv, binOp_ev t P w _ hv, Sem.run_pure]) k

theorem W_quo {t u : TypeId} {y z : Operand} {kk : IntKind} {m n : Int} (hg : gd ops L ⟨some d, .binOp .quo t y z u, ty, pos, aft, g⟩ = some true) (hN : Nat.blt d x.N = true)
    (hy : ev L y = some (.int kk m)) (hz : ev L z = some (.int kk n)) (hn : n ≠ 0) (k : W x ops Q rest H M ((d, .int kk (kk.wrap (m.tdiv n))) :: L)) :
    W x ops Q (⟨some d, .binOp .quo t y z u, ty, pos, aft, g⟩ :: rest) H M L :=
  W_pure0 rfl hg hN (fun c w hs _ => by
    refine ⟨?_, ?_⟩
    all_goals
      simp [execOp, hs.ev hy, hs.ev hz, eqGuard, binOp, Op.intDiv, hn]) k

theorem W_rem {t u : TypeId} {y z : Operand} {kk : IntKind} {m n : Int} (hg : gd ops L ⟨some d, .binOp .rem t y z u, ty, pos, aft, g⟩ = some true) (hN : Nat.blt d x.N = true)
    (hy : ev L y = some (.int kk m)) (hz : ev L z = some (.int kk n)) (hn : n ≠ 0) (k : W x ops Q rest H M ((d, .int kk (m.tmod n)) :: L)) :
    W x ops Q (⟨some d, .binOp .rem t y z u, ty, pos, aft, g⟩ :: rest) H M L :=
  W_pure0 rfl hg hN (fun c w hs _ => by
    refine ⟨?_, ?_⟩
    all_goals
      simp [execOp, hs.ev hy, hs.ev hz, eqGuard, binOp, Op.intDiv, hn]) k

def unVal : UnOp → Value → Option Value
  | .neg, .int k n => some (.int k (k.wrap (0 - n)))
  | .not, .bool b => some (.bool !b)
  | .xor, .int k n => some (.int k (k.wrap (BitVec.ofInt k.bits (if k.signed then -1 else k.max) ^^^ BitVec.ofInt k.bits n).toNat))
  | _, _ => none

theorem W_un {op : UnOp} {t : TypeId} {y : Operand} {a v : Value} (hg : gd ops L ⟨some d, .unOp op t y, ty, pos, aft, g⟩ = some true) (hN : Nat.blt d x.N = true)
    (hy : ev L y = some a) (hv : unVal op a = some v) (k : W x ops Q rest H M ((d, v) :: L)) :
    W x ops Q (⟨some d, .unOp op t y, ty, pos, aft, g⟩ :: rest) H M L :=
  W_pure0 rfl hg hN (fun c w hs _ => by
    refine ⟨?_, ?_⟩
    all_goals
      simp only [execOp, hs.ev hy]
      unfold unVal at hv
      split at hv <;> first
        | (cases hv; simp [Op.unary, Op.intArith, Op.intBits]; done)
        | cases hv) k

theorem W_box {T : TypeId} {y : Operand} {v : Value} {cs : List Value} (hg : gd ops L ⟨some d, .box T y, ty, pos, aft, g⟩ = some true) (hN : Nat.blt d x.N = true)
    (hy : ev L y = some v) (hcs : v.cells = cs.toArray)
    (k : ∀ b, W x ops Q rest H (.obj b (.cells cs.toArray T (0, 0)) :: M) ((d, .pointer (some ⟨b, 0, none⟩)) :: L)) :
    W x ops Q (⟨some d, .box T y, ty, pos, aft, g⟩ :: rest) H M L :=
  W_new rfl hg hN (fun c w hs ht => by
    refine ⟨?_, ?_⟩
    · simp only [execOp, hs.ev hy, Instr.box, newVar, newRow, newObj, Sem.run_bind, Sem.run_pure, Sem.run, Result.andThen_ok, hcs, World.alloc]
    · simp [execOp, hs.ev hy, Instr.box, newVar, newRow]) k

theorem W_alloc {T : TypeId} {z : Value} {cs : List Value} (hg : gd ops L ⟨some d, .alloc T, ty, pos, aft, g⟩ = some true) (hN : Nat.blt d x.N = true)
    (hz : ∀ w, (zeroValue T).run x.P w = .ok z w) (hcs : z.cells = cs.toArray)
    (k : ∀ b, W x ops Q rest H (.obj b (.cells cs.toArray T (0, 0)) :: M) ((d, .pointer (some ⟨b, 0, none⟩)) :: L)) (hwg : Nat.beq T TWG = false := by rfl) :
    W x ops Q (⟨some d, .alloc T, ty, pos, aft, g⟩ :: rest) H M L :=
  W_new rfl hg hN (fun c w hs ht => by
    refine ⟨?_, ?_⟩
    · simp only [execOp, Instr.alloc, hz, newVar, newRow, newObj, Sem.run_bind, Sem.run_pure, Sem.run, Result.andThen_ok, hcs, World.alloc]
    · simp [execOp, Instr.alloc, hz, newVar, newRow]) k hwg

theorem W_load {T : TypeId} {y : Operand} {ad : Addr} {v : Value} (hg : gd ops L ⟨some d, .load T y, ty, pos, aft, g⟩ = some true) (hN : Nat.blt d x.N = true)
    (hT : ∀ w, (isAgg T).run x.P w = .ok false w) (hy : ev L y = some (.pointer (some ad))) (hc : CellAt x H M ad v)
    (k : W x ops Q rest H M ((d, v) :: L)) : W x ops Q (⟨some d, .load T y, ty, pos, aft, g⟩ :: rest) H M L :=
  W_read rfl hg hN (fun c w hs ht => by
    refine ⟨?_, ?_⟩
    · simp [execOp, hs.ev hy, Instr.loadAt, Instr.sureAddr, loadVar, hT, load, Sem.run, (hc w ht).1]
    · intro e he
      simp [execOp, hs.ev hy, Instr.loadAt, Instr.sureAddr, loadVar, hT, (hc w ht).1, Sem.events_bind] at he
      rw [he]; exact hc.ev ht) k

theorem W_loadAgg {T : TypeId} {n : Nat} {y : Operand} {ad : Addr} {cs : List Value} (hg : gd ops L ⟨some d, .load T y, ty, pos, aft, g⟩ = some true) (hN : Nat.blt d x.N = true)
    (hT : ∀ w, (isAgg T).run x.P w = .ok true w) (hn : ∀ w, (sizeOf T).run x.P w = .ok n w) (hy : ev L y = some (.pointer (some ad))) (hc : CellsAt x H M ad cs) (hl : cs.length = n)
    (k : W x ops Q rest H M ((d, .agg cs.toArray) :: L)) : W x ops Q (⟨some d, .load T y, ty, pos, aft, g⟩ :: rest) H M L :=
  W_read rfl hg hN (fun c w hs ht => by
    have h := run_loadCellsFrom (P := P) (w := w) (ad := ad) cs 0 #[] (fun j v hv => by rw [Nat.zero_add]; exact (hc j v hv w ht).1)
    have he := events_loadCellsFrom (P := P) (w := w) (ad := ad) (Ok := Ev1 x.w0 w.heap.size) cs 0 #[] #[] (fun j v hv => by rw [Nat.zero_add]; exact ⟨(hc j v hv w ht).1, (hc j v hv).ev ht⟩) (by simp)
    rw [hl] at h he
    refine ⟨?_, ?_⟩
    · simp [execOp, hs.ev hy, Instr.loadAt, Instr.sureAddr, loadVar, hT, hn, loadCells, h]
    · intro e hm
      simp [execOp, hs.ev hy, Instr.loadAt, Instr.sureAddr, loadVar, hT, hn, loadCells, h, Sem.events_bind] at hm
      exact he e hm) k

theorem W_field {T : TypeId} {y : Operand} {ad : Addr} {f n o : Nat} {fs : Array Field} {fd : Field} (hg : gd ops L ⟨some d, .fieldAddr T y f, ty, pos, aft, g⟩ = some true) (hN : Nat.blt d x.N = true)
    (hT : ∀ w, (underlying T).run x.P w = .ok (.struct fs) w) (hf : fs[f]? = some fd) (hn : ∀ w, (sizeOf fd.type).run x.P w = .ok n w) (hn0 : Nat.beq n 0 = false) (ho : fd.offset = o)
    (hy : ev L y = some (.pointer (some ad))) (k : W x ops Q rest H M ((d, .pointer (some (ad.add o))) :: L)) :
    W x ops Q (⟨some d, .fieldAddr T y f, ty, pos, aft, g⟩ :: rest) H M L :=
  W_pure0 rfl hg hN (fun c w hs ht => by
    refine ⟨?_, ?_⟩
    all_goals
      have h0 : ¬ n = 0 := fun e => by subst e; simp at hn0
      simp [execOp, hs.ev hy, Instr.fieldAt, hT, hf, Instr.sureAddr, fieldPlace, hn, h0, ho]) k

theorem W_nilCheck {y : Operand} {ad : Addr} (hg : gd ops L ⟨some d, .nilCheck y, ty, pos, aft, g⟩ = some true) (hN : Nat.blt d x.N = true)
    (hy : ev L y = some (.pointer (some ad))) (k : W x ops Q rest H M ((d, .pointer (some ad)) :: L)) :
    W x ops Q (⟨some d, .nilCheck y, ty, pos, aft, g⟩ :: rest) H M L :=
  W_pure0 rfl hg hN (fun c w hs ht => ⟨by simp [execOp, hs.ev hy], by simp [execOp, hs.ev hy]⟩) k

theorem W_extract {y : Operand} {vs : Array Value} {i : Nat} {v : Value} (hg : gd ops L ⟨some d, .extract y i, ty, pos, aft, g⟩ = some true) (hN : Nat.blt d x.N = true)
    (hy : ev L y = some (.tuple vs)) (hv : vs[i]? = some v) (k : W x ops Q rest H M ((d, v) :: L)) :
    W x ops Q (⟨some d, .extract y i, ty, pos, aft, g⟩ :: rest) H M L :=
  W_pure0 rfl hg hN (fun c w hs ht => ⟨by simp [execOp, hs.ev hy, Instr.extract, hv], by simp [execOp, hs.ev hy, Instr.extract, hv]⟩) k

theorem W_min {y z : Operand} {tys : Array TypeId} {kk : IntKind} {m n : Int} (hg : gd ops L ⟨some d, .call ⟨.builtin .min, #[y, z], tys⟩, ty, pos, aft, g⟩ = some true) (hN : Nat.blt d x.N = true)
    (hy : ev L y = some (.int kk m)) (hz : ev L z = some (.int kk n)) (k : W x ops Q rest H M ((d, .int kk (min m n)) :: L)) :
    W x ops Q (⟨some d, .call ⟨.builtin .min, #[y, z], tys⟩, ty, pos, aft, g⟩ :: rest) H M L :=
  W_pure0 rfl hg hN (fun c w hs ht => by
    refine ⟨?_, ?_⟩
    all_goals
      have : (if n < m then n else m) = min m n := by rw [Int.min_def]; split <;> split <;> omega
      simp [execOp, resolve, invoke, builtin, hs.ev hy, hs.ev hz, Builtin.min_, Builtin.min2, this]) k

theorem W_max {y z : Operand} {tys : Array TypeId} {kk : IntKind} {m n : Int} (hg : gd ops L ⟨some d, .call ⟨.builtin .max, #[y, z], tys⟩, ty, pos, aft, g⟩ = some true) (hN : Nat.blt d x.N = true)
    (hy : ev L y = some (.int kk m)) (hz : ev L z = some (.int kk n)) (k : W x ops Q rest H M ((d, .int kk (max m n)) :: L)) :
    W x ops Q (⟨some d, .call ⟨.builtin .max, #[y, z], tys⟩, ty, pos, aft, g⟩ :: rest) H M L :=
  W_pure0 rfl hg hN (fun c w hs ht => by
    refine ⟨?_, ?_⟩
    all_goals
      have : (if n > m then n else m) = max m n := by rw [Int.max_def]; split <;> split <;> omega
      simp [execOp, resolve, invoke, builtin, hs.ev hy, hs.ev hz, Builtin.max_, Builtin.max2, this]) k

theorem W_lenS {t e : TypeId} {y : Operand} {a : Option Addr} {m n : Nat} (hg : gd ops L ⟨some d, .call ⟨.builtin .len, #[y], #[t]⟩, ty, pos, aft, g⟩ = some true) (hN : Nat.blt d x.N = true)
    (hT : ∀ w, (underlying t).run x.P w = .ok (.slice e) w) (hy : ev L y = some (.slice a n m)) (k : W x ops Q rest H M ((d, .int .i64 n) :: L)) :
    W x ops Q (⟨some d, .call ⟨.builtin .len, #[y], #[t]⟩, ty, pos, aft, g⟩ :: rest) H M L :=
  W_pure0 rfl hg hN (fun c w hs ht => by
    refine ⟨?_, ?_⟩
    all_goals
      simp [execOp, resolve, invoke, builtin, hs.ev hy, Builtin.len_, hT, goInt]) k

theorem W_lenStr {t : TypeId} {y : Operand} {s : ByteArray} (hg : gd ops L ⟨some d, .call ⟨.builtin .len, #[y], #[t]⟩, ty, pos, aft, g⟩ = some true) (hN : Nat.blt d x.N = true)
    (hT : ∀ w, (underlying t).run x.P w = .ok .string w) (hy : ev L y = some (.string s)) (k : W x ops Q rest H M ((d, .int .i64 s.size) :: L)) :
    W x ops Q (⟨some d, .call ⟨.builtin .len, #[y], #[t]⟩, ty, pos, aft, g⟩ :: rest) H M L :=
  W_pure0 rfl hg hN (fun c w hs ht => by
    refine ⟨?_, ?_⟩
    all_goals
      simp [execOp, resolve, invoke, builtin, hs.ev hy, Builtin.len_, hT, goInt]) k

theorem W_indexA {t e : TypeId} {sz : Nat} {y z : Operand} {ad : Addr} {n m : Nat} {kk : IntKind} {i : Int} (hg : gd ops L ⟨some d, .indexAddr t y z, ty, pos, aft, g⟩ = some true) (hN : Nat.blt d x.N = true)
    (hT : ∀ w, (underlying t).run x.P w = .ok (.slice e) w) (hs : ∀ w, (sizeOf e).run x.P w = .ok sz w)
    (hy : ev L y = some (.slice (some ad) n m)) (hz : ev L z = some (.int kk i)) (h0 : 0 ≤ i) (h1 : i.toNat < n)
    (k : W x ops Q rest H M ((d, .pointer (some (ad.add (i.toNat * sz)))) :: L)) :
    W x ops Q (⟨some d, .indexAddr t y z, ty, pos, aft, g⟩ :: rest) H M L :=
  W_pure0 rfl hg hN (fun c w hsl ht => by
    refine ⟨?_, ?_⟩
    all_goals
      have h1' : i < (n : Int) := by omega
      simp [execOp, hsl.ev hy, hsl.ev hz, Instr.indexAt, asIntOf, hT, hs, h0, h1']) k
end
end Go.Sim
end
