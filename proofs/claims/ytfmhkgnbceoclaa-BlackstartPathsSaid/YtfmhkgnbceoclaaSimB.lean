/-
  The calculus: one rule for each operation, on symbolic states (slot facts L, owned resources M, heap facts H).
-/
import Derived.Test.YtfmhkgnbceoclaaSimA
namespace Go.Sim
open Go Go.RowKit

abbrev Env := List (Nat × Value)
def lk : Env → Nat → Option Value
  | [], _ => none
  | (t, v) :: r, u => bif Nat.beq t u then some v else lk r u

structure Sl (N : Nat) (L : Env) (a : Act) : Prop where
  size : a.tmps.size = N
  dfr : a.defers = []
  get : ∀ t v, lk L t = some v → a.tmps[t]? = some v

theorem lk_cons (t : Nat) (v : Value) (r : Env) (u : Nat) : lk ((t, v) :: r) u = if t = u then some v else lk r u := by
  show (bif Nat.beq t u then some v else lk r u) = _
  by_cases h : t = u
  · subst h; simp
  · have : Nat.beq t u = false := by
      cases hb : Nat.beq t u with
      | false => rfl
      | true => exact absurd (Nat.eq_of_beq_eq_true hb) h
    simp [this, h]

theorem Sl.put {N : Nat} {L : Env} {a : Act} {d : Nat} {v : Value} (h : Sl N L a) (hd : Nat.blt d N = true) : Sl N ((d, v) :: L) (a.put (some d) v) := by
  have hd' : d < N := by simpa [Nat.blt_eq] using hd
  refine ⟨by simp [Act.put, h.size], h.dfr, fun t u ht => ?_⟩
  rw [lk_cons] at ht
  simp only [Act.put, Array.getElem?_setIfInBounds]
  by_cases e : d = t
  · subst e
    simp only [if_true, Option.some.injEq] at ht
    subst ht
    simp [h.size, hd']
  · simp only [if_neg e] at ht ⊢
    exact h.get t u ht

/-- Facts that follow. -/
def Kept (L : Env) : Env → Prop
  | [] => True
  | (t, v) :: r => lk L t = some v ∧ Kept L r

theorem Kept.lk {L : Env} : ∀ {L' : Env}, Kept L L' → ∀ t v, lk L' t = some v → lk L t = some v
  | [], _, t, v, h => by simp [Sim.lk] at h
  | (u, x) :: r, hk, t, v, h => by
    rw [lk_cons] at h
    split at h
    · rename_i e; subst e; cases h; exact hk.1
    · exact Kept.lk hk.2 t v h

theorem Sl.keep {N : Nat} {L L' : Env} {a : Act} (h : Sl N L a) (hk : Kept L L') : Sl N L' a :=
  ⟨h.size, h.dfr, fun t v ht => h.get t v (hk.lk t v ht)⟩

/-- An operand's value. -/
def ev (L : Env) : Operand → Option Value
  | .tmp t => lk L t
  | .const v => some v
  | .func f => some (.func (.func f) #[] #[])
  | .global g => some (.pointer (some ⟨g, 0, none⟩))

theorem Sl.ev {N : Nat} {L : Env} {a : Act} (h : Sl N L a) {x : Operand} {v : Value} (hx : Sim.ev L x = some v) : a.eval x = v := by
  cases x with
  | tmp t => simp [Act.eval, Array.getD_eq_getD_getElem?, h.get t v hx]
  | const u => simpa [Sim.ev, Act.eval] using hx
  | func f => simpa [Sim.ev, Act.eval] using hx
  | global g => simpa [Sim.ev, Act.eval] using hx

/-- Whether an operation's guard lets it run. -/
def gd (ops : Array Oper) (L : Env) (o : Oper) : Option Bool :=
  match o.guard with
  | none => some true
  | some (j, want) =>
    match (ops[j]?).bind (·.dst) with
    | none => none
    | some t => match lk L t with
      | some (.bool b) => some (b == want)
      | some (.tuple _) => some false
      | _ => none

theorem Sl.gd {N : Nat} {L : Env} {a : Act} (h : Sl N L a) {ops : Array Oper} {o : Oper} {c : Bool} (hg : Sim.gd ops L o = some c) : Region.wanted o (yielded ops a.tmps) = c := by
  unfold Sim.gd at hg
  unfold Region.wanted
  cases ho : o.guard with
  | none => simp only [ho, Option.some.injEq] at hg; simp [← hg]
  | some p =>
    obtain ⟨j, want⟩ := p
    simp only [ho] at hg
    cases hd : (ops[j]?).bind (·.dst) with
    | none => simp [hd] at hg
    | some t =>
      simp only [hd] at hg
      cases hl : lk L t with
      | none => simp [hl] at hg
      | some v =>
        cases v with
        | bool b =>
          simp only [hl, Option.some.injEq] at hg
          have := h.get t _ hl
          simp [yielded, hd, this, ← hg]
        | tuple vs =>
          simp only [hl, Option.some.injEq] at hg
          have := h.get t _ hl
          simp [yielded, hd, this, ← hg]
        | _ => simp [hl] at hg

structure Cx where
  P : Program
  N : Nat
  B : Nat
  w0 : World

abbrev Post := Exit → Act → World → Prop

def W (x : Cx) (ops : Array Oper) (Q : Post) (rest : List Oper) (H : Hp) (M : List Res) (L : Env) : Prop :=
  ∀ a w, Sl x.N L a → St x.B x.w0 H M w → wpList x.P ops Q rest a w
def C (x : Cx) (c : Code) (Q : Post) (H : Hp) (M : List Res) (L : Env) : Prop :=
  ∀ a w, Sl x.N L a → St x.B x.w0 H M w → c.wp x.P Q a w
/-- A post at one exit. -/
def E (x : Cx) (e : Exit) (Q : Post) (H : Hp) (M : List Res) (L : Env) : Prop :=
  ∀ a w, Sl x.N L a → St x.B x.w0 H M w → Q e a w

section
variable {x : Cx} {ops : Array Oper} {Q : Post} {rest : List Oper} {H : Hp} {M M' : List Res} {L L' : Env}

theorem C_seq {c d : Code} (k : C x c (Exit.then (d.wp x.P Q) Q) H M L) : C x (.seq c d) Q H M L :=
  fun a w hs ht => wp_seq (k a w hs ht)
theorem C_skip (k : E x .normal Q H M L) : C x .skip Q H M L := fun a w hs ht => wp_skip (k a w hs ht)
theorem C_exit {id : Nat} (k : E x (.exit id) Q H M L) : C x (.exit id) Q H M L := fun a w hs ht => wp_exit (k a w hs ht)
theorem C_ret (k : E x .ret Q H M L) : C x .ret Q H M L := fun a w hs ht => wp_ret (k a w hs ht)
theorem C_block {id : Nat} {c : Code} (k : C x c (Exit.inBlock id Q) H M L) : C x (.block id c) Q H M L :=
  fun a w hs ht => wp_block (k a w hs ht)
theorem C_cond {c : Operand} {p q : Code} {b : Bool} (hb : ev L c = some (.bool b)) (k1 : b = true → C x p Q H M L) (k2 : b = false → C x q Q H M L) :
    C x (.cond c p q) Q H M L :=
  fun a w hs ht => wp_cond_split (hs.ev hb) (fun e => k1 e a w hs ht) (fun e => k2 e a w hs ht)
theorem C_region {id : Nat} {l : List Oper} (k : W x l.toArray Q l H M L) : C x (.region id l.toArray false) Q H M L :=
  fun a w hs ht => wp_region_lit (k a w hs ht)
theorem W_end (k : E x .normal Q H M L) : W x ops Q [] H M L := fun a w hs ht => wpList_nil (k a w hs ht)
theorem E_then {d : Code} {Q' : Post} (k : C x d Q' H M L) : E x .normal (Exit.then (d.wp x.P Q') Q) H M L := fun a w hs ht => k a w hs ht

theorem C_keep {c : Code} (hL : Kept L L') (hM : M.Perm M') (k : C x c Q H M' L') : C x c Q H M L :=
  fun a w hs ht => k a w (hs.keep hL) (ht.perm hM)
theorem E_keep {e : Exit} (hL : Kept L L') (hM : M.Perm M') (k : E x e Q H M' L') : E x e Q H M L :=
  fun a w hs ht => k a w (hs.keep hL) (ht.perm hM)
theorem W_keep (hL : Kept L L') (hM : M.Perm M') (k : W x ops Q rest H M' L') : W x ops Q rest H M L :=
  fun a w hs ht => k a w (hs.keep hL) (ht.perm hM)
theorem C_drop {c : Code} (hM : M'.Sublist M) (k : C x c Q H M' L) : C x c Q H M L := fun a w hs ht => k a w hs (ht.sub hM)
theorem E_drop {e : Exit} (hM : M'.Sublist M) (k : E x e Q H M' L) : E x e Q H M L := fun a w hs ht => k a w hs (ht.sub hM)
theorem W_drop (hM : M'.Sublist M) (k : W x ops Q rest H M' L) : W x ops Q rest H M L := fun a w hs ht => k a w hs (ht.sub hM)
theorem W_perm (hM : M.Perm M') (k : W x ops Q rest H M' L) : W x ops Q rest H M L := fun a w hs ht => k a w hs (ht.perm hM)

/-- The general step: an operation that yields a value and leaves a state. -/
theorem W_run {o : Oper} {d : Nat} (hd : o.dst = some d) (hg : gd ops L o = some true) (hN : Nat.blt d x.N = true)
    (hrun : ∀ a w, Sl x.N L a → St x.B x.w0 H M w → ∃ v w', (execOp a.eval o).run x.P w = .ok (.value v) w' ∧ ∃ H' M', St x.B x.w0 H' M' w' ∧ W x ops Q rest H' M' ((d, v) :: L)) :
    W x ops Q (o :: rest) H M L := by
  intro a w hs ht
  obtain ⟨v, w', hr, H', M', ht', k⟩ := hrun a w hs ht
  refine wpList_step fun K hK => ?_
  rw [if_pos (hs.gd hg)]
  unfold Oper.wp
  rw [hr]
  simp only [Oper.upon, hd]
  exact hK _ _ (k _ _ (hs.put hN) ht')

/-- A step that leaves the world alone. -/
theorem W_pure {o : Oper} {d : Nat} {v : Value} (hd : o.dst = some d) (hg : gd ops L o = some true) (hN : Nat.blt d x.N = true)
    (hrun : ∀ a w, Sl x.N L a → St x.B x.w0 H M w → (execOp a.eval o).run x.P w = .ok (.value v) w) (k : W x ops Q rest H M ((d, v) :: L)) :
    W x ops Q (o :: rest) H M L :=
  W_run hd hg hN fun a w hs ht => ⟨v, w, hrun a w hs ht, H, M, ht, k⟩

/-- The guard says no. -/
theorem W_no {o : Oper} {d : Nat} (hd : o.dst = some d) (hg : gd ops L o = some false) (hN : Nat.blt d x.N = true) (k : W x ops Q rest H M ((d, undef) :: L)) :
    W x ops Q (o :: rest) H M L := by
  intro a w hs ht
  refine wpList_step fun K hK => ?_
  rw [if_neg (by rw [hs.gd hg]; simp), hd]
  exact hK _ _ (k _ _ (hs.put hN) ht)

/-- The guard says no, at an operation without a slot. -/
theorem W_no_ {o : Oper} (hd : o.dst = none) (hg : gd ops L o = some false) (k : W x ops Q rest H M L) : W x ops Q (o :: rest) H M L := by
  intro a w hs ht
  refine wpList_step fun K hK => ?_
  rw [if_neg (by rw [hs.gd hg]; simp), hd]
  exact hK _ _ (k _ _ hs ht)

/-- A step that yields nothing (a store). -/
theorem W_skip {o : Oper} (hd : o.dst = none) (hg : gd ops L o = some true)
    (hrun : ∀ a w, Sl x.N L a → St x.B x.w0 H M w → ∃ w', (execOp a.eval o).run x.P w = .ok .skip w' ∧ ∃ H' M', St x.B x.w0 H' M' w' ∧ W x ops Q rest H' M' L) :
    W x ops Q (o :: rest) H M L := by
  intro a w hs ht
  obtain ⟨w', hr, H', M', ht', k⟩ := hrun a w hs ht
  refine wpList_step fun K hK => ?_
  rw [if_pos (hs.gd hg)]
  unfold Oper.wp
  rw [hr]
  simp only [Oper.upon, hd]
  exact hK _ _ (k _ _ hs ht')

/-- What a call hands back: a value and a state. -/
def Ret (B : Nat) (w0 : World) (Φ : Hp → List Res → Value → Prop) : Ending → World → Prop
  | .returned v, w' => ∃ H' M', St B w0 H' M' w' ∧ Φ H' M' v
  | _, _ => False

theorem mapM_ev {L : Env} {a : Act} {N : Nat} (hs : Sl N L a) {args : Array Operand} {vs : Array Value} (hv : args.mapM (ev L) = some vs) : args.map a.eval = vs := by
  have hl : ∀ (l : List Operand) (us : List Value), l.mapM (ev L) = some us → l.map a.eval = us := by
    intro l
    induction l with
    | nil => intro us h; simp at h; simp [h]
    | cons y l ih =>
      intro us h
      simp only [List.mapM_cons, Option.bind_eq_bind, Option.bind_eq_some_iff, Option.pure_def, Option.some.injEq] at h
      obtain ⟨v, hv, vs', hvs, rfl⟩ := h
      simp [hs.ev hv, ih vs' hvs]
  have h2 : args.toList.mapM (ev L) = some vs.toList := by
    have := congrArg (Option.map Array.toList) hv
    rw [Array.mapM_eq_mapM_toList] at this
    cases hh : args.toList.mapM (ev L) with
    | none => rw [hh] at this; simp at this
    | some us => rw [hh] at this; simp at this; rw [← this]
  have := hl _ _ h2
  apply Array.ext'
  simpa using this

/-- The operands' values, as a list. -/
def evs (L : Env) : List Operand → Option (List Value)
  | [] => some []
  | y :: r => match ev L y, evs L r with
    | some v, some vs => some (v :: vs)
    | _, _ => none

theorem Sl.evs {L : Env} {a : Act} {N : Nat} (hs : Sl N L a) : ∀ {l : List Operand} {vs : List Value}, Sim.evs L l = some vs → l.map a.eval = vs
  | [], vs, h => by simp [Sim.evs] at h; simp [h]
  | y :: r, vs, h => by
    simp only [Sim.evs] at h
    cases h1 : Sim.ev L y with
    | none => simp [h1] at h
    | some v =>
      cases h2 : Sim.evs L r with
      | none => simp [h1, h2] at h
      | some us =>
        simp only [h1, h2, Option.some.injEq] at h
        subst h
        simp [hs.ev h1, Sl.evs hs h2]

/-- A call of a Go function. -/
theorem W_call {d : Nat} {f : FuncId} {args : List Operand} {tys : Array TypeId} {ty : TypeId} {pos : String} {aft : Array Edge} {g : Option (Nat × Bool)} {vs : List Value}
    {Φ : Hp → List Res → Value → Prop}
    (hcall : ∀ as w, (callFunc f as).run x.P w = .ok (.enter f as) w)
    (hg : gd ops L ⟨some d, .call ⟨.value (.func f), args.toArray, tys⟩, ty, pos, aft, g⟩ = some true) (hN : Nat.blt d x.N = true)
    (hv : evs L args = some vs)
    (hc : ∀ w, St x.B x.w0 H M w → Calls x.P f vs.toArray w (Ret x.B x.w0 Φ))
    (k : ∀ v H' M', Φ H' M' v → W x ops Q rest H' M' ((d, v) :: L)) :
    W x ops Q (⟨some d, .call ⟨.value (.func f), args.toArray, tys⟩, ty, pos, aft, g⟩ :: rest) H M L := by
  intro a w hs ht
  refine wpList_step fun K hK => ?_
  rw [if_pos (hs.gd hg)]
  have hargs : args.toArray.map a.eval = vs.toArray := by simp [hs.evs hv]
  have hr : (execOp a.eval ⟨some d, .call ⟨.value (.func f), args.toArray, tys⟩, ty, pos, aft, g⟩).run x.P w = .ok (.enter f vs.toArray) w := by
    simp only [execOp, resolve, hargs, Act.eval, Deferred.ofValue, Sem.run_bind, Sem.run_pure, Result.andThen_ok, invoke]
    simp [hcall]
  unfold Oper.wp
  rw [hr]
  simp only [Oper.upon]
  refine (hc w ht).mono fun e w' he => ?_
  cases e with
  | returned v =>
    obtain ⟨H', M', h1, h2⟩ := he
    exact hK _ _ (k v H' M' h2 _ _ (hs.put hN) h1)
  | panicked c => exact he.elim
  | outgrown => exact he.elim
end
end Go.Sim
