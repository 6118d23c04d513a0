/-
  What is lent for the time of a call comes back; function values; shifts; strings.
-/
import Derived.Test.YtfmhkgnbceoclaaSimP
namespace Go.Sim
open Go Go.RowKit
set_option linter.unusedVariables false
set_option linter.unusedSimpArgs false
set_option linter.unusedSectionVars false
set_option linter.unnecessarySimpa false

/-! ### Lending -/
section
variable {B : Nat} {w0 w : World} {H : Hp} {M : List Res}

/-- An owned row is lent: it reads, and comes back. -/
theorem St.lendRow {α : Type} [Rep α] {v : Value} {T : TypeId} {n : Nat} {xs : List Value} {ys : List α}
    (h : St B w0 H (.row v T (Rep.sz α) n xs :: M) w) (hx : Rw H v xs ys) (hs : Nat.blt 0 (Rep.sz α) = true) :
    ∃ H', H.le H' ∧ St B w0 H' M w ∧ RdS H' v ys ∧ ∀ M' w', St B w0 H' M' w' → St B w0 H (.row v T (Rep.sz α) n xs :: M') w' := by
  have hs' : 0 < Rep.sz α := by simpa [Nat.blt_eq] using hs
  have hok := h.ok _ (List.mem_cons_self ..)
  have hlo := h.lo _ (List.mem_cons_self ..)
  obtain ⟨hl, hh⟩ := hok
  have hn : n = ys.length := by
    have := hx.rd.len
    rw [hl] at this
    exact Nat.eq_of_mul_eq_mul_right hs' this
  subst hn
  rcases hh with ⟨rfl, h0⟩ | ⟨g, off, cap, cur, rfl, hg, hnc, hcm, hcs, htake⟩
  · refine ⟨H, Hp.le_refl _, h.tail, .inl ⟨⟨_, rfl⟩, List.eq_nil_of_length_eq_zero h0⟩, fun M' w' h' => ?_⟩
    have hx0 : xs = [] := List.eq_nil_of_length_eq_zero (by rw [hl, h0, Nat.zero_mul])
    rw [h0, hx0]
    exact h'.nilRow T _
  · have h' : St B w0 H (.obj g (.cells cur T (0, 0)) :: M) w := by
      refine ⟨h.below, h.le, h.hin, ?_, ?_, h.nd⟩
      · intro r hr
        rcases List.mem_cons.1 hr with rfl | hr
        · exact hg
        · exact h.tail.ok r hr
      · intro r hr
        rcases List.mem_cons.1 hr with rfl | hr
        · exact hlo
        · exact h.tail.lo r hr
    obtain ⟨hle, hst⟩ := h'.freeze
    refine ⟨_, hle, hst, .inr ⟨g, off, cap, cur, T, (0, 0), rfl, hnc, hcm, Hp.add_self _ _ _, hcs, ?_⟩, fun M' w' hb => ?_⟩
    · intro k e he
      obtain ⟨c, h1, h2⟩ := (hx.rd.mono hle).get k e he
      refine ⟨c, h1, fun j d hd => ?_⟩
      have := h2 j d hd
      rw [← htake, List.getElem?_take] at this
      split at this
      · rw [List.getElem?_drop] at this; simpa [Nat.add_assoc] using this
      · cases this
    · have ht := St.thaw (H := H) hb (hlo g rfl).1 hle (hlo g rfl).2 (Hp.add_self _ _ _)
      refine ⟨ht.below, ht.le, ht.hin, ?_, ?_, ht.nd⟩
      · intro r hr
        rcases List.mem_cons.1 hr with rfl | hr
        · exact ⟨hl, .inr ⟨g, off, cap, cur, rfl, ht.ok _ (List.mem_cons_self ..), hnc, hcm, hcs, htake⟩⟩
        · exact ht.tail.ok r hr
      · intro r hr
        rcases List.mem_cons.1 hr with rfl | hr
        · exact ht.lo (.obj g _) (List.mem_cons_self ..)
        · exact ht.tail.lo r hr

/-- What was lent comes back behind a call that adds no facts. -/
theorem lend_back {P : Program} {f : FuncId} {args : Array Value} {H1 : Hp} {r : Res} {φ : List Res → Value → Prop}
    (back : ∀ M' w', St B w0 H1 M' w' → St B w0 H (r :: M') w') (h : Calls P f args w (Ret B w0 fun H' M' v => H1 = H' ∧ φ M' v)) :
    Calls P f args w (Ret B w0 fun H' M' v => H = H' ∧ ∃ M2, r :: M2 = M' ∧ φ M2 v) :=
  h.mono fun e w' he => by
    cases e with
    | returned v =>
      obtain ⟨H2, M', h1, h2, h3⟩ := he
      subst h2
      exact ⟨H, r :: M', back M' w' h1, rfl, M', rfl, h3⟩
    | panicked c => exact he
    | outgrown => exact he
end

section
variable {x : Cx} {ops : Array Oper} {Q : Post} {rest : List Oper} {H : Hp} {M M' : List Res} {L L' : Env}
variable {d : Nat} {ty : TypeId} {pos : String} {aft : Array Edge} {g : Option (Nat × Bool)}

/-! ### Function values -/
theorem W_makeFunc {fn : Fn} {first caps : List Operand} {vs cs : List Value} (hg : gd ops L ⟨some d, .makeFunc fn first.toArray caps.toArray, ty, pos, aft, g⟩ = some true) (hN : Nat.blt d x.N = true)
    (hv : evs L first = some vs) (hc : evs L caps = some cs) (k : W x ops Q rest H M ((d, .func fn vs.toArray cs.toArray) :: L)) :
    W x ops Q (⟨some d, .makeFunc fn first.toArray caps.toArray, ty, pos, aft, g⟩ :: rest) H M L :=
  W_pure rfl hg hN (fun a w hs _ => by simp [execOp, Instr.makeFunc, hs.evs hv, hs.evs hc]) k

/-- A call of a function value. -/
theorem W_callv {d : Nat} {y : Operand} {f : FuncId} {args : List Operand} {tys : Array TypeId} {vs fs cs : List Value}
    {Φ : Hp → List Res → Value → Prop}
    (hcall : ∀ as w, (callFunc f as).run x.P w = .ok (.enter f as) w)
    (hg : gd ops L ⟨some d, .call ⟨.value y, args.toArray, tys⟩, ty, pos, aft, g⟩ = some true) (hN : Nat.blt d x.N = true)
    (hy : ev L y = some (.func (.func f) fs.toArray cs.toArray)) (hv : evs L args = some vs)
    (hc : ∀ w, St x.B x.w0 H M w → Calls x.P f (fs ++ vs ++ cs).toArray w (Ret x.B x.w0 Φ))
    (k : ∀ v H' M', Φ H' M' v → W x ops Q rest H' M' ((d, v) :: L)) :
    W x ops Q (⟨some d, .call ⟨.value y, args.toArray, tys⟩, ty, pos, aft, g⟩ :: rest) H M L := by
  intro a w hs ht
  refine wpList_step fun K hK => ?_
  rw [if_pos (hs.gd hg)]
  have hargs : args.toArray.map a.eval = vs.toArray := by simp [hs.evs hv]
  have hr : (execOp a.eval ⟨some d, .call ⟨.value y, args.toArray, tys⟩, ty, pos, aft, g⟩).run x.P w = .ok (.enter f (fs ++ vs ++ cs).toArray) w := by
    simp only [execOp, resolve, hargs, hs.ev hy, Deferred.ofValue, Sem.run_bind, Sem.run_pure, Result.andThen_ok, invoke]
    simp [hcall]
  unfold Oper.wp
  rw [hr]
  simp only [Oper.upon]
  refine (hc w ht).mono fun e w' he => ?_
  cases e with
  | returned v =>
    obtain ⟨H', M', h1, h2⟩ := he
    exact hK _ _ (k v H' M' h2 _ _ (hs.put hN) h1)
  | panicked c => exact he.elim
  | outgrown => exact he.elim

/-! ### Shifts -/
def shlV (k : IntKind) (a b : Int) : Int := k.wrap (a * 2 ^ (min b.toNat k.bits))
def shrV (k : IntKind) (a b : Int) : Int := a.fdiv (2 ^ (min b.toNat k.bits))
theorem W_shl {t u : TypeId} {y z : Operand} {k k2 : IntKind} {a b : Int} (hg : gd ops L ⟨some d, .binOp .shl t y z u, ty, pos, aft, g⟩ = some true) (hN : Nat.blt d x.N = true)
    (hy : ev L y = some (.int k a)) (hz : ev L z = some (.int k2 b)) (hb : 0 ≤ b) (kk : W x ops Q rest H M ((d, .int k (shlV k a b)) :: L)) :
    W x ops Q (⟨some d, .binOp .shl t y z u, ty, pos, aft, g⟩ :: rest) H M L :=
  W_pure rfl hg hN (fun c w hs _ => by
    have : ¬ b < 0 := by omega
    simp [execOp, hs.ev hy, hs.ev hz, eqGuard, binOp, Op.shift, this, shlV]) kk
theorem W_shr {t u : TypeId} {y z : Operand} {k k2 : IntKind} {a b : Int} (hg : gd ops L ⟨some d, .binOp .shr t y z u, ty, pos, aft, g⟩ = some true) (hN : Nat.blt d x.N = true)
    (hy : ev L y = some (.int k a)) (hz : ev L z = some (.int k2 b)) (hb : 0 ≤ b) (kk : W x ops Q rest H M ((d, .int k (shrV k a b)) :: L)) :
    W x ops Q (⟨some d, .binOp .shr t y z u, ty, pos, aft, g⟩ :: rest) H M L :=
  W_pure rfl hg hN (fun c w hs _ => by
    have : ¬ b < 0 := by omega
    simp [execOp, hs.ev hy, hs.ev hz, eqGuard, binOp, Op.shift, this, shrV]) kk

/-! ### Numbers -/
theorem W_convInt {t u : TypeId} {y : Operand} {k k2 : IntKind} {n : Int} (hg : gd ops L ⟨some d, .convert t u y, ty, pos, aft, g⟩ = some true) (hN : Nat.blt d x.N = true)
    (ht : ∀ w, (underlying t).run x.P w = .ok (.int k2) w) (hu : ∀ w, (underlying u).run x.P w = .ok (.int k) w) (hy : ev L y = some (.int k2 n))
    (kk : W x ops Q rest H M ((d, .int k (k.wrap n)) :: L)) :
    W x ops Q (⟨some d, .convert t u y, ty, pos, aft, g⟩ :: rest) H M L :=
  W_pure rfl hg hN (fun c w hs _ => by simp [execOp, hs.ev hy, convert, ht, hu, Conv.intToInt]) kk
theorem W_convStr {t u : TypeId} {y : Operand} {s : ByteArray} (hg : gd ops L ⟨some d, .convert t u y, ty, pos, aft, g⟩ = some true) (hN : Nat.blt d x.N = true)
    (ht : ∀ w, (underlying t).run x.P w = .ok .string w) (hu : ∀ w, (underlying u).run x.P w = .ok .string w) (hy : ev L y = some (.string s))
    (kk : W x ops Q rest H M ((d, .string s) :: L)) :
    W x ops Q (⟨some d, .convert t u y, ty, pos, aft, g⟩ :: rest) H M L :=
  W_pure rfl hg hN (fun c w hs _ => by simp [execOp, hs.ev hy, convert, ht, hu]) kk

/-! ### Strings -/
theorem W_addStr {t u : TypeId} {y z : Operand} {a b : ByteArray} (hg : gd ops L ⟨some d, .binOp .add t y z u, ty, pos, aft, g⟩ = some true) (hN : Nat.blt d x.N = true)
    (hy : ev L y = some (.string a)) (hz : ev L z = some (.string b)) (hb : a.size + b.size ≤ maxLen) (kk : W x ops Q rest H M ((d, .string (a ++ b)) :: L)) :
    W x ops Q (⟨some d, .binOp .add t y z u, ty, pos, aft, g⟩ :: rest) H M L :=
  W_pure rfl hg hN (fun c w hs _ => by
    have : ¬ (((a.size + b.size : Nat) : Int) > IntKind.i64.max) := by
      simp only [IntKind.max, IntKind.signed, IntKind.bits]; unfold maxLen at hb; simp; omega
    simp only [execOp, hs.ev hy, hs.ev hz, eqGuard, binOp, Op.stringOp, Sem.run_bind]
    simp only [if_neg this]
    simp) kk
theorem bytesL_get {s : ByteArray} {k : Nat} {c : U8} (h : (bytesL s)[k]? = some c) : ∃ b : UInt8, s[k]? = some b ∧ c = ⟨b.toNat⟩ := by
  simp only [bytesL, List.getElem?_map, Option.map_eq_some_iff] at h
  obtain ⟨b, hb, rfl⟩ := h
  refine ⟨b, ?_, rfl⟩
  obtain ⟨hk, e⟩ := List.getElem?_eq_some_iff.1 hb
  have hk' : k < s.size := by simpa using hk
  rw [getElem?_pos s k hk']
  rw [← e]; rfl
theorem W_indexStr {t : TypeId} {y z : Operand} {s : ByteArray} {kk : IntKind} {i : Int} {c : U8} (hg : gd ops L ⟨some d, .index t y z, ty, pos, aft, g⟩ = some true) (hN : Nat.blt d x.N = true)
    (hT : ∀ w, (underlying t).run x.P w = .ok .string w) (hy : ev L y = some (.string s)) (hz : ev L z = some (.int kk i)) (h0 : 0 ≤ i) (he : (bytesL s)[i.toNat]? = some c)
    (k : W x ops Q rest H M ((d, .int .u8 c.n) :: L)) :
    W x ops Q (⟨some d, .index t y z, ty, pos, aft, g⟩ :: rest) H M L :=
  W_pure rfl hg hN (fun a w hs _ => by
    obtain ⟨b, hb, rfl⟩ := bytesL_get he
    simp [execOp, hs.ev hy, hs.ev hz, Instr.index, asIntOf, hT, h0, hb]) k
/-- Part of a string. -/
theorem W_sliceStr {t : TypeId} {y : Operand} {lo hi : Option Operand} {s : ByteArray} {l h : Nat} (hg : gd ops L ⟨some d, .slice t y lo hi none, ty, pos, aft, g⟩ = some true) (hN : Nat.blt d x.N = true)
    (hT : ∀ w, (underlying t).run x.P w = .ok .string w)
    (hy : ev L y = some (.string s)) (hh : BdO L hi s.size s.size h) (hl : BdO L lo 0 h l)
    (k : W x ops Q rest H M ((d, .string (s.extract l h)) :: L)) :
    W x ops Q (⟨some d, .slice t y lo hi none, ty, pos, aft, g⟩ :: rest) H M L :=
  W_pure rfl hg hN (fun a w hs _ => by
    have hb : (Instr.sliceBounds false s.size s.size (lo.map a.eval) (hi.map a.eval) none).run x.P w = .ok (l, h, s.size) w := by
      rcases hh.bd hs with ⟨e1, rfl⟩ | ⟨kh, ih, e1, h0, h1, rfl⟩
      · rcases hl.bd hs with ⟨e2, rfl⟩ | ⟨kl, il, e2, l0, l1, rfl⟩
        · simp only [e1, e2, Instr.sliceBounds, Sem.run_bind, Sem.run_pure, Result.andThen_ok]
        · simp only [e1, e2, Instr.sliceBounds, Sem.run_bind, Sem.run_pure, Result.andThen_ok, run_sliceBound l0 l1]
      · rcases hl.bd hs with ⟨e2, rfl⟩ | ⟨kl, il, e2, l0, l1, rfl⟩
        · simp only [e1, e2, Instr.sliceBounds, Sem.run_bind, Sem.run_pure, Result.andThen_ok, run_sliceBound h0 h1]
        · simp only [e1, e2, Instr.sliceBounds, Sem.run_bind, Sem.run_pure, Result.andThen_ok, run_sliceBound h0 h1, run_sliceBound l0 l1]
    simp only [execOp, hs.ev hy, Instr.sliceAt, Sem.run_bind, hT, Result.andThen_ok, Instr.slice, Option.map_none, Option.isSome_none, Bool.false_eq_true, if_false, hb, Sem.run_pure]) k
end
end Go.Sim
