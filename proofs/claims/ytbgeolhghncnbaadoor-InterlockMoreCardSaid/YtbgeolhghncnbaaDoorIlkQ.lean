/-
  Interlocks, in plain Lean: what a condition evaluates to; what is forbidden; an operation and its opposite.
-/
import Derived.Test.YtbgeolhghncnbaaDoorIlkP
import Derived.KernelRfl
namespace Go.Sim
open Go
set_option linter.unusedVariables false
set_option linter.unusedSimpArgs false
set_option linter.unusedSectionVars false
set_option linter.unnecessarySimpa false

/-! ### What a condition evaluates to -/
def swI (st : List Sw) (name : ByteArray) : Int := (m_interlock_index st name).getD (-1)
def val (st : List Sw) (acc : List Bool) (x : Node) : Bool :=
  if x.Kind = 0 then true
  else if x.Kind = 2 then (decide (0 ≤ swI st x.Name) && (st[(swI st x.Name).toNat]?).any fun s => !s.Closed)
  else if x.Kind = 3 then (decide (0 ≤ swI st x.Name) && (st[(swI st x.Name).toNat]?).any fun s => s.Closed)
  else if x.Kind = 4 then !(acc.getD x.A.toNat false)
  else if x.Kind = 5 then acc.getD x.A.toNat false && acc.getD x.B_.toNat false
  else if x.Kind = 6 then acc.getD x.A.toNat false || acc.getD x.B_.toNat false
  else false
def evl (st : List Sw) (c : List Node) : List Bool := c.foldl (fun acc x => acc ++ [val st acc x]) []
theorem evl_snoc (st : List Sw) (c : List Node) (x : Node) : evl st (c ++ [x]) = evl st c ++ [val st (evl st c) x] := by
  unfold evl; rw [List.foldl_append]; rfl
theorem evl_len (st : List Sw) (c : List Node) : (evl st c).length = c.length := by
  have : ∀ (c : List Node) (acc : List Bool), (c.foldl (fun acc x => acc ++ [val st acc x]) acc).length = acc.length + c.length := by
    intro c
    induction c with
    | nil => simp
    | cons x c ih => intro acc; rw [List.foldl_cons, ih]; simp; omega
  simpa [evl] using this c []

theorem getD_app {l r : List Bool} {i : Nat} (h : i < l.length) : (l ++ r)[i]? = some (l.getD i false) := by
  rw [List.getElem?_append_left h, List.getD_eq_getElem?_getD, List.getElem?_eq_getElem h]; rfl

theorem holds_eq {c : List Node} (hc : CondOk c) (st : List Sw) : m_interlock_holds c st = some ((evl st c).getD (c.length - 1) false) := by
  rw [← Gd.eq]
  have hl := hc.len
  have hp := hc.pos
  unfold m_interlock_holds
  refine Gd.nd (by omega) ?_
  refine Gd.forI (fun k ys (l : List Bool) => ys = c.drop k ∧ l = evl st (c.take k) ++ List.replicate (c.length - k) false) ?_ ?_ c 0 _ ⟨by simp, by simp [evl]⟩
  · rintro k y ys l nx ⟨hys, rfl⟩ hnx
    obtain ⟨hy, hys'⟩ := drop_cons hys
    have hk := lt_of hy
    have hn := hc.ok k y hy
    have htake : c.take (k + 1) = c.take k ++ [y] := by rw [List.take_add_one, hy]; rfl
    have hel : (evl st (c.take k)).length = k := by rw [evl_len, List.length_take]; omega
    have hrep : List.replicate (c.length - k) false = false :: List.replicate (c.length - (k + 1)) false := by
      rw [show c.length - k = (c.length - (k + 1)) + 1 by omega, List.replicate_succ]
    generalize hE : evl st (c.take k) = E at hel hnx ⊢
    have hnx' : Gd (nx (E ++ (val st E y) :: List.replicate (c.length - (k + 1)) false)) (fun x => x = (evl st c).getD (c.length - 1) false) :=
      hnx _ ⟨hys', by rw [htake, evl_snoc, hE, List.append_assoc]; rfl⟩
    have hset : ∀ b : Bool, b = val st E y → Gd (idx (E ++ List.replicate (c.length - k) false) (k : Int) fun _ => m_interlock_holds_b4 nx ((E ++ List.replicate (c.length - k) false).set ((k : Int)).toNat b)) (fun x => x = (evl st c).getD (c.length - 1) false) := by
      rintro b rfl
      refine Gd.idxN (by simp [hel]; omega) ?_
      unfold m_interlock_holds_b4
      rw [hrep, show ((k : Int)).toNat = E.length by omega, List.set_append_right _ _ (Nat.le_refl _), Nat.sub_self, List.set_cons_zero]
      exact hnx'
    have hlook : ∀ {j : Int} , 0 ≤ j → j < k → (E ++ List.replicate (c.length - k) false)[j.toNat]? = some (E.getD j.toNat false) := fun {j} h0 h1 => getD_app (by omega)
    unfold m_interlock_holds_b3
    obtain ⟨r, hr, hAt⟩ := index_gd st y.Name
    have hsw : swI st y.Name = r := by unfold swI; rw [hr]; rfl
    refine Gd.bind_eq hr ?_
    refine Gd.ite (fun h0 => hset true (by rw [val, if_pos (by simpa using h0)])) (fun h0 => ?_)
    simp only [decide_eq_false_iff_not] at h0
    refine Gd.ite (fun h2 => ?_) (fun h2 => ?_)
    · simp only [decide_eq_true_eq] at h2
      refine Gd.ite (fun h => ?_) (fun h => hset false ?_)
      · simp only [decide_eq_true_eq] at h
        obtain ⟨x, hx, _⟩ := hAt.yes h
        exact Gd.ix h hx (hset _ (by rw [val, if_neg h0, if_pos h2, hsw, hx]; simp [h]))
      · simp only [decide_eq_false_iff_not] at h
        rw [val, if_neg h0, if_pos h2, hsw]; simp [h]
    simp only [decide_eq_false_iff_not] at h2
    refine Gd.ite (fun h3 => ?_) (fun h3 => ?_)
    · simp only [decide_eq_true_eq] at h3
      refine Gd.ite (fun h => ?_) (fun h => hset false ?_)
      · simp only [decide_eq_true_eq] at h
        obtain ⟨x, hx, _⟩ := hAt.yes h
        exact Gd.ix h hx (hset _ (by rw [val, if_neg h0, if_neg h2, if_pos h3, hsw, hx]; simp [h]))
      · simp only [decide_eq_false_iff_not] at h
        rw [val, if_neg h0, if_neg h2, if_pos h3, hsw]; simp [h]
    simp only [decide_eq_false_iff_not] at h3
    refine Gd.ite (fun h4 => ?_) (fun h4 => ?_)
    · simp only [decide_eq_true_eq] at h4
      have hA := hn.1 h4
      exact Gd.ix hA.1 (hlook hA.1 hA.2) (hset _ (by rw [val, if_neg h0, if_neg h2, if_neg h3, if_pos h4]))
    simp only [decide_eq_false_iff_not] at h4
    refine Gd.ite (fun h5 => ?_) (fun h5 => ?_)
    · simp only [decide_eq_true_eq] at h5
      have hA := hn.2 (.inl h5)
      refine Gd.ix hA.1 (hlook hA.1 hA.2.1) (Gd.ite (fun hb => Gd.ix hA.2.2.1 (hlook hA.2.2.1 hA.2.2.2) (hset _ ?_)) (fun hb => hset _ ?_))
      · rw [val, if_neg h0, if_neg h2, if_neg h3, if_neg h4, if_pos h5, hb]; simp
      · rw [val, if_neg h0, if_neg h2, if_neg h3, if_neg h4, if_pos h5, hb]; simp
    simp only [decide_eq_false_iff_not] at h5
    refine Gd.ite (fun h6 => ?_) (fun h6 => ?_)
    · simp only [decide_eq_true_eq] at h6
      have hA := hn.2 (.inr h6)
      refine Gd.ix hA.1 (hlook hA.1 hA.2.1) (Gd.ite (fun hb => hset _ ?_) (fun hb => Gd.ix hA.2.2.1 (hlook hA.2.2.1 hA.2.2.2) (hset _ ?_)))
      · rw [val, if_neg h0, if_neg h2, if_neg h3, if_neg h4, if_neg h5, if_pos h6, hb]; simp
      · rw [val, if_neg h0, if_neg h2, if_neg h3, if_neg h4, if_neg h5, if_pos h6, hb]; simp
    · simp only [decide_eq_false_iff_not] at h6
      have hv : val st E y = false := by rw [val, if_neg h0, if_neg h2, if_neg h3, if_neg h4, if_neg h5, if_neg h6]
      rw [hv] at hnx'
      unfold m_interlock_holds_b4
      rw [hrep]
      exact hnx'
  · rintro k l ⟨hys, rfl⟩
    have hk : c.length ≤ k := by
      have := congrArg List.length hys
      simp at this; omega
    rw [wrap_id (n := (c.length : Int) - 1) (by omega), List.take_of_length_le hk, show c.length - k = 0 by omega, List.replicate_zero, List.append_nil]
    refine Gd.ix (y := (evl st c).getD (c.length - 1) false) (by omega) ?_ (Gd.ret rfl)
    rw [show ((c.length : Int) - 1).toNat = c.length - 1 by omega, List.getD_eq_getElem?_getD, List.getElem?_eq_getElem (by rw [evl_len]; omega)]; rfl

theorem holds_not {c : List Node} {x : Node} (hc : CondOk c) (hm : CondOk (c ++ [x])) (st : List Sw) (hk : x.Kind = 4) (hA : x.A = (c.length : Int) - 1) {v : Bool} (hv : m_interlock_holds c st = some v) :
    m_interlock_holds (c ++ [x]) st = some (!v) := by
  have hp := hc.pos
  rw [holds_eq hc] at hv
  cases hv
  rw [holds_eq hm, evl_snoc]
  simp only [List.length_append, List.length_singleton, Nat.add_sub_cancel, Option.some.injEq]
  rw [List.getD_eq_getElem?_getD, List.getElem?_append_right (by rw [evl_len]; exact Nat.le_refl _), evl_len, Nat.sub_self]
  simp only [List.getElem?_cons_zero, Option.getD_some]
  rw [val, if_neg (by omega), if_neg (by omega), if_neg (by omega), if_pos hk, hA, show ((c.length : Int) - 1).toNat = c.length - 1 by omega]

/-! ### What is forbidden -/
def bads (st : List Sw) (closing : Bool) (name : ByteArray) : Nat → List Rule → List Int
  | _, [] => []
  | k, r :: rs => if r.Close = closing ∧ r.Switch = name ∧ m_interlock_holds r.Cond st ≠ some true then (k : Int) :: bads st closing name (k + 1) rs else bads st closing name (k + 1) rs
theorem bads_append (st : List Sw) (closing : Bool) (name : ByteArray) : ∀ (l m : List Rule) (k : Nat), bads st closing name k (l ++ m) = bads st closing name k l ++ bads st closing name (k + l.length) m
  | [], m, k => by simp [bads]
  | r :: l, m, k => by
    rw [List.cons_append, bads, bads, bads_append st closing name l m (k + 1), show k + 1 + l.length = k + (r :: l).length by simp; omega]
    split <;> simp
theorem bads_len (st : List Sw) (closing : Bool) (name : ByteArray) : ∀ (l : List Rule) (k : Nat), (bads st closing name k l).length ≤ l.length
  | [], k => by simp [bads]
  | r :: l, k => by
    have := bads_len st closing name l (k + 1)
    rw [bads]; split <;> simp <;> omega
/-- An operation can be asked about. -/
def Asked (l : List Rule) (st : List Sw) (name : ByteArray) : Prop := RulesOk l ∧ SwsOk st ∧ ∃ x ∈ st, x.Name = name
theorem cond_of {l : List Rule} (hl : RulesOk l) (hz : ∀ r ∈ l, RuleSz r) {y : Rule} (hy : y ∈ l) : CondOk y.Cond := by
  obtain ⟨e, he, hq⟩ := condition_gd y.Cond (hz y hy).2
  have := (hl.2 y hy).2
  rw [he] at this; cases this; exact hq rfl
theorem explain_full {l : List Rule} (hz : ∀ r ∈ l, RuleSz r) {st : List Sw} (hsz : ∀ x ∈ st, x.Name.size ≤ maxLen) (closing : Bool) (name : ByteArray) :
    Gd (m_interlock_Explain l st closing name) (fun r => Asked l st name ∧ r = (bads st closing name 0 l, 0) ∨ ¬ Asked l st name ∧ r.2 ≠ 0 ∧ r.1 = []) := by
  unfold m_interlock_Explain
  obtain ⟨e, he, heq⟩ := check_gd l hz
  obtain ⟨f, hf, hfq⟩ := states_gd st hsz
  refine Gd.bind_eq he (Gd.ite (fun h => Gd.ret (.inr ⟨fun ha => ?_, ?_, rfl⟩)) (fun h => Gd.bind_eq hf (Gd.ite (fun h2 => Gd.ret (.inr ⟨fun ha => ?_, ?_, rfl⟩)) (fun h2 => ?_))))
  · have := heq.2 ha.1; simp [this] at h
  · simpa using h
  · have := hfq.2 ha.2.1; simp [this] at h2
  · simpa using h2
  have hl : RulesOk l := heq.1 (by simpa using h)
  have hs : SwsOk st := hfq.1 (by simpa using h2)
  refine Gd.bnd (index_gd st name) (fun i hi => Gd.ite (fun h => Gd.ret (.inr ⟨fun ha => ?_, by decide, rfl⟩)) (fun h => ?_))
  · obtain ⟨x, hx, hxn⟩ := ha.2.2
    exact absurd hxn (hi.no (by simpa using h) x hx)
  have hn : ∃ x ∈ st, x.Name = name := by
    obtain ⟨x, hx, hxn⟩ := hi.yes (by simpa using h)
    exact ⟨x, List.mem_of_getElem? hx, hxn⟩
  have h24 := hl.1
  refine Gd.forI (fun k ys (out : List Int) => ys = l.drop k ∧ k ≤ l.length ∧ out = bads st closing name 0 (l.take k)) ?_ ?_ l 0 [] ⟨by simp, by simp, by simp [bads]⟩
  · rintro k y ys out nx ⟨hys, hkl, rfl⟩ hnx
    obtain ⟨hy, hys'⟩ := drop_cons hys
    have hk := lt_of hy
    have hym := List.mem_of_getElem? hy
    have htake : l.take (k + 1) = l.take k ++ [y] := by rw [List.take_add_one, hy]; rfl
    have hbad : bads st closing name 0 (l.take (k + 1)) = bads st closing name 0 (l.take k) ++ bads st closing name k [y] := by
      rw [htake, bads_append, List.length_take, Nat.zero_add, show min k l.length = k by omega]
    have hlen := bads_len st closing name (l.take k) 0
    have hgo : ∀ out, out = bads st closing name 0 (l.take (k + 1)) → Gd (nx out) (fun r => Asked l st name ∧ r = (bads st closing name 0 l, 0) ∨ ¬ Asked l st name ∧ r.2 ≠ 0 ∧ r.1 = []) := fun out ho => hnx out ⟨hys', by omega, ho⟩
    obtain ⟨b, hb, _⟩ := holds_gd (cond_of hl hz hym) st
    unfold m_interlock_Explain_b3 m_interlock_Explain_b4
    refine Gd.ite (fun h1 => Gd.ite (fun h2 => Gd.bind_eq hb (Gd.ite (fun h3 => ?_) (fun h3 => hgo _ ?_))) (fun h2 => hgo _ ?_)) (fun h1 => hgo _ ?_)
    · refine Gd.nd (by simp [List.length_take] at hlen ⊢; omega) (hgo _ ?_)
      rw [hbad, bads, if_pos ⟨by simpa using h1, by simpa using h2, by rw [hb]; simpa using h3⟩]; rfl
    · rw [hbad, bads, if_neg (by rintro ⟨_, _, h⟩; rw [hb] at h; simp at h3; simp [h3] at h)]; simp [bads]
    · rw [hbad, bads, if_neg (by rintro ⟨_, h, _⟩; simp at h2; exact h2 h)]; simp [bads]
    · rw [hbad, bads, if_neg (by rintro ⟨h, _⟩; simp at h1; exact h1 h)]; simp [bads]
  · rintro k out ⟨hys, hkl, rfl⟩
    have hk : l.length ≤ k := by
      have := congrArg List.length hys
      simp at this; omega
    rw [List.take_of_length_le hk]
    exact Gd.ret (.inl ⟨⟨hl, hs, hn⟩, rfl⟩)

/-! ### The example -/
theorem fact_true : m_gridhallkeep4_interlockFact = some true := by kernel_rfl

/-! ### A condition and its negation -/
theorem InterlockNot_of (r : Rule) (st : List Sw) (hr : RuleSz r) (hs : ∀ x ∈ st, x.Name.size ≤ maxLen) (hz : r.Cond.length * 40 ≤ 140737488351232) : m_gridhallkeep4_InterlockNot r st = some true := by
  rw [← Gd.eq]
  unfold m_gridhallkeep4_InterlockNot
  have hw : IntKind.i64.wrap ((r.Cond.length : Int) - 1) = (r.Cond.length : Int) - 1 := wrap_id ⟨by omega, by omega⟩
  let x : Node := ⟨4, ⟨#[]⟩, (r.Cond.length : Int) - 1, 0⟩
  let m : Rule := ⟨r.Close, r.Switch, r.Cond ++ [x]⟩
  have hneg : m_gridhallkeep4_negated r = some m := by
    unfold m_gridhallkeep4_negated need
    rw [if_pos (by omega), if_pos (by simp; omega), hw]
  have hmz : RuleSz m := ⟨hr.1, fun y hy => by
    rcases List.mem_append.1 hy with hy | hy
    · exact hr.2 y hy
    · rw [List.mem_singleton] at hy; subst hy; show (⟨#[]⟩ : ByteArray).size ≤ maxLen; decide⟩
  refine Gd.bind_eq hneg ?_
  unfold m_interlock_Permitted
  obtain ⟨a, ha, ha2⟩ := explain_full (l := [r]) (fun y hy => by rw [List.mem_singleton] at hy; subst hy; exact hr) hs r.Close r.Switch
  obtain ⟨b, hb, hb2⟩ := explain_full (l := [m]) (fun y hy => by rw [List.mem_singleton] at hy; subst hy; exact hmz) hs r.Close r.Switch
  rw [ha, hb]
  simp only [Option.bind_some]
  rcases ha2 with ⟨haA, rfl⟩ | ⟨_, hae, _⟩
  · rcases hb2 with ⟨hbA, rfl⟩ | ⟨_, hbe, _⟩
    · have hc := cond_of haA.1 (fun y hy => by rw [List.mem_singleton] at hy; subst hy; exact hr) (List.mem_singleton.2 rfl)
      have hcm : CondOk (r.Cond ++ [x]) := cond_of hbA.1 (fun y hy => by rw [List.mem_singleton] at hy; subst hy; exact hmz) (List.mem_singleton.2 rfl)
      obtain ⟨v, hv, _⟩ := holds_gd hc st
      have hv2 := holds_not hc hcm st rfl rfl hv
      refine Gd.ite (fun h => by simp at h) (fun _ => Gd.bind_eq fact_true (Gd.ret ?_))
      simp only [bads, m, hv, hv2]
      cases v <;> simp
    · refine Gd.ite (fun _ => Gd.bind_eq fact_true (Gd.ret ?_)) (fun h => by simp at h; exact absurd h hbe)
      simp [hbe]
  · refine Gd.ite (fun _ => Gd.bind_eq fact_true (Gd.ret ?_)) (fun h => by simp at h; exact absurd h.1 hae)
    simp [hae]
end Go.Sim
