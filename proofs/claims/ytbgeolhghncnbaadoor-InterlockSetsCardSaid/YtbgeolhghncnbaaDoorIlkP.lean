/-
  Interlocks, in plain Lean: rules that were checked can be evaluated.
-/
import Derived.Test.YtbgeolhghncnbaaDoorModK
import Derived.Test.YtbgeolhghncnbaaDoorSimW
namespace Go.Sim
open Go
set_option linter.unusedVariables false
set_option linter.unusedSimpArgs false
set_option linter.unusedSectionVars false
set_option linter.unnecessarySimpa false

abbrev Node := S_api_InterlockNode
abbrev Rule := S_api_InterlockRule
abbrev Sw := S_api_InterlockState

theorem get_of {α : Type} {l : List α} {i : Nat} (h : i < l.length) : ∃ x, l[i]? = some x := ⟨_, List.getElem?_eq_getElem h⟩
theorem lt_of {α : Type} {l : List α} {i : Nat} {x : α} (h : l[i]? = some x) : i < l.length := (List.getElem?_eq_some_iff.1 h).1
theorem drop_cons {α : Type} {l : List α} {k : Nat} {y : α} {ys : List α} (h : y :: ys = l.drop k) : l[k]? = some y ∧ ys = l.drop (k + 1) := by
  constructor
  · have := congrArg (·[0]?) h
    simpa [List.getElem?_drop] using this.symm
  · have := congrArg (List.drop 1) h
    simpa using this

theorem name_some (s : ByteArray) (h : s.size ≤ maxLen) : Gd (m_netmodel_Name s) (fun _ => True) := by
  unfold m_netmodel_Name
  refine Gd.nd h (Gd.forI (fun _ _ _ => True) (fun i y ys s n _ hn => ?_) (fun i s _ => Gd.ret trivial) _ _ _ trivial)
  unfold m_netmodel_Name_b1
  exact Gd.ite (fun _ => Gd.ret trivial) (fun _ => hn _ trivial)

/-! ### Where a switch is -/
structure At (l : List Sw) (name : ByteArray) (r : Int) : Prop where
  no : r < 0 → ∀ x ∈ l, x.Name ≠ name
  yes : 0 ≤ r → ∃ x, l[r.toNat]? = some x ∧ x.Name = name
theorem index_gd (l : List Sw) (name : ByteArray) : Gd (m_interlock_index l name) (At l name) := by
  unfold m_interlock_index
  refine Gd.bnd (P := At l name) ?_ (fun a h => Gd.ret h)
  unfold m_slices_IndexFunc_api_InterlockState_api_InterlockState__interlock_index_1
  refine Gd.forN (fun m i _ => i + m = l.length ∧ ∀ x ∈ l.take i, x.Name ≠ name) ?_ ?_ (l.length : Int).toNat 0 () ⟨by omega, by simp⟩
  · intro m i _ nx ⟨hi, hno⟩ hnx
    unfold m_slices_IndexFunc_api_InterlockState_api_InterlockState__interlock_index_1_b1
    refine Gd.idxN (by omega) ?_
    refine Gd.ite (fun h => Gd.ret ⟨fun h => by omega, fun _ => ⟨l[i]'(by omega), by rw [show ((i : Int)).toNat = i by omega]; exact List.getElem?_eq_getElem _, by simpa [m_interlock_index_1] using h⟩⟩) (fun h => hnx () ⟨by omega, ?_⟩)
    intro x hx
    rw [List.take_succ_eq_append_getElem (by omega), List.mem_append, List.mem_singleton] at hx
    rcases hx with hx | rfl
    · exact hno x hx
    · simpa [m_interlock_index_1] using h
  · intro i _ ⟨hi, hno⟩
    refine Gd.ret ⟨fun _ => ?_, fun h => by omega⟩
    rw [List.take_of_length_le (by omega)] at hno
    exact hno

/-! ### States -/
def SwsOk (l : List Sw) : Prop := l.length ≤ 32 ∧ (∀ x ∈ l, m_netmodel_Name x.Name = some true) ∧ (l.map (·.Name)).Nodup
theorem states_gd (l : List Sw) (hl : ∀ x ∈ l, x.Name.size ≤ maxLen) : Gd (m_interlock_CheckStates l) (fun e => e = 0 ↔ SwsOk l) := by
  unfold m_interlock_CheckStates
  refine Gd.ite (fun h => Gd.ret ?_) (fun h => ?_)
  · simp only [decide_eq_true_eq] at h
    exact ⟨fun h => by omega, fun h' => by have := h'.1; omega⟩
  · simp only [decide_eq_false_iff_not] at h
    refine Gd.forI (fun k ys _ => ys = l.drop k ∧ k ≤ l.length ∧ (∀ x ∈ l.take k, m_netmodel_Name x.Name = some true) ∧ ((l.take k).map (·.Name)).Nodup) ?_ ?_ l 0 () ⟨by simp, by omega, by simp, by simp⟩
    · rintro k y ys _ nx ⟨hys, hk, hn, hd⟩ hnx
      obtain ⟨hy, hys'⟩ := drop_cons hys
      have hky := lt_of hy
      have hym := List.mem_of_getElem? hy
      obtain ⟨b, hb, _⟩ := name_some y.Name (hl y hym)
      have htake : l.take (k + 1) = l.take k ++ [y] := by rw [List.take_add_one, hy]; rfl
      unfold m_interlock_CheckStates_b1
      refine Gd.bind_eq hb (Gd.ite (fun h => Gd.ret ?_) (fun h => ?_))
      · refine ⟨fun h => by omega, fun h' => ?_⟩
        have := h'.2.1 y hym
        rw [hb] at this; cases this; simp at h
      · have hbt : b = true := by simpa using h
        subst hbt
        refine Gd.nd (by omega) ?_
        refine Gd.bnd (index_gd _ _) (fun r hr => Gd.ite (fun h => Gd.ret ?_) (fun h => ?_))
        · refine ⟨fun h => by omega, fun h' => ?_⟩
          simp only [decide_eq_true_eq] at h
          obtain ⟨x, hx, hxn⟩ := hr.yes h
          simp only [slc, List.drop_zero, Nat.sub_zero, Int.toNat_natCast] at hx
          have hnd := h'.2.2
          rw [List.getElem?_take] at hx
          split at hx
          case isFalse => cases hx
          rename_i hlt
          rw [← List.take_append_drop k l, List.map_append, List.nodup_append] at hnd
          refine absurd hxn (hnd.2.2 _ (List.mem_map.2 ⟨x, ?_, rfl⟩) _ (List.mem_map.2 ⟨y, ?_, rfl⟩))
          · exact List.mem_of_getElem? (i := r.toNat) (by rw [List.getElem?_take, if_pos hlt]; exact hx)
          · rw [← hys]; exact List.mem_cons_self ..
        · simp only [decide_eq_false_iff_not] at h
          have hno := hr.no (by omega)
          simp only [slc, List.drop_zero, Nat.sub_zero, Int.toNat_natCast] at hno
          refine hnx () ⟨hys', by omega, ?_, ?_⟩
          · rw [htake]
            intro x hx
            rw [List.mem_append, List.mem_singleton] at hx
            rcases hx with hx | rfl
            · exact hn x hx
            · exact hb
          · rw [htake, List.map_append, List.nodup_append]
            refine ⟨hd, by simp, ?_⟩
            rintro a ha b hb2 rfl
            simp only [List.map_cons, List.map_nil, List.mem_singleton] at hb2
            obtain ⟨x, hx, rfl⟩ := List.mem_map.1 ha
            exact hno x hx hb2
    · rintro k _ ⟨hys, hk, hn, hd⟩
      have : l.length ≤ k := by
        have := congrArg List.length hys
        simp at this; omega
      rw [List.take_of_length_le this] at hn hd
      exact Gd.ret ⟨fun _ => ⟨by omega, hn, hd⟩, fun _ => rfl⟩

/-! ### Conditions -/
def NodeOk (k : Nat) (y : Node) : Prop := (y.Kind = 4 → 0 ≤ y.A ∧ y.A < k) ∧ ((y.Kind = 5 ∨ y.Kind = 6) → 0 ≤ y.A ∧ y.A < k ∧ 0 ≤ y.B_ ∧ y.B_ < k)
structure CondOk (c : List Node) : Prop where
  pos : 0 < c.length
  len : c.length ≤ 40
  ok : ∀ j y, c[j]? = some y → NodeOk j y
structure CI (c : List Node) (k : Nat) (l : List Int) : Prop where
  len : l.length = c.length
  st : ∀ (j : Nat) (v : Int), j < k → l[j]? = some v → 0 ≤ v ∧ v ≤ j
  ok : ∀ j y, j < k → c[j]? = some y → NodeOk j y
theorem CI.next {c : List Node} {k : Nat} {l : List Int} {y : Node} {v : Int} (h : CI c k l) (hy : c[k]? = some y) (hn : NodeOk k y) (h0 : 0 ≤ v) (h1 : v ≤ k) : CI c (k + 1) (l.set k v) := by
  refine ⟨by simp [h.len], ?_, ?_⟩
  · intro j w hj hw
    rw [List.getElem?_set] at hw
    split at hw
    · rename_i e
      split at hw
      · cases hw; omega
      · cases hw
    · exact h.st j w (by omega) hw
  · intro j z hj hz
    by_cases e : j = k
    · subst e; rw [hy] at hz; cases hz; exact hn
    · exact h.ok j z (by omega) hz
theorem cond_b16 : m_interlock_condition_b16 = m_interlock_condition_b15 := rfl
theorem b15_gd {c : List Node} {k : Nat} {l : List Int} {y : Node} {Q : Int → Prop} {nx : List Int → Option Int} (h : CI c k l) (hc : c.length ≤ 40) (hy : c[k]? = some y) (hQ : Q 3) (hnx : ∀ l', CI c (k + 1) l' → Gd (nx l') Q)
    (b : Bool) (h4 : y.Kind ≠ 4) (hb : b = false → y.Kind ≠ 5 ∧ y.Kind ≠ 6) : Gd (m_interlock_condition_b15 l nx y k b) Q := by
  have hk := lt_of hy
  have hw : IntKind.i64.wrap ((k : Int) - 1) = (k : Int) - 1 := wrap_id (by omega)
  have hkn : ((k : Int)).toNat = k := by omega
  unfold m_interlock_condition_b15 m_interlock_condition_b14
  rw [hw, hkn]
  refine Gd.ite (fun _ => ?_) (fun h0 => ?_)
  · refine Gd.ite (fun _ => Gd.ret hQ) (fun h1 => ?_)
    simp only [decide_eq_false_iff_not] at h1
    refine Gd.ite (fun h2 => ?_) (fun _ => Gd.ret hQ)
    simp only [decide_eq_true_eq] at h2
    obtain ⟨p, hp⟩ := get_of (l := l) (i := k - 1) (by rw [h.len]; omega)
    have hp' : (l.set k (k : Int))[((k : Int) - 1).toNat]? = some p := by
      rw [show ((k : Int) - 1).toNat = k - 1 by omega, List.getElem?_set, if_neg (by omega)]; exact hp
    have hpb := h.st (k - 1) p (by omega) hp
    refine Gd.ix (by omega) hp' (Gd.ite (fun _ => Gd.ret hQ) (fun h3 => ?_))
    simp only [decide_eq_false_iff_not] at h3
    refine Gd.ix (by omega) hp' ?_
    rw [wrap_id (n := p - 1) (by omega)]
    refine Gd.ite (fun _ => Gd.ret hQ) (fun h4 => ?_)
    have h4 : y.A = p - 1 := by simpa using h4
    obtain ⟨q, hq⟩ := get_of (l := l) (i := y.A.toNat) (by rw [h.len]; omega)
    have hq' : (l.set k (k : Int))[y.A.toNat]? = some q := by
      rw [List.getElem?_set, if_neg (by omega)]; exact hq
    have hqb := h.st y.A.toNat q (by omega) hq
    refine Gd.ix (by omega) hq' (Gd.idxN (by simp [h.len]; omega) ?_)
    rw [List.set_set]
    exact hnx _ (h.next hy ⟨fun e => by omega, fun _ => ⟨by omega, by omega, by omega, by omega⟩⟩ hqb.1 (by omega))
  · refine Gd.ite (fun _ => Gd.ret hQ) (fun h1 => ?_)
    have := hb h0
    exact hnx _ (h.next hy ⟨fun e => absurd e h4, fun e => by omega⟩ (by omega) (by omega))
theorem condition_gd (c : List Node) (hc : ∀ x ∈ c, x.Name.size ≤ maxLen) : Gd (m_interlock_condition c) (fun e => e = 0 → CondOk c) := by
  unfold m_interlock_condition
  refine Gd.ite (fun _ => Gd.ret (by omega)) (fun h40 => ?_)
  simp only [decide_eq_false_iff_not] at h40
  refine Gd.ite (fun _ => Gd.ret (by omega)) (fun h1 => ?_)
  simp only [decide_eq_false_iff_not] at h1
  refine Gd.nd (by omega) ?_
  refine Gd.forI (fun k ys l => ys = c.drop k ∧ CI c k l) ?_ ?_ c 0 _ ⟨by simp, by simp, fun j v hj => by omega, fun j y hj => by omega⟩
  · rintro k y ys l nx ⟨hys, hI⟩ hnx
    obtain ⟨hy, hys'⟩ := drop_cons hys
    have hk := lt_of hy
    have hnx' : ∀ l', CI c (k + 1) l' → Gd (nx l') (fun e => e = 0 → CondOk c) := fun l' h => hnx l' ⟨hys', h⟩
    have hkn : ((k : Int)).toNat = k := by omega
    have hw : IntKind.i64.wrap ((k : Int) - 1) = (k : Int) - 1 := wrap_id (by omega)
    have rest : Gd (idx l (k : Int) fun y926 => if decide (y.Kind = 4) then (if ((decide ((k : Int) = 0)) || (!decide (y.A = (IntKind.i64.wrap ((k : Int) - 1))))) || (!decide (y.B_ = 0)) then (some 3) else (idx (l.set (((k : Int) : Int).toNat) ((k : Int))) y.A fun y939 => idx (l.set (((k : Int) : Int).toNat) ((k : Int))) (k : Int) fun y943 => m_interlock_condition_b14 nx ((l.set (((k : Int) : Int).toNat) ((k : Int))).set (((k : Int) : Int).toNat) y939))) else (if decide (y.Kind = 5) then (m_interlock_condition_b15 l nx y k (decide (y.Kind = 5))) else (m_interlock_condition_b15 l nx y k (decide (y.Kind = 6)))))
        (fun e => e = 0 → CondOk c) := by
      rw [hw, hkn]
      refine Gd.idxN (by rw [hI.len]; exact hk) ?_
      refine Gd.ite (fun h4 => ?_) (fun h4 => ?_)
      · refine Gd.ite (fun _ => Gd.ret (by omega)) (fun h5 => ?_)
        simp only [Bool.or_eq_false_iff, decide_eq_false_iff_not, Bool.not_eq_false', decide_eq_true_eq] at h5
        obtain ⟨q, hq⟩ := get_of (l := l) (i := y.A.toNat) (by rw [hI.len]; omega)
        have hq' : (l.set k (k : Int))[y.A.toNat]? = some q := by
          rw [List.getElem?_set, if_neg (by omega)]; exact hq
        have hqb := hI.st y.A.toNat q (by omega) hq
        refine Gd.ix (by omega) hq' (Gd.idxN (by simp [hI.len]; omega) ?_)
        rw [List.set_set]
        simp only [decide_eq_true_eq] at h4
        exact hnx' _ (hI.next hy ⟨fun e => by omega, fun e => by omega⟩ hqb.1 (by omega))
      · simp only [decide_eq_false_iff_not] at h4
        refine Gd.ite (fun h5 => ?_) (fun h5 => ?_)
        · exact b15_gd hI (by omega) hy (by omega) hnx' _ h4 (fun h => by simp only [decide_eq_false_iff_not] at h; simp only [decide_eq_true_eq] at h5; exact absurd h5 h)
        · exact b15_gd hI (by omega) hy (by omega) hnx' _ h4 (fun h => by simp only [decide_eq_false_iff_not] at h h5; exact ⟨h5, h⟩)
    unfold m_interlock_condition_b11
    rw [cond_b16]
    refine Gd.ite (fun _ => Gd.ret (by omega)) (fun _ => ?_)
    refine Gd.ite (fun _ => ?_) (fun _ => ?_)
    · refine Gd.bnd (name_some _ (hc y (List.mem_of_getElem? hy))) (fun b _ => Gd.ite (fun _ => Gd.ret (by omega)) (fun _ => rest))
    · exact Gd.ite (fun _ => Gd.ret (by omega)) (fun _ => rest)
  · rintro k l ⟨hys, hI⟩
    have hk : c.length ≤ k := by
      have := congrArg List.length hys
      simp at this; omega
    have hw : IntKind.i64.wrap ((c.length : Int) - 1) = (c.length : Int) - 1 := wrap_id (by omega)
    rw [hw]
    obtain ⟨q, hq⟩ := get_of (l := l) (i := ((c.length : Int) - 1).toNat) (by rw [hI.len]; omega)
    refine Gd.ix (by omega) hq (Gd.ite (fun _ => Gd.ret (by omega)) (fun _ => Gd.ret fun _ => ⟨by omega, by omega, fun j y hj => hI.ok j y (by have := lt_of hj; omega) hj⟩))

/-! ### Rules -/
def RuleOk (r : Rule) : Prop := m_netmodel_Name r.Switch = some true ∧ m_interlock_condition r.Cond = some 0
def RuleSz (r : Rule) : Prop := r.Switch.size ≤ maxLen ∧ ∀ x ∈ r.Cond, x.Name.size ≤ maxLen
def RulesOk (l : List Rule) : Prop := l.length ≤ 24 ∧ ∀ r ∈ l, RuleOk r
theorem check_gd (l : List Rule) (hl : ∀ r ∈ l, RuleSz r) : Gd (m_interlock_Check l) (fun e => e = 0 ↔ RulesOk l) := by
  unfold m_interlock_Check
  refine Gd.ite (fun h => Gd.ret ?_) (fun h => ?_)
  · simp only [decide_eq_true_eq] at h
    exact ⟨fun h => by omega, fun h' => by have := h'.1; omega⟩
  · simp only [decide_eq_false_iff_not] at h
    refine Gd.forI (fun k ys _ => (∀ r ∈ ys, r ∈ l) ∧ ∀ r ∈ l, r ∈ ys ∨ RuleOk r) ?_ ?_ l 0 () ⟨fun r h => h, fun r h => .inl h⟩
    · rintro k y ys _ nx ⟨h1, h2⟩ hnx
      have hy := h1 y (List.mem_cons_self ..)
      unfold m_interlock_Check_b1
      obtain ⟨b, hb, _⟩ := name_some y.Switch (hl y hy).1
      obtain ⟨e, he, _⟩ := condition_gd y.Cond (hl y hy).2
      refine Gd.bind_eq hb (Gd.ite (fun h => Gd.ret ?_) (fun h => Gd.bind_eq he (Gd.ite (fun h => Gd.ret ?_) (fun h' => hnx () ⟨fun r hr => h1 r (List.mem_cons_of_mem _ hr), fun r hr => ?_⟩))))
      · refine ⟨fun h => by omega, fun h' => ?_⟩
        have := (h'.2 y hy).1
        rw [hb] at this; cases this; simp at h
      · have h : e ≠ 0 := by simpa using h
        refine ⟨fun h' => absurd h' h, fun h' => ?_⟩
        have := (h'.2 y hy).2
        rw [he] at this; cases this; simp at h
      · have hbt : b = true := by simpa using h
        have het : e = 0 := by simpa using h'
        subst hbt; subst het
        rcases h2 r hr with h | h
        · rcases List.mem_cons.1 h with rfl | h
          · exact .inr ⟨hb, he⟩
          · exact .inl h
        · exact .inr h
    · rintro k _ ⟨h1, h2⟩
      exact Gd.ret ⟨fun _ => ⟨by omega, fun r hr => (h2 r hr).resolve_left (by simp)⟩, fun _ => rfl⟩

theorem holds_gd {c : List Node} (hc : CondOk c) (st : List Sw) : Gd (m_interlock_holds c st) (fun _ => True) := by
  have hl := hc.len
  have hp := hc.pos
  unfold m_interlock_holds
  refine Gd.nd (by omega) ?_
  refine Gd.forI (fun k ys (l : List Bool) => ys = c.drop k ∧ l.length = c.length) ?_ ?_ c 0 _ ⟨by simp, by simp⟩
  · rintro k y ys l nx ⟨hys, hlen⟩ hnx
    obtain ⟨hy, hys'⟩ := drop_cons hys
    have hk := lt_of hy
    have hn := hc.ok k y hy
    have hnx' : ∀ l' : List Bool, l'.length = c.length → Gd (nx l') (fun _ => True) := fun l' h => hnx l' ⟨hys', h⟩
    have hset : ∀ b : Bool, Gd (idx l (k : Int) fun _ => m_interlock_holds_b4 nx (l.set ((k : Int)).toNat b)) (fun _ => True) := fun b =>
      Gd.idxN (by omega) (hnx' _ (by simp [hlen]))
    unfold m_interlock_holds_b3
    refine Gd.bnd (index_gd st y.Name) (fun r hr => ?_)
    refine Gd.ite (fun _ => hset true) (fun _ => ?_)
    refine Gd.ite (fun _ => Gd.ite (fun h => ?_) (fun _ => hset false)) (fun _ => ?_)
    · obtain ⟨x, hx, _⟩ := hr.yes (by simpa using h)
      exact Gd.ix (by simpa using h) hx (hset _)
    refine Gd.ite (fun _ => Gd.ite (fun h => ?_) (fun _ => hset false)) (fun _ => ?_)
    · obtain ⟨x, hx, _⟩ := hr.yes (by simpa using h)
      exact Gd.ix (by simpa using h) hx (hset _)
    refine Gd.ite (fun h => ?_) (fun _ => ?_)
    · have hA := hn.1 (by simpa using h)
      obtain ⟨x, hx⟩ := get_of (l := l) (i := y.A.toNat) (by omega)
      exact Gd.ix hA.1 hx (hset _)
    refine Gd.ite (fun h => ?_) (fun _ => ?_)
    · have hA := hn.2 (.inl (by simpa using h))
      obtain ⟨x, hx⟩ := get_of (l := l) (i := y.A.toNat) (by omega)
      obtain ⟨z, hz⟩ := get_of (l := l) (i := y.B_.toNat) (by omega)
      exact Gd.ix hA.1 hx (Gd.ite (fun _ => Gd.ix hA.2.2.1 hz (hset _)) (fun _ => hset _))
    refine Gd.ite (fun h => ?_) (fun _ => hnx' _ hlen)
    · have hA := hn.2 (.inr (by simpa using h))
      obtain ⟨x, hx⟩ := get_of (l := l) (i := y.A.toNat) (by omega)
      obtain ⟨z, hz⟩ := get_of (l := l) (i := y.B_.toNat) (by omega)
      exact Gd.ix hA.1 hx (Gd.ite (fun _ => hset _) (fun _ => Gd.ix hA.2.2.1 hz (hset _)))
  · rintro k l ⟨hys, hlen⟩
    rw [wrap_id (n := (c.length : Int) - 1) (by omega)]
    obtain ⟨q, hq⟩ := get_of (l := l) (i := ((c.length : Int) - 1).toNat) (by omega)
    exact Gd.ix (by omega) hq (Gd.ret trivial)

/-- Does a rule allow it? -/
def allows (st : List Sw) (closing : Bool) (name : ByteArray) (r : Rule) : Prop := r.Close = closing → r.Switch = name → m_interlock_holds r.Cond st = some true
theorem explain_gd {l : List Rule} (hl : RulesOk l) (hz : ∀ r ∈ l, RuleSz r) {st : List Sw} (hs : SwsOk st) (hsz : ∀ x ∈ st, x.Name.size ≤ maxLen) (closing : Bool) {name : ByteArray} (hn : ∃ x ∈ st, x.Name = name) :
    Gd (m_interlock_Explain l st closing name) (fun r => r.2 = 0 ∧ (r.1 = [] ↔ ∀ r ∈ l, allows st closing name r)) := by
  unfold m_interlock_Explain
  obtain ⟨e, he, heq⟩ := check_gd l hz
  obtain ⟨f, hf, hfq⟩ := states_gd st hsz
  have e0 := heq.2 hl
  have f0 := hfq.2 hs
  subst e0; subst f0
  refine Gd.bind_eq he (Gd.ite (fun h => by simp at h) (fun _ => Gd.bind_eq hf (Gd.ite (fun h => by simp at h) (fun _ => ?_))))
  refine Gd.bnd (index_gd st name) (fun i hi => Gd.ite (fun h => ?_) (fun _ => ?_))
  · obtain ⟨x, hx, hxn⟩ := hn
    exact absurd hxn (hi.no (by simpa using h) x hx)
  have h24 := hl.1
  refine Gd.forI (fun k ys (out : List Int) => ys = l.drop k ∧ out.length ≤ k ∧ (out = [] ↔ ∀ r ∈ l.take k, allows st closing name r)) ?_ ?_ l 0 [] ⟨by simp, by simp, by simp⟩
  · rintro k y ys out nx ⟨hys, hlen, hq⟩ hnx
    obtain ⟨hy, hys'⟩ := drop_cons hys
    have hk := lt_of hy
    have htake : l.take (k + 1) = l.take k ++ [y] := by rw [List.take_add_one, hy]; rfl
    have hall : (∀ r ∈ l.take (k + 1), allows st closing name r) ↔ (∀ r ∈ l.take k, allows st closing name r) ∧ allows st closing name y := by
      rw [htake]
      constructor
      · intro h; exact ⟨fun r hr => h r (List.mem_append_left _ hr), h y (by simp)⟩
      · rintro ⟨h1, h2⟩ r hr
        rcases List.mem_append.1 hr with hr | hr
        · exact h1 r hr
        · rw [List.mem_singleton] at hr; subst hr; exact h2
    have hsame : allows st closing name y → Gd (nx out) (fun r => r.2 = 0 ∧ (r.1 = [] ↔ ∀ r ∈ l, allows st closing name r)) := fun ha =>
      hnx out ⟨hys', by omega, by rw [hall, hq]; exact ⟨fun h => ⟨h, ha⟩, fun h => h.1⟩⟩
    have hcond : CondOk y.Cond := by
      obtain ⟨e, he, hq⟩ := condition_gd y.Cond (hz y (List.mem_of_getElem? hy)).2
      have := (hl.2 y (List.mem_of_getElem? hy)).2
      rw [he] at this; cases this; exact hq rfl
    obtain ⟨b, hb, _⟩ := holds_gd hcond st
    unfold m_interlock_Explain_b3 m_interlock_Explain_b4
    refine Gd.ite (fun h1 => Gd.ite (fun h2 => Gd.bind_eq hb (Gd.ite (fun h3 => ?_) (fun h3 => hsame ?_))) (fun h2 => hsame ?_)) (fun h1 => hsame ?_)
    · refine Gd.nd (by simp; omega) (hnx _ ⟨hys', by simp; omega, ?_⟩)
      constructor
      · intro h; simp at h
      · intro h
        have := (hall.1 h).2 (by simpa using h1) (by simpa using h2)
        rw [hb] at this; cases this; simp at h3
    · intro _ _; rw [hb]; simpa using h3
    · intro _ h; exact absurd h (by simpa using h2)
    · intro h _; exact absurd h (by simpa using h1)
  · rintro k out ⟨hys, hlen, hq⟩
    have hk : l.length ≤ k := by
      have := congrArg List.length hys
      simp at this; omega
    rw [List.take_of_length_le hk] at hq
    exact Gd.ret ⟨rfl, hq⟩
theorem permitted_gd {l : List Rule} (hl : RulesOk l) (hz : ∀ r ∈ l, RuleSz r) {st : List Sw} (hs : SwsOk st) (hsz : ∀ x ∈ st, x.Name.size ≤ maxLen) (closing : Bool) {name : ByteArray} (hn : ∃ x ∈ st, x.Name = name) :
    Gd (m_interlock_Permitted l st closing name) (fun r => r.2 = 0 ∧ (r.1 = true ↔ ∀ r ∈ l, allows st closing name r)) := by
  unfold m_interlock_Permitted
  refine Gd.bnd (explain_gd hl hz hs hsz closing hn) (fun r hr => Gd.ret ⟨hr.1, ?_⟩)
  rw [hr.1, ← hr.2]
  cases r.1 <;> simp <;> omega
end Go.Sim
