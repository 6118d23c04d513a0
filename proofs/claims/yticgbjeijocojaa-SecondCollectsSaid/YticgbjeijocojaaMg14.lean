/-
  A frame that holds a deferred call; a drawn region whose last operation is a stop.
-/
import Derived.Test.YticgbjeijocojaaMg3
set_option linter.unusedVariables false
set_option linter.unusedSimpArgs false
set_option linter.unusedVariables false
set_option linter.unusedSimpArgs false
namespace Go.Sim
open Go Go.Conc

section
variable {P : Program} {c : Bs P}
theorem eval_defers (T : Array Value) (D D' : List Deferred) : (⟨T, D⟩ : Act).eval = (⟨T, D'⟩ : Act).eval := by
  funext o
  cases o <;> rfl
theorem put_defers (T : Array Value) (D D' : List Deferred) (d : Option Tmp) (v : Value) : ((⟨T, D⟩ : Act).put d v) = ⟨((⟨T, D'⟩ : Act).put d v).tmps, D⟩ := by
  cases d <;> rfl
theorem put_defers0 (T : Array Value) (d : Option Tmp) (v : Value) : ((⟨T, []⟩ : Act).put d v) = ⟨((⟨T, []⟩ : Act).put d v).tmps, []⟩ := by
  cases d <;> rfl

theorem uponL_defers {o : Oper} {T : Array Value} {D : List Deferred} {w1 : World} {es : Array Event} {K K' : Act → World → Prop} (h : ∀ T w, K ⟨T, []⟩ w → K' ⟨T, D⟩ w) {r : Result Next}
    (hh : uponL c o ⟨T, []⟩ w1 es K r) : uponL c o ⟨T, D⟩ w1 es K' r := by
  have key : ∀ v w, K ((⟨T, []⟩ : Act).put o.dst v) w → K' ((⟨T, D⟩ : Act).put o.dst v) w := fun v w hk => by
    rw [put_defers0] at hk
    rw [put_defers T D []]
    exact h _ _ hk
  cases r with
  | ok n w' =>
    cases n <;> first
      | exact fun n => ⟨(hh n).1, key _ _ (hh n).2⟩
      | exact ⟨hh.1, hh.2.1, hh.2.2.mono fun v w'' p => key _ _ p⟩
      | exact hh
  | halt x w' => exact hh

theorem OpK_defers {o : Oper} {T : Array Value} {D : List Deferred} {w : World} {K K' : Act → World → Prop} (h : ∀ T w, K ⟨T, []⟩ w → K' ⟨T, D⟩ w) (hh : OpK c o ⟨T, []⟩ w K) : OpK c o ⟨T, D⟩ w K' := fun w1 h1 => by
  have := hh w1 h1
  rw [eval_defers T D []]
  exact uponL_defers h this

theorem opsK_defers {ops : Array Oper} {Q Q' : Exit → Act → World → Prop} {D : List Deferred} (hQ : ∀ T w, Q .normal ⟨T, []⟩ w → Q' .normal ⟨T, D⟩ w) : ∀ (todo : List Nat) (T : Array Value) (w : World), opsK c ops Q todo ⟨T, []⟩ w → opsK c ops Q' todo ⟨T, D⟩ w
  | [], T, w, h => hQ T w h
  | i :: rest, T, w, h => by
    unfold opsK at h ⊢
    split at h
    · exact h.elim
    · rename_i o ho
      simp only
      obtain ⟨hg, h⟩ := h
      refine ⟨hg, ?_⟩
      split at h
      · rename_i hw
        rw [if_pos hw]
        exact OpK_defers (fun T w h => opsK_defers hQ rest T w h) h
      · rename_i hw
        rw [if_neg hw]
        rw [put_defers0] at h
        rw [put_defers T D []]
        exact opsK_defers hQ rest _ w h

/-- Operations of a region's beginning; the rest of the region is still to come. -/
theorem walks_ops_tail {ops ops' : Array Oper} {Q : Exit → Act → World → Prop} {tail : List Nat} (hsame : ∀ (i : Nat) (o : Oper), ops[i]? = some o → ops'[i]? = some o ∧ o.guard = none) : ∀ (todo : List Nat) (a : Act) (w : World), opsK c ops Q todo a w →
    ∀ (b : Frame) (k : List Item) (cs : List Frame) (Stop : Goroutine → World → Prop), b.kind ≠ .early → (∀ a' w', Q .normal a' w' → Walks c Stop (G (b.at a' (.inRegion ops' tail :: k)) cs) w') →
    Walks c Stop (G (b.at a (.inRegion ops' (todo ++ tail) :: k)) cs) w
  | [], a, w, h, b, k, cs, Stop, hk, hc => hc a w h
  | i :: rest, a, w, h, b, k, cs, Stop, hk, hc => by
    unfold opsK at h
    split at h
    · exact h.elim
    · rename_i o ho
      obtain ⟨ho', hgd⟩ := hsame i o ho
      obtain ⟨hg, h⟩ := h
      have hw : ∀ y, Region.wanted o y = true := fun y => by unfold Region.wanted; rw [hgd]
      rw [if_pos (hw _)] at h
      exact Walks.oper ho' (hw _) hk hg h fun a' w' hh => walks_ops_tail hsame rest a' w' hh b k cs Stop hk hc

/-- Its operations, and the way on. -/
theorem walks_ops_on {ops : Array Oper} {Q : Exit → Act → World → Prop} : ∀ (todo : List Nat) (a : Act) (w : World), opsK c ops Q todo a w →
    ∀ (b : Frame) (k : List Item) (cs : List Frame) (Stop : Goroutine → World → Prop), b.kind ≠ .early → (∀ a' w', Q .normal a' w' → Walks c Stop (G (b.at a' (.inRegion ops [] :: k)) cs) w') →
    Walks c Stop (G (b.at a (.inRegion ops todo :: k)) cs) w
  | [], a, w, h, b, k, cs, Stop, hk, hc => hc a w h
  | i :: rest, a, w, h, b, k, cs, Stop, hk, hc => by
    unfold opsK at h
    split at h
    · exact h.elim
    · rename_i o ho
      obtain ⟨hg, h⟩ := h
      split at h
      · rename_i hw
        exact Walks.oper ho hw hk hg h fun a' w' hh => walks_ops_on rest a' w' hh b k cs Stop hk hc
      · rename_i hw
        exact Walks.move rfl (fun w1 => stepG_unwanted ho (by simpa using hw)) fun w1 h1 => (walks_ops_on rest _ _ h b k cs Stop hk hc).rely h1
end

/-! ### the order, where the last operation waits for all -/
theorem lin_tail {l : Array Oper} {o : Oper} (hac : ∀ (i : Nat) (p : Oper), l[i]? = some p → ∀ e ∈ p.after, e.on < i) (hall : ∀ i, i < l.size → ∃ e ∈ o.after, Region.binds .any e = true ∧ e.on = i) (hlo : ∀ e ∈ o.after, e.on < l.size) :
    ∀ (fuel t : Nat) (listed : Array Bool) (acc : List Nat), listed.size = l.size → ((List.range l.size).filter fun i => !listed.getD i true).length ≤ fuel →
      Region.linearise.go .any (l.push o) (fuel + 1) t (listed.push false) acc = Region.linearise.go .any l fuel t listed acc ++ [l.size] := by
  -- what is ready
  have hrs : ∀ listed : Array Bool, listed.size = l.size → ((List.range (l.push o).size).filter fun i => !(listed.push false).getD i true && (((l.push o)[i]?).map (·.after.all fun e => !Region.binds .any e || (listed.push false).getD e.on false)).getD false) =
      ((List.range l.size).filter fun i => !listed.getD i true && ((l[i]?).map (·.after.all fun e => !Region.binds .any e || listed.getD e.on false)).getD false) ++ (if ∀ i, i < l.size → listed.getD i true = true then [l.size] else []) := by
    intro listed hs
    have hget : ∀ i, i < l.size → ∀ d, (listed.push false).getD i d = listed.getD i d := fun i hi d => by
      simp only [Array.getD_eq_getD_getElem?]
      rw [Array.getElem?_push_lt (by omega), ← Array.getElem?_eq_getElem]
    rw [Array.size_push, List.range_succ, List.filter_append]
    congr 1
    · apply List.filter_congr
      intro i hi
      have hi := List.mem_range.1 hi
      rw [hget i hi]
      have hl : (l.push o)[i]? = l[i]? := by rw [Array.getElem?_push_lt hi, ← Array.getElem?_eq_getElem]
      rw [hl]
      congr 1
      cases hp : l[i]? with
      | none => rfl
      | some p =>
        simp only [Option.map_some, Option.getD_some]
        rw [Bool.eq_iff_iff]
        simp only [Array.all_eq_true_iff_forall_mem]
        constructor
        · intro h e he; have := h e he; rwa [hget e.on (by have := hac i p hp e he; omega)] at this
        · intro h e he; rw [hget e.on (by have := hac i p hp e he; omega)]; exact h e he
    · have h1 : (listed.push false).getD l.size true = false := by
        rw [← hs]; simp [Array.getD_eq_getD_getElem?]
      have h2 : (l.push o)[l.size]? = some o := by simp
      simp only [List.filter_cons, List.filter_nil, h1, h2, Option.map_some, Option.getD_some, Bool.not_false, Bool.true_and]
      by_cases hc : ∀ i, i < l.size → listed.getD i true = true
      · rw [if_pos hc, if_pos]
        rw [Array.all_eq_true_iff_forall_mem]
        intro e he
        have hlt := hlo e he
        rw [hget e.on hlt]
        have := hc e.on hlt
        have h3 : listed.getD e.on false = true := by
          simp only [Array.getD_eq_getD_getElem?] at this ⊢
          rw [Array.getElem?_eq_getElem (by omega)] at this ⊢
          exact this
        rw [h3]; simp
      · rw [if_neg hc, if_neg]
        intro hall'
        rw [Array.all_eq_true_iff_forall_mem] at hall'
        refine hc fun i hi => ?_
        obtain ⟨e, he, hb, rfl⟩ := hall i hi
        have := hall' e he
        rw [hb, hget e.on hi] at this
        simp only [Bool.not_true, Bool.false_or] at this
        simp only [Array.getD_eq_getD_getElem?] at this ⊢
        rw [Array.getElem?_eq_getElem (by omega)] at this ⊢
        exact this
  -- something is ready while something is unlisted
  have hprog : ∀ listed : Array Bool, listed.size = l.size → ¬ (∀ i, i < l.size → listed.getD i true = true) → ((List.range l.size).filter fun i => !listed.getD i true && ((l[i]?).map (·.after.all fun e => !Region.binds .any e || listed.getD e.on false)).getD false) ≠ [] := by
    intro listed hs hne hnil
    have key : ∀ i, i < l.size → listed.getD i true = true := by
      intro i
      induction i using Nat.strongRecOn with
      | _ i ih =>
        intro hi
        cases hv : listed.getD i true with
        | true => rfl
        | false =>
          exfalso
          have hm : i ∈ ((List.range l.size).filter fun i => !listed.getD i true && ((l[i]?).map (·.after.all fun e => !Region.binds .any e || listed.getD e.on false)).getD false) := by
            rw [List.mem_filter]
            refine ⟨List.mem_range.2 hi, ?_⟩
            rw [hv, Array.getElem?_eq_getElem hi]
            simp only [Bool.not_false, Bool.true_and, Option.map_some, Option.getD_some]
            rw [Array.all_eq_true_iff_forall_mem]
            intro e he
            have hlt := hac i l[i] (Array.getElem?_eq_getElem hi) e he
            have := ih e.on hlt (by omega)
            have h3 : listed.getD e.on false = true := by
              simp only [Array.getD_eq_getD_getElem?] at this ⊢
              rw [Array.getElem?_eq_getElem (by omega)] at this ⊢
              exact this
            rw [h3]; simp
          rw [hnil] at hm
          cases hm
    exact hne key
  intro fuel
  induction fuel with
  | zero =>
    intro t listed acc hs hf
    have hc : ∀ i, i < l.size → listed.getD i true = true := by
      intro i hi
      cases hv : listed.getD i true with
      | true => rfl
      | false =>
        have hm : i ∈ (List.range l.size).filter fun i => !listed.getD i true := List.mem_filter.2 ⟨List.mem_range.2 hi, by rw [hv]; rfl⟩
        rw [List.length_eq_zero_iff.1 (Nat.le_zero.1 hf)] at hm
        cases hm
    have hnil : ((List.range l.size).filter fun i => !listed.getD i true && ((l[i]?).map (·.after.all fun e => !Region.binds .any e || listed.getD e.on false)).getD false) = [] := by
      rw [List.filter_eq_nil_iff]
      intro i hi
      rw [hc i (List.mem_range.1 hi)]; simp
    simp only [Region.linearise.go]
    rw [hrs listed hs, hnil, if_pos hc]
    have h1 : t % 1 = 0 := Nat.mod_one t
    simp [Region.linearise.go, h1]
  | succ fuel ih =>
    intro t listed acc hs hf
    simp only [Region.linearise.go]
    rw [hrs listed hs]
    by_cases hc : ∀ i, i < l.size → listed.getD i true = true
    · have hnil : ((List.range l.size).filter fun i => !listed.getD i true && ((l[i]?).map (·.after.all fun e => !Region.binds .any e || listed.getD e.on false)).getD false) = [] := by
        rw [List.filter_eq_nil_iff]
        intro i hi
        rw [hc i (List.mem_range.1 hi)]; simp
      rw [hnil, if_pos hc]
      simp only [List.nil_append, List.length_singleton, Nat.mod_one, List.getElem?_cons_zero, List.length_nil, Nat.mod_zero, List.getElem?_nil]
      -- the last one has been listed: nothing is ready any more
      have hnil2 : ((List.range (l.push o).size).filter fun i => !((listed.push false).setIfInBounds l.size true).getD i true && (((l.push o)[i]?).map (·.after.all fun e => !Region.binds .any e || ((listed.push false).setIfInBounds l.size true).getD e.on false)).getD false) = [] := by
        rw [List.filter_eq_nil_iff]
        intro i hi
        have hi := List.mem_range.1 hi
        rw [Array.size_push] at hi
        have : ((listed.push false).setIfInBounds l.size true).getD i true = true := by
          simp only [Array.getD_eq_getD_getElem?]
          by_cases hil : i = l.size
          · subst hil
            rw [Array.getElem?_setIfInBounds_self_of_lt (by simp [hs])]; rfl
          · rw [Array.getElem?_setIfInBounds_ne (Ne.symm hil), Array.getElem?_push_lt (by omega), ← Array.getElem?_eq_getElem]
            have := hc i (by omega)
            simpa only [Array.getD_eq_getD_getElem?] using this
        rw [this]; simp
      rw [hnil2]
      simp
    · rw [if_neg hc, List.append_nil]
      have hne := hprog listed hs hc
      generalize hr : ((List.range l.size).filter fun i => !listed.getD i true && ((l[i]?).map (·.after.all fun e => !Region.binds .any e || listed.getD e.on false)).getD false) = rs at hne
      have hlt : t % rs.length < rs.length := Nat.mod_lt _ (List.length_pos_iff.2 hne)
      rw [List.getElem?_eq_getElem hlt]
      simp only
      have hmem : rs[t % rs.length] ∈ rs := List.getElem_mem hlt
      generalize rs[t % rs.length] = i at hmem
      have hmem' : i ∈ ((List.range l.size).filter fun i => !listed.getD i true && ((l[i]?).map (·.after.all fun e => !Region.binds .any e || listed.getD e.on false)).getD false) := by rw [hr]; exact hmem
      rw [List.mem_filter] at hmem'
      have hil := List.mem_range.1 hmem'.1
      have hun : listed.getD i true = false := by
        have := hmem'.2
        cases hv : listed.getD i true with
        | false => rfl
        | true => rw [hv] at this; simp at this
      have hpush : (listed.push false).setIfInBounds i true = (listed.setIfInBounds i true).push false := by
        apply Array.ext_getElem?
        intro q
        by_cases hq : q = i
        · subst hq
          rw [Array.getElem?_setIfInBounds_self_of_lt (by simp; omega), Array.getElem?_push_lt (by simp; omega), ← Array.getElem?_eq_getElem, Array.getElem?_setIfInBounds_self_of_lt (by omega)]
        · rw [Array.getElem?_setIfInBounds_ne (Ne.symm hq)]
          rcases Nat.lt_or_ge q listed.size with h | h
          · rw [Array.getElem?_push_lt h, ← Array.getElem?_eq_getElem, Array.getElem?_push_lt (by simpa using h), ← Array.getElem?_eq_getElem, Array.getElem?_setIfInBounds_ne (Ne.symm hq)]
          · rcases Nat.eq_or_lt_of_le h with h | h
            · have e1 : (listed.push false)[q]? = some false := by rw [← h, Array.getElem?_push_size]
              have e2 : ((listed.setIfInBounds i true).push false)[q]? = some false := by
                have : (listed.setIfInBounds i true).size = q := by simpa using h
                rw [← this, Array.getElem?_push_size]
              rw [e1, e2]
            · rw [Array.getElem?_eq_none (by simp; omega), Array.getElem?_eq_none (by simp; omega)]
      rw [hpush]
      refine ih _ _ _ (by simpa using hs) ?_
      -- one less is unlisted
      have hcount : ((List.range l.size).filter fun j => !(listed.setIfInBounds i true).getD j true).length < ((List.range l.size).filter fun j => !listed.getD j true).length := by
        have hsub : ((List.range l.size).filter fun j => !(listed.setIfInBounds i true).getD j true) = (((List.range l.size).filter fun j => !listed.getD j true).filter fun j => j != i) := by
          rw [List.filter_filter]
          apply List.filter_congr
          intro j hj
          have hj := List.mem_range.1 hj
          simp only [Array.getD_eq_getD_getElem?]
          by_cases h : j = i
          · subst h
            rw [Array.getElem?_setIfInBounds_self_of_lt (by omega)]; simp
          · rw [Array.getElem?_setIfInBounds_ne (Ne.symm h)]
            simp [h]
        rw [hsub]
        refine List.length_filter_lt_length_iff_exists.2 ⟨i, List.mem_filter.2 ⟨hmem'.1, by rw [hun]; rfl⟩, by simp⟩
      omega
end Go.Sim
