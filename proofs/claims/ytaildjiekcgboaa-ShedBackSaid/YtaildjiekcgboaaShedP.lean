/-
  Load shedding, in plain Lean: what the models of its functions answer.
-/
import Derived.Test.YtaildjiekcgboaaModS
import Derived.Test.YtaildjiekcgboaaSimW
import Derived.Test.YtaildjiekcgboaaSimL
import Derived.KernelRfl
namespace Go.Sim
open Go
set_option linter.unusedVariables false
set_option linter.unusedSimpArgs false
set_option linter.unusedSectionVars false
set_option linter.unnecessarySimpa false

abbrev Stg := S_api_ShedStage
structure StgOk (x : Stg) : Prop where
  b0 : -10000 ≤ x.Below
  b1 : x.Below ≤ -1
  w0 : 1 ≤ x.Wait
  w1 : x.Wait ≤ 60
  ld : x.Loads.length ≤ 12

/-- Stages in order. -/
structure StgsOk (l : List Stg) : Prop where
  len : l.length ≤ 8
  all : ∀ x ∈ l, StgOk x
  dec : ∀ i j : Nat, i < j → ∀ x y : Stg, l[i]? = some x → l[j]? = some y → y.Below < x.Below
  nd : (l.flatMap (·.Loads)).Nodup

/-! ### Check -/
theorem mget_put (l : List (ByteArray × Bool)) (k k' : ByteArray) : (mget (mput l k true) k').getD false = ((mget l k').getD false || decide (k = k')) := by
  have key : ∀ (l : List (ByteArray × Bool)) (i : Nat) , (∀ p, mfi l k' i = some p → mfi (l ++ [(k, true)]) k' i = some p) ∧ (mfi l k' i = none → mfi (l ++ [(k, true)]) k' i = if k = k' then some (i + l.length, true) else none) := by
    intro l
    induction l with
    | nil => intro i; refine ⟨fun p h => by simp [mfi] at h, fun _ => ?_⟩; simp [mfi]
    | cons q l ih =>
      obtain ⟨a, b⟩ := q
      intro i
      simp only [List.cons_append, mfi]
      by_cases h : a = k'
      · simp [h]
      · simp only [h, if_false]
        refine ⟨(ih (i + 1)).1, fun hn => ?_⟩
        rw [(ih (i + 1)).2 hn]
        simp; split
        · simp; omega
        · rfl
  have set_ne : ∀ (l : List (ByteArray × Bool)) (i j : Nat) (v : Bool), mfi l k i = some (j, v) → mget (l.set (j - i) (k, true)) k' = if k = k' then some true else mget l k' := by
    intro l
    unfold mget
    have : ∀ (l : List (ByteArray × Bool)) (i j : Nat) (v : Bool) (q : Nat), mfi l k i = some (j, v) → ((mfi (l.set (j - i) (k, true)) k' q).map (·.2)) = if k = k' then some true else (mfi l k' q).map (·.2) := by
      intro l
      induction l with
      | nil => intro i j v q h; simp [mfi] at h
      | cons p l ih =>
        obtain ⟨a, b⟩ := p
        intro i j v q h
        simp only [mfi] at h
        split at h
        · rename_i e
          simp only [Option.some.injEq, Prod.mk.injEq] at h
          obtain ⟨rfl, rfl⟩ := h
          subst e
          rw [Nat.sub_self, List.set_cons_zero]
          simp only [mfi]
          by_cases e : a = k' <;> simp [e]
        · rename_i e
          obtain ⟨h1, h2, _⟩ := mfi_lt h
          rw [show j - i = (j - (i + 1)) + 1 by omega, List.set_cons_succ]
          simp only [mfi]
          have := ih (i + 1) j v (q + 1) h
          by_cases e2 : a = k'
          · subst e2
            have hk : k ≠ a := fun x => e x.symm
            simp [hk]
          · simp only [e2, if_false]; exact this
    intro i j v h
    exact this l i j v 0 h
  unfold mput
  cases h : mfi l k 0 with
  | none =>
    simp only
    unfold mget
    cases h2 : mfi l k' 0 with
    | none =>
      rw [(key l 0).2 h2]
      by_cases e : k = k' <;> simp [e]
    | some p =>
      rw [(key l 0).1 p h2]
      by_cases e : k = k'
      · subst e; rw [h] at h2; cases h2
      · simp [e]
  | some p =>
    obtain ⟨j, v⟩ := p
    simp only
    have := set_ne l 0 j v h
    rw [Nat.sub_zero] at this
    rw [this]
    by_cases e : k = k' <;> simp [e]

/-- What has been seen. -/
def Seen (m : List (ByteArray × Bool)) (s : List ByteArray) : Prop := ∀ k, (mget m k).getD false = true ↔ k ∈ s
theorem Seen.nil : Seen [] [] := fun k => by simp [mget, mfi]
theorem Seen.put {m : List (ByteArray × Bool)} {s : List ByteArray} (h : Seen m s) (k : ByteArray) : Seen (mput m k true) (s ++ [k]) := fun k' => by
  rw [mget_put, Bool.or_eq_true, h k', decide_eq_true_eq, List.mem_append, List.mem_singleton]
  exact ⟨fun h => h.elim .inl (fun e => .inr e.symm), fun h => h.elim .inl (fun e => .inr e.symm)⟩

theorem name_some (s : ByteArray) (h : s.size ≤ maxLen) : Gd (m_netmodel_Name s) (fun _ => True) := by
  unfold m_netmodel_Name
  refine Gd.nd h (Gd.forI (fun _ _ _ => True) (fun i y ys s n _ hn => ?_) (fun i s _ => Gd.ret trivial) _ _ _ trivial)
  unfold m_netmodel_Name_b1
  exact Gd.ite (fun _ => Gd.ret trivial) (fun _ => hn _ trivial)

/-- The loads of one stage: an error, or they are new. -/
theorem loads_gd {R : Type} (Q : Option Int → Prop) (nx : List (ByteArray × Bool) → Option Int) : ∀ (ys : List ByteArray) (i : Nat) (m : List (ByteArray × Bool)) (s : List ByteArray), (∀ y ∈ ys, y.size ≤ maxLen) → Seen m s →
    (∀ e : Int, e ≠ 0 → Q (some e)) → (∀ m', Seen m' (s ++ ys) → (s.Nodup → (s ++ ys).Nodup) → Q (nx m')) → Q (forI (fun k y s n => m_shed_Check_b7 k y s n) (fun s => nx s) i ys m)
  | [], i, m, s, _, hm, he, hn => hn m (by simpa using hm) (by simp)
  | y :: ys, i, m, s, hy, hm, he, hn => by
    obtain ⟨b, hb, _⟩ := name_some y (hy y (List.mem_cons_self ..))
    simp only [forI, m_shed_Check_b7, hb, Option.bind_some]
    split
    · exact he 6 (by decide)
    · split
      · exact he 7 (by decide)
      · rename_i h2
        have hys : y ∉ s := fun hm' => h2 ((hm y).2 hm')
        refine loads_gd (R := R) Q nx ys (i + 1) _ (s ++ [y]) (fun z hz => hy z (List.mem_cons_of_mem _ hz)) (hm.put y) he (fun m' h1 h3 => hn m' (by simpa using h1) (fun hnd => ?_))
        have := h3 (by
          rw [List.nodup_append]
          refine ⟨hnd, by simp, ?_⟩
          rintro a ha b hb rfl
          simp at hb; subst hb; exact hys ha)
        simpa using this
theorem b67 : m_shed_Check_b6 = m_shed_Check_b7 := rfl

theorem check_cases (l : List Stg) (hl : ∀ x ∈ l, ∀ y ∈ x.Loads, y.size ≤ maxLen) : (∃ e : Int, e ≠ 0 ∧ m_shed_Check l = some e) ∨ (m_shed_Check l = some 0 ∧ StgsOk l) := by
  unfold m_shed_Check
  split
  · exact .inl ⟨2, by decide, rfl⟩
  · rename_i hlen
    have hlen' : l.length ≤ 8 := by simp at hlen; omega
    have key : ∀ (ys pre : List Stg) (m : List (ByteArray × Bool)), pre ++ ys = l → Seen m (pre.flatMap (·.Loads)) → StgsOk pre →
        (∃ e : Int, e ≠ 0 ∧ forI (fun k y s n => m_shed_Check_b5 l k y s n) (fun s => some 0) pre.length ys m = some e) ∨ (forI (fun k y s n => m_shed_Check_b5 l k y s n) (fun s => some 0) pre.length ys m = some 0 ∧ StgsOk l) := by
      intro ys
      induction ys with
      | nil => intro pre m he hs hp; simp at he; subst he; exact .inr ⟨rfl, hp⟩
      | cons y ys ih =>
        intro pre m he hs hp
        have hy : y ∈ l := by rw [← he]; simp
        simp only [forI, m_shed_Check_b5]
        split
        · exact .inl ⟨4, by decide, rfl⟩
        · rename_i hr
          simp only [Bool.or_eq_true, decide_eq_true_eq, not_or] at hr
          -- behind the order
          have tail : ∀ (hdec : ∀ x : Stg, pre.getLast? = some x → y.Below < x.Below), 
              (∃ e : Int, e ≠ 0 ∧ (if decide (12 < (y.Loads.length : Int)) = true then some 2 else forI (fun k y s n => m_shed_Check_b7 k y s n) (fun s => forI (fun k y s n => m_shed_Check_b5 l k y s n) (fun s => some 0) (pre.length + 1) ys s) 0 y.Loads m) = some e) ∨
              ((if decide (12 < (y.Loads.length : Int)) = true then some 2 else forI (fun k y s n => m_shed_Check_b7 k y s n) (fun s => forI (fun k y s n => m_shed_Check_b5 l k y s n) (fun s => some 0) (pre.length + 1) ys s) 0 y.Loads m) = some 0 ∧ StgsOk l) := by
            intro hdec
            split
            · exact .inl ⟨2, by decide, rfl⟩
            · rename_i h12
              have h12' : y.Loads.length ≤ 12 := by simp at h12; omega
              refine loads_gd (R := Int) (fun o => (∃ e : Int, e ≠ 0 ∧ o = some e) ∨ (o = some 0 ∧ StgsOk l)) _ y.Loads 0 m _ (hl y hy) hs (fun e he => .inl ⟨e, he, rfl⟩) (fun m' hs' hnd' => ?_)
              have := ih (pre ++ [y]) m' (by simpa using he) (by simpa using hs') ⟨?_, ?_, ?_, ?_⟩
              · simpa using this
              · have := congrArg List.length he
                simp at this ⊢; omega
              · intro x hx
                rcases List.mem_append.1 hx with hx | hx
                · exact hp.all x hx
                · simp at hx; subst hx
                  exact ⟨by omega, by omega, by omega, by omega, h12'⟩
              · intro i j hij a b ha hb
                have hj : j < pre.length + 1 := by have := (List.getElem?_eq_some_iff.1 hb).1; simpa using this
                by_cases hjp : j < pre.length
                · rw [List.getElem?_append_left (by omega)] at ha hb
                  exact hp.dec i j hij a b ha hb
                · have : j = pre.length := by omega
                  subst this
                  rw [List.getElem?_append_right (Nat.le_refl _)] at hb
                  simp at hb; subst hb
                  rw [List.getElem?_append_left (by omega)] at ha
                  have hlast : pre.getLast? = pre[pre.length - 1]? := List.getLast?_eq_getElem?
                  have hgl : ∃ z, pre[pre.length - 1]? = some z := ⟨_, List.getElem?_eq_getElem (by omega)⟩
                  obtain ⟨z, hz⟩ := hgl
                  have h1 := hdec z (by rw [hlast]; exact hz)
                  by_cases hi : i = pre.length - 1
                  · subst hi; rw [hz] at ha; cases ha; exact h1
                  · have := hp.dec i (pre.length - 1) (by omega) a z ha hz
                    omega
              · rw [List.flatMap_append]
                simpa using hnd' hp.nd
          rw [b67]
          split
          · rename_i hpos
            have hpos' : 0 < pre.length := by simpa using hpos
            have hi : l[pre.length - 1]? = pre[pre.length - 1]? := by rw [← he, List.getElem?_append_left (by omega)]
            have hz : pre[pre.length - 1]? = some pre[pre.length - 1] := List.getElem?_eq_getElem (by omega)
            have hw : IntKind.i64.wrap ((pre.length : Int) - 1) = (pre.length : Int) - 1 := wrap_id (by
              have := congrArg List.length he
              simp at this; omega)
            unfold idx
            rw [hw, if_pos (by omega), show ((pre.length : Int) - 1).toNat = pre.length - 1 by omega, hi, hz]
            simp only
            split
            · exact .inl ⟨3, by decide, rfl⟩
            · rename_i hb
              refine tail (fun x hx => ?_)
              rw [List.getLast?_eq_getElem?, hz] at hx
              cases hx
              simpa using hb
          · rename_i hpos
            have hpos' : pre = [] := by
              have : pre.length = 0 := by simpa using hpos
              exact List.eq_nil_of_length_eq_zero this
            refine tail (fun x hx => ?_)
            subst hpos'
            simp at hx
    have := key l [] [] (by simp) (by simpa using Seen.nil) ⟨by simp, by simp, by simp, by simp⟩
    simpa using this
end Go.Sim
