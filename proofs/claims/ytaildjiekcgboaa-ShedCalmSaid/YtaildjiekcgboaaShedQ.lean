/-
  Load shedding, in plain Lean: steps.
-/
import Derived.Test.YtaildjiekcgboaaShedP
namespace Go.Sim
open Go
set_option linter.unusedVariables false
set_option linter.unusedSimpArgs false
set_option linter.unusedSectionVars false
set_option linter.unnecessarySimpa false

theorem index_int (l : List Int) (v : Int) (hl : l.length ≤ 1000) : ∃ r, m_slices_Index_int_int l v = some r ∧ (0 ≤ r ↔ v ∈ l) := by
  unfold m_slices_Index_int_int
  have key : ∀ (m k : Nat), k + m = l.length → ∃ r, forN (fun k (s : Unit) n => m_slices_Index_int_int_b1 l v k n) (fun _ => some (-1)) m k () = some r ∧ (0 ≤ r ↔ v ∈ l.drop k) := by
    intro m
    induction m with
    | zero => intro k h; exact ⟨-1, rfl, by rw [List.drop_eq_nil_of_le (by omega)]; simp⟩
    | succ m ih =>
      intro k h
      have hk : k < l.length := by omega
      obtain ⟨r, hr, hq⟩ := ih (k + 1) (by omega)
      simp only [forN, m_slices_Index_int_int_b1, idx]
      rw [if_pos (by omega), show ((k : Int)).toNat = k by omega, List.getElem?_eq_getElem hk]
      simp only
      rw [List.drop_eq_getElem_cons hk]
      split
      · rename_i e
        simp at e
        exact ⟨k, rfl, fun _ => by rw [e]; exact List.mem_cons_self .., fun _ => by omega⟩
      · rename_i e
        simp at e
        exact ⟨r, hr, by rw [hq, List.mem_cons]; exact ⟨.inr, fun h => h.resolve_left e⟩⟩
  obtain ⟨r, hr, hq⟩ := key l.length 0 (by omega)
  exact ⟨r, by simpa using hr, by simpa using hq⟩
theorem contains_int (l : List Int) (v : Int) (hl : l.length ≤ 1000) : m_slices_Contains_int_int l v = some (decide (v ∈ l)) := by
  obtain ⟨r, hr, hq⟩ := index_int l v hl
  unfold m_slices_Contains_int_int
  rw [hr]
  simp only [Option.bind_some]
  congr 1
  rw [decide_eq_decide]; exact hq
theorem contains_str (l : List ByteArray) (v : ByteArray) : ∃ b, m_slices_Contains_string_string l v = some b ∧ (b = true ↔ v ∈ l) := by
  have key : ∀ (m k : Nat), k + m = l.length → ∃ r, forN (fun k (s : Unit) n => m_slices_Index_string_string_b1 l v k n) (fun _ => some (-1)) m k () = some r ∧ (0 ≤ r ↔ v ∈ l.drop k) := by
    intro m
    induction m with
    | zero => intro k h; exact ⟨-1, rfl, by rw [List.drop_eq_nil_of_le (by omega)]; simp⟩
    | succ m ih =>
      intro k h
      have hk : k < l.length := by omega
      obtain ⟨r, hr, hq⟩ := ih (k + 1) (by omega)
      simp only [forN, m_slices_Index_string_string_b1, idx]
      rw [if_pos (by omega), show ((k : Int)).toNat = k by omega, List.getElem?_eq_getElem hk]
      simp only
      rw [List.drop_eq_getElem_cons hk]
      split
      · rename_i e
        simp at e
        exact ⟨k, rfl, fun _ => by rw [e]; exact List.mem_cons_self .., fun _ => by omega⟩
      · rename_i e
        simp at e
        exact ⟨r, hr, by rw [hq, List.mem_cons]; exact ⟨.inr, fun h => h.resolve_left e⟩⟩
  obtain ⟨r, hr, hq⟩ := key l.length 0 (by omega)
  unfold m_slices_Contains_string_string m_slices_Index_string_string
  have hr' : forN (fun k (s : Unit) n => m_slices_Index_string_string_b1 l v k n) (fun _ => some (-1)) ((l.length : Int) : Int).toNat 0 () = some r := by simpa using hr
  rw [hr']
  exact ⟨_, rfl, by simpa using hq⟩

def upd (f : Int) (x : Stg) (c : Int) : Int := if x.Below ≤ f then 0 else min (c + 1) x.Wait
/-- A step, stage by stage: what is switched off, the counts, which stages have acted. -/
def run (f : Int) : Nat → List Stg → List Int → List Int → List ByteArray → List ByteArray × List Int × List Int
  | k, x :: xs, c :: cs, acted, out =>
    if ¬ x.Below ≤ f ∧ upd f x c = x.Wait ∧ (k : Int) ∉ acted then
      ((run f (k + 1) xs cs (acted ++ [(k : Int)]) (out ++ x.Loads)).1, upd f x c :: (run f (k + 1) xs cs (acted ++ [(k : Int)]) (out ++ x.Loads)).2.1, (run f (k + 1) xs cs (acted ++ [(k : Int)]) (out ++ x.Loads)).2.2)
    else ((run f (k + 1) xs cs acted out).1, upd f x c :: (run f (k + 1) xs cs acted out).2.1, (run f (k + 1) xs cs acted out).2.2)
  | _, _, _, acted, out => (out, [], acted)

theorem step_loop {R : Type} (f : Int) (K : List ByteArray × List Int × List Int → Option ((List ByteArray) × Int × S_shed_Shed)) : ∀ (ys : List Stg) (k : Nat) (pre cs acted : List Int) (out : List ByteArray), pre.length = k → cs.length = ys.length → (∀ x ∈ ys, StgOk x) → (∀ c ∈ cs, 0 ≤ c ∧ c ≤ 60) →
    acted.length + ys.length ≤ 100 → out.length + 12 * ys.length ≤ 1000 →
    forI (fun k y s n => m_shed_Shed_Step_b3 f k y s.1 s.2.1 s.2.2 n) K k ys (out, pre ++ cs, acted) = K ((run f k ys cs acted out).1, pre ++ (run f k ys cs acted out).2.1, (run f k ys cs acted out).2.2)
  | [], k, pre, cs, acted, out, hp, hc, _, _, _, _ => by
    have : cs = [] := List.eq_nil_of_length_eq_zero (by simpa using hc)
    subst this
    simp [forI, run]
  | x :: xs, k, pre, [], acted, out, hp, hc, _, _, _, _ => by simp at hc
  | x :: xs, k, pre, c :: cs, acted, out, hp, hc, hx, hcs, ha, ho => by
    have hX := hx x (List.mem_cons_self ..)
    have hC := hcs c (List.mem_cons_self ..)
    have hget : (pre ++ c :: cs)[k]? = some c := by rw [List.getElem?_append_right (by omega), hp, Nat.sub_self]; rfl
    have hset : ∀ z : Int, (pre ++ c :: cs).set k z = (pre ++ [z]) ++ cs := fun z => by rw [List.set_append_right _ _ (by omega), hp, Nat.sub_self]; simp
    have hk : ((k : Int)).toNat = k := by omega
    have hw : IntKind.i64.wrap (c + 1) = c + 1 := wrap_id (by omega)
    have hx' : ∀ y ∈ xs, StgOk y := fun y hy => hx y (List.mem_cons_of_mem _ hy)
    have hcs' : ∀ d ∈ cs, 0 ≤ d ∧ d ≤ 60 := fun d hd => hcs d (List.mem_cons_of_mem _ hd)
    have h1 := hX.ld
    have hrec := fun (pr ac : List Int) (ou : List ByteArray) h1 h2 h3 => step_loop (R := R) f K xs (k + 1) pr cs ac ou h1 (by simpa using hc) hx' hcs' h2 h3
    show m_shed_Shed_Step_b3 f k x out (pre ++ c :: cs) acted (forI (fun k y s n => m_shed_Shed_Step_b3 f k y s.1 s.2.1 s.2.2 n) K (k + 1) xs) = _
    generalize forI (fun k y s n => m_shed_Shed_Step_b3 f k y s.1 s.2.1 s.2.2 n) K (k + 1) xs = nx at hrec ⊢
    have h0 : (0 : Int) ≤ (k : Int) := by omega
    simp only [m_shed_Shed_Step_b3, m_shed_Shed_Step_b4, idx, hk, hget, hw, h0, if_true, hset]
    by_cases hb : x.Below ≤ f
    · simp only [hb, decide_true, if_true]
      rw [hrec (pre ++ [0]) acted out (by simp [hp]) (by simp at ha; omega) (by simp at ho; omega)]
      simp [run, upd, hb]
    · have hget2 : ((pre ++ [min (c + 1) x.Wait]) ++ cs)[k]? = some (min (c + 1) x.Wait) := by
        rw [List.append_assoc, List.getElem?_append_right (by omega), hp, Nat.sub_self]; rfl
      simp only [hb, decide_false, Bool.false_eq_true, if_false, hget2]
      by_cases hm : min (c + 1) x.Wait = x.Wait
      · rw [if_pos (by simpa using hm), contains_int _ _ (by simp at ha; omega)]
        simp only [Option.bind_some]
        by_cases hin : (k : Int) ∈ acted
        · rw [if_neg (by simp [hin])]
          rw [hrec (pre ++ [min (c + 1) x.Wait]) acted out (by simp [hp]) (by simp at ha; omega) (by simp at ho; omega)]
          simp [run, upd, hb, hin]
        · rw [if_pos (by simp [hin])]
          unfold need
          rw [if_pos (by simp at ha ⊢; omega), if_pos (by simp at ho ⊢; omega)]
          rw [hrec (pre ++ [min (c + 1) x.Wait]) (acted ++ [(k : Int)]) (out ++ x.Loads) (by simp [hp]) (by simp at ha ⊢; omega) (by simp at ho ⊢; omega)]
          simp [run, upd, hb, hin, hm]
      · rw [if_neg (by simpa using hm)]
        rw [hrec (pre ++ [min (c + 1) x.Wait]) acted out (by simp [hp]) (by simp at ha; omega) (by simp at ho; omega)]
        simp [run, upd, hb, hm]

/-- What a shedder looks like. -/
structure ShOk (s : S_shed_Shed) : Prop where
  st : StgsOk s.stages
  len : s.count.length = s.stages.length
  cnt : ∀ (i : Nat) (c : Int) (x : Stg), s.count[i]? = some c → s.stages[i]? = some (x : Stg) → 0 ≤ c ∧ c ≤ x.Wait
  dom : ∀ a ∈ s.acted, ∃ i : Nat, a = i ∧ i < s.stages.length
  nd : s.acted.Nodup

theorem ShOk.c60 {s : S_shed_Shed} (h : ShOk s) : ∀ c ∈ s.count, 0 ≤ c ∧ c ≤ 60 := by
  intro c hc
  obtain ⟨i, hi⟩ := List.mem_iff_getElem?.1 hc
  have hlt := (List.getElem?_eq_some_iff.1 hi).1
  have hx : s.stages[i]? = some (s.stages[i]'(by rw [← h.len]; exact hlt)) := List.getElem?_eq_getElem _
  have := h.cnt i c _ hi hx
  have := (h.st.all _ (List.mem_of_getElem? hx)).w1
  omega
theorem pigeon : ∀ (n : Nat) (l : List Nat), l.Nodup → (∀ x ∈ l, x < n) → l.length ≤ n
  | 0, [], _, _ => Nat.le_refl _
  | 0, x :: l, _, h => absurd (h x (List.mem_cons_self ..)) (Nat.not_lt_zero _)
  | n + 1, l, hn, h => by
    have := pigeon n (l.erase n) (hn.erase n) (fun x hx => by
      have h1 := (List.Nodup.mem_erase_iff hn).1 hx
      have := h x h1.2
      omega)
    by_cases hm : n ∈ l
    · rw [List.length_erase_of_mem hm] at this; omega
    · rw [List.erase_of_not_mem hm] at this; omega
theorem nodup_bound (l : List Int) (n : Nat) (hnd : l.Nodup) (hd : ∀ a ∈ l, ∃ i : Nat, a = i ∧ i < n) : l.length ≤ n := by
  have hm : (l.map Int.toNat).Nodup := by
    unfold List.Nodup
    rw [List.pairwise_map]
    refine List.Pairwise.imp_of_mem (fun {a b} ha hb hne e => ?_) hnd
    obtain ⟨i, rfl, _⟩ := hd a ha
    obtain ⟨j, rfl, _⟩ := hd b hb
    simp at e; subst e; exact hne rfl
  have hs : l.map Int.toNat ⊆ List.range n := by
    intro x hx
    obtain ⟨a, ha, rfl⟩ := List.mem_map.1 hx
    obtain ⟨i, rfl, hi⟩ := hd a ha
    simpa using hi
  have := pigeon n _ hm (fun x hx => List.mem_range.1 (hs hx))
  simpa using this
theorem ShOk.a8 {s : S_shed_Shed} (h : ShOk s) : s.acted.length ≤ 8 := Nat.le_trans (nodup_bound _ _ h.nd h.dom) h.st.len

def stepped (s : S_shed_Shed) (f : Int) : S_shed_Shed := ⟨s.stages, (run f 0 s.stages s.count s.acted []).2.1, (run f 0 s.stages s.count s.acted []).2.2⟩
theorem step_eq {s : S_shed_Shed} (h : ShOk s) (f : Int) : m_shed_Shed_Step s f = if m_shed_wrong f = true then some ([], 4, s) else some ((run f 0 s.stages s.count s.acted []).1, 0, stepped s f) := by
  unfold m_shed_Shed_Step
  split
  · rfl
  · have := step_loop (R := Unit) f (fun s_1 => some (s_1.1, 0, S_shed_Shed.mk s.stages s_1.2.1 s_1.2.2)) s.stages 0 [] s.count s.acted [] rfl h.len h.st.all h.c60 (by have := h.a8; have := h.st.len; omega) (by have := h.st.len; simp; omega)
    simp only [List.nil_append] at this
    rw [this]
    rfl

theorem run_len (f : Int) : ∀ (ys : List Stg) (k : Nat) (cs acted : List Int) (out : List ByteArray), cs.length = ys.length → (run f k ys cs acted out).2.1.length = ys.length
  | [], k, cs, acted, out, h => by simp [run]
  | x :: xs, k, [], acted, out, h => by simp at h
  | x :: xs, k, c :: cs, acted, out, h => by
    simp only [run]
    split <;> simp only [List.length_cons] <;> rw [run_len f xs _ cs _ _ (by simpa using h)]
theorem run_cnt (f : Int) : ∀ (ys : List Stg) (k : Nat) (cs acted : List Int) (out : List ByteArray) (i : Nat) (c : Int) (x : Stg), cs[i]? = some c → ys[i]? = some x → (run f k ys cs acted out).2.1[i]? = some (upd f x c)
  | [], k, cs, acted, out, i, c, x, _, h => by simp at h
  | y :: ys, k, [], acted, out, i, c, x, h, _ => by simp at h
  | y :: ys, k, d :: cs, acted, out, 0, c, x, h1, h2 => by
    simp at h1 h2; subst h1; subst h2
    simp only [run]
    split <;> rfl
  | y :: ys, k, d :: cs, acted, out, i + 1, c, x, h1, h2 => by
    simp only [run]
    split <;> exact run_cnt f ys _ cs _ _ i c x (by simpa using h1) (by simpa using h2)
/-- Which stages have acted. -/
theorem run_acted (f : Int) : ∀ (ys : List Stg) (k : Nat) (cs acted : List Int) (out : List ByteArray) (a : Int), cs.length = ys.length →
    (a ∈ (run f k ys cs acted out).2.2 ↔ a ∈ acted ∨ ∃ i c x, a = (k + i : Nat) ∧ cs[i]? = some c ∧ ys[i]? = some x ∧ ¬ x.Below ≤ f ∧ upd f x c = x.Wait)
  | [], k, cs, acted, out, a, h => by simp [run]
  | x :: xs, k, [], acted, out, a, h => by simp at h
  | x :: xs, k, c :: cs, acted, out, a, h => by
    have ih := fun ac ou => run_acted f xs (k + 1) cs ac ou a (by simpa using h)
    have hex : (∃ i d y, a = (k + i : Nat) ∧ (c :: cs)[i]? = some d ∧ (x :: xs)[i]? = some y ∧ ¬ y.Below ≤ f ∧ upd f y d = y.Wait) ↔
        (a = k ∧ ¬ x.Below ≤ f ∧ upd f x c = x.Wait) ∨ (∃ i d y, a = (k + 1 + i : Nat) ∧ cs[i]? = some d ∧ xs[i]? = some y ∧ ¬ y.Below ≤ f ∧ upd f y d = y.Wait) := by
      constructor
      · rintro ⟨i, d, y, h1, h2, h3, h4⟩
        cases i with
        | zero => simp at h2 h3; subst h2; subst h3; exact .inl ⟨by simpa using h1, h4⟩
        | succ i => exact .inr ⟨i, d, y, by omega, by simpa using h2, by simpa using h3, h4⟩
      · rintro (⟨h1, h2⟩ | ⟨i, d, y, h1, h2, h3, h4⟩)
        · exact ⟨0, c, x, by simpa using h1, rfl, rfl, h2⟩
        · exact ⟨i + 1, d, y, by omega, by simpa using h2, by simpa using h3, h4⟩
    rw [hex]
    simp only [run]
    split
    · rename_i hc
      simp only
      rw [ih, List.mem_append, List.mem_singleton]
      constructor
      · rintro ((h | h) | h)
        · exact .inl h
        · exact .inr (.inl ⟨h, hc.1, hc.2.1⟩)
        · exact .inr (.inr h)
      · rintro (h | ⟨h, _⟩ | h)
        · exact .inl (.inl h)
        · exact .inl (.inr h)
        · exact .inr h
    · rename_i hc
      simp only
      rw [ih]
      constructor
      · rintro (h | h)
        · exact .inl h
        · exact .inr (.inr h)
      · rintro (h | ⟨h, h1, h2⟩ | h)
        · exact .inl h
        · refine .inl ?_
          subst h
          exact Classical.byContradiction fun hn => hc ⟨h1, h2, hn⟩
        · exact .inr h
theorem run_nd (f : Int) : ∀ (ys : List Stg) (k : Nat) (cs acted : List Int) (out : List ByteArray), cs.length = ys.length → acted.Nodup → (run f k ys cs acted out).2.2.Nodup
  | [], k, cs, acted, out, h, hn => by simpa [run] using hn
  | x :: xs, k, [], acted, out, h, hn => by simp at h
  | x :: xs, k, c :: cs, acted, out, h, hn => by
    simp only [run]
    split
    · rename_i hc
      refine run_nd f xs _ cs _ _ (by simpa using h) ?_
      rw [List.nodup_append]
      refine ⟨hn, by simp, ?_⟩
      rintro a ha b hb rfl
      simp at hb; subst hb; exact hc.2.2 ha
    · exact run_nd f xs _ cs _ _ (by simpa using h) hn
theorem upd_bd {x : Stg} (hx : StgOk x) {f c : Int} (h0 : 0 ≤ c) (h1 : c ≤ x.Wait) : 0 ≤ upd f x c ∧ upd f x c ≤ x.Wait := by
  have := hx.w0
  unfold upd; split <;> omega
theorem ShOk.step {s : S_shed_Shed} (h : ShOk s) (f : Int) : ShOk (stepped s f) := by
  refine ⟨h.st, run_len f _ _ _ _ _ h.len, ?_, ?_, run_nd f _ _ _ _ _ h.len h.nd⟩
  · intro i c x hi hx
    have hlt : i < s.count.length := by
      have := (List.getElem?_eq_some_iff.1 hx).1
      rw [h.len]; exact this
    have hc : s.count[i]? = some s.count[i] := List.getElem?_eq_getElem hlt
    have := run_cnt f s.stages 0 s.count s.acted [] i _ x hc hx
    simp only [stepped] at hi
    rw [this] at hi
    cases hi
    have hb := h.cnt i _ x hc hx
    exact upd_bd (h.st.all x (List.mem_of_getElem? hx)) hb.1 hb.2
  · intro a ha
    simp only [stepped] at ha
    rw [run_acted f _ _ _ _ _ a h.len] at ha
    rcases ha with ha | ⟨i, c, x, rfl, h1, h2, _⟩
    · exact h.dom a ha
    · exact ⟨0 + i, rfl, by rw [Nat.zero_add]; exact (List.getElem?_eq_some_iff.1 h2).1⟩

/-- What is off. -/
def loadsAt (l : List Stg) (a : Int) : List ByteArray := match l[a.toNat]? with
  | some x => x.Loads
  | none => []
theorem off_loop (s : S_shed_Shed) (h : StgsOk s.stages) (K : List ByteArray → Option (List ByteArray)) : ∀ (ys : List Int) (k : Nat) (out : List ByteArray), (∀ a ∈ ys, ∃ i : Nat, a = i ∧ i < s.stages.length) → out.length + 12 * ys.length ≤ 1000 →
    forI (fun k y t n => m_shed_Shed_Off_b1 s k y t n) K k ys out = K (out ++ ys.flatMap (loadsAt s.stages))
  | [], k, out, _, _ => by simp [forI]
  | y :: ys, k, out, hy, ho => by
    obtain ⟨i, rfl, hi⟩ := hy y (List.mem_cons_self ..)
    have hx : s.stages[i]? = some s.stages[i] := List.getElem?_eq_getElem hi
    have hl := (h.all _ (List.mem_of_getElem? hx)).ld
    simp only [List.length_cons] at ho
    have hrec := off_loop s h K ys (k + 1) (out ++ s.stages[i].Loads) (fun a ha => hy a (List.mem_cons_of_mem _ ha)) (by simp; omega)
    show m_shed_Shed_Off_b1 s k i out (forI (fun k y t n => m_shed_Shed_Off_b1 s k y t n) K (k + 1) ys) = _
    generalize forI (fun k y t n => m_shed_Shed_Off_b1 s k y t n) K (k + 1) ys = nx at hrec ⊢
    unfold m_shed_Shed_Off_b1
    have h0 : (0 : Int) ≤ (i : Int) := by omega
    simp only [idx, h0, if_true, show ((i : Int)).toNat = i by omega, hx, need]
    rw [if_pos (by omega)]
    rw [hrec]
    simp [loadsAt, hx]
theorem off_eq {s : S_shed_Shed} (h : ShOk s) : m_shed_Shed_Off s = some (s.acted.flatMap (loadsAt s.stages)) := by
  unfold m_shed_Shed_Off
  rw [off_loop s h.st _ s.acted 0 [] h.dom (by have := h.a8; simp; omega)]
  simp

/-- A new shedder. -/
def fresh (l : List Stg) : S_shed_Shed := ⟨l, List.replicate l.length 0, []⟩
theorem fresh_ok {l : List Stg} (h : StgsOk l) : ShOk (fresh l) := by
  refine ⟨h, by simp [fresh], ?_, by simp [fresh], by simp [fresh]⟩
  intro i c x hi hx
  have := (h.all x (List.mem_of_getElem? hx)).w0
  simp only [fresh, List.getElem?_replicate] at hi
  split at hi
  · cases hi; omega
  · cases hi
theorem new_eq (l : List Stg) (hl : ∀ x ∈ l, ∀ y ∈ x.Loads, y.size ≤ maxLen) : (∃ e : Int, e ≠ 0 ∧ m_shed_Check l = some e ∧ m_shed_New l = some (none, e)) ∨ (m_shed_Check l = some 0 ∧ StgsOk l ∧ m_shed_New l = some (some (fresh l), 0)) := by
  rcases check_cases l hl with ⟨e, he, hc⟩ | ⟨hc, hok⟩
  · refine .inl ⟨e, he, hc, ?_⟩
    unfold m_shed_New
    rw [hc]
    simp [he]
  · refine .inr ⟨hc, hok, ?_⟩
    have h8 := hok.len
    unfold m_shed_New
    rw [hc]
    simp only [Option.bind_some, decide_true, Bool.not_true, Bool.false_eq_true, if_false, need]
    have key : ∀ (m k : Nat) (K : List Stg → Option ((Option S_shed_Shed) × Int)), k + m = l.length → forN (fun k s n => m_shed_New_b1 k s n) K m k l = K l := by
      intro m
      induction m with
      | zero => intro k K h; rfl
      | succ m ih =>
        intro k K h
        have hk : k < l.length := by omega
        have hx : l[k]? = some l[k] := List.getElem?_eq_getElem hk
        have hld := (hok.all _ (List.mem_of_getElem? hx)).ld
        simp only [forN, m_shed_New_b1, idx]
        rw [if_pos (by omega), show ((k : Int)).toNat = k by omega, hx]
        simp only [need]
        rw [if_pos (by omega), if_pos (by omega)]
        have : l.set k (S_api_ShedStage.mk l[k].Below l[k].Wait l[k].Loads) = l := by
          apply List.ext_getElem?
          intro j
          rw [List.getElem?_set]
          split
          · rename_i e; subst e; simp [hk]
          · rfl
        rw [this]
        exact ih (k + 1) K (by omega)
    split
    · split
      · first
          | (rw [show ((l.length : Int)).toNat = l.length by omega, key l.length 0 _ (by omega)]; rfl)
          | (split <;> first
              | (rw [show ((l.length : Int)).toNat = l.length by omega, key l.length 0 _ (by omega)]; rfl)
              | omega)
      · omega
    · omega
theorem shedFact_true : m_gridhallkeep4_shedFact = some true := by kernel_rfl
end Go.Sim
