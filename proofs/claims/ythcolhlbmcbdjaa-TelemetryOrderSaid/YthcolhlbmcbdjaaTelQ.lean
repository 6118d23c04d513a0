/-
  Telemetry, in plain Lean: what is kept of messages, and the laws.
-/
import Derived.Test.YthcolhlbmcbdjaaTelP
namespace Go.Sim
open Go
set_option linter.unusedVariables false
set_option linter.unusedSimpArgs false
set_option linter.unusedSectionVars false
set_option linter.unnecessarySimpa false

theorem tname_gd (s : BA) (h : s.size ≤ maxLen) : Gd (m_netmodel_Name s) (fun _ => True) := by
  unfold m_netmodel_Name
  refine Gd.nd h (Gd.forI (fun _ _ _ => True) (fun i y ys s n _ hn => ?_) (fun i s _ => Gd.ret trivial) _ _ _ trivial)
  unfold m_netmodel_Name_b1
  exact Gd.ite (fun _ => Gd.ret trivial) (fun _ => hn _ trivial)
theorem tcheck_gd (m : Msg) (h : m.Point.size ≤ maxLen) : Gd (m_telemetry_Check m) (fun e => e = 0 → 0 ≤ m.Time ∧ m.Time ≤ 200000) := by
  unfold m_telemetry_Check
  refine Gd.bnd (tname_gd _ h) (fun b _ => Gd.ite (fun _ => Gd.ret (fun h => by simp at h)) (fun _ => Gd.ite (fun _ => Gd.ret (fun h => by simp at h)) (fun _ => Gd.ite (fun _ => Gd.ret (fun h => by simp at h)) (fun h => Gd.ret (fun _ => ?_)))))
  simp only [Bool.or_eq_false_iff, decide_eq_false_iff_not] at h
  omega
theorem tindex_gd (age : Int) (l : List Pnt) (p : BA) : Gd (m_telemetry_Points_index ⟨age, l⟩ p) (fun r => (r = -1 ∧ ∀ x ∈ l, x.TelemetryMsg.Point ≠ p) ∨ ∃ (k : Nat) (h : k < l.length), r = k ∧ l[k].TelemetryMsg.Point = p) := by
  unfold m_telemetry_Points_index
  refine Gd.bnd (P := fun r => (r = -1 ∧ ∀ x ∈ l, x.TelemetryMsg.Point ≠ p) ∨ ∃ (k : Nat) (h : k < l.length), r = k ∧ l[k].TelemetryMsg.Point = p) ?_ (fun r hr => Gd.ret hr)
  unfold m_slices_IndexFunc_telemetry_point_telemetry_point__telemetry_Points_index_1
  refine Gd.forN (fun m i _ => i + m = l.length ∧ ∀ x ∈ l.take i, x.TelemetryMsg.Point ≠ p) ?_ ?_ (l.length : Int).toNat 0 () ⟨by omega, by simp⟩
  · intro m i _ nx ⟨hi, hno⟩ hnx
    have hlt : i < l.length := by omega
    unfold m_slices_IndexFunc_telemetry_point_telemetry_point__telemetry_Points_index_1_b1 m_telemetry_Points_index_1
    refine Gd.idxN hlt (Gd.ite (fun h => Gd.ret (.inr ⟨i, hlt, rfl, by simpa using h⟩)) (fun h => hnx () ⟨by omega, ?_⟩))
    rw [List.take_succ_eq_append_getElem hlt]
    intro x hx
    rcases List.mem_append.1 hx with hx | hx
    · exact hno x hx
    · simp at hx; subst hx; simpa using h
  · intro i _ ⟨hi, hno⟩
    rw [List.take_of_length_le (by omega)] at hno
    exact Gd.ret (.inl ⟨rfl, hno⟩)

def pts (l : List Pnt) : List BA := l.map (fun x => x.TelemetryMsg.Point)
/-- What Take makes of what is kept. -/
inductive Took (m : Msg) (l l' : List Pnt) : Prop
  | bad : m_telemetry_Check m ≠ some 0 → l' = l → Took m l l'
  | new : m_telemetry_Check m = some 0 → (∀ x ∈ l, x.TelemetryMsg.Point ≠ m.Point) → l' = l ++ [⟨m, 1⟩] → Took m l l'
  | old (i : Nat) (h : i < l.length) : m_telemetry_Check m = some 0 → l[i].TelemetryMsg.Point = m.Point → m.Number ≤ l[i].TelemetryMsg.Number → l' = l → Took m l l'
  | late (i : Nat) (h : i < l.length) : m_telemetry_Check m = some 0 → l[i].TelemetryMsg.Point = m.Point → l[i].TelemetryMsg.Number < m.Number → m.Time < l[i].TelemetryMsg.Time → l' = l → Took m l l'
  | up (i : Nat) (h : i < l.length) (q : Int) : m_telemetry_Check m = some 0 → l[i].TelemetryMsg.Point = m.Point → l[i].TelemetryMsg.Number < m.Number → l' = l.set i ⟨m, q⟩ → Took m l l'
theorem take_gd (age : Int) (l : List Pnt) (m : Msg) (hm : m.Point.size ≤ maxLen) (hl : l.length ≤ 20) : Gd (m_telemetry_Points_Take ⟨age, l⟩ m) (fun r => r.2.2.age = age ∧ Took m l r.2.2.all_) := by
  unfold m_telemetry_Points_Take
  obtain ⟨e, he, _⟩ := tcheck_gd m hm
  refine Gd.bind_eq he (Gd.ite (fun h => Gd.ret ⟨rfl, .bad (by rw [he]; simpa using h) rfl⟩) (fun h => ?_))
  have h0 : e = 0 := by simpa using h
  subst h0
  refine Gd.bnd (tindex_gd age l m.Point) (fun r hr => ?_)
  rcases hr with ⟨rfl, hno⟩ | ⟨i, hi, rfl, hp⟩
  · refine Gd.ite (fun h => ?_) (fun _ => Gd.ite (fun _ => Gd.nd (by simp; omega) ?_) (fun h => by simp at h))
    · simp at h; omega
    · unfold m_telemetry_Points_Take_b1
      exact Gd.ret ⟨rfl, .new he hno rfl⟩
  · refine Gd.ite (fun h => by simp at h; omega) (fun _ => Gd.ite (fun h => by simp at h; omega) (fun _ => ?_))
    refine Gd.idxN hi (Gd.ite (fun h => Gd.ret ⟨rfl, .old i hi he hp (by simpa using h) rfl⟩) (fun h1 => Gd.idxN hi (Gd.ite (fun h2 => Gd.ret ⟨rfl, .late i hi he hp (by simpa using h1) (by simpa using h2) rfl⟩) (fun _ => Gd.idxN hi (Gd.idxN hi ?_)))))
    unfold m_telemetry_Points_Take_b1
    rw [Int.toNat_natCast]
    exact Gd.ret ⟨rfl, .up i hi _ he hp (by simpa using h1) rfl⟩

/-- What is kept of the messages S. -/
structure Kept2 (S : List Msg) (l : List Pnt) : Prop where
  nd : (pts l).Nodup
  src : ∀ x ∈ l, x.TelemetryMsg ∈ S ∧ m_telemetry_Check x.TelemetryMsg = some 0
theorem mem_set {α : Type} {l : List α} {i : Nat} {a x : α} (h : x ∈ l.set i a) : x ∈ l ∨ x = a := (List.mem_or_eq_of_mem_set h)
theorem pts_set {l : List Pnt} {i : Nat} {m : Msg} {q : Int} (h : i < l.length) (hp : l[i].TelemetryMsg.Point = m.Point) : pts (l.set i ⟨m, q⟩) = pts l := by
  unfold pts
  rw [List.map_set]
  have : m.Point = (l.map (fun x : Pnt => x.TelemetryMsg.Point))[i]'(by simpa using h) := by simp [hp]
  show (l.map fun x : Pnt => x.TelemetryMsg.Point).set i m.Point = _
  rw [this]
  exact List.set_getElem_self _
theorem Kept2.took {S : List Msg} {l l' : List Pnt} {m : Msg} (h : Kept2 S l) (t : Took m l l') : Kept2 (S ++ [m]) l' := by
  have hsrc : ∀ x ∈ l, x.TelemetryMsg ∈ S ++ [m] ∧ m_telemetry_Check x.TelemetryMsg = some 0 := fun x hx => ⟨List.mem_append_left _ (h.src x hx).1, (h.src x hx).2⟩
  cases t with
  | bad _ e => subst e; exact ⟨h.nd, hsrc⟩
  | old _ _ _ _ _ e => subst e; exact ⟨h.nd, hsrc⟩
  | late _ _ _ _ _ _ e => subst e; exact ⟨h.nd, hsrc⟩
  | new hc hno e =>
    subst e
    refine ⟨?_, fun x hx => ?_⟩
    · unfold pts
      rw [List.map_append, List.nodup_append]
      refine ⟨h.nd, by simp, fun a ha b hb => ?_⟩
      obtain ⟨x, hx, rfl⟩ := List.mem_map.1 ha
      simp at hb; subst hb
      exact hno x hx
    · rcases List.mem_append.1 hx with hx | hx
      · exact hsrc x hx
      · simp at hx; subst hx; exact ⟨by simp, hc⟩
  | up i hi q hc hp _ e =>
    subst e
    refine ⟨by rw [pts_set hi hp]; exact h.nd, fun x hx => ?_⟩
    rcases mem_set hx with hx | rfl
    · exact hsrc x hx
    · exact ⟨by simp, hc⟩
theorem Kept2.len {S : List Msg} {l : List Pnt} (h : Kept2 S l) {P : List BA} (hP : ∀ m ∈ S, m.Point ∈ P) : l.length ≤ P.length := by
  have := nodup_le (pts l) P h.nd (fun p hp => by
    obtain ⟨x, hx, rfl⟩ := List.mem_map.1 hp
    exact hP _ (h.src x hx).1)
  unfold pts at this
  simpa using this
theorem Kept2.mono {S S' : List Msg} {l : List Pnt} (h : Kept2 S l) (hs : ∀ m ∈ S, m ∈ S') : Kept2 S' l := ⟨h.nd, fun x hx => ⟨hs _ (h.src x hx).1, (h.src x hx).2⟩⟩
/-- One point, one message. -/
theorem Kept2.one {S : List Msg} {l : List Pnt} (h : Kept2 S l) {x y : Pnt} (hx : x ∈ l) (hy : y ∈ l) (e : x.TelemetryMsg.Point = y.TelemetryMsg.Point) : x = y := by
  obtain ⟨i, hi, rfl⟩ := List.mem_iff_getElem.1 hx
  obtain ⟨j, hj, rfl⟩ := List.mem_iff_getElem.1 hy
  have hnd := h.nd
  unfold pts at hnd
  have hpw := List.pairwise_iff_getElem.1 hnd
  have hi' : i < (l.map (fun x : Pnt => x.TelemetryMsg.Point)).length := by simpa using hi
  have hj' : j < (l.map (fun x : Pnt => x.TelemetryMsg.Point)).length := by simpa using hj
  have : i = j := by
    rcases Nat.lt_trichotomy i j with q | q | q
    · exact absurd (by simpa using e) (hpw i j hi' hj' q)
    · exact q
    · exact absurd (by simpa using e.symm) (hpw j i hj' hi' q)
  subst this; rfl

theorem list_gd (age : Int) (l : List Pnt) (hl : l.length ≤ 12) : Gd (m_telemetry_Points_List ⟨age, l⟩) (fun r => r.Perm (l.map (·.TelemetryMsg)) ∧ Srt r) := by
  unfold m_telemetry_Points_List
  refine Gd.seen (fun pre out => out = pre.map (·.TelemetryMsg)) ?_ ?_ _ rfl
  · rintro i y out nn pre hpre rfl hn
    obtain ⟨hpl, _, _⟩ := pre_lt hpre
    have hpl : pre.length < l.length := hpl
    unfold m_telemetry_Points_List_b1
    refine Gd.nd (by simp only [List.length_map, List.length_singleton]; omega) (hn _ (by simp))
  · rintro out rfl
    exact Gd.bnd (sort_gd _ (by simpa using hl)) (fun r hr => Gd.ret hr)

theorem telemetryFact_true : m_gridhallkeep4_telemetryFact = some true := by kernel_rfl
theorem tcut (n lo hi : Int) (h : lo ≤ hi) (h1 : 0 ≤ lo) (h2 : hi ≤ 1000) : Gd (m_gridhallref4_Cut n lo hi) (fun r => lo ≤ r ∧ r ≤ hi) := by
  have e : IntKind.i64.wrap ((IntKind.i64.wrap (hi - lo)) + 1) = hi - lo + 1 := by rw [wrap_id (n := hi - lo) (by omega), wrap_id (by omega)]
  have h1 : Int.tmod n (hi - lo + 1) < hi - lo + 1 := Int.tmod_lt_of_pos n (by omega)
  have h2 : -(hi - lo + 1) < Int.tmod n (hi - lo + 1) := by
    have := Int.tmod_lt_of_pos (-n) (show (0 : Int) < hi - lo + 1 by omega)
    rw [Int.neg_tmod] at this; omega
  unfold m_gridhallref4_Cut m_gridhallref4_Cut_b1
  rw [e]
  refine Gd.nd (by omega) (Gd.ite (fun h => ?_) (fun h => ?_))
  · simp at h
    rw [wrap_id (n := Int.tmod n (hi - lo + 1) + (hi - lo + 1)) (by omega), wrap_id (by omega)]
    exact Gd.ret ⟨by omega, by omega⟩
  · simp at h
    rw [wrap_id (by omega)]
    exact Gd.ret ⟨by omega, by omega⟩
def MsSz (l : List Msg) : Prop := ∀ m ∈ l, m.Point.size ≤ maxLen

/-- The value of a message that is kept. -/
theorem value_gd {S : List Msg} {l : List Pnt} (age : Int) (h : Kept2 S l) (x : Pnt) (hx : x ∈ l) (hs : x.TelemetryMsg.Point.size ≤ maxLen) (now : Int) (h0 : 0 ≤ now) (h1 : now ≤ 200000) :
    Gd (m_telemetry_Points_Value ⟨age, l⟩ x.TelemetryMsg.Point now) (fun r => (0 ≤ x.TelemetryMsg.Time ∧ x.TelemetryMsg.Time ≤ 200000) ∧ (now < x.TelemetryMsg.Time ∧ r = (0, 0, 12) ∨ x.TelemetryMsg.Time ≤ now ∧ r = (x.TelemetryMsg.Value, if now - x.TelemetryMsg.Time ≤ age then 0 else 1, 0))) := by
  obtain ⟨e, he, ht⟩ := tcheck_gd x.TelemetryMsg hs
  have hc := (h.src x hx).2
  rw [he] at hc
  have ht := ht (Option.some.inj hc)
  unfold m_telemetry_Points_Value
  refine Gd.bnd (tindex_gd age l _) (fun r hr => ?_)
  rcases hr with ⟨_, hno⟩ | ⟨i, hi, rfl, hp⟩
  · exact absurd rfl (hno x hx)
  · have hxi : l[i] = x := h.one (List.getElem_mem _) hx hp
    refine Gd.ite (fun h => by simp at h; omega) (fun _ => Gd.ite (fun h => by simp at h; omega) (fun _ => Gd.idxN hi ?_))
    rw [hxi]
    refine Gd.ite (fun h => Gd.ret ⟨ht, .inl ⟨by simpa using h, rfl⟩⟩) (fun h => Gd.idxN hi ?_)
    have hle : x.TelemetryMsg.Time ≤ now := by simpa using h
    have hw : IntKind.i64.wrap (now - x.TelemetryMsg.Time) = now - x.TelemetryMsg.Time := wrap_id ⟨by omega, by omega⟩
    rw [hxi, hw]
    refine Gd.ite (fun h => Gd.idxN hi (Gd.ret ⟨ht, .inr ⟨hle, ?_⟩⟩)) (fun h => Gd.idxN hi (Gd.ret ⟨ht, .inr ⟨hle, ?_⟩⟩))
    · rw [hxi, if_pos (by simpa using h)]
    · rw [hxi, if_neg (by simpa using h)]

theorem TelemetryAges_true (age : Int) (l : List Msg) (now later : Int) (hl : MsSz l) : m_gridhallkeep4_TelemetryAges age l now later = some true := by
  rw [← Gd.eq]
  unfold m_gridhallkeep4_TelemetryAges m_telemetry_New
  by_cases hage : ((decide (age < 0)) || (decide (200000 < age))) = true
  · rw [if_pos hage]
    simp only [optC]
    exact Gd.bind_eq telemetryFact_true (Gd.ret rfl)
  · rw [if_neg hage]
    simp only [optC]
    have hL : (slc l 0 ((min (l.length : Int) 8 : Int).toNat)).length ≤ 8 := by unfold slc; simp; omega
    have hLs : MsSz (slc l 0 ((min (l.length : Int) 8 : Int).toNat)) := fun x hx => hl x (by unfold slc at hx; exact List.mem_of_mem_drop (List.mem_of_mem_take hx))
    generalize slc l 0 ((min (l.length : Int) 8 : Int).toNat) = L at hL hLs
    refine Gd.ite (fun h => by simp at h) (fun _ => Gd.nd (by omega) ?_)
    refine Gd.seen (fun pre (s : Int × List Pnt) => s.1 = age ∧ Kept2 pre s.2) ?_ ?_ _ ⟨rfl, by simp [pts], by simp⟩
    · rintro i y ⟨a, s⟩ nn pre hpre ⟨rfl, hk⟩ hn
      obtain ⟨hpl, hyl, hpm⟩ := pre_lt hpre
      have hsl : s.length ≤ pre.length := by
        have := hk.len (P := pre.map (·.Point)) (fun m hm => List.mem_map.2 ⟨m, hm, rfl⟩); simpa using this
      unfold m_gridhallkeep4_TelemetryAges_b1
      exact Gd.bnd (take_gd _ s y (hLs y hyl) (by omega)) (fun r ⟨h1, h2⟩ => hn _ ⟨h1, hk.took h2⟩)
    · rintro ⟨a, s⟩ ⟨rfl, hk⟩
      simp only at hk
      have hsl : s.length ≤ 8 := by
        have := hk.len (P := L.map (·.Point)) (fun m hm => List.mem_map.2 ⟨m, hm, rfl⟩)
        simp only [List.length_map] at this; omega
      refine Gd.bnd (tcut now 0 1000 (by omega) (by omega) (by omega)) (fun n1 ⟨n10, n11⟩ => Gd.bnd (tcut later 0 1000 (by omega) (by omega) (by omega)) (fun n2 ⟨n20, n21⟩ => ?_))
      refine Gd.bnd (list_gd _ s (by omega)) (fun r ⟨hp, _⟩ => ?_)
      refine Gd.seen (Q := fun z => z = true) (fun pre (_ : Unit) => True) ?_ (fun _ _ => Gd.bind_eq telemetryFact_true (Gd.ret rfl)) _ trivial
      rintro i y _ nn pre hpre _ hn
      obtain ⟨_, hyr, _⟩ := pre_lt hpre
      obtain ⟨x, hx, rfl⟩ := List.mem_map.1 (hp.mem_iff.1 hyr)
      have hxs := hLs _ (hk.src x hx).1
      have hw : IntKind.i64.wrap (n1 + n2) = n1 + n2 := wrap_id ⟨by omega, by omega⟩
      unfold m_gridhallkeep4_TelemetryAges_b2
      rw [hw]
      refine Gd.bnd (value_gd _ hk x hx hxs n1 n10 (by omega)) (fun v ⟨ht, hv⟩ => Gd.bnd (value_gd _ hk x hx hxs (n1 + n2) (by omega) (by omega)) (fun w ⟨_, hw2⟩ => Gd.ite (fun h => ?_) (fun _ => hn _ trivial)))
      exfalso
      have hw3 : IntKind.i64.wrap (n1 - x.TelemetryMsg.Time) = n1 - x.TelemetryMsg.Time := wrap_id ⟨by omega, by omega⟩
      rw [hw3] at h
      rcases hv with ⟨hlt, rfl⟩ | ⟨hle, rfl⟩
      · simp at h
      · rcases hw2 with ⟨hlt2, rfl⟩ | ⟨hle2, rfl⟩
        · omega
        · by_cases c1 : n1 - x.TelemetryMsg.Time ≤ a <;> by_cases c2 : n1 + n2 - x.TelemetryMsg.Time ≤ a <;> simp [c1, c2] at h
          omega

/-! ### The order of messages -/
/-- The time and the value of a message are those of its number. -/
def MOk (m : Msg) : Prop := 1 ≤ m.Number ∧ m.Number ≤ 1000 ∧ m.Time = 10 * m.Number ∧ m.Value = Int.tmod m.Number 7
theorem MOk.eq {m k : Msg} (h1 : MOk m) (h2 : MOk k) (hp : m.Point = k.Point) (hn : m.Number = k.Number) : m = k := by
  obtain ⟨_, _, t1, v1⟩ := h1
  obtain ⟨_, _, t2, v2⟩ := h2
  cases m; cases k
  simp only at hp hn t1 v1 t2 v2
  subst hp; subst hn
  rw [t1, t2, v1, v2]
/-- The newest of each point is kept. -/
def Newest (S : List Msg) (l : List Pnt) : Prop := ∀ m ∈ S, m_telemetry_Check m = some 0 → ∃ x ∈ l, x.TelemetryMsg.Point = m.Point ∧ m.Number ≤ x.TelemetryMsg.Number
theorem Newest.took {S : List Msg} {l l' : List Pnt} {m : Msg} (h : Newest S l) (hk : Kept2 S l) (ht : ∀ k ∈ S ++ [m], MOk k) (t : Took m l l') : Newest (S ++ [m]) l' := by
  have two : ∀ {l2 : List Pnt}, (∀ k ∈ S, m_telemetry_Check k = some 0 → ∃ x ∈ l2, x.TelemetryMsg.Point = k.Point ∧ k.Number ≤ x.TelemetryMsg.Number) →
      (m_telemetry_Check m = some 0 → ∃ x ∈ l2, x.TelemetryMsg.Point = m.Point ∧ m.Number ≤ x.TelemetryMsg.Number) → Newest (S ++ [m]) l2 := fun h1 h2 k hk hc => by
    rcases List.mem_append.1 hk with hk | hk
    · exact h1 k hk hc
    · simp at hk; subst hk; exact h2 hc
  cases t with
  | bad hb e => subst e; exact two h (fun hc => absurd hc hb)
  | old i hi _ hp hn e => subst e; exact two h (fun _ => ⟨_, List.getElem_mem hi, hp, hn⟩)
  | late i hi _ hp hn htm e =>
    have h1 := ht m (by simp)
    have h2 := ht _ (List.mem_append_left _ (hk.src _ (List.getElem_mem hi)).1)
    have := h1.2.2.1
    have := h2.2.2.1
    omega
  | new _ hno e =>
    subst e
    exact two (fun k hk hc => by
      obtain ⟨x, hx, a, b⟩ := h k hk hc
      exact ⟨x, List.mem_append_left _ hx, a, b⟩) (fun _ => ⟨⟨m, 1⟩, by simp, rfl, Int.le_refl _⟩)
  | up i hi q _ hp hn e =>
    subst e
    have hnew : (⟨m, q⟩ : Pnt) ∈ l.set i ⟨m, q⟩ := List.mem_set hi _
    refine two (fun k hks hc => ?_) (fun _ => ⟨⟨m, q⟩, hnew, rfl, Int.le_refl _⟩)
    obtain ⟨x, hx, a, b⟩ := h k hks hc
    obtain ⟨j, hj, rfl⟩ := List.mem_iff_getElem.1 hx
    by_cases e : i = j
    · subst e
      exact ⟨⟨m, q⟩, hnew, by rw [← hp]; exact a, by show k.Number ≤ m.Number; omega⟩
    · refine ⟨l[j], ?_, a, b⟩
      rw [List.mem_iff_getElem]
      exact ⟨j, by simpa using hj, by rw [List.getElem_set_ne e]⟩
theorem Newest.mono {S S' : List Msg} {l : List Pnt} (h : Newest S' l) (hs : ∀ m ∈ S, m ∈ S') : Newest S l := fun m hm hc => h m (hs m hm) hc
theorem srt_unique2 : ∀ {a b : List Msg}, a.Pairwise (fun x y => leS x.Point y.Point) → b.Pairwise (fun x y => leS x.Point y.Point) → (∀ x ∈ a, ∀ y ∈ a, x.Point = y.Point → x = y) → a.Perm b → a = b
  | [], b, _, _, _, h => (List.Perm.nil_eq h)
  | x :: xs, [], _, _, _, h => absurd h.length_eq (by simp)
  | x :: xs, y :: ys, ha, hb, hu, h => by
    rw [List.pairwise_cons] at ha hb
    have hxy : x = y := by
      have h1 : x ∈ y :: ys := h.mem_iff.1 (List.mem_cons_self ..)
      have h2 : y ∈ x :: xs := h.mem_iff.2 (List.mem_cons_self ..)
      rcases List.mem_cons.1 h1 with e | h1
      · exact e
      · rcases List.mem_cons.1 h2 with e | h2
        · exact e.symm
        · exact hu x (List.mem_cons_self ..) y (List.mem_cons_of_mem _ h2) (leS_anti (ha.1 y h2) (hb.1 x h1))
    subst hxy
    rw [srt_unique2 ha.2 hb.2 (fun p hp q hq => hu p (List.mem_cons_of_mem _ hp) q (List.mem_cons_of_mem _ hq)) ((List.perm_cons x).1 h)]
theorem Srt.pw {l : List Msg} (h : Srt l) : l.Pairwise (fun x y => leS x.Point y.Point) := by
  rw [List.pairwise_iff_getElem]
  intro i j hi hj hij
  exact h i j _ _ hij (List.getElem?_eq_getElem hi) (List.getElem?_eq_getElem hj)
theorem tequal_refl (l : List Msg) : m_slices_Equal_api_TelemetryMsg_api_TelemetryMsg l l = some true := by
  rw [← Gd.eq]
  unfold m_slices_Equal_api_TelemetryMsg_api_TelemetryMsg
  refine Gd.ite (fun h => by simp at h) (fun _ => ?_)
  refine Gd.forN (Q := fun z => z = true) (fun m i (_ : Unit) => i + m = l.length) ?_ (fun _ _ _ => Gd.ret rfl) (l.length : Int).toNat 0 () (by omega)
  intro m i _ nx hi hn
  unfold m_slices_Equal_api_TelemetryMsg_api_TelemetryMsg_b1
  exact Gd.idxN (by omega) (Gd.idxN (by omega) (Gd.ite (fun h => by simp at h) (fun _ => hn _ (by omega))))
theorem msgs_nd {S : List Msg} {l : List Pnt} (h : Kept2 S l) : (l.map (·.TelemetryMsg)).Nodup := by
  have hnd := h.nd
  unfold pts at hnd
  have e : l.map (fun x : Pnt => x.TelemetryMsg.Point) = (l.map (·.TelemetryMsg)).map (·.Point) := by rw [List.map_map]; rfl
  rw [e] at hnd
  unfold List.Nodup at hnd ⊢
  rw [List.pairwise_map] at hnd
  exact hnd.imp (fun hne he => hne (by rw [he]))
/-- The same messages leave the same list. -/
theorem same_list {L : List Msg} (hL : ∀ m ∈ L, MOk m) {a b : List Pnt} (ha : Kept2 L a) (hb : Kept2 L b) (na : Newest L a) (nb : Newest L b) {r s : List Msg}
    (hr : r.Perm (a.map (·.TelemetryMsg)) ∧ Srt r) (hs : s.Perm (b.map (·.TelemetryMsg)) ∧ Srt s) : r = s := by
  have sub : ∀ {p q : List Pnt}, Kept2 L p → Kept2 L q → Newest L p → Newest L q → ∀ m ∈ p.map (·.TelemetryMsg), m ∈ q.map (·.TelemetryMsg) := by
    intro p q hp hq np nq m hm
    obtain ⟨x, hx, rfl⟩ := List.mem_map.1 hm
    obtain ⟨hxL, hxc⟩ := hp.src x hx
    obtain ⟨y, hy, hyp, hyn⟩ := nq _ hxL hxc
    obtain ⟨hyL, hyc⟩ := hq.src y hy
    obtain ⟨z, hz, hzp, hzn⟩ := np _ hyL hyc
    have hzx : z = x := hp.one hz hx (hzp.trans hyp)
    subst hzx
    have : z.TelemetryMsg = y.TelemetryMsg := (hL _ hxL).eq (hL _ hyL) hyp.symm (by omega)
    rw [this]
    exact List.mem_map.2 ⟨y, hy, rfl⟩
  have hperm : (a.map (·.TelemetryMsg)).Perm (b.map (·.TelemetryMsg)) :=
    (List.perm_ext_iff_of_nodup (msgs_nd ha) (msgs_nd hb)).2 (fun m => ⟨sub ha hb na nb m, sub hb ha nb na m⟩)
  refine srt_unique2 hr.2.pw hs.2.pw (fun x hx y hy e => ?_) (hr.1.trans (hperm.trans hs.1.symm))
  obtain ⟨p, hp, rfl⟩ := List.mem_map.1 (hr.1.mem_iff.1 hx)
  obtain ⟨q, hq, rfl⟩ := List.mem_map.1 (hr.1.mem_iff.1 hy)
  rw [ha.one hp hq e]

theorem TelemetryOrder_true (l : List Msg) (turn : Int) (hl : MsSz l) : m_gridhallkeep4_TelemetryOrder l turn = some true := by
  rw [← Gd.eq]
  unfold m_gridhallkeep4_TelemetryOrder
  have hL : (slc l 0 ((min (l.length : Int) 12 : Int).toNat)).length ≤ 12 := by unfold slc; simp; omega
  have hLs : MsSz (slc l 0 ((min (l.length : Int) 12 : Int).toNat)) := fun x hx => hl x (by unfold slc at hx; exact List.mem_of_mem_drop (List.mem_of_mem_take hx))
  generalize slc l 0 ((min (l.length : Int) 12 : Int).toNat) = L0 at hL hLs
  refine Gd.nd (by omega) (Gd.nd (by omega) ?_)
  refine Gd.forN (fun m i s => i + m = L0.length ∧ s.length = L0.length ∧ MsSz s ∧ ∀ (j : Nat) (h : j < s.length), j < i → MOk s[j]) ?_ ?_ (L0.length : Int).toNat 0 L0 ⟨by omega, rfl, hLs, fun j h h0 => by omega⟩
  · rintro m i s nx ⟨hi, hsl, hsz, hok⟩ hn
    have hlt : i < s.length := by omega
    unfold m_gridhallkeep4_TelemetryOrder_b1
    refine Gd.idxN hlt (Gd.bnd (tcut _ 1 1000 (by omega) (by omega) (by omega)) (fun c ⟨c1, c2⟩ => Gd.idxN hlt ?_))
    have hw : IntKind.i64.wrap (10 * c) = 10 * c := wrap_id ⟨by omega, by omega⟩
    simp only [Int.toNat_natCast]
    refine Gd.idxN (by simpa using hlt) (Gd.idxN (by simpa using hlt) ?_)
    simp only [List.getElem_set_self, List.set_set]
    refine Gd.idxN (by simpa using hlt) (Gd.idxN (by simpa using hlt) ?_)
    simp only [List.getElem_set_self, hw]
    refine hn _ ⟨by omega, by simpa using hsl, fun x hx => ?_, fun j h hj => ?_⟩
    · rcases mem_set hx with hx | rfl
      · exact hsz x hx
      · exact hsz s[i] (List.getElem_mem hlt)
    · simp only [List.length_set] at h
      by_cases e : i = j
      · subst e
        rw [List.getElem_set_self]
        exact ⟨c1, c2, rfl, rfl⟩
      · rw [List.getElem_set_ne e]
        exact hok j h (by omega)
  · rintro i L ⟨hi, hsl, hsz, hok⟩
    have hM : ∀ m ∈ L, MOk m := fun m hm => by
      obtain ⟨j, hj, rfl⟩ := List.mem_iff_getElem.1 hm
      exact hok j hj (by omega)
    have hn1 : m_telemetry_New 5 = (some ⟨5, []⟩, 0) := rfl
    rw [hn1]
    simp only [optC]
    refine Gd.ite (fun h => by simp at h) (fun _ => ?_)
    have hP : ∀ (S : List Msg), (∀ m ∈ S, m ∈ L) → ∀ m ∈ S, m.Point ∈ L.map (·.Point) := fun S hS m hm => List.mem_map.2 ⟨m, hS m hm, rfl⟩
    have k0 : Kept2 [] [] := ⟨by simp [pts], by simp⟩
    refine Gd.seen (fun pre (s : Int × List Pnt) => (∀ m ∈ pre, m ∈ L) ∧ Kept2 pre s.2 ∧ Newest pre s.2) ?_ ?_ _ ⟨by simp, k0, fun m hm => by simp at hm⟩
    · rintro i y ⟨a, s⟩ nn pre hpre ⟨hin, hk, hnw⟩ hn
      obtain ⟨hpl, hyl, hpm⟩ := pre_lt hpre
      have hs := hk.len (hP pre hin)
      simp only [List.length_map] at hs
      unfold m_gridhallkeep4_TelemetryOrder_b2
      have hin2 : ∀ m ∈ pre ++ [y], m ∈ L := fun m hm => by
        rcases List.mem_append.1 hm with hm | hm
        · exact hin m hm
        · simp at hm; subst hm; exact hyl
      exact Gd.bnd (take_gd a s y (hsz y hyl) (by omega)) (fun r ⟨_, h2⟩ => hn _ ⟨hin2, hk.took h2, hnw.took hk (fun k hk => hM k (hin2 k hk)) h2⟩)
    · rintro ⟨a, sa⟩ ⟨_, hka, hna⟩
      simp only at hka hna
      refine Gd.forN (fun m i (s : Int × List Pnt) => i + m = L.length ∧ ∃ S : List Msg, (∀ m ∈ S, m ∈ L) ∧ Kept2 S s.2 ∧ Newest S s.2 ∧
        (∀ c : Int, 0 ≤ c → c < L.length → Gd (m_gridhallref4_Cut turn 0 (IntKind.i64.wrap ((L.length : Int) - 1))) (fun r => r = c) → ∀ j : Nat, j < i → ∀ (h : (j + c.toNat) % L.length < L.length), L[(j + c.toNat) % L.length] ∈ S)) ?_ ?_ (L.length : Int).toNat 0 (5, []) ⟨by omega, [], by simp, k0, fun m hm => by simp at hm, fun c _ _ _ j hj => by omega⟩
      · rintro m i ⟨b, sb⟩ nx ⟨hi2, S, hS, hk, hnw, hall⟩ hn
        simp only at hk hnw
        have hLpos : 0 < L.length := by omega
        have hw : IntKind.i64.wrap ((L.length : Int) - 1) = (L.length : Int) - 1 := wrap_id ⟨by omega, by omega⟩
        obtain ⟨c, hcut, c0, c1⟩ := tcut turn 0 ((L.length : Int) - 1) (by omega) (by omega) (by omega)
        unfold m_gridhallkeep4_TelemetryOrder_b3
        rw [hw]
        refine Gd.bind_eq hcut (Gd.nd (by omega) ?_)
        obtain ⟨cn, rfl⟩ : ∃ k : Nat, c = k := ⟨c.toNat, by omega⟩
        have hw2 : IntKind.i64.wrap ((i : Int) + (cn : Int)) = ((i + cn : Nat) : Int) := by rw [wrap_id ⟨by omega, by omega⟩]; omega
        have hmod : Int.tmod ((i + cn : Nat) : Int) (L.length : Int) = (((i + cn) % L.length : Nat) : Int) := by
          rw [Int.tmod_eq_emod_of_nonneg (by omega)]; rfl
        have hlt : (i + cn) % L.length < L.length := Nat.mod_lt _ hLpos
        rw [hw2, hmod]
        refine Gd.idxN hlt ?_
        generalize hy : L[(i + cn) % L.length] = y
        have hyl : y ∈ L := hy ▸ List.getElem_mem _
        have hs := hk.len (hP S hS)
        simp only [List.length_map] at hs
        have hS2 : ∀ m ∈ S ++ [y], m ∈ L := fun m hm => by
          rcases List.mem_append.1 hm with hm | hm
          · exact hS m hm
          · simp at hm; subst hm; exact hyl
        have hS3 : ∀ m ∈ S ++ [y] ++ [y], m ∈ L := fun m hm => by
          rcases List.mem_append.1 hm with hm | hm
          · exact hS2 m hm
          · simp at hm; subst hm; exact hyl
        refine Gd.bnd (take_gd b sb y (hsz y hyl) (by omega)) (fun r ⟨r1, r2⟩ => ?_)
        have k1 := hk.took r2
        have n1 := hnw.took hk (fun k hk => hM k (hS2 k hk)) r2
        have hs1 := k1.len (hP _ hS2)
        simp only [List.length_map] at hs1
        obtain ⟨ra, rb, rc⟩ := r
        obtain ⟨rca, rcb⟩ := rc
        simp only at r1 r2 k1 n1 hs1
        refine Gd.bnd (take_gd rca rcb y (hsz y hyl) (by omega)) (fun q ⟨q1, q2⟩ => hn _ ⟨by omega, S ++ [y] ++ [y], hS3, k1.took q2, n1.took k1 (fun k hk => hM k (hS3 k hk)) q2, ?_⟩)
        intro c' h0 h1 hg j hj hjl
        rw [hw] at hg
        obtain ⟨z, hz, rfl⟩ := hg
        rw [hcut] at hz
        cases hz
        by_cases e : j < i
        · have := hall (cn : Int) (by omega) (by omega) (by rw [hw]; exact ⟨_, hcut, rfl⟩) j e hjl
          simp only [List.mem_append]; exact .inl (.inl this)
        · have : j = i := by omega
          subst this
          simp only [Int.toNat_natCast] at hjl ⊢
          rw [hy]; simp
      · rintro i ⟨b, sb⟩ ⟨hi2, S, hS, hk, hnw, hall⟩
        simp only at hk hnw
        have hLS : ∀ m ∈ L, m ∈ S := fun m hm => by
          obtain ⟨q, hq, rfl⟩ := List.mem_iff_getElem.1 hm
          have hLpos : 0 < L.length := by omega
          have hw : IntKind.i64.wrap ((L.length : Int) - 1) = (L.length : Int) - 1 := wrap_id ⟨by omega, by omega⟩
          obtain ⟨c, hcut, c0, c1⟩ := tcut turn 0 ((L.length : Int) - 1) (by omega) (by omega) (by omega)
          obtain ⟨cn, rfl⟩ : ∃ k : Nat, c = k := ⟨c.toNat, by omega⟩
          have hj : (q + L.length - cn) % L.length < L.length := Nat.mod_lt _ hLpos
          have hqq : ((q + L.length - cn) % L.length + cn) % L.length = q := by
            rw [Nat.mod_add_mod, show q + L.length - cn + cn = q + L.length by omega, Nat.add_mod_right, Nat.mod_eq_of_lt hq]
          have := hall (cn : Int) (by omega) (by omega) (by rw [hw]; exact ⟨_, hcut, rfl⟩) _ (by omega : (q + L.length - cn) % L.length < i) (by rw [Int.toNat_natCast, hqq]; exact hq)
          simpa only [Int.toNat_natCast, hqq] using this
        have hsa := hka.len (hP L (fun _ h => h))
        have hsb := hk.len (hP S hS)
        simp only [List.length_map] at hsa hsb
        refine Gd.bind_eq telemetryFact_true (Gd.ite (fun _ => ?_) (fun h => by simp at h))
        refine Gd.bnd (list_gd a sa (by omega)) (fun r hr => Gd.bnd (list_gd b sb (by omega)) (fun s hs => ?_))
        have e : r = s := same_list hM hka (hk.mono hS) hna (hnw.mono hLS) hr hs
        subst e
        exact Gd.bind_eq (tequal_refl r) (Gd.ret rfl)
end Go.Sim
