/-
  The archive, in plain Lean: what it takes; what lies between two times.
-/
import Derived.Test.YtldmgakhhhjhoaaDoorModS
import Derived.Test.YtldmgakhhhjhoaaDoorSimW
import Derived.KernelRfl
namespace Go.Sim
open Go
set_option linter.unusedVariables false
set_option linter.unusedSimpArgs false
set_option linter.unusedSectionVars false
set_option linter.unnecessarySimpa false

abbrev Ev := S_api_Event
theorem get_of {α : Type} {l : List α} {i : Nat} (h : i < l.length) : ∃ x, l[i]? = some x := ⟨_, List.getElem?_eq_getElem h⟩
theorem lt_of {α : Type} {l : List α} {i : Nat} {x : α} (h : l[i]? = some x) : i < l.length := (List.getElem?_eq_some_iff.1 h).1
theorem drop_cons {α : Type} {l : List α} {k : Nat} {y : α} {ys : List α} (h : y :: ys = l.drop k) : l[k]? = some y ∧ ys = l.drop (k + 1) := by
  constructor
  · have := congrArg (·[0]?) h
    simpa [List.getElem?_drop] using this.symm
  · have := congrArg (List.drop 1) h
    simpa using this

theorem name_some (s : ByteArray) (h : s.size ≤ maxLen) : Gd (m_netmodel_Name s) (fun _ => True) := by
  unfold m_netmodel_Name
  refine Gd.nd h (Gd.forI (fun _ _ _ => True) (fun i y ys s n _ hn => ?_) (fun i s _ => Gd.ret trivial) _ _ _ trivial)
  unfold m_netmodel_Name_b1
  exact Gd.ite (fun _ => Gd.ret trivial) (fun _ => hn _ trivial)
theorem kind_some (s : ByteArray) (h : s.size ≤ maxLen) : Gd (m_archive_kind s) (fun _ => True) := by
  unfold m_archive_kind
  refine Gd.nd h (Gd.forI (fun _ _ _ => True) (fun i y ys s n _ hn => ?_) (fun i s _ => Gd.ret trivial) _ _ _ trivial)
  unfold m_archive_kind_b1
  exact Gd.ite (fun _ => Gd.ret trivial) (fun _ => hn _ trivial)

/-! ### Events -/
def EvSz (e : Ev) : Prop := e.Kind.size ≤ maxLen ∧ e.Name.size ≤ maxLen
structure EvOk (e : Ev) : Prop where
  t0 : 0 ≤ e.Time
  t1 : e.Time ≤ 200000
  kind : m_archive_kind e.Kind = some true
  name : m_netmodel_Name e.Name = some true
  v0 : -1000000 ≤ e.Value
  v1 : e.Value ≤ 1000000
theorem check_gd {e : Ev} (h : EvSz e) : Gd (m_archive_Check e) (fun r => r = 0 ↔ EvOk e) := by
  unfold m_archive_Check
  refine Gd.ite (fun h1 => Gd.ret ⟨fun h => by omega, fun h' => ?_⟩) (fun h1 => ?_)
  · have := h'.t0; have := h'.t1; simp at h1; omega
  simp only [Bool.or_eq_false_iff, decide_eq_false_iff_not] at h1
  obtain ⟨b, hb, _⟩ := kind_some e.Kind h.1
  obtain ⟨c, hc, _⟩ := name_some e.Name h.2
  refine Gd.bind_eq hb (Gd.ite (fun h2 => Gd.bind_eq hc (Gd.ite (fun h3 => Gd.ret ⟨fun h => by omega, fun h' => ?_⟩) (fun h3 => Gd.ite (fun h4 => Gd.ret ⟨fun h => by omega, fun h' => ?_⟩) (fun h4 => Gd.ret ⟨fun _ => ?_, fun _ => rfl⟩)))) (fun h2 => Gd.ret ⟨fun h => by omega, fun h' => ?_⟩))
  · have := h'.name; rw [hc] at this; cases this; simp at h3
  · have := h'.v0; have := h'.v1; simp at h4; omega
  · simp only [Bool.or_eq_false_iff, decide_eq_false_iff_not] at h4
    subst h2
    have : c = true := by simpa using h3
    subst this
    exact ⟨by omega, by omega, hb, hc, by omega, by omega⟩
  · have := h'.kind; rw [hb] at this; cases this; cases h2

/-- What an archive holds. -/
structure Arc (l : List Ev) : Prop where
  len : l.length ≤ 300
  ok : ∀ e ∈ l, EvOk e
  up : l.Pairwise fun a b => a.Time ≤ b.Time
/-- e may be added. -/
def Fits (l : List Ev) (e : Ev) : Prop := EvOk e ∧ l.length < 300 ∧ ∀ x ∈ l, x.Time ≤ e.Time
theorem Arc.nil : Arc [] := ⟨by simp, by simp, by simp⟩
theorem Arc.add {l : List Ev} {e : Ev} (h : Arc l) (hf : Fits l e) : Arc (l ++ [e]) := by
  refine ⟨by have := hf.2.1; simp; omega, fun x hx => ?_, ?_⟩
  · rcases List.mem_append.1 hx with hx | hx
    · exact h.ok x hx
    · rw [List.mem_singleton] at hx; subst hx; exact hf.1
  · rw [List.pairwise_append]
    refine ⟨h.up, by simp, fun a ha b hb => ?_⟩
    rw [List.mem_singleton] at hb; subst hb; exact hf.2.2 a ha
theorem append_gd {l : List Ev} {e : Ev} (h : Arc l) (hz : EvSz e) :
    Gd (m_archive_Archive_Append ⟨l⟩ e) (fun r => Fits l e ∧ r = ((l.length : Int) + 1, 0, ⟨l ++ [e]⟩) ∨ ¬ Fits l e ∧ r.2.1 ≠ 0 ∧ r.1 = 0 ∧ r.2.2 = ⟨l⟩) := by
  unfold m_archive_Archive_Append
  obtain ⟨c, hc, hcq⟩ := check_gd hz
  have h300 := h.len
  refine Gd.bind_eq hc (Gd.ite (fun h1 => Gd.ret (.inr ⟨fun hf => ?_, by simpa using h1, rfl, rfl⟩)) (fun h1 => ?_))
  · have := hcq.2 hf.1; simp [this] at h1
  have hok : EvOk e := hcq.1 (by simpa using h1)
  have fin : (∀ x ∈ l, x.Time ≤ e.Time) → Gd (if decide ((l.length : Int) = 300) then (some ((0 : Int), (9 : Int), S_archive_Archive.mk l)) else (need ((l.length + ([e]).length) * 48 ≤ 140737488355328) (some ((IntKind.i64.wrap ((l.length : Int) + 1)), 0, (S_archive_Archive.mk (l ++ ([e])))))))
      (fun r => Fits l e ∧ r = ((l.length : Int) + 1, 0, ⟨l ++ [e]⟩) ∨ ¬ Fits l e ∧ r.2.1 ≠ 0 ∧ r.1 = 0 ∧ r.2.2 = ⟨l⟩) := fun hx => by
    refine Gd.ite (fun h2 => Gd.ret (.inr ⟨fun hf => ?_, by simp, rfl, rfl⟩)) (fun h2 => Gd.nd (by simp; omega) (Gd.ret (.inl ⟨⟨hok, ?_, hx⟩, ?_⟩)))
    · have := hf.2.1; simp at h2; omega
    · simp at h2; omega
    · rw [wrap_id ⟨by omega, by omega⟩]
  refine Gd.ite (fun h2 => ?_) (fun h2 => ?_)
  · simp only [decide_eq_true_eq] at h2
    have hw : IntKind.i64.wrap ((l.length : Int) - 1) = (l.length : Int) - 1 := wrap_id ⟨by omega, by omega⟩
    obtain ⟨y, hy⟩ := get_of (l := l) (i := ((l.length : Int) - 1).toNat) (by omega)
    have hym := List.mem_of_getElem? hy
    rw [hw]
    refine Gd.ix (by omega) hy (Gd.ite (fun h3 => Gd.ret (.inr ⟨fun hf => ?_, by simp, rfl, rfl⟩)) (fun h3 => fin fun x hx => ?_))
    · have := hf.2.2 y hym; simp at h3; omega
    · simp only [decide_eq_false_iff_not] at h3
      obtain ⟨i, hi, rfl⟩ := List.mem_iff_getElem.1 hx
      have hp := List.pairwise_iff_getElem.1 h.up
      obtain ⟨hj, hj2⟩ := List.getElem?_eq_some_iff.1 hy
      by_cases e1 : i = ((l.length : Int) - 1).toNat
      · subst e1; rw [hj2]; omega
      · have := hp i _ hi hj (by omega); rw [hj2] at this; omega
  · simp only [decide_eq_false_iff_not] at h2
    have : l = [] := List.eq_nil_of_length_eq_zero (by omega)
    exact fin (by rw [this]; simp)

theorem cut_gd (n low high : Int) (h : 0 ≤ low ∧ low ≤ high ∧ high ≤ 1000000000) : Gd (m_gridhallref4_Cut n low high) (fun r => low ≤ r ∧ r ≤ high) := by
  have w1 : IntKind.i64.wrap (high - low) = high - low := wrap_id ⟨by omega, by omega⟩
  have w2 : IntKind.i64.wrap (high - low + 1) = high - low + 1 := wrap_id ⟨by omega, by omega⟩
  unfold m_gridhallref4_Cut
  rw [w1, w2]
  have hm : -(high - low + 1) < Int.tmod n (high - low + 1) ∧ Int.tmod n (high - low + 1) < high - low + 1 :=
    ⟨by have := Int.lt_tmod_of_pos n (show 0 < high - low + 1 by omega); omega, Int.tmod_lt_of_pos n (by omega)⟩
  refine Gd.nd (by omega) (Gd.ite (fun h1 => ?_) (fun h1 => ?_))
  · simp only [decide_eq_true_eq] at h1
    unfold m_gridhallref4_Cut_b1
    rw [wrap_id (n := Int.tmod n (high - low + 1) + (high - low + 1)) ⟨by omega, by omega⟩, wrap_id ⟨by omega, by omega⟩]
    exact Gd.ret ⟨by omega, by omega⟩
  · simp only [decide_eq_false_iff_not] at h1
    unfold m_gridhallref4_Cut_b1
    rw [wrap_id ⟨by omega, by omega⟩]
    exact Gd.ret ⟨by omega, by omega⟩

theorem archiveOf_gd (l : List Ev) (hl : ∀ e ∈ l, EvSz e) : Gd (m_gridhallkeep4_archiveOf l) (fun o => ∃ a, o = some ⟨a⟩ ∧ Arc a ∧ a.length ≤ 12) := by
  unfold m_gridhallkeep4_archiveOf m_archive_New
  simp only [optC]
  refine Gd.nd (by omega) ?_
  have hsub : ∀ e ∈ slc l 0 ((min (l.length : Int) 12 : Int).toNat), EvSz e := fun e he => by
    simp only [slc, List.drop_zero] at he
    exact hl e (List.mem_of_mem_take he)
  have hlen : (slc l 0 ((min (l.length : Int) 12 : Int).toNat)).length ≤ 12 := by simp [slc]; omega
  generalize slc l 0 ((min (l.length : Int) 12 : Int).toNat) = m at hsub hlen
  refine Gd.forI (fun k ys (s : Int × List Ev) => ys = m.drop k ∧ k ≤ m.length ∧ Arc s.2 ∧ s.2.length ≤ k) ?_ ?_ m 0 _ ⟨by simp, by omega, Arc.nil, by simp⟩
  · rintro k y ys ⟨t, a⟩ nx ⟨hys, hkm, ha, hk⟩ hnx
    obtain ⟨hy, hys'⟩ := drop_cons hys
    have hym := List.mem_of_getElem? hy
    have hlt := lt_of hy
    simp only at ha hk ⊢
    unfold m_gridhallkeep4_archiveOf_b1
    refine Gd.bnd (cut_gd y.Time 0 50 (by omega)) (fun r _ => ?_)
    refine Gd.bnd (append_gd ha (e := S_api_Event.mk (IntKind.i64.wrap (t + r)) y.Kind y.Name y.Value) (hsub y hym)) ?_
    rintro q (⟨hf, rfl⟩ | ⟨_, _, _, hq⟩)
    · exact hnx _ ⟨hys', by omega, ha.add hf, by simp; omega⟩
    · refine hnx _ ⟨hys', by omega, ?_, ?_⟩
      · simp only [hq]; exact ha
      · simp only [hq]; omega
  · rintro k ⟨t, a⟩ ⟨hys, hkm, ha, hk⟩
    exact Gd.ret ⟨a, rfl, ha, by simp only at hk; omega⟩
theorem equal_gd (a b : List Ev) : Gd (m_slices_Equal_api_Event_api_Event a b) (fun r => r = true ↔ a = b) := by
  unfold m_slices_Equal_api_Event_api_Event
  refine Gd.ite (fun h => Gd.ret ⟨fun h => by simp at h, fun e => ?_⟩) (fun h => ?_)
  · subst e; simp at h
  have hlen : a.length = b.length := by simp at h; omega
  refine Gd.forN (fun m i _ => i + m = a.length ∧ a.take i = b.take i) ?_ ?_ _ 0 () ⟨by simp, by simp⟩
  · intro m i _ nx ⟨hi, hq⟩ hnx
    unfold m_slices_Equal_api_Event_api_Event_b1
    have ha : i < a.length := by omega
    have hb : i < b.length := by omega
    refine Gd.idxN ha (Gd.idxN hb (Gd.ite (fun h => Gd.ret ⟨fun h => by simp at h, fun e => ?_⟩) (fun h => hnx () ⟨by omega, ?_⟩)))
    · subst e; simp at h
    · have he : a[i] = b[i] := by
        cases hx : a[i] with
        | mk t1 k1 n1 v1 => cases hy : b[i] with
          | mk t2 k2 n2 v2 => rw [hx, hy] at h; simp at h; simp [h]
      rw [List.take_succ_eq_append_getElem ha, List.take_succ_eq_append_getElem hb, hq, he]
  · rintro i _ ⟨hi, hq⟩
    rw [List.take_of_length_le (by omega), List.take_of_length_le (by omega)] at hq
    exact Gd.ret ⟨fun _ => hq, fun _ => rfl⟩
theorem all_eq {l : List Ev} (h : l.length ≤ 300) : m_archive_Archive_All ⟨l⟩ = some l := by
  unfold m_archive_Archive_All need
  rw [if_pos (by simp only; omega)]
end Go.Sim
