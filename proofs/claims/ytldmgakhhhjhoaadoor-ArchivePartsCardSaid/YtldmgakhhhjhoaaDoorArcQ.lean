/-
  The archive, in plain Lean: the events before a time and those from it on are all events.
-/
import Derived.Test.YtldmgakhhhjhoaaDoorArcP
namespace Go.Sim
open Go
set_option linter.unusedVariables false
set_option linter.unusedSimpArgs false
set_option linter.unusedSectionVars false
set_option linter.unnecessarySimpa false

def inside (f t : Int) (e : Ev) : Bool := decide (f ≤ e.Time) && decide (e.Time < t)
theorem between_eq {l : List Ev} (h : l.length ≤ 300) (f t : Int) : m_archive_Archive_Between ⟨l⟩ f t = some (l.filter (inside f t)) := by
  rw [← Gd.eq]
  unfold m_archive_Archive_Between
  refine Gd.forI (fun k ys (s : List Ev) => ys = l.drop k ∧ k ≤ l.length ∧ s = (l.take k).filter (inside f t)) ?_ ?_ _ 0 _ ⟨by simp, by omega, by simp⟩
  · rintro k y ys s nx ⟨hys, hk, rfl⟩ hnx
    obtain ⟨hy, hys'⟩ := drop_cons hys
    have hlt := lt_of hy
    have htake : l.take (k + 1) = l.take k ++ [y] := by rw [List.take_add_one, hy]; rfl
    have hlen : ((l.take k).filter (inside f t)).length ≤ k := Nat.le_trans (List.length_filter_le ..) (by rw [List.length_take]; omega)
    unfold m_archive_Archive_Between_b3 m_archive_Archive_Between_b4
    refine Gd.ite (fun h1 => Gd.nd (by simp; omega) (hnx _ ⟨hys', by omega, ?_⟩)) (fun h1 => hnx _ ⟨hys', by omega, ?_⟩)
    · rw [htake, List.filter_append, List.filter_cons_of_pos (by exact h1), List.filter_nil]
    · rw [htake, List.filter_append, List.filter_cons_of_neg (by show ¬ inside f t y = true; rw [show inside f t y = false from h1]; simp), List.filter_nil, List.append_nil]
  · rintro k s ⟨hys, hk, rfl⟩
    have : l.length ≤ k := by
      have := congrArg List.length hys
      simp at this; omega
    rw [List.take_of_length_le this]
    exact Gd.ret rfl
theorem split_time : ∀ (l : List Ev) (T : Int), (∀ e ∈ l, 0 ≤ e.Time ∧ e.Time ≤ 200000) → l.Pairwise (fun a b => a.Time ≤ b.Time) → l.filter (inside 0 T) ++ l.filter (inside T 200001) = l
  | [], T, _, _ => rfl
  | a :: l, T, h, hp => by
    rw [List.pairwise_cons] at hp
    have ha := h a (List.mem_cons_self ..)
    have ih := split_time l T (fun e he => h e (List.mem_cons_of_mem _ he)) hp.2
    by_cases hT : a.Time < T
    · rw [List.filter_cons_of_pos (by simp [inside]; omega), List.filter_cons_of_neg (by simp [inside]; omega), List.cons_append, ih]
    · have h1 : (a :: l).filter (inside 0 T) = [] := by
        rw [List.filter_eq_nil_iff]
        intro e he
        have : a.Time ≤ e.Time := by
          rcases List.mem_cons.1 he with rfl | he
          · exact Int.le_refl _
          · exact hp.1 e he
        simp [inside]; omega
      have h2 : (a :: l).filter (inside T 200001) = a :: l := by
        rw [List.filter_eq_self]
        intro e he
        have : a.Time ≤ e.Time := by
          rcases List.mem_cons.1 he with rfl | he
          · exact Int.le_refl _
          · exact hp.1 e he
        have := h e he
        simp [inside]; omega
      rw [h1, h2, List.nil_append]
theorem concat_two {a b : List Ev} (h : a.length + b.length ≤ 300) : m_slices_Concat_api_Event_api_Event [a, b] = some (a ++ b) := by
  have w1 : IntKind.i64.wrap (0 + (a.length : Int)) = a.length := by rw [Int.zero_add]; exact wrap_id ⟨by omega, by omega⟩
  have w2 : IntKind.i64.wrap ((a.length : Int) + (b.length : Int)) = (a.length : Int) + b.length := wrap_id ⟨by omega, by omega⟩
  unfold m_slices_Concat_api_Event_api_Event
  simp only [forI, m_slices_Concat_api_Event_api_Event_b1, m_slices_Concat_api_Event_api_Event_b2, w1, w2]
  rw [if_neg (by simp), if_neg (by simp; omega)]
  unfold need
  rw [if_pos (by omega), if_pos (by simp only [List.length_nil]; omega), if_pos (by simp)]
  simp
theorem none_before {l : List Ev} {T : Int} (h : ∀ e ∈ l, T ≤ e.Time) : m_slices_ContainsFunc_api_Event_api_Event__gridhallkeep4_ArchiveParts_1 l T = some false := by
  have hi : m_slices_IndexFunc_api_Event_api_Event__gridhallkeep4_ArchiveParts_1 l T = some (-1) := by
    rw [← Gd.eq]
    unfold m_slices_IndexFunc_api_Event_api_Event__gridhallkeep4_ArchiveParts_1
    refine Gd.forN (fun m i _ => i + m = l.length) ?_ ?_ _ 0 () (by simp)
    · intro m i _ nx hi hnx
      unfold m_slices_IndexFunc_api_Event_api_Event__gridhallkeep4_ArchiveParts_1_b1
      refine Gd.idxN (by omega) (Gd.ite (fun h1 => ?_) (fun h1 => hnx () (by omega)))
      have h2 := h l[i] (List.getElem_mem _)
      simp only [m_gridhallkeep4_ArchiveParts_1, decide_eq_true_eq] at h1
      omega
    · intro i _ _; exact Gd.ret rfl
  unfold m_slices_ContainsFunc_api_Event_api_Event__gridhallkeep4_ArchiveParts_1
  rw [hi]; rfl

theorem fact_true : m_gridhallkeep4_archiveFact = some true := by kernel_rfl

theorem ArchiveParts_of (l : List Ev) (t : Int) (hl : ∀ e ∈ l, EvSz e) : m_gridhallkeep4_ArchiveParts l t = some true := by
  rw [← Gd.eq]
  unfold m_gridhallkeep4_ArchiveParts
  refine Gd.bnd (archiveOf_gd l hl) ?_
  rintro o ⟨a, rfl, ha, hn⟩
  simp only [optC]
  refine Gd.bind_eq fact_true (Gd.ite (fun h => by simp at h) (fun _ => ?_))
  refine Gd.bnd (cut_gd t 0 700 (by omega)) (fun T hT => ?_)
  have hs := split_time a T (fun e he => ⟨(ha.ok e he).t0, (ha.ok e he).t1⟩) ha.up
  have hlen : (a.filter (inside 0 T)).length + (a.filter (inside T 200001)).length ≤ 300 := by
    have := congrArg List.length hs
    rw [List.length_append] at this
    have := ha.len; omega
  refine Gd.bind_eq (between_eq ha.len 0 T) (Gd.bind_eq (between_eq ha.len T 200001) (Gd.bind_eq (concat_two hlen) (Gd.bind_eq (all_eq ha.len) ?_)))
  rw [hs]
  refine Gd.bnd (equal_gd a a) (fun r hr => ?_)
  rw [hr.2 rfl]
  refine Gd.bind_eq (none_before (T := T) ?_) (Gd.ret rfl)
  intro e he
  have := (List.mem_filter.1 he).2
  simp [inside] at this
  omega
end Go.Sim
