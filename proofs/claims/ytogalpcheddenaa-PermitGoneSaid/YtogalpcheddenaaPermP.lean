/-
  Permits, in plain Lean: a desk whose permits have all been given back holds no device.
-/
import Derived.Test.YtogalpcheddenaaModP
import Derived.Test.YtogalpcheddenaaSimW
import Derived.KernelRfl
namespace Go.Sim
open Go
set_option linter.unusedVariables false
set_option linter.unusedSimpArgs false
set_option linter.unusedSectionVars false
set_option linter.unnecessarySimpa false

abbrev Desk := S_permit_Desk
abbrev Paper := S_api_PermitPaper
def Szs (l : List ByteArray) : Prop := ∀ x ∈ l, x.size ≤ maxLen

theorem pname_gd (s : ByteArray) (h : s.size ≤ maxLen) : Gd (m_netmodel_Name s) (fun _ => True) := by
  unfold m_netmodel_Name
  refine Gd.nd h (Gd.forI (fun _ _ _ => True) (fun i y ys s n _ hn => ?_) (fun i s _ => Gd.ret trivial) _ _ _ trivial)
  unfold m_netmodel_Name_b1
  exact Gd.ite (fun _ => Gd.ret trivial) (fun _ => hn _ trivial)

theorem pcontains_gd (l : List ByteArray) (p : ByteArray) : Gd (m_slices_Contains_string_string l p) (fun b => b = true ↔ p ∈ l) := by
  unfold m_slices_Contains_string_string m_slices_Index_string_string
  refine Gd.bnd (P := fun r => 0 ≤ r ↔ p ∈ l) ?_ (fun r hr => Gd.ret (by simpa using hr))
  refine Gd.forN (fun m i _ => i + m = l.length ∧ p ∉ l.take i) ?_ ?_ (l.length : Int).toNat 0 () ⟨by omega, by simp⟩
  · intro m i _ nx ⟨hi, hno⟩ hnx
    unfold m_slices_Index_string_string_b1
    refine Gd.idxN (by omega) (Gd.ite (fun h => Gd.ret ⟨fun _ => ?_, fun _ => by omega⟩) (fun h => hnx () ⟨by omega, ?_⟩))
    · have : p = l[i] := by simpa using h
      rw [this]; exact List.getElem_mem _
    · rw [List.take_succ_eq_append_getElem (by omega), List.mem_append, List.mem_singleton]
      rintro (h' | h')
      · exact hno h'
      · simp [h'] at h
  · intro i _ ⟨hi, hno⟩
    rw [List.take_of_length_le (by omega)] at hno
    exact Gd.ret ⟨fun h => by omega, fun h => absurd h hno⟩

theorem pcheck_gd (l : List ByteArray) (h : Szs l) : Gd (m_permit_Check l) (fun e => e = 0 → l.length ≤ 256) := by
  unfold m_permit_Check
  refine Gd.ite (fun _ => Gd.ret (by omega)) (fun hl => ?_)
  have hl : l.length ≤ 256 := by
    have : ((l.length : Nat) : Int) ≤ 256 := by simpa using hl
    omega
  refine Gd.forI (fun i ys _ => i + ys.length = l.length ∧ Szs ys) ?_ (fun i s _ => Gd.ret fun _ => hl) _ _ _ ⟨by simp, h⟩
  intro i y ys s n ⟨hi, hys⟩ hn
  unfold m_permit_Check_b1
  refine Gd.bnd (pname_gd y (hys y (List.mem_cons_self ..))) (fun b _ => Gd.ite (fun _ => Gd.ret (by omega)) (fun _ => ?_))
  refine Gd.nd (by simp at hi; omega) (Gd.bnd (pcontains_gd _ _) (fun c _ => Gd.ite (fun _ => Gd.ret (by omega)) (fun _ => hn _ ⟨by simp at hi; omega, fun x hx => hys x (List.mem_cons_of_mem _ hx)⟩)))

theorem pnew_gd (l : List ByteArray) (h : Szs l) (e : Int) (he : m_permit_Check l = some e) : m_permit_New l = some (if e = 0 then (some ⟨l, [], 0⟩, 0) else (none, e)) := by
  obtain ⟨e', he', hl⟩ := pcheck_gd l h
  rw [he] at he'; cases he'
  unfold m_permit_New
  rw [he, Option.bind_some]
  by_cases h0 : e = 0
  · have := hl h0
    rw [if_neg (by simp [h0]), if_pos h0]
    unfold need
    rw [if_pos (by omega)]
  · rw [if_pos (by simp [h0]), if_neg h0]

theorem issue1_gd (D : List ByteArray) (d : Desk) (l : List ByteArray) : Gd (m_slices_ContainsFunc_string_string__permit_Desk_Issue_1 l d) (fun _ => True) := by
  unfold m_slices_ContainsFunc_string_string__permit_Desk_Issue_1 m_slices_IndexFunc_string_string__permit_Desk_Issue_1
  refine Gd.bnd (P := fun _ => True) ?_ (fun r _ => Gd.ret trivial)
  refine Gd.forN (fun m i _ => i + m = l.length) ?_ (fun i _ _ => Gd.ret trivial) (l.length : Int).toNat 0 () (by omega)
  intro m i _ nx hi hnx
  unfold m_slices_IndexFunc_string_string__permit_Desk_Issue_1_b1 m_permit_Desk_Issue_1
  refine Gd.idxN (by omega) (Gd.bnd (P := fun _ => True) (Gd.bnd (pcontains_gd _ _) (fun _ _ => Gd.ret trivial)) (fun b _ => Gd.ite (fun _ => Gd.ret trivial) (fun _ => hnx () (by omega))))

/-- A desk with these devices, whose permits bear rising numbers, each for one device. -/
structure DkOk (D : List ByteArray) (d : Desk) : Prop where
  dv : d.devices = D
  hd : ∀ p ∈ d.papers, ∃ s ∈ D, p.Devices = [s]
  up : d.papers.Pairwise (fun p q => p.Number < q.Number)
  la : ∀ p ∈ d.papers, p.Number ≤ d.last

theorem issue_gd {D : List ByteArray} {d : Desk} (hd : DkOk D d) {holder dev : ByteArray} (hh : holder.size ≤ maxLen) (hdv : dev ∈ D) (hs : dev.size ≤ maxLen) (hl : 0 ≤ d.last ∧ d.last ≤ 1000) (hp : d.papers.length ≤ 1000) :
    Gd (m_permit_Desk_Issue d holder [dev]) (fun r => (r.2.1 ≠ 0 ∧ r.2.2 = d) ∨ (r.2.1 = 0 ∧ r.1 = d.last + 1 ∧ DkOk D r.2.2 ∧ r.2.2.last = d.last + 1 ∧ r.2.2.papers.length = d.papers.length + 1)) := by
  have hw : IntKind.i64.wrap (d.last + 1) = d.last + 1 := wrap_id ⟨by omega, by omega⟩
  unfold m_permit_Desk_Issue
  refine Gd.bnd (pname_gd holder hh) (fun a _ => Gd.ite (fun _ => Gd.ret (.inl ⟨by simp, rfl⟩)) (fun _ => ?_))
  refine Gd.bnd (pcheck_gd [dev] (by intro x hx; simp at hx; subst hx; exact hs)) (fun a _ => Gd.ite (fun ha => Gd.ret (.inl ⟨by simpa using ha, rfl⟩)) (fun _ => ?_))
  refine Gd.bnd (issue1_gd D d _) (fun a _ => Gd.ite (fun _ => Gd.ret (.inl ⟨by simp, rfl⟩)) (fun _ => ?_))
  refine Gd.ite (fun _ => Gd.ret (.inl ⟨by simp, rfl⟩)) (fun _ => Gd.ite (fun _ => Gd.ret (.inl ⟨by simp, rfl⟩)) (fun _ => Gd.ite (fun _ => Gd.ret (.inl ⟨by simp, rfl⟩)) (fun _ => ?_)))
  refine Gd.nd (by simp) (Gd.nd (by simp; omega) (Gd.ret (.inr ⟨rfl, hw, ⟨hd.dv, ?_, ?_, ?_⟩, hw, by simp⟩)))
  · intro p hp
    rcases List.mem_append.1 hp with hp | hp
    · exact hd.hd p hp
    · simp at hp; subst hp; exact ⟨dev, hdv, rfl⟩
  · rw [List.pairwise_append]
    refine ⟨hd.up, by simp, fun p hp q hq => ?_⟩
    simp at hq; subst hq
    have := hd.la p hp
    show p.Number < IntKind.i64.wrap (d.last + 1)
    omega
  · intro p hp
    show p.Number ≤ IntKind.i64.wrap (d.last + 1)
    rcases List.mem_append.1 hp with hp | hp
    · have := hd.la p hp; omega
    · simp at hp; subst hp; exact Int.le_refl _

theorem tags_gd (d : Desk) (s : ByteArray) (hl : d.papers.length ≤ 1000) : Gd (m_permit_Desk_Tags d s) (fun r => (r.1 ≠ [] ↔ s ∈ d.devices ∧ ∃ p ∈ d.papers, s ∈ p.Devices)) := by
  unfold m_permit_Desk_Tags
  refine Gd.bnd (pcontains_gd _ _) (fun b hb => Gd.ite (fun h => Gd.ret ?_) (fun h => ?_))
  · have : s ∉ d.devices := fun hm => by simp [hb.2 hm] at h
    simp [this]
  · have hs : s ∈ d.devices := hb.1 (by simpa using h)
    refine Gd.forI (fun i ys l => i + ys.length = d.papers.length ∧ l.length ≤ i ∧ ys = d.papers.drop i ∧ (l ≠ [] ↔ ∃ p ∈ d.papers.take i, s ∈ p.Devices)) ?_ ?_ _ _ _ ⟨by simp, by simp, by simp, by simp⟩
    · intro i y ys l n ⟨hi, hli, hys, hl2⟩ hn
      simp only [List.length_cons] at hi
      have hlt : i < d.papers.length := by omega
      rw [List.drop_eq_getElem_cons hlt] at hys
      obtain ⟨rfl, rfl⟩ := List.cons.inj hys
      have htk : d.papers.take (i + 1) = d.papers.take i ++ [d.papers[i]] := List.take_succ_eq_append_getElem hlt
      unfold m_permit_Desk_Tags_b3 m_permit_Desk_Tags_b4
      refine Gd.bnd (pcontains_gd _ _) (fun c hc => Gd.ite (fun h => Gd.nd (by simp; omega) (hn _ ⟨by omega, by simp; omega, rfl, ?_⟩)) (fun h => hn _ ⟨by omega, by omega, rfl, ?_⟩))
      · rw [htk]
        constructor
        · intro _; exact ⟨_, List.mem_append_right _ (List.mem_singleton_self _), hc.1 h⟩
        · intro _; simp
      · rw [htk, hl2]
        constructor
        · rintro ⟨p, hp, hq⟩; exact ⟨p, List.mem_append_left _ hp, hq⟩
        · rintro ⟨p, hp, hq⟩
          rcases List.mem_append.1 hp with hp | hp
          · exact ⟨p, hp, hq⟩
          · simp at hp; subst hp
            exact absurd (hc.2 hq) (by simp [h])
    · intro i l ⟨hi, _, _, hl2⟩
      refine Gd.ret ?_
      rw [List.take_of_length_le (by simp at hi; omega)] at hl2
      simp only [hl2, hs, true_and]

theorem held_gd {D : List ByteArray} {d : Desk} (hd : DkOk D d) (hD : D.length ≤ 256) (hl : d.papers.length ≤ 1000) : Gd (m_permit_Desk_Held d) (fun r => r.length = 0 ↔ d.papers = []) := by
  unfold m_permit_Desk_Held
  rw [hd.dv]
  refine Gd.forI (fun i ys l => i + ys.length = D.length ∧ l.length ≤ i ∧ ys = D.drop i ∧ (l = [] ↔ ∀ s ∈ D.take i, ¬ ∃ p ∈ d.papers, s ∈ p.Devices)) ?_ ?_ _ _ _ ⟨by simp, by simp, by simp, by simp⟩
  · intro i y ys l n ⟨hi, hli, hys, hl2⟩ hn
    simp only [List.length_cons] at hi
    have hlt : i < D.length := by omega
    rw [List.drop_eq_getElem_cons hlt] at hys
    obtain ⟨rfl, rfl⟩ := List.cons.inj hys
    have htk : D.take (i + 1) = D.take i ++ [D[i]] := List.take_succ_eq_append_getElem hlt
    unfold m_permit_Desk_Held_b3 m_permit_Desk_Held_b4
    have hm : D[i] ∈ d.devices := by rw [hd.dv]; exact List.getElem_mem _
    refine Gd.bnd (tags_gd d D[i] hl) (fun t ht => Gd.ite (fun h => Gd.nd (by simp; omega) (hn _ ⟨by omega, by simp; omega, rfl, ?_⟩)) (fun h => hn _ ⟨by omega, by omega, rfl, ?_⟩))
    · have h : t.1 ≠ [] := by
        intro e; rw [e] at h; simp at h
      have := ht.1 h
      constructor
      · intro e; simp at e
      · intro e
        exact absurd this.2 (e D[i] (by rw [htk]; exact List.mem_append_right _ (List.mem_singleton_self _)))
    · have h : t.1 = [] := by
        have : t.1.length = 0 := by simpa using h
        exact List.eq_nil_of_length_eq_zero this
      have hno : ¬ ∃ p ∈ d.papers, D[i] ∈ p.Devices := fun e => (ht.2 ⟨hm, e⟩) h
      rw [htk, hl2]
      constructor
      · intro e s hs
        rcases List.mem_append.1 hs with hs | hs
        · exact e s hs
        · simp at hs; subst hs; exact hno
      · intro e s hs; exact e s (List.mem_append_left _ hs)
  · intro i l ⟨hi, _, _, hl2⟩
    refine Gd.ret ?_
    rw [List.take_of_length_le (by simp at hi; omega)] at hl2
    rw [List.length_eq_zero_iff, hl2]
    constructor
    · intro e
      cases hp : d.papers with
      | nil => rfl
      | cons p ps =>
        obtain ⟨s, hs, hps⟩ := hd.hd p (by rw [hp]; exact List.mem_cons_self ..)
        exact absurd ⟨p, by rw [hp]; exact List.mem_cons_self .., by rw [hps]; simp⟩ (e s hs)
    · intro e s _ ⟨p, hp, _⟩
      rw [e] at hp; simp at hp

theorem papers_eq {D : List ByteArray} {d : Desk} (hd : DkOk D d) (hl : d.papers.length ≤ 1000) : m_permit_Desk_Papers d = some d.papers := by
  rw [← Gd.eq]
  unfold m_permit_Desk_Papers
  refine Gd.nd (by omega) (Gd.forN (fun m i l => i + m = d.papers.length ∧ l = d.papers) ?_ (fun i s h => Gd.ret h.2) (d.papers.length : Int).toNat 0 d.papers ⟨by omega, rfl⟩)
  intro m i l n ⟨hi, hl2⟩ hn
  subst hl2
  unfold m_permit_Desk_Papers_b1
  have hlt : i < d.papers.length := by omega
  obtain ⟨s, _, hs⟩ := hd.hd _ (List.getElem_mem hlt)
  refine Gd.idxN hlt (Gd.nd (by rw [hs]; simp) (Gd.idxN hlt (hn _ ⟨by omega, ?_⟩)))
  rw [Int.toNat_natCast]
  exact List.set_getElem_self hlt

theorem find_gd (l : List Paper) (k : Int) : Gd (m_slices_IndexFunc_api_PermitPaper_api_PermitPaper__permit_Desk_find_1 l k) (fun r => (r < 0 ∧ ∀ p ∈ l, p.Number ≠ k) ∨ ∃ (i : Nat) (h : i < l.length), r = i ∧ l[i].Number = k ∧ ∀ p ∈ l.take i, p.Number ≠ k) := by
  unfold m_slices_IndexFunc_api_PermitPaper_api_PermitPaper__permit_Desk_find_1
  refine Gd.forN (fun m i _ => i + m = l.length ∧ ∀ p ∈ l.take i, p.Number ≠ k) ?_ ?_ (l.length : Int).toNat 0 () ⟨by omega, by simp⟩
  · intro m i _ nx ⟨hi, hno⟩ hnx
    unfold m_slices_IndexFunc_api_PermitPaper_api_PermitPaper__permit_Desk_find_1_b1 m_permit_Desk_find_1
    refine Gd.idxN (by omega) (Gd.ite (fun h => Gd.ret (.inr ⟨i, by omega, rfl, by simpa using h, hno⟩)) (fun h => hnx () ⟨by omega, ?_⟩))
    rw [List.take_succ_eq_append_getElem (by omega)]
    intro p hp
    rcases List.mem_append.1 hp with hp | hp
    · exact hno p hp
    · simp at hp; subst hp; simpa using h
  · intro i _ ⟨hi, hno⟩
    rw [List.take_of_length_le (by omega)] at hno
    exact Gd.ret (.inl ⟨by omega, hno⟩)

/-- The first permit is given back. -/
theorem return_first (d : Desk) (p : Paper) (ps : List Paper) (h : d.papers = p :: ps) (hl : d.papers.length ≤ 1000) : m_permit_Desk_Return d p.Number p.Holder = some (0, ⟨d.devices, ps, d.last⟩) := by
  rw [← Gd.eq]
  unfold m_permit_Desk_Return m_permit_Desk_find
  refine Gd.bnd (P := fun r => r = (0, 0)) ?_ ?_
  · refine Gd.bnd (find_gd _ _) (fun r hr => ?_)
    rcases hr with ⟨_, hno⟩ | ⟨i, hi, rfl, hn, hno⟩
    · exact absurd rfl (hno p (by rw [h]; exact List.mem_cons_self ..))
    · have hi0 : i = 0 := by
        cases i with
        | zero => rfl
        | succ j => exact absurd rfl (hno p (by rw [h, List.take_succ_cons]; exact List.mem_cons_self ..))
      subst hi0
      refine Gd.ite (fun h => by simp at h) (fun _ => Gd.idxN hi ?_)
      have hp0 : d.papers[0] = p := by simp [h]
      rw [hp0]
      exact Gd.ite (fun h => by simp at h) (fun _ => Gd.ret rfl)
  · rintro r rfl
    have hw : IntKind.i64.wrap (0 + 1) = 1 := rfl
    refine Gd.ite (fun h => by simp at h) (fun _ => Gd.nd ?_ (Gd.ret ?_))
    · simp only [hw]; rw [h]; simp; omega
    · simp only [hw]; rw [h]; simp

/-- A permit that is not there is not given back. -/
theorem return_gone (d : Desk) (k : Int) (s : ByteArray) (h : ∀ p ∈ d.papers, p.Number ≠ k) : m_permit_Desk_Return d k s = some (8, d) := by
  rw [← Gd.eq]
  unfold m_permit_Desk_Return m_permit_Desk_find
  refine Gd.bnd (P := fun r => r = (0, 8)) ?_ ?_
  · refine Gd.bnd (find_gd _ _) (fun r hr => ?_)
    rcases hr with ⟨hr, _⟩ | ⟨i, hi, rfl, hn, hno⟩
    · exact Gd.ite (fun _ => Gd.ret rfl) (fun h => by simp at h; omega)
    · exact absurd hn (h _ (List.getElem_mem hi))
  · rintro r rfl
    exact Gd.ite (fun _ => Gd.ret rfl) (fun h => by simp at h)

theorem DkOk.tail {D : List ByteArray} {d : Desk} {p : Paper} {ps : List Paper} (h : DkOk D d) (hp : d.papers = p :: ps) : DkOk D ⟨d.devices, ps, d.last⟩ ∧ ∀ q ∈ ps, q.Number ≠ p.Number := by
  have hu := h.up
  rw [hp, List.pairwise_cons] at hu
  exact ⟨⟨h.dv, fun q hq => h.hd q (by rw [hp]; exact List.mem_cons_of_mem _ hq), hu.2, fun q hq => h.la q (by rw [hp]; exact List.mem_cons_of_mem _ hq)⟩, fun q hq => by have := hu.1 q hq; omega⟩

theorem permitFact_true : m_gridhallkeep4_permitFact = some true := by kernel_rfl

theorem gone_gd {D : List ByteArray} (hD : D.length ≤ 256) {dv : List ByteArray} {ps : List Paper} {la : Int} (hd : DkOk D ⟨dv, ps, la⟩) (hl : ps.length ≤ 1000) : Gd (m_gridhallkeep4_PermitGone_b6 D dv ps la) (fun r => r = true) := by
  unfold m_gridhallkeep4_PermitGone_b6
  refine Gd.bind_eq (papers_eq hd hl) ?_
  refine Gd.forI (fun i ys s => s.2.1 = ys ∧ DkOk D ⟨s.1, s.2.1, s.2.2⟩ ∧ ys.length ≤ 1000) ?_ ?_ _ _ _ ⟨rfl, hd, hl⟩
  · rintro i y ys ⟨s1, s2, s3⟩ n ⟨h1, h2, h3⟩ hn
    simp only at h1 h2
    subst h1
    unfold m_gridhallkeep4_PermitGone_b5
    obtain ⟨t1, t2⟩ := h2.tail (p := y) (ps := ys) rfl
    simp only [List.length_cons] at h3
    refine Gd.bnd (held_gd h2 hD (by simpa using h3)) (fun r hr => Gd.ite (fun h => ?_) (fun _ => ?_))
    · have : r.length = 0 := by simpa using h
      exact absurd (hr.1 this) (by simp)
    · refine Gd.bind_eq (return_first ⟨s1, y :: ys, s3⟩ y ys rfl (by simpa using h3)) (Gd.ite (fun _ => ?_) (fun h => by simp at h))
      refine Gd.bind_eq (return_gone ⟨s1, ys, s3⟩ y.Number y.Holder t2) (Gd.ite (fun h => by simp at h) (fun _ => hn _ ⟨rfl, t1, by omega⟩))
  · rintro i ⟨s1, s2, s3⟩ ⟨h1, h2, h3⟩
    simp only at h1 h2
    subst h1
    refine Gd.bind_eq permitFact_true (Gd.ite (fun _ => ?_) (fun h => by simp at h))
    refine Gd.bnd (held_gd h2 hD (by simp)) (fun r hr => Gd.ite (fun _ => ?_) (fun h => ?_))
    · refine Gd.bind_eq (papers_eq h2 (by simp)) (Gd.ret rfl)
    · have := hr.2 rfl
      simp [this] at h

theorem slc_one {D : List ByteArray} {i : Nat} (h : i < D.length) : slc (slc D i D.length) 0 ((1 : Int).toNat) = [D[i]] := by
  unfold slc
  rw [List.drop_zero, List.take_of_length_le (l := D.drop i) (by simp), List.drop_eq_getElem_cons h]
  rfl

theorem PermitGone_true (D H : List ByteArray) (hD : Szs D) (hH : Szs H) : m_gridhallkeep4_PermitGone D H = some true := by
  rw [← Gd.eq]
  unfold m_gridhallkeep4_PermitGone
  obtain ⟨e, he, hl⟩ := pcheck_gd D hD
  refine Gd.bind_eq (pnew_gd D hD e he) ?_
  by_cases h0 : e = 0
  · rw [if_pos h0]
    have hD256 := hl h0
    simp only [optC]
    refine Gd.ite (fun h => by simp at h) (fun _ => Gd.nd (by omega) ?_)
    have hlen : (slc H 0 ((min (H.length : Int) 10 : Int).toNat)).length ≤ 10 := by unfold slc; simp; omega
    have hmem : Szs (slc H 0 ((min (H.length : Int) 10 : Int).toNat)) := fun x hx => hH x (by unfold slc at hx; exact List.mem_of_mem_drop (List.mem_of_mem_take hx))
    generalize slc H 0 ((min (H.length : Int) 10 : Int).toNat) = L at hlen hmem
    refine Gd.forI (fun i ys s => i + ys.length ≤ 10 ∧ Szs ys ∧ DkOk D ⟨s.2.1, s.2.2.1, s.2.2.2⟩ ∧ s.1 ≤ s.2.2.2 ∧ 0 ≤ s.2.2.2 ∧ s.2.2.2 ≤ (i : Int) ∧ s.2.2.1.length ≤ i) ?_ ?_ _ _ _ ⟨by omega, hmem, ⟨rfl, by simp, by simp, by simp⟩, by simp, by simp, by simp, by simp⟩
    · rintro i y ys ⟨n, dv, ps, la⟩ nx ⟨hi, hys, hd, h1, h2, h3, h4⟩ hn
      simp only [List.length_cons] at hi
      simp only at hd h1 h2 h3 h4
      unfold m_gridhallkeep4_PermitGone_b9
      refine Gd.ite (fun _ => gone_gd hD256 hd (by show ps.length ≤ 1000; omega)) (fun hz => ?_)
      have hz : D.length ≠ 0 := by
        intro h; simp [h] at hz
      have hmod : Int.tmod (i : Int) (D.length : Int) = ((i % D.length : Nat) : Int) := by
        rw [Int.tmod_eq_emod_of_nonneg (by omega)]; rfl
      have hlt : i % D.length < D.length := Nat.mod_lt _ (by omega)
      rw [hmod, Int.toNat_natCast, slc_one hlt]
      refine Gd.nd (by omega) (Gd.nd ⟨by omega, by omega⟩ (Gd.nd ?_ ?_))
      · unfold slc; simp; omega
      · refine Gd.bnd (issue_gd hd (hys y (List.mem_cons_self ..)) (List.getElem_mem hlt) (hD _ (List.getElem_mem hlt)) ⟨by simpa using h2, by show la ≤ 1000; omega⟩ (by show ps.length ≤ 1000; omega)) (fun r hr => ?_)
        unfold m_gridhallkeep4_PermitGone_b10
        have hys2 : Szs ys := fun x hx => hys x (List.mem_cons_of_mem _ hx)
        rcases hr with ⟨hne, hr⟩ | ⟨h0, hr1, hok, hla, hlen⟩
        · refine Gd.ite (fun h => absurd (by simpa using h) hne) (fun _ => ?_)
          rw [hr]
          exact hn _ ⟨by omega, hys2, hd, h1, h2, by simp only; omega, by simp only; omega⟩
        · simp only at hr1 hla hlen
          refine Gd.ite (fun _ => Gd.ite (fun h => ?_) (fun _ => ?_)) (fun h => by simp [h0] at h)
          · have : r.1 ≤ n := by simpa using h
            omega
          · exact hn _ ⟨by omega, hys2, hok, by simp only; omega, by simp only; omega, by simp only; omega, by simp only; omega⟩
    · rintro i ⟨n, dv, ps, la⟩ ⟨hi, hys, hd, h1, h2, h3, h4⟩
      simp only [List.length_nil] at hi h4
      exact gone_gd hD256 hd (by show ps.length ≤ 1000; omega)
  · rw [if_neg h0]
    simp only [optC]
    refine Gd.bind_eq permitFact_true (Gd.ite (fun _ => ?_) (fun h => by simp at h))
    exact Gd.bind_eq he (Gd.ite (fun _ => Gd.ret rfl) (fun h => by simp at h))
end Go.Sim
