/-
  Alarms, in plain Lean: the causes of alarms.
-/
import Derived.Test.YtdlnfdpbfjcoiaaAlmP
namespace Go.Sim
open Go
set_option linter.unusedVariables false
set_option linter.unusedSimpArgs false
set_option linter.unusedSectionVars false
set_option linter.unnecessarySimpa false

/-- A cause: what explains it is not less, and is explained by it. -/
def IsC (cs : List Cz) (l : List BA) (x : BA) : Prop := ∀ y, Rch cs l x y → leS x y ∧ Rch cs l y x

theorem isCause_gd (cs : List Cz) (l : List BA) (name : BA) (hl : l.length ≤ 24) (hc : cs.length ≤ 40) : Gd (m_alarm_isCause cs l name) (fun b => b = true ↔ IsC cs l name) := by
  unfold m_alarm_isCause
  refine Gd.bnd (expl_gd cs l name hl hc) (fun out ⟨_, hout⟩ => ?_)
  refine Gd.bnd (P := fun b => b = true ↔ ∃ y ∈ out, ¬ (leS name y ∧ Rch cs l y name)) ?_ (fun b hb => Gd.ret ?_)
  · unfold m_slices_ContainsFunc_string_string__alarm_isCause_1 m_slices_IndexFunc_string_string__alarm_isCause_1
    refine Gd.bnd (P := fun r => 0 ≤ r ↔ ∃ y ∈ out, ¬ (leS name y ∧ Rch cs l y name)) ?_ (fun r hr => Gd.ret (by simpa using hr))
    refine Gd.forN (fun m i _ => i + m = out.length ∧ ∀ y ∈ out.take i, leS name y ∧ Rch cs l y name) ?_ ?_ (out.length : Int).toNat 0 () ⟨by omega, by simp⟩
    · intro m i _ nx ⟨hi, hno⟩ hnx
      have hlt : i < out.length := by omega
      unfold m_slices_IndexFunc_string_string__alarm_isCause_1_b1
      refine Gd.idxN hlt (Gd.bnd (P := fun b => b = true ↔ ¬ (leS name out[i] ∧ Rch cs l out[i] name)) ?_ (fun b hb => Gd.ite (fun h => Gd.ret ⟨fun _ => ⟨out[i], List.getElem_mem _, hb.1 h⟩, fun _ => by omega⟩) (fun h => hnx () ⟨by omega, ?_⟩)))
      · unfold m_alarm_isCause_1
        refine Gd.ite (fun h => Gd.ret ⟨fun _ hh => ?_, fun _ => rfl⟩) (fun h => Gd.bnd (expl_gd cs l out[i] hl hc) (fun o2 ⟨_, ho2⟩ => ?_))
        · have := hh.1
          unfold leS at this
          rw [this] at h; cases h
        · refine Gd.bnd (acont_gd _ _) (fun c hc => Gd.ret ?_)
          rw [ho2] at hc
          rw [← hc]
          unfold leS
          cases c <;> simp [h]
      · rw [List.take_succ_eq_append_getElem hlt]
        intro y hy
        rcases List.mem_append.1 hy with hy | hy
        · exact hno y hy
        · simp at hy; subst hy
          by_cases e : leS name out[i] ∧ Rch cs l out[i] name
          · exact e
          · have := hb.2 e
            rw [this] at h; cases h
    · intro i _ ⟨hi, hno⟩
      rw [List.take_of_length_le (by omega)] at hno
      exact Gd.ret ⟨fun h => by omega, fun ⟨y, hy, h⟩ => absurd (hno y hy) h⟩
  · unfold IsC
    constructor
    · intro h y hy
      have hbf : ¬ b = true := by
        intro e; rw [e] at h; cases h
      by_cases e : leS name y ∧ Rch cs l y name
      · exact e
      · exact absurd (hb.2 ⟨y, (hout y).2 hy, e⟩) hbf
    · intro h
      cases b
      · rfl
      · obtain ⟨y, hy, hn⟩ := hb.1 rfl
        exact absurd (h y ((hout y).1 hy)) hn

structure CsOk (cs : List Cz) (l r : List BA) : Prop where
  srt : Srt r
  nd : r.Nodup
  mem : ∀ y, y ∈ r ↔ y ∈ l ∧ IsC cs l y
theorem Srt.sub {l : List BA} {k : Nat} (h : Srt l) : True := trivial

theorem causesOf_gd (cs : List Cz) (l : List BA) (hl : l.length ≤ 12) (hc : cs.length ≤ 40) (hnd : l.Nodup) : Gd (m_alarm_causesOf cs l) (CsOk cs l) := by
  unfold m_alarm_causesOf
  refine Gd.seen (fun pre out => out.Nodup ∧ out.length ≤ pre.length ∧ ∀ y, y ∈ out ↔ y ∈ pre ∧ IsC cs l y) ?_ ?_ _ ⟨by simp, by simp, by simp⟩
  · rintro i y s nn pre hpre ⟨h1, h2, h3⟩ hn
    obtain ⟨hpl, hyl, hpm⟩ := pre_lt hpre
    have hyp : y ∉ pre := by
      obtain ⟨post, rfl⟩ := hpre
      rw [List.nodup_append] at hnd
      intro h
      exact hnd.2.2 y h y (List.mem_cons_self ..) rfl
    unfold m_alarm_causesOf_b3 m_alarm_causesOf_b4
    refine Gd.bnd (isCause_gd cs l y (by omega) hc) (fun b hb => Gd.ite (fun h => Gd.nd (by simp; omega) (hn _ ⟨?_, by simp; omega, ?_⟩)) (fun h => hn _ ⟨h1, by simp; omega, ?_⟩))
    · rw [List.nodup_append]
      exact ⟨h1, by simp, fun a ha b hb => by simp at hb; subst hb; intro e; exact hyp (e ▸ ((h3 a).1 ha).1)⟩
    · intro z
      rw [List.mem_append, List.mem_append, h3 z, List.mem_singleton]
      constructor
      · rintro (⟨p, q⟩ | rfl)
        · exact ⟨.inl p, q⟩
        · exact ⟨.inr rfl, hb.1 h⟩
      · rintro ⟨p | rfl, q⟩
        · exact .inl ⟨p, q⟩
        · exact .inr rfl
    · intro z
      rw [List.mem_append, h3 z, List.mem_singleton]
      constructor
      · rintro ⟨p, q⟩; exact ⟨.inl p, q⟩
      · rintro ⟨p | rfl, q⟩
        · exact ⟨p, q⟩
        · rw [hb.2 q] at h; cases h
  · rintro s ⟨h1, h2, h3⟩
    refine Gd.bnd (sort_gd s (by omega)) (fun r ⟨hp, hs⟩ => Gd.ret ⟨hs, hp.nodup_iff.2 h1, fun y => ?_⟩)
    rw [hp.mem_iff, h3]

structure ExOk (cs : List Cz) (l : List BA) (name : BA) (r : List BA) : Prop where
  srt : Srt r
  nd : r.Nodup
  len : r.length ≤ 24
  mem : ∀ y, y ∈ r ↔ (y ∈ l ∧ IsC cs l y) ∧ (y = name ∨ Rch cs l name y)
theorem explain_gd (cs : List Cz) (l : List BA) (name : BA) (hl : l.length ≤ 12) (hc : cs.length ≤ 40) (hnd : l.Nodup) (hk : m_alarm_check cs l = some 0) :
    Gd (m_alarm_Explain cs l name) (fun r => (r.2 ≠ 0 ∧ name ∉ l) ∨ (r.2 = 0 ∧ name ∈ l ∧ ExOk cs l name r.1)) := by
  unfold m_alarm_Explain
  refine Gd.bind_eq hk (Gd.ite (fun h => by simp at h) (fun _ => ?_))
  rw [acont_eq]
  refine Gd.ite (fun h => Gd.ret (.inl ⟨by simp, by simpa using h⟩)) (fun hm => ?_)
  have hm : name ∈ l := by simpa using hm
  refine Gd.bnd (expl_gd cs l name (by omega) hc) (fun by_ ⟨_, hby⟩ => Gd.bnd (causesOf_gd cs l hl hc hnd) (fun all hall => ?_))
  have hal : all.length ≤ 12 := by
    have := nodup_le all l hall.nd (fun y hy => ((hall.mem y).1 hy).1); omega
  refine Gd.seen (fun pre (out : List BA) => out.length ≤ pre.length ∧ out.Sublist pre ∧ ∀ y, y ∈ out ↔ y ∈ pre ∧ (y = name ∨ Rch cs l name y)) ?_ ?_ _ ⟨by simp, List.Sublist.refl _, by simp⟩
  · rintro i y s nn pre hpre ⟨h0, h1, h2⟩ hn
    obtain ⟨hpl, hyl, hpm⟩ := pre_lt hpre
    have add : (y = name ∨ Rch cs l name y) → Gd (need ((s.length + ([y]).length) * 16 ≤ 140737488355328) (nn (s ++ [y]))) (fun r => (r.2 ≠ 0 ∧ name ∉ l) ∨ (r.2 = 0 ∧ name ∈ l ∧ ExOk cs l name r.1)) := by
      intro hy
      refine Gd.nd (by simp; omega) (hn _ ⟨by simp; omega, h1.append (List.Sublist.refl _), fun z => ?_⟩)
      rw [List.mem_append, List.mem_append, h2 z, List.mem_singleton]
      constructor
      · rintro (⟨p, q⟩ | rfl)
        · exact ⟨.inl p, q⟩
        · exact ⟨.inr rfl, hy⟩
      · rintro ⟨p | rfl, q⟩
        · exact .inl ⟨p, q⟩
        · exact .inr rfl
    unfold m_alarm_Explain_b3 m_alarm_Explain_b4
    rw [acont_eq]
    refine Gd.ite (fun h => add (.inl (by simpa using h))) (fun h => Gd.ite (fun h2 => add (.inr ((hby y).1 (by simpa using h2)))) (fun h3 => ?_))
    have e1 : y ≠ name := by simpa using h
    have e2 : ¬ Rch cs l name y := fun e => (show y ∉ by_ by simpa using h3) ((hby y).2 e)
    refine hn _ ⟨by simp; omega, List.sublist_append_of_sublist_left h1, fun z => ?_⟩
    rw [List.mem_append, h2 z, List.mem_singleton]
    constructor
    · rintro ⟨p, q⟩; exact ⟨.inl p, q⟩
    · rintro ⟨p | rfl, q⟩
      · exact ⟨p, q⟩
      · exact absurd q (fun q => q.elim e1 e2)
  · rintro out ⟨h0, h1, h2⟩
    refine Gd.ret (.inr ⟨rfl, hm, ?_, h1.nodup hall.nd, by simp only; omega, fun y => ?_⟩)
    · intro p q a b hpq ha hb
      have hpw : all.Pairwise leS := by
        rw [List.pairwise_iff_getElem]
        intro i j hi hj hij
        exact hall.srt i j _ _ hij (List.getElem?_eq_getElem hi) (List.getElem?_eq_getElem hj)
      have hpo := hpw.sublist h1
      rw [List.pairwise_iff_getElem] at hpo
      obtain ⟨hp', rfl⟩ := List.getElem?_eq_some_iff.1 ha
      obtain ⟨hq', rfl⟩ := List.getElem?_eq_some_iff.1 hb
      exact hpo p q hp' hq' hpq
    · rw [h2, hall.mem]

/-- Each active alarm has a cause. -/
theorem cause_ex (cs : List Cz) (l : List BA) : ∀ (n : Nat) (x : BA), x ∈ l → (∀ L : List BA, L.Nodup → (∀ y ∈ L, y ∈ l ∧ (y = x ∨ Rch cs l x y)) → L.length ≤ n) → ∃ y ∈ l, IsC cs l y ∧ (y = x ∨ Rch cs l x y)
  | 0, x, hx, h => by
    have := h [x] (by simp) (fun y hy => by simp at hy; subst hy; exact ⟨hx, .inl rfl⟩)
    simp at this
  | n + 1, x, hx, h => by
    by_cases hA : ∃ y, Rch cs l x y ∧ ¬ Rch cs l y x
    · obtain ⟨y, hxy, hyx⟩ := hA
      have hne : y ≠ x := fun e => by subst e; exact hyx hxy
      obtain ⟨z, hz, hc, hyz⟩ := cause_ex cs l n y hxy.mem (fun L hL hm => by
        have hxL : x ∉ L := fun hx => (hm x hx).2.elim (fun e => hne e.symm) hyx
        have := h (x :: L) (List.nodup_cons.2 ⟨hxL, hL⟩) (fun z hz => by
          rcases List.mem_cons.1 hz with rfl | hz
          · exact ⟨hx, .inl rfl⟩
          · obtain ⟨h1, h2⟩ := hm z hz
            refine ⟨h1, .inr ?_⟩
            rcases h2 with rfl | h2
            · exact hxy
            · exact hxy.trans h2)
        simp only [List.length_cons] at this; omega)
      refine ⟨z, hz, hc, .inr ?_⟩
      rcases hyz with rfl | hyz
      · exact hxy
      · exact hxy.trans hyz
    · have hA : ∀ y, Rch cs l x y → Rch cs l y x := fun y hy => by
        by_cases e : Rch cs l y x
        · exact e
        · exact absurd ⟨y, hy, e⟩ hA
      have hex : ∃ L : List BA, ∀ y, y ∈ L ↔ y ∈ l ∧ (y = x ∨ Rch cs l x y) := by
        classical
        exact ⟨l.filter (fun y => decide (y = x ∨ Rch cs l x y)), fun y => by rw [List.mem_filter, decide_eq_true_eq]⟩
      obtain ⟨L, hL⟩ := hex
      obtain ⟨m, hm, hmin⟩ := leastS L (List.ne_nil_of_mem ((hL x).2 ⟨hx, .inl rfl⟩))
      obtain ⟨hml, hmx⟩ := (hL m).1 hm
      refine ⟨m, hml, fun y hy => ?_, hmx⟩
      have hxy : Rch cs l x y := by
        rcases hmx with rfl | hmx
        · exact hy
        · exact hmx.trans hy
      refine ⟨hmin y ((hL y).2 ⟨hy.mem, .inr hxy⟩), ?_⟩
      rcases hmx with rfl | hmx
      · exact hA y hxy
      · exact (hA y hxy).trans hmx
theorem cause_of (cs : List Cz) (l : List BA) (x : BA) (hx : x ∈ l) : ∃ y ∈ l, IsC cs l y ∧ (y = x ∨ Rch cs l x y) :=
  cause_ex cs l l.length x hx (fun L hL hm => nodup_le L l hL (fun y hy => (hm y hy).1))

theorem alarmFact_true : m_gridhallkeep4_alarmFact = some true := by kernel_rfl
theorem acut0 (n m : Int) (h0 : 0 ≤ m) (h1 : m ≤ 1000) : Gd (m_gridhallref4_Cut n 0 m) (fun r => 0 ≤ r ∧ r ≤ m) := by
  have e : IntKind.i64.wrap ((IntKind.i64.wrap (m - 0)) + 1) = m + 1 := by rw [wrap_id (n := m - 0) (by omega), wrap_id (by omega)]; omega
  have h1 : Int.tmod n (m + 1) < m + 1 := Int.tmod_lt_of_pos n (by omega)
  have h2 : -(m + 1) < Int.tmod n (m + 1) := by
    have := Int.tmod_lt_of_pos (-n) (show (0 : Int) < m + 1 by omega)
    rw [Int.neg_tmod] at this; omega
  unfold m_gridhallref4_Cut m_gridhallref4_Cut_b1
  rw [e]
  refine Gd.nd (by omega) (Gd.ite (fun h => ?_) (fun h => ?_))
  · simp at h
    rw [wrap_id (n := Int.tmod n (m + 1) + (m + 1)) (by omega), wrap_id (by omega)]
    exact Gd.ret ⟨by omega, by omega⟩
  · simp at h
    rw [wrap_id (by omega)]
    exact Gd.ret ⟨by omega, by omega⟩
theorem slc10 {l : List BA} (h : BaSz l) : (slc l 0 ((min (l.length : Int) 10 : Int).toNat)).length ≤ 10 ∧ BaSz (slc l 0 ((min (l.length : Int) 10 : Int).toNat)) := by
  unfold slc
  exact ⟨by simp; omega, fun x hx => h x (List.mem_of_mem_drop (List.mem_of_mem_take hx))⟩

theorem AlarmDirect_true (cs : List Cz) (l : List BA) (k : Int) (hc : CzSz cs) (hl : BaSz l) : m_gridhallkeep4_AlarmDirect cs l k = some true := by
  rw [← Gd.eq]
  unfold m_gridhallkeep4_AlarmDirect
  obtain ⟨hL, hLs⟩ := slc10 hl
  generalize slc l 0 ((min (l.length : Int) 10 : Int).toNat) = L at hL hLs
  refine Gd.nd (by omega) (Gd.bnd (aCheck_gd cs hc) (fun e he => Gd.ite (fun _ => Gd.bind_eq alarmFact_true (Gd.ret rfl)) (fun h => ?_)))
  simp only [Bool.or_eq_false_iff, Bool.not_eq_false', decide_eq_true_eq, decide_eq_false_iff_not] at h
  have h40 := he h.1
  have hw : IntKind.i64.wrap ((cs.length : Int) - 1) = (cs.length : Int) - 1 := wrap_id ⟨by omega, by omega⟩
  rw [hw]
  refine Gd.bnd (acut0 k _ (by omega) (by omega)) (fun q ⟨q0, q1⟩ => ?_)
  have hql : q.toNat < cs.length := by omega
  refine Gd.ix q0 (List.getElem?_eq_getElem hql) ?_
  generalize hcq : cs[q.toNat] = c
  have hcm : c ∈ cs := hcq ▸ List.getElem_mem _
  obtain ⟨ck, hck, hok⟩ := acheck_gd cs L hc hLs
  by_cases hk0 : ck = 0
  · subst hk0
    obtain ⟨_, _, _, hnd⟩ := hok rfl
    refine Gd.bnd (explain_gd cs L c.Of (by omega) h40 hnd hck) (fun a ha => Gd.bnd (explain_gd cs L c.By (by omega) h40 hnd hck) (fun b hb => ?_))
    rcases ha with ⟨ha, _⟩ | ⟨ha, hao, hax⟩
    · exact Gd.ite (fun _ => Gd.bind_eq alarmFact_true (Gd.ret rfl)) (fun h => by simp [ha] at h)
    rcases hb with ⟨hb, _⟩ | ⟨hb, hbo, hbx⟩
    · exact Gd.ite (fun _ => Gd.bind_eq alarmFact_true (Gd.ret rfl)) (fun h => by simp [hb] at h)
    refine Gd.ite (fun h => by simp [ha, hb] at h) (fun _ => ?_)
    have harc : Arc cs L c.Of c.By := ⟨⟨c, hcm, rfl, rfl⟩, hbo⟩
    refine Gd.seen (Q := fun z => z = true) (fun pre (_ : Unit) => True) ?_ ?_ _ trivial
    · rintro i y s nn pre hpre _ hn
      obtain ⟨_, hyb, _⟩ := pre_lt hpre
      unfold m_gridhallkeep4_AlarmDirect_b1
      rw [acont_eq]
      refine Gd.ite (fun h => ?_) (fun _ => hn _ trivial)
      have hno : y ∉ a.1 := by simpa using h
      obtain ⟨p, q⟩ := (hbx.mem y).1 hyb
      refine absurd ((hax.mem y).2 ⟨p, .inr ?_⟩) hno
      rcases q with rfl | q
      · exact .one harc
      · exact (Rch.one harc).trans q
    · intro _ _
      obtain ⟨y, hy, hyc, hyr⟩ := cause_of cs L c.By hbo
      have hyb := (hbx.mem y).2 ⟨⟨hy, hyc⟩, hyr⟩
      have hpos : 0 < b.1.length := List.length_pos_of_mem hyb
      refine Gd.bind_eq alarmFact_true (Gd.ret ?_)
      simp; omega
  · have bad : ∀ name, m_alarm_Explain cs L name = some ([], ck) := fun name => by
      rw [← Gd.eq]
      unfold m_alarm_Explain
      exact Gd.bind_eq hck (Gd.ite (fun _ => Gd.ret rfl) (fun h => absurd (by simpa using h) hk0))
    exact Gd.bind_eq (bad _) (Gd.bind_eq (bad _) (Gd.ite (fun _ => Gd.bind_eq alarmFact_true (Gd.ret rfl)) (fun h => by simp [hk0] at h)))

theorem eq_one (r : List BA) (s : BA) (h : r = [s]) : m_slices_Equal_string_string r [s] = some true := by
  subst h
  rw [← Gd.eq]
  unfold m_slices_Equal_string_string
  refine Gd.ite (fun h => by simp at h) (fun _ => ?_)
  refine Gd.forN (Q := fun x => x = true) (fun m i (_ : Unit) => i + m = 1) ?_ (fun _ _ _ => Gd.ret rfl) 1 0 () rfl
  intro m i _ nx hi hn
  have : i = 0 := by omega
  subst this
  unfold m_slices_Equal_string_string_b1
  exact Gd.idxN (by simp) (Gd.idxN (by simp) (Gd.ite (fun h => by simp at h) (fun _ => hn _ (by omega))))

theorem AlarmCovered_true (cs : List Cz) (l : List BA) (hc : CzSz cs) (hl : BaSz l) : m_gridhallkeep4_AlarmCovered cs l = some true := by
  rw [← Gd.eq]
  unfold m_gridhallkeep4_AlarmCovered
  have hL' := slc10 hl
  unfold m_gridhallkeep4_AlarmCovered_b3
  generalize slc l 0 ((min (l.length : Int) 10 : Int).toNat) = L at hL'
  obtain ⟨hL, hLs⟩ := hL'
  refine Gd.nd (by omega) ?_
  obtain ⟨ck, hck, hok⟩ := acheck_gd cs L hc hLs
  by_cases hk0 : ck = 0
  · subst hk0
    obtain ⟨_, h40, _, hnd⟩ := hok rfl
    have hall : Gd (m_alarm_Causes cs L) (fun r => r.2 = 0 ∧ CsOk cs L r.1) := by
      unfold m_alarm_Causes
      exact Gd.bind_eq hck (Gd.ite (fun h => by simp at h) (fun _ => Gd.bnd (causesOf_gd cs L (by omega) h40 hnd) (fun r hr => Gd.ret ⟨rfl, hr⟩)))
    refine Gd.bnd hall (fun all ⟨ha0, hall⟩ => Gd.ite (fun h => by simp [ha0] at h) (fun _ => ?_))
    refine Gd.seen (Q := fun z => z = true) (fun pre (_ : Unit) => True) ?_ (fun _ _ => Gd.bind_eq alarmFact_true (Gd.ret rfl)) _ trivial
    rintro i s u nn pre hpre _ hn
    obtain ⟨_, hsL, _⟩ := pre_lt hpre
    refine Gd.bnd (explain_gd cs L s (by omega) h40 hnd hck) (fun why hw => ?_)
    rcases hw with ⟨_, hno⟩ | ⟨hw0, _, hw⟩
    · exact absurd hsL hno
    refine Gd.ite (fun _ => Gd.ite (fun h => ?_) (fun _ => ?_)) (fun h => by simp [hw0] at h)
    · obtain ⟨y, hy, hyc, hyr⟩ := cause_of cs L s hsL
      have hyb := (hw.mem y).2 ⟨⟨hy, hyc⟩, hyr⟩
      have hpos : 0 < why.1.length := List.length_pos_of_mem hyb
      simp at h
      rw [h] at hpos; simp at hpos
    · refine Gd.bind_eq (isSorted_true why.1 (by have := hw.len; omega) hw.srt) (Gd.ite (fun h => by simp at h) (fun _ => ?_))
      refine Gd.seen (Q := fun z => z = true) (fun pre (_ : Unit) => True) ?_ ?_ _ trivial
      · rintro i2 c u2 nn2 pre2 hpre2 _ hn2
        obtain ⟨_, hcw, _⟩ := pre_lt hpre2
        unfold m_gridhallkeep4_AlarmCovered_b4
        rw [acont_eq]
        refine Gd.ite (fun h => ?_) (fun _ => hn2 _ trivial)
        have hno : c ∉ all.1 := by simpa using h
        exact absurd ((hall.mem c).2 ((hw.mem c).1 hcw).1) hno
      · intro _ _
        rw [acont_eq]
        refine Gd.ite (fun h => ?_) (fun _ => hn _ trivial)
        have hsa : s ∈ all.1 := by simpa using h
        obtain ⟨_, hsc⟩ := (hall.mem s).1 hsa
        have hone : why.1 = [s] := by
          have hsw : s ∈ why.1 := (hw.mem s).2 ⟨(hall.mem s).1 hsa, .inl rfl⟩
          have hal : ∀ y ∈ why.1, y = s := fun y hy => by
            obtain ⟨⟨_, hyc⟩, hyr⟩ := (hw.mem y).1 hy
            rcases hyr with rfl | hyr
            · rfl
            · obtain ⟨h1, h2⟩ := hsc y hyr
              exact leS_anti (hyc s h2).1 h1
          have hlen : why.1.length ≤ 1 := by
            have := nodup_le why.1 [s] hw.nd (fun y hy => by simp [hal y hy]); simpa using this
          cases hq : why.1 with
          | nil => rw [hq] at hsw; simp at hsw
          | cons a t =>
            rw [hq] at hlen hal
            simp only [List.length_cons] at hlen
            have : t = [] := List.eq_nil_of_length_eq_zero (by omega)
            rw [this, hal a (List.mem_cons_self ..)]
        exact Gd.bind_eq (eq_one _ _ hone) (Gd.ite (fun h => by simp at h) (fun _ => hn _ trivial))
  · have bad : m_alarm_Causes cs L = some ([], ck) := by
      rw [← Gd.eq]
      unfold m_alarm_Causes
      exact Gd.bind_eq hck (Gd.ite (fun _ => Gd.ret rfl) (fun h => absurd (by simpa using h) hk0))
    exact Gd.bind_eq bad (Gd.ite (fun _ => Gd.bind_eq alarmFact_true (Gd.ret (by simp))) (fun h => absurd (by simpa using h) hk0))
end Go.Sim
