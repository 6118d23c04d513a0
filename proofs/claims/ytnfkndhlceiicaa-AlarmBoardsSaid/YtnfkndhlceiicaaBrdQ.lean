/-
  Alarms, in plain Lean: the causes of alarms.
-/
import Derived.Test.YtnfkndhlceiicaaBrdP
namespace Go.Sim
open Go
set_option linter.unusedVariables false
set_option linter.unusedSimpArgs false
set_option linter.unusedSectionVars false
set_option linter.unnecessarySimpa false

/-- A cause: what explains it is not less, and is explained by it. -/
def IsC (cs : List Cz) (l : List BA) (x : BA) : Prop := ∀ y, Rch cs l x y → leS x y ∧ Rch cs l y x

theorem isCause_gd (cs : List Cz) (l : List BA) (name : BA) (hl : l.length ≤ 24) (hc : cs.length ≤ 40) : Gd (m_alarm_isCause cs l name) (fun b => b = true ↔ IsC cs l name) := by
  unfold m_alarm_isCause
  refine Gd.bnd (expl_gd cs l name hl hc) (fun out ⟨_, hout⟩ => ?_)
  refine Gd.bnd (P := fun b => b = true ↔ ∃ y ∈ out, ¬ (leS name y ∧ Rch cs l y name)) ?_ (fun b hb => Gd.ret ?_)
  · unfold m_slices_ContainsFunc_string_string__alarm_isCause_1 m_slices_IndexFunc_string_string__alarm_isCause_1
    refine Gd.bnd (P := fun r => 0 ≤ r ↔ ∃ y ∈ out, ¬ (leS name y ∧ Rch cs l y name)) ?_ (fun r hr => Gd.ret (by simpa using hr))
    refine Gd.forN (fun m i _ => i + m = out.length ∧ ∀ y ∈ out.take i, leS name y ∧ Rch cs l y name) ?_ ?_ (out.length : Int).toNat 0 () ⟨by omega, by simp⟩
    · intro m i _ nx ⟨hi, hno⟩ hnx
      have hlt : i < out.length := by omega
      unfold m_slices_IndexFunc_string_string__alarm_isCause_1_b1
      refine Gd.idxN hlt (Gd.bnd (P := fun b => b = true ↔ ¬ (leS name out[i] ∧ Rch cs l out[i] name)) ?_ (fun b hb => Gd.ite (fun h => Gd.ret ⟨fun _ => ⟨out[i], List.getElem_mem _, hb.1 h⟩, fun _ => by omega⟩) (fun h => hnx () ⟨by omega, ?_⟩)))
      · unfold m_alarm_isCause_1
        refine Gd.ite (fun h => Gd.ret ⟨fun _ hh => ?_, fun _ => rfl⟩) (fun h => Gd.bnd (expl_gd cs l out[i] hl hc) (fun o2 ⟨_, ho2⟩ => ?_))
        · have := hh.1
          unfold leS at this
          rw [this] at h; cases h
        · refine Gd.bnd (acont_gd _ _) (fun c hc => Gd.ret ?_)
          rw [ho2] at hc
          rw [← hc]
          unfold leS
          cases c <;> simp [h]
      · rw [List.take_succ_eq_append_getElem hlt]
        intro y hy
        rcases List.mem_append.1 hy with hy | hy
        · exact hno y hy
        · simp at hy; subst hy
          by_cases e : leS name out[i] ∧ Rch cs l out[i] name
          · exact e
          · have := hb.2 e
            rw [this] at h; cases h
    · intro i _ ⟨hi, hno⟩
      rw [List.take_of_length_le (by omega)] at hno
      exact Gd.ret ⟨fun h => by omega, fun ⟨y, hy, h⟩ => absurd (hno y hy) h⟩
  · unfold IsC
    constructor
    · intro h y hy
      have hbf : ¬ b = true := by
        intro e; rw [e] at h; cases h
      by_cases e : leS name y ∧ Rch cs l y name
      · exact e
      · exact absurd (hb.2 ⟨y, (hout y).2 hy, e⟩) hbf
    · intro h
      cases b
      · rfl
      · obtain ⟨y, hy, hn⟩ := hb.1 rfl
        exact absurd (h y ((hout y).1 hy)) hn

structure CsOk (cs : List Cz) (l r : List BA) : Prop where
  srt : Srt r
  nd : r.Nodup
  mem : ∀ y, y ∈ r ↔ y ∈ l ∧ IsC cs l y
theorem Srt.sub {l : List BA} {k : Nat} (h : Srt l) : True := trivial

theorem causesOf_gd (cs : List Cz) (l : List BA) (hl : l.length ≤ 12) (hc : cs.length ≤ 40) (hnd : l.Nodup) : Gd (m_alarm_causesOf cs l) (CsOk cs l) := by
  unfold m_alarm_causesOf
  refine Gd.seen (fun pre out => out.Nodup ∧ out.length ≤ pre.length ∧ ∀ y, y ∈ out ↔ y ∈ pre ∧ IsC cs l y) ?_ ?_ _ ⟨by simp, by simp, by simp⟩
  · rintro i y s nn pre hpre ⟨h1, h2, h3⟩ hn
    obtain ⟨hpl, hyl, hpm⟩ := pre_lt hpre
    have hyp : y ∉ pre := by
      obtain ⟨post, rfl⟩ := hpre
      rw [List.nodup_append] at hnd
      intro h
      exact hnd.2.2 y h y (List.mem_cons_self ..) rfl
    unfold m_alarm_causesOf_b3 m_alarm_causesOf_b4
    refine Gd.bnd (isCause_gd cs l y (by omega) hc) (fun b hb => Gd.ite (fun h => Gd.nd (by simp; omega) (hn _ ⟨?_, by simp; omega, ?_⟩)) (fun h => hn _ ⟨h1, by simp; omega, ?_⟩))
    · rw [List.nodup_append]
      exact ⟨h1, by simp, fun a ha b hb => by simp at hb; subst hb; intro e; exact hyp (e ▸ ((h3 a).1 ha).1)⟩
    · intro z
      rw [List.mem_append, List.mem_append, h3 z, List.mem_singleton]
      constructor
      · rintro (⟨p, q⟩ | rfl)
        · exact ⟨.inl p, q⟩
        · exact ⟨.inr rfl, hb.1 h⟩
      · rintro ⟨p | rfl, q⟩
        · exact .inl ⟨p, q⟩
        · exact .inr rfl
    · intro z
      rw [List.mem_append, h3 z, List.mem_singleton]
      constructor
      · rintro ⟨p, q⟩; exact ⟨.inl p, q⟩
      · rintro ⟨p | rfl, q⟩
        · exact ⟨p, q⟩
        · rw [hb.2 q] at h; cases h
  · rintro s ⟨h1, h2, h3⟩
    refine Gd.bnd (sort_gd s (by omega)) (fun r ⟨hp, hs⟩ => Gd.ret ⟨hs, hp.nodup_iff.2 h1, fun y => ?_⟩)
    rw [hp.mem_iff, h3]

theorem alarmFact_true : m_gridhallkeep4_alarmFact = some true := by kernel_rfl
end Go.Sim
