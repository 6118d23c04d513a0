/-
  Switching orders: with further rules no order becomes shorter (from what Concat answers).
-/
import Derived.Test.YtppfglcmgkjgkaaOrdT
namespace Go.Sim
open Go
set_option linter.unusedVariables false
set_option linter.unusedSimpArgs false
set_option linter.unusedSectionVars false
set_option linter.unnecessarySimpa false

theorem Edge.less {rules more : List Rule} {names held : List ByteArray} {c i : Nat} (h : Edge (rules ++ more) names held c i) : Edge rules names held c i := by
  obtain ⟨nm, h1, h2, h3⟩ := h
  exact ⟨nm, h1, h2, fun r hr => h3 r (List.mem_append_left _ hr)⟩
theorem Pth.less {rules more : List Rule} {names held : List ByteArray} {c0 k c : Nat} (h : Pth (rules ++ more) names held c0 k c) : Pth rules names held c0 k c := by
  induction h with
  | nil => exact .nil
  | step _ he ih => exact .step ih he.less
theorem OrdOk.less {rules more : List Rule} {fr to : List Sw} {held : List ByteArray} (h : OrdOk (rules ++ more) fr to held) : OrdOk rules fr to held := by
  refine ⟨⟨?_, fun r hr => h.rl.2 r (List.mem_append_left _ hr)⟩, h.f, h.t, h.l8, h.hl, h.nm⟩
  have := h.rl.1
  simp at this; omega
theorem OrderMore_of (rules more : List Rule) (fr to : List Sw) (hz : RlSz rules) (hm : RlSz more) (hf : SwSz fr) (ht : SwSz to) (hc : m_slices_Concat_api_InterlockRule_api_InterlockRule [rules, more] = some (rules ++ more)) :
    m_gridhallkeep4_OrderMore rules more fr to = some true := by
  rw [← Gd.eq]
  unfold m_gridhallkeep4_OrderMore
  refine Gd.nd (by omega) (Gd.nd (by omega) ?_)
  generalize hA : slc fr 0 _ = A
  generalize hB : slc to 0 _ = B
  have sA : SwSz A := hA ▸ slc_sz hf _
  have sB : SwSz B := hB ▸ slc_sz ht _
  have hzm : RlSz (rules ++ more) := fun r hr => (List.mem_append.1 hr).elim (hz r) (hm r)
  obtain ⟨x, hx⟩ := plan_gd (rules ++ more) A B [] hzm sA sB
  obtain ⟨y, hy⟩ := plan_gd rules A B [] hz sA sB
  refine Gd.bind_eq hc (Gd.bind_eq hx (Gd.bind_eq hy (Gd.ite (fun h => Gd.bind_eq orderFact_true (Gd.ret ?_)) (fun h => Gd.bind_eq orderFact_true (Gd.ret ?_)))))
  · have := plan_nil hzm sA sB hx (by simpa using h)
    simp [this]
  · have h : x.2 = 0 := by simpa using h
    obtain ⟨o1, p1⟩ := plan_zero hzm sA sB hx h
    have q := (Steps.pth .nil (p1.steps h)).less
    rw [Nat.zero_add] at q
    rcases plan_all rules A B [] hz sA sB with ⟨hn, _⟩ | ⟨_, _, r, _, _, hr, p2, _⟩
    · exact absurd o1.less hn
    · rw [hr] at hy
      have e := Option.some.inj hy
      subst e
      have r0 : r.2 = 0 := by
        rcases p2.two with h | h
        · exact absurd q (p2.no h.1 _)
        · exact h
      have := p2.short r0 _ q
      simp [r0]; omega
end Go.Sim
