/-
  The laws of switching orders: the way by other states; held switches.
-/
import Derived.Test.YtppfglcmgkjgkaaOrdS
namespace Go.Sim
open Go
set_option linter.unusedVariables false
set_option linter.unusedSimpArgs false
set_option linter.unusedSectionVars false
set_option linter.unnecessarySimpa false

def SwSz (l : List Sw) : Prop := ∀ x ∈ l, x.Name.size ≤ maxLen
def RlSz (l : List Rule) : Prop := ∀ r ∈ l, RuleSz r
theorem OrdOk.names {rules : List Rule} {fr to : List Sw} {held : List ByteArray} (h : OrdOk rules fr to held) (hf : SwSz fr) : NamesOk (fr.map (·.Name)) := by
  refine ⟨by simpa using h.l8, ?_, h.f.2.2, ?_⟩
  · intro x hx
    obtain ⟨y, hy, rfl⟩ := List.mem_map.1 hx
    exact h.f.2.1 y hy
  · intro x hx
    obtain ⟨y, hy, rfl⟩ := List.mem_map.1 hx
    exact hf y hy
/-- The plan, in both cases. -/
theorem plan_all (rules : List Rule) (fr to : List Sw) (held : List ByteArray) (hz : RlSz rules) (hf : SwSz fr) (ht : SwSz to) :
    (¬ OrdOk rules fr to held ∧ ∃ e : Int, e ≠ 0 ∧ m_order_Plan rules fr to held = some ([], e)) ∨
    (OrdOk rules fr to held ∧ ∃ b r, m_order_walk rules fr held = some b ∧ WalkOk rules (fr.map (·.Name)) held (codN 0 fr) b ∧ m_order_Plan rules fr to held = some r ∧
      PlanOk (rules := rules) (names := fr.map (·.Name)) (held := held) (codN 0 fr) (codN 0 to) r ∧ (r.2 = 0 ↔ Vis b (codN 0 to))) := by
  obtain ⟨e, he, heq⟩ := ordcheck_gd rules fr to held hz hf ht
  by_cases h0 : e = 0
  · subst h0
    have hok := heq.1 rfl
    refine .inr ⟨hok, ?_⟩
    have hN := hok.names hf
    have e1 : stOf (fr.map (·.Name)) (codN 0 fr) = fr := stOf_codN fr
    have e2 : stOf (fr.map (·.Name)) (codN 0 to) = to := by rw [hok.nm]; exact stOf_codN to
    have l1 : codN 0 fr < 2 ^ (fr.map (·.Name)).length := by simpa using codN_lt fr
    have l2 : codN 0 to < 2 ^ (fr.map (·.Name)).length := by rw [hok.nm]; simpa using codN_lt to
    obtain ⟨b, h1, h2, r, h3, h4, h5⟩ := plan_eq hok.rl hz hN hok.hl l1 l2
    rw [e1] at h1 h3
    rw [e2] at h3
    exact ⟨b, r, h1, h2, h3, h4, h5⟩
  · refine .inl ⟨fun h => h0 (heq.2 h), e, h0, ?_⟩
    unfold m_order_Plan
    rw [he]
    simp [h0]
theorem plan_nil {rules : List Rule} {fr to : List Sw} {held : List ByteArray} {r : List S_api_OrderStep × Int} (hz : RlSz rules) (hf : SwSz fr) (ht : SwSz to) (h : m_order_Plan rules fr to held = some r) (h0 : r.2 ≠ 0) : r.1 = [] := by
  rcases plan_all rules fr to held hz hf ht with ⟨_, e, _, he⟩ | ⟨_, b, r', _, _, hr, hp, _⟩
  · rw [he] at h; cases h; rfl
  · rw [hr] at h; cases h
    rcases hp.two with h | h
    · exact h.2
    · exact absurd h h0
/-- A plan was found. -/
theorem plan_zero {rules : List Rule} {fr to : List Sw} {held : List ByteArray} {r : List S_api_OrderStep × Int} (hz : RlSz rules) (hf : SwSz fr) (ht : SwSz to) (h : m_order_Plan rules fr to held = some r) (h0 : r.2 = 0) :
    OrdOk rules fr to held ∧ PlanOk (rules := rules) (names := fr.map (·.Name)) (held := held) (codN 0 fr) (codN 0 to) r := by
  rcases plan_all rules fr to held hz hf ht with ⟨_, e, hne, he⟩ | ⟨hok, b, r', _, _, hr, hp, _⟩
  · rw [he] at h; cases h; exact absurd h0 hne
  · rw [hr] at h; cases h; exact ⟨hok, hp⟩
theorem plan_gd (rules : List Rule) (fr to : List Sw) (held : List ByteArray) (hz : RlSz rules) (hf : SwSz fr) (ht : SwSz to) : ∃ r, m_order_Plan rules fr to held = some r := by
  rcases plan_all rules fr to held hz hf ht with ⟨_, e, _, he⟩ | ⟨_, b, r, _, _, hr, _, _⟩
  · exact ⟨_, he⟩
  · exact ⟨r, hr⟩
theorem orderFact_true : m_gridhallkeep4_orderFact = some true := by kernel_rfl
theorem slc_sz {l : List Sw} (h : SwSz l) (n : Nat) : SwSz (slc l 0 n) := fun x hx => h x (List.mem_of_mem_take (by simpa [slc] using hx))

theorem OrderThrough_true (rules : List Rule) (a b c : List Sw) (held : List ByteArray) (hz : RlSz rules) (ha : SwSz a) (hb : SwSz b) (hc : SwSz c) : m_gridhallkeep4_OrderThrough rules a b c held = some true := by
  rw [← Gd.eq]
  unfold m_gridhallkeep4_OrderThrough
  refine Gd.nd (by omega) (Gd.nd (by omega) (Gd.nd (by omega) ?_))
  generalize hA : slc a 0 _ = A
  generalize hB : slc b 0 _ = B
  generalize hC : slc c 0 _ = C
  have sA : SwSz A := hA ▸ slc_sz ha _
  have sB : SwSz B := hB ▸ slc_sz hb _
  have sC : SwSz C := hC ▸ slc_sz hc _
  obtain ⟨x, hx⟩ := plan_gd rules A B held hz sA sB
  obtain ⟨y, hy⟩ := plan_gd rules B C held hz sB sC
  obtain ⟨z, hzz⟩ := plan_gd rules A C held hz sA sC
  refine Gd.bind_eq hx (Gd.bind_eq hy (Gd.bind_eq hzz (Gd.ite (fun _ => Gd.bind_eq orderFact_true (Gd.ret rfl)) (fun h => Gd.bind_eq orderFact_true (Gd.ret ?_)))))
  have h : x.2 = 0 ∧ y.2 = 0 := by simpa using h
  obtain ⟨o1, p1⟩ := plan_zero hz sA sB hx h.1
  obtain ⟨o2, p2⟩ := plan_zero hz sB sC hy h.2
  have o3 : OrdOk rules A C held := ⟨o1.rl, o1.f, o2.t, o1.l8, o1.hl, o1.nm.trans o2.nm⟩
  rcases plan_all rules A C held hz sA sC with ⟨hn, _⟩ | ⟨_, _, r, _, _, hr, p3, _⟩
  · exact absurd o3 hn
  · rw [hr] at hzz; cases hzz
    rw [← o1.nm] at p2
    have q1 := Steps.pth .nil (p1.steps h.1)
    have q2 := Steps.pth .nil (p2.steps h.2)
    have q := q1.trans q2
    have r0 : z.2 = 0 := by
      rcases p3.two with h | h
      · exact absurd q (p3.no h.1 _)
      · exact h
    have := p3.short r0 _ q
    have := p1.len
    have := p2.len
    rw [wrap_id (by omega)]
    simp [r0]; omega

theorem cut0 (n m : Int) (h0 : 0 ≤ m) (h1 : m ≤ 1000) : Gd (m_gridhallref4_Cut n 0 m) (fun r => 0 ≤ r ∧ r ≤ m) := by
  have e : IntKind.i64.wrap ((IntKind.i64.wrap (m - 0)) + 1) = m + 1 := by rw [wrap_id (n := m - 0) (by omega), wrap_id (by omega)]; omega
  have h1 : Int.tmod n (m + 1) < m + 1 := Int.tmod_lt_of_pos n (by omega)
  have h2 : -(m + 1) < Int.tmod n (m + 1) := by
    have := Int.tmod_lt_of_pos (-n) (show (0 : Int) < m + 1 by omega)
    rw [Int.neg_tmod] at this; omega
  unfold m_gridhallref4_Cut m_gridhallref4_Cut_b1
  rw [e]
  refine Gd.nd (by omega) (Gd.ite (fun h => ?_) (fun h => ?_))
  · simp at h
    rw [wrap_id (n := Int.tmod n (m + 1) + (m + 1)) (by omega), wrap_id (by omega)]
    exact Gd.ret ⟨by omega, by omega⟩
  · simp at h
    rw [wrap_id (by omega)]
    exact Gd.ret ⟨by omega, by omega⟩

theorem Steps.bit {rules : List Rule} {names held : List ByteArray} {k : Nat} {nm : ByteArray} (hk : names[k]? = some nm) (hm : nm ∈ held) : ∀ {l : List S_api_OrderStep} {c d : Nat}, Steps rules names held c l d → c.testBit k = d.testBit k
  | [], c, d, h => by cases h; rfl
  | s :: ss, c, d, h => by
    obtain ⟨i, hi, ⟨nm', hnm', hnh, _⟩, _, hs⟩ := h
    have := Steps.bit hk hm hs
    rw [tb_xor] at this
    have hik : i ≠ k := by
      rintro rfl
      rw [hk] at hnm'; cases hnm'; exact hnh hm
    simpa [hik] using this
theorem Steps.sw {rules : List Rule} {names held : List ByteArray} : ∀ {l : List S_api_OrderStep} {c d : Nat}, Steps rules names held c l d → ∀ s ∈ l, s.Switch ∉ held
  | [], c, d, h, s, hs => by simp at hs
  | t :: ss, c, d, h, s, hs => by
    obtain ⟨i, hi, ⟨nm', hnm', hnh, _⟩, _, hst⟩ := h
    rcases List.mem_cons.1 hs with rfl | hs
    · rw [hi] at hnm'; cases hnm'; exact hnh
    · exact Steps.sw hst s hs
theorem heldno (l : List S_api_OrderStep) (fr : List Sw) (k : Int) (y : Sw) (h0 : 0 ≤ k) (hy : fr[k.toNat]? = some y) (hno : ∀ s ∈ l, s.Switch ≠ y.Name) : m_slices_ContainsFunc_api_OrderStep_api_OrderStep__gridhallkeep4_OrderHeld_1 l fr k = some false := by
  rw [← Gd.eq]
  unfold m_slices_ContainsFunc_api_OrderStep_api_OrderStep__gridhallkeep4_OrderHeld_1
  refine Gd.bnd (P := fun r => r = -1) ?_ (fun r hr => Gd.ret (by subst hr; decide))
  unfold m_slices_IndexFunc_api_OrderStep_api_OrderStep__gridhallkeep4_OrderHeld_1
  refine Gd.forN (fun m i _ => i + m = l.length) ?_ ?_ (l.length : Int).toNat 0 () (by omega)
  · intro m i _ nx hi hnx
    unfold m_slices_IndexFunc_api_OrderStep_api_OrderStep__gridhallkeep4_OrderHeld_1_b1 m_gridhallkeep4_OrderHeld_1
    refine Gd.idxN (by omega) (Gd.bnd (P := fun b => b = false) (Gd.ix h0 hy (Gd.ret ?_)) (fun b hb => ?_))
    · simpa using hno _ (List.getElem_mem _)
    · subst hb
      exact hnx () (by omega)
  · intro i _ hi
    exact Gd.ret rfl

theorem OrderHeld_true (rules : List Rule) (fr to : List Sw) (k : Int) (hz : RlSz rules) (hf : SwSz fr) (ht : SwSz to) : m_gridhallkeep4_OrderHeld rules fr to k = some true := by
  rw [← Gd.eq]
  unfold m_gridhallkeep4_OrderHeld
  refine Gd.nd (by omega) (Gd.nd (by omega) ?_)
  have hlen : (slc fr 0 (min (fr.length : Int) 6).toNat).length ≤ 6 := by simp [slc]; omega
  generalize hA : slc fr 0 _ = A at hlen ⊢
  generalize hB : slc to 0 _ = B
  have sA : SwSz A := hA ▸ slc_sz hf _
  have sB : SwSz B := hB ▸ slc_sz ht _
  refine Gd.ite (fun _ => Gd.bind_eq orderFact_true (Gd.ret rfl)) (fun h => ?_)
  have h : A.length ≠ 0 := by simpa using h
  rw [wrap_id (n := (A.length : Int) - 1) (by omega)]
  refine Gd.bnd (cut0 k _ (by omega) (by omega)) (fun r hr => ?_)
  obtain ⟨y, hy⟩ := get_of (l := A) (i := r.toNat) (by omega)
  refine Gd.ix hr.1 hy ?_
  obtain ⟨x, hx⟩ := plan_gd rules A B [y.Name] hz sA sB
  refine Gd.bind_eq hx (Gd.ite (fun h => Gd.bind_eq orderFact_true (Gd.ret ?_)) (fun h => Gd.bind_eq orderFact_true ?_))
  · have := plan_nil hz sA sB hx (by simpa using h)
    simp [this]
  · obtain ⟨o, p⟩ := plan_zero hz sA sB hx (by simpa using h)
    have hst := p.steps (by simpa using h)
    have hl : A.length = B.length := by simpa using congrArg List.length o.nm
    have hk : (A.map (·.Name))[r.toNat]? = some y.Name := by simp [hy]
    obtain ⟨z, hzz⟩ := get_of (l := B) (i := r.toNat) (by omega)
    have hzn : z.Name = y.Name := by
      have := congrArg (·[r.toNat]?) o.nm
      simp [hy, hzz] at this
      exact this.symm
    have hbit := hst.bit hk (by simp)
    rw [codN_bit, codN_bit, if_pos (by omega), if_pos (by omega), Nat.sub_zero, hy, hzz] at hbit
    simp only [if_true]
    refine Gd.ite (fun _ => ?_) (fun h => by simp at h; omega)
    refine Gd.ix hr.1 hzz (Gd.ix hr.1 hy (Gd.ite (fun _ => ?_) (fun h => by simp [hzn, hbit] at h)))
    refine Gd.bind_eq (heldno x.1 A r y hr.1 hy (fun s hs e => hst.sw s hs (by simp [e]))) (Gd.ret rfl)
end Go.Sim
