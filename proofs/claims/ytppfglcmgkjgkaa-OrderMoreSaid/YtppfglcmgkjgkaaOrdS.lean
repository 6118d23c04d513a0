/-
  The plan.
-/
import Derived.Test.YtppfglcmgkjgkaaOrdR
namespace Go.Sim
open Go
set_option linter.unusedVariables false
set_option linter.unusedSimpArgs false
set_option linter.unusedSectionVars false
set_option linter.unnecessarySimpa false

theorem reverse_gd (l : List S_api_OrderStep) (hl : l.length ≤ 1000) : m_slices_Reverse_api_OrderStep_api_OrderStep l = some l.reverse := by
  rw [← Gd.eq]
  unfold m_slices_Reverse_api_OrderStep_api_OrderStep
  rw [wrap_id (n := (l.length : Int) - 1) (by omega)]
  refine Gd.loopF (fun (t : List S_api_OrderStep × Int × Int) => t.1.length = l.length ∧ 0 ≤ t.2.1 ∧ t.2.1 ≤ 1000 ∧ t.2.1 + t.2.2 = (l.length : Int) - 1 ∧ ∀ k : Nat, k < l.length → t.1[k]? = if ((k : Int) < t.2.1 ∨ t.2.2 < k) then l[l.length - 1 - k]? else l[k]?) (fun (t : List S_api_OrderStep × Int × Int) => (t.2.2 - t.2.1 + 1).toNat) ?_ FUEL _ ⟨rfl, by simp only; omega, by simp only; omega, by simp only; omega, fun k hk => by
    simp only
    rw [if_neg (by omega)]⟩ (by simp only [FUEL]; omega)
  rintro ⟨t, i, j⟩ nx ⟨ht, h0, h1, hij, hk⟩ hnx
  simp only at ht h0 h1 hij hk
  show Gd (m_slices_Reverse_api_OrderStep_api_OrderStep_b1 t i j nx) _
  unfold m_slices_Reverse_api_OrderStep_api_OrderStep_b1
  refine Gd.ite (fun h => ?_) (fun h => Gd.ret ?_)
  · have h : i < j := by simpa using h
    obtain ⟨x, hx⟩ := get_of (l := t) (i := i.toNat) (by omega)
    obtain ⟨y, hy⟩ := get_of (l := t) (i := j.toNat) (by omega)
    have hl1 := lt_of hx
    have hl2 := lt_of hy
    have hz : (t.set i.toNat y)[j.toNat]? = some y := by rw [List.getElem?_set, if_neg (by omega)]; exact hy
    refine Gd.ix (by omega) hy (Gd.ix (by omega) hx (Gd.ix (by omega) hx (Gd.ix (by omega) hz ?_)))
    rw [wrap_id (n := i + 1) (by omega), wrap_id (n := j - 1) (by omega)]
    refine hnx _ ⟨by simp [ht], by simp only; omega, by simp only; omega, by simp only; omega, fun k hkl => ?_⟩ (by simp only; omega)
    simp only
    have hki := hk i.toNat (by omega)
    have hkj := hk j.toNat (by omega)
    rw [hx, if_neg (by omega)] at hki
    rw [hy, if_neg (by omega)] at hkj
    have e1 : l.length - 1 - i.toNat = j.toNat := by omega
    have e2 : l.length - 1 - j.toNat = i.toNat := by omega
    rw [List.getElem?_set, List.getElem?_set]
    by_cases a : j.toNat = k
    · subst a
      rw [if_pos rfl, if_pos (by simpa using hl2), if_pos (by omega), e2]; exact hki
    · rw [if_neg a]
      by_cases b : i.toNat = k
      · subst b
        rw [if_pos rfl, if_pos hl1, if_pos (by omega), e1]; exact hkj
      · rw [if_neg b, hk k hkl]
        by_cases c : (k : Int) < i ∨ j < k
        · rw [if_pos c, if_pos (by omega)]
        · rw [if_neg c, if_neg (by omega)]
  · have h : ¬ i < j := by simpa using h
    apply List.ext_getElem?
    intro k
    by_cases hkl : k < l.length
    · rw [hk k hkl, List.getElem?_reverse hkl]
      split
      · rfl
      · congr 1; omega
    · rw [List.getElem?_eq_none (by omega), List.getElem?_eq_none (by simp; omega)]

/-- What is checked. -/
structure OrdOk (rules : List Rule) (fr to : List Sw) (held : List ByteArray) : Prop where
  rl : RulesOk rules
  f : SwsOk fr
  t : SwsOk to
  l8 : fr.length ≤ 8
  hl : held.length ≤ 256
  nm : fr.map (·.Name) = to.map (·.Name)
theorem names_gd (a b : List Sw) : Gd (m_slices_EqualFunc_api_InterlockState_api_InterlockState_api_InterlockState_api_InterlockState__order_check_1 a b) (fun r => r = true ↔ a.map (·.Name) = b.map (·.Name)) := by
  unfold m_slices_EqualFunc_api_InterlockState_api_InterlockState_api_InterlockState_api_InterlockState__order_check_1
  refine Gd.ite (fun h => Gd.ret ?_) (fun h => ?_)
  · refine ⟨fun h => (by cases h), fun h' => ?_⟩
    have := congrArg List.length h'
    simp at this h; omega
  · have hlen : a.length = b.length := by simp at h; omega
    refine Gd.forI (fun k ys _ => ys = a.drop k ∧ (a.take k).map (·.Name) = (b.take k).map (·.Name)) ?_ ?_ a 0 () ⟨by simp, by simp⟩
    · rintro k y ys _ nx ⟨hys, ht⟩ hnx
      obtain ⟨hy, hys'⟩ := drop_cons hys
      have hk := lt_of hy
      unfold m_slices_EqualFunc_api_InterlockState_api_InterlockState_api_InterlockState_api_InterlockState__order_check_1_b1
      refine Gd.idxN (by omega) (Gd.ite (fun h => Gd.ret ⟨fun h => (by cases h), fun h' => ?_⟩) (fun h => hnx () ⟨hys', ?_⟩))
      · have := congrArg (·[k]?) h'
        simp only [List.getElem?_map, hy, List.getElem?_eq_getElem (show k < b.length by omega), Option.map_some, Option.some.injEq] at this
        simp [m_order_check_1, this] at h
      · rw [List.take_add_one, List.take_add_one, hy, List.getElem?_eq_getElem (show k < b.length by omega), List.map_append, List.map_append, ht]
        simp [m_order_check_1] at h
        simp [h]
    · rintro k _ ⟨hys, ht⟩
      have hk : a.length ≤ k := by
        have := congrArg List.length hys
        simp at this; omega
      rw [List.take_of_length_le hk, List.take_of_length_le (by omega)] at ht
      exact Gd.ret ⟨fun _ => ht, fun _ => rfl⟩
theorem ordcheck_gd (rules : List Rule) (fr to : List Sw) (held : List ByteArray) (hz : ∀ r ∈ rules, RuleSz r) (hf : ∀ x ∈ fr, x.Name.size ≤ maxLen) (ht : ∀ x ∈ to, x.Name.size ≤ maxLen) :
    Gd (m_order_check rules fr to held) (fun e => e = 0 ↔ OrdOk rules fr to held) := by
  unfold m_order_check
  refine Gd.bnd (check_gd rules hz) (fun e he => Gd.ite (fun h => Gd.ret ?_) (fun h => ?_))
  · refine ⟨fun h' => by subst h'; simp at h, fun h' => he.2 h'.rl⟩
  have he0 : e = 0 := by simpa using h
  subst he0
  have hR := he.1 rfl
  refine Gd.forI (fun k ys _ => (k = 0 ∧ ys = [fr, to]) ∨ (k = 1 ∧ ys = [to] ∧ SwsOk fr) ∨ (ys = [] ∧ SwsOk fr ∧ SwsOk to)) ?_ ?_ [fr, to] 0 () (.inl ⟨rfl, rfl⟩)
  · rintro k y ys _ nx hI hnx
    unfold m_order_check_b1
    rcases hI with ⟨rfl, h⟩ | ⟨rfl, h, h1⟩ | ⟨h, _⟩
    · cases h
      refine Gd.bnd (states_gd fr hf) (fun e he => Gd.ite (fun h => Gd.ret ?_) (fun h => ?_))
      · refine ⟨fun h' => by subst h'; simp at h, fun h' => he.2 h'.f⟩
      · have he0 : e = 0 := by simpa using h
        subst he0
        exact hnx () (.inr (.inl ⟨rfl, rfl, he.1 rfl⟩))
    · cases h
      refine Gd.bnd (states_gd to ht) (fun e he => Gd.ite (fun h => Gd.ret ?_) (fun h => ?_))
      · refine ⟨fun h' => by subst h'; simp at h, fun h' => he.2 h'.t⟩
      · have he0 : e = 0 := by simpa using h
        subst he0
        exact hnx () (.inr (.inr ⟨rfl, h1, he.1 rfl⟩))
    · cases h
  · rintro k _ hI
    rcases hI with ⟨_, h⟩ | ⟨_, h, _⟩ | ⟨_, h1, h2⟩
    · cases h
    · cases h
    refine Gd.ite (fun h => Gd.ret ?_) (fun h => ?_)
    · refine ⟨fun h => by omega, fun h' => ?_⟩
      have := h'.l8
      have := h'.hl
      simp at h; omega
    · have h' : fr.length ≤ 8 ∧ held.length ≤ 256 := by simp at h; omega
      refine Gd.bnd (names_gd fr to) (fun r hr => Gd.ite (fun h => Gd.ret ?_) (fun h => Gd.ret ?_))
      · refine ⟨fun h => by omega, fun h' => ?_⟩
        have := hr.2 h'.nm
        subst this; simp at h
      · have hrt : r = true := by simpa using h
        exact ⟨fun _ => ⟨hR, h1, h2, h'.1, h'.2, hr.1 hrt⟩, fun _ => rfl⟩

section
variable (rules : List Rule) (names : List ByteArray) (held : List ByteArray)
/-- Paths, by their lengths. -/
inductive Pth (c0 : Nat) : Nat → Nat → Prop
  | nil : Pth c0 0 c0
  | step {k c i : Nat} : Pth c0 k c → Edge rules names held c i → Pth c0 (k + 1) (c ^^^ 2 ^ i)
/-- Steps lead from a state to another one. -/
def Steps : Nat → List S_api_OrderStep → Nat → Prop
  | c, [], d => c = d
  | c, s :: ss, d => ∃ i, names[i]? = some s.Switch ∧ Edge rules names held c i ∧ s.Close = !c.testBit i ∧ Steps (c ^^^ 2 ^ i) ss d
variable {rules names held}
theorem Pth.trans {a b c m n : Nat} (h : Pth rules names held a m b) (k : Pth rules names held b n c) : Pth rules names held a (m + n) c := by
  induction k with
  | nil => exact h
  | step _ he ih => exact .step ih he
theorem Steps.pth {c0 m : Nat} : ∀ {c d : Nat} {l : List S_api_OrderStep}, Pth rules names held c0 m c → Steps rules names held c l d → Pth rules names held c0 (m + l.length) d
  | c, d, [], hp, h => by cases h; exact hp
  | c, d, s :: ss, hp, h => by
    obtain ⟨i, _, he, _, hs⟩ := h
    have := Steps.pth (.step hp he) hs
    rw [List.length_cons, show m + (ss.length + 1) = m + 1 + ss.length by omega]; exact this
theorem Pth.low {c0 : Nat} {b : List Int} {lev : Nat → Nat} (hW : WI rules names held c0 b lev) (hC : ∀ v, Vis b v → ∀ i, Cl rules names held b lev v i) {k c : Nat} (h : Pth rules names held c0 k c) : Vis b c ∧ lev c ≤ k := by
  induction h with
  | nil =>
    refine ⟨⟨-1, hW.st, by decide⟩, ?_⟩
    rcases (hW.ch c0 _ hW.st (by decide)).2 with ⟨_, _, h⟩ | ⟨i, h, _⟩
    · omega
    · omega
  | step _ he ih =>
    obtain ⟨h1, h2⟩ := hC _ ih.1 _ he
    exact ⟨h1, by omega⟩

/-- What the plan answers. -/
structure PlanOk (c0 c1 : Nat) (r : List S_api_OrderStep × Int) : Prop where
  two : (r.2 = 8 ∧ r.1 = []) ∨ r.2 = 0
  no : r.2 = 8 → ∀ k, ¬ Pth rules names held c0 k c1
  steps : r.2 = 0 → Steps rules names held c0 r.1 c1
  short : r.2 = 0 → ∀ k, Pth rules names held c0 k c1 → r.1.length ≤ k
  len : r.1.length ≤ 256
theorem lev_le {c0 : Nat} {b : List Int} {lev : Nat → Nat} (hW : WI rules names held c0 b lev) : ∀ (m : Nat) (c : Nat) (S : List Nat), lev c = m → Vis b c → S.Nodup → (∀ x ∈ S, x < 256 ∧ m < lev x) → m + S.length < 256
  | 0, c, S, hc, hv, hn, hS => by
    have hcl : c < 256 := by obtain ⟨v, hv, hne⟩ := hv; have := lt_of hv; rw [hW.len] at this; exact this
    have := nat_pigeon 256 (c :: S) (List.nodup_cons.2 ⟨fun h => by have := (hS c h).2; omega, hn⟩) (fun x hx => by
      rcases List.mem_cons.1 hx with rfl | hx
      · exact hcl
      · exact (hS x hx).1)
    simp at this; omega
  | m + 1, c, S, hc, hv, hn, hS => by
    have hcl : c < 256 := by obtain ⟨v, hv, hne⟩ := hv; have := lt_of hv; rw [hW.len] at this; exact this
    obtain ⟨v, hvv, hne⟩ := hv
    rcases (hW.ch c v hvv hne).2 with ⟨_, _, h⟩ | ⟨i, _, _, h1, _, h2⟩
    · omega
    · have := lev_le hW m (c ^^^ 2 ^ i) (c :: S) (by omega) h1 (List.nodup_cons.2 ⟨fun h => by have := (hS c h).2; omega, hn⟩) (fun x hx => by
        rcases List.mem_cons.1 hx with rfl | hx
        · exact ⟨hcl, by omega⟩
        · have := hS x hx; exact ⟨this.1, by omega⟩)
      simp at this; omega
where
  nat_pigeon : ∀ (n : Nat) (l : List Nat), l.Nodup → (∀ x ∈ l, x < n) → l.length ≤ n
  | 0, [], _, _ => Nat.le_refl _
  | 0, x :: l, _, h => absurd (h x (List.mem_cons_self ..)) (Nat.not_lt_zero _)
  | n + 1, l, hn, h => by
    have := nat_pigeon n (l.erase n) (hn.erase n) (fun x hx => by
      have h1 := (List.Nodup.mem_erase_iff hn).1 hx
      have := h x h1.2
      omega)
    by_cases hm : n ∈ l
    · rw [List.length_erase_of_mem hm] at this; omega
    · rw [List.erase_of_not_mem hm] at this; omega

theorem plan_eq (hR : RulesOk rules) (hz : ∀ r ∈ rules, RuleSz r) (hN : NamesOk names) (hh : held.length ≤ 256) {c0 c1 : Nat} (h0 : c0 < 2 ^ names.length) (h1 : c1 < 2 ^ names.length) :
    ∃ b, m_order_walk rules (stOf names c0) held = some b ∧ WalkOk rules names held c0 b ∧ Gd (m_order_Plan rules (stOf names c0) (stOf names c1) held) (fun r => PlanOk (rules := rules) (names := names) (held := held) c0 c1 r ∧ (r.2 = 0 ↔ Vis b c1)) := by
  have h8 := hN.len
  have hp8 := pow8 h8
  obtain ⟨b, hb, hw⟩ := walk_gd (held := held) hR hz hN h0
  refine ⟨b, hb, hw, ?_⟩
  obtain ⟨lev, hW, hC⟩ := hw.ex
  have hok : OrdOk rules (stOf names c0) (stOf names c1) held := ⟨hR, hN.sws _, hN.sws _, by rw [stOf_len]; exact h8, hh, by rw [stOf_names, stOf_names]⟩
  obtain ⟨e, he, heq⟩ := ordcheck_gd rules (stOf names c0) (stOf names c1) held hz (hN.ssz _) (hN.ssz _)
  have e0 := heq.2 hok
  subst e0
  unfold m_order_Plan
  refine Gd.bind_eq he (Gd.ite (fun h => by simp at h) (fun _ => Gd.bind_eq hb (Gd.bind_eq (code_stOf h1 h8) ?_)))
  obtain ⟨w, hw1⟩ := get_of (l := b) (i := c1) (by rw [hW.len]; omega)
  refine Gd.ix (by omega) (by simpa using hw1) (Gd.ite (fun h => Gd.ret ?_) (fun h => ?_))
  · have hw2 : w = -2 := by simpa using h
    subst hw2
    refine ⟨⟨.inl ⟨rfl, rfl⟩, fun _ k hp => not_vis hw1 (hp.low hW hC).1, fun h => by simp at h, fun h => by simp at h, by simp⟩, fun h => by simp at h, fun h => absurd h (not_vis hw1)⟩
  · have hw2 : w ≠ -2 := by simpa using h
    have hv1 : Vis b c1 := ⟨w, hw1, hw2⟩
    have hbound := lev_le hW (lev c1) c1 [] rfl hv1 (by simp) (by simp)
    refine Gd.loopF (fun (t : Int × List S_api_OrderStep) => ∃ d : Nat, t.1 = (d : Int) ∧ Vis b d ∧ Steps rules names held d t.2.reverse c1 ∧ t.2.length + lev d = lev c1) (fun (t : Int × List S_api_OrderStep) => lev t.1.toNat) ?_ FUEL _ ⟨c1, rfl, hv1, show Steps rules names held c1 [] c1 from rfl, by simp⟩ (by simp only [FUEL, Int.toNat_natCast]; simp at hbound; omega)
    rintro ⟨at_, out⟩ nx ⟨d, hd, hv, hs, hlen⟩ hnx
    simp only at hd hs hlen
    subst hd
    show Gd (m_order_Plan_b3 (stOf names c0) b (d : Int) out nx) _
    unfold m_order_Plan_b3
    obtain ⟨v, hvv, hne⟩ := hv
    obtain ⟨hdl, hcase⟩ := hW.ch d v hvv hne
    refine Gd.ix (by omega) (by simpa using hvv) (Gd.ite (fun h => ?_) (fun h => ?_))
    · have hv0 : 0 ≤ v := by simpa using h
      rcases hcase with ⟨_, h, _⟩ | ⟨i, rfl, hil, hvp, hep, hlp⟩
      · omega
      obtain ⟨nm, hnm⟩ := get_of hil
      have hx : (stOf names c0)[((i : Int)).toNat]? = some ⟨nm, c0.testBit i⟩ := by rw [show ((i : Int)).toNat = i by omega, stOf_get, hnm]; rfl
      refine Gd.ix (by omega) (by simpa using hvv) (Gd.nd (by omega) (Gd.ix (by omega) hx (Gd.nd (by simp; simp at hbound; omega) (Gd.nd (by omega) ?_))))
      have hbits := bits_all (show d < 256 by omega) (show i < 8 by omega)
      have hxor := hbits.2.1
      have hbit := hbits.2.2
      unfold xorV at hxor
      unfold bitV at hbit
      rw [hxor, hbit]
      refine hnx _ ⟨d ^^^ 2 ^ i, rfl, hvp, ?_, ?_⟩ ?_
      · simp only [List.reverse_append, List.reverse_cons, List.reverse_nil, List.nil_append, List.singleton_append]
        refine ⟨i, hnm, hep, ?_, ?_⟩
        · simp only [tb_xor]; cases d.testBit i <;> simp
        · rw [xor_xor]; exact hs
      · simp; omega
      · simp only [Int.toNat_natCast]; omega
    · have hv0 : ¬ 0 ≤ v := by simpa using h
      rcases hcase with ⟨rfl, _, hl0⟩ | ⟨i, rfl, _⟩
      · unfold m_order_Plan_b2
        refine Gd.bind_eq (reverse_gd out (by simp at hbound; omega)) (Gd.ret ⟨⟨.inr rfl, fun h => by simp at h, fun _ => hs, fun _ k hp => ?_, ?_⟩, fun _ => hv1, fun _ => rfl⟩)
        · have := (hp.low hW hC).2
          simp; omega
        · simp at hbound ⊢; omega
      · omega
end
end Go.Sim
