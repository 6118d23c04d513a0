/-
  The laws of switching orders: safe steps; what can be reached.
-/
import Derived.Test.YtppfglcmgkjgkaaOrdT
namespace Go.Sim
open Go
set_option linter.unusedVariables false
set_option linter.unusedSimpArgs false
set_option linter.unusedSectionVars false
set_option linter.unnecessarySimpa false

theorem equal_sw (a : List Sw) : m_slices_Equal_api_InterlockState_api_InterlockState a a = some true := by
  rw [← Gd.eq]
  unfold m_slices_Equal_api_InterlockState_api_InterlockState
  refine Gd.ite (fun h => by simp at h) (fun _ => ?_)
  refine Gd.forN (fun m i _ => i + m = a.length) ?_ ?_ (a.length : Int).toNat 0 () (by omega)
  rotate_left
  · exact fun _ _ _ => Gd.ret rfl
  intro m i _ nx hi hnx
  unfold m_slices_Equal_api_InterlockState_api_InterlockState_b1
  refine Gd.idxN (by omega) (Gd.idxN (by omega) ?_)
  refine Gd.ite (fun h => by simp at h) (fun _ => hnx () (by omega))

theorem verify_eq {rules : List Rule} {names held : List ByteArray} (hR : RulesOk rules) (hz : RlSz rules) (hN : NamesOk names) (hh : held.length ≤ 256) {c0 c1 : Nat} (h0 : c0 < 2 ^ names.length) {l : List S_api_OrderStep} (hl : l.length ≤ 256) (hs : Steps rules names held c0 l c1) :
    m_order_Verify rules (stOf names c0) held l = some (stOf names c1, 0, 0) := by
  rw [← Gd.eq]
  obtain ⟨e, he, heq⟩ := check_gd rules hz
  obtain ⟨f, hf, hfq⟩ := states_gd (stOf names c0) (hN.ssz _)
  have e0 := heq.2 hR
  have f0 := hfq.2 (hN.sws _)
  subst e0; subst f0
  have h8 := hN.len
  unfold m_order_Verify
  refine Gd.bind_eq he (Gd.ite (fun h => by simp at h) (fun _ => Gd.bind_eq hf (Gd.ite (fun h => by simp at h) (fun _ => Gd.ite (fun h => by simp at h; omega) (fun _ => Gd.nd (by rw [stOf_len]; omega) ?_)))))
  refine Gd.forI (fun k ys t => ∃ c, c < 2 ^ names.length ∧ t = stOf names c ∧ Steps rules names held c ys c1) ?_ ?_ l 0 _ ⟨c0, h0, rfl, hs⟩
  · rintro k y ys t nx ⟨c, hc, rfl, hst⟩ hnx
    obtain ⟨i, hi, ⟨nm, hnm, hnh, hal⟩, hcl, hrest⟩ := hst
    rw [hi] at hnm; cases hnm
    have hil := lt_of hi
    unfold m_order_Verify_b1
    have hset := set_gd hN hc hi y.Close
    rw [if_neg (by rw [hcl]; cases c.testBit i <;> simp)] at hset
    refine Gd.bind_eq hset (Gd.ite (fun h => by simp at h) (fun _ => ?_))
    refine Gd.bnd (contains_gd held y.Switch) (fun r hr => Gd.ite (fun h => absurd (hr.1 h) hnh) (fun _ => ?_))
    have hmem : ∃ x ∈ stOf names c, x.Name = y.Switch := ⟨⟨y.Switch, c.testBit i⟩, List.mem_of_getElem? (i := i) (by rw [stOf_get, hi]; rfl), rfl⟩
    refine Gd.bnd (permitted_gd hR hz (hN.sws c) (hN.ssz c) y.Close hmem) (fun p hp => Gd.ite (fun h => ?_) (fun _ => ?_))
    · have := hp.2.2 (by rw [hcl]; exact hal)
      rw [this] at h; simp at h
    · exact hnx _ ⟨_, xor_lt hc hil, rfl, hrest⟩
  · rintro k t ⟨c, hc, rfl, hst⟩
    cases hst
    exact Gd.ret rfl

/-- How many bits differ. -/
def dif : Nat → Nat → Nat → Nat
  | 0, _, _ => 0
  | n + 1, c, d => dif n c d + if c.testBit n = d.testBit n then 0 else 1
theorem dif_self : ∀ n c, dif n c c = 0
  | 0, c => rfl
  | n + 1, c => by simp [dif, dif_self n c]
theorem dif_le : ∀ n c d, dif n c d ≤ n
  | 0, c, d => Nat.le_refl _
  | n + 1, c, d => by
    have := dif_le n c d
    simp only [dif]; split <;> omega
theorem dif_flip (c d i : Nat) : ∀ n, (n ≤ i → dif n (c ^^^ 2 ^ i) d = dif n c d) ∧ (i < n → dif n (c ^^^ 2 ^ i) d = dif n c d + 1 ∨ dif n (c ^^^ 2 ^ i) d + 1 = dif n c d)
  | 0 => ⟨fun _ => rfl, fun h => by omega⟩
  | n + 1 => by
    obtain ⟨h1, h2⟩ := dif_flip c d i n
    constructor
    · intro h
      have e : i ≠ n := by omega
      simp [dif, h1 (by omega), tb_xor, e]
    · intro h
      by_cases e : i = n
      · subst e
        simp only [dif, h1 (Nat.le_refl _), tb_xor]
        cases c.testBit i <;> cases d.testBit i <;> simp
      · have := h2 (by omega)
        simp only [dif, tb_xor, e, decide_false, Bool.xor_false]
        omega
theorem Steps.par {rules : List Rule} {names held : List ByteArray} : ∀ {l : List S_api_OrderStep} {c d : Nat}, Steps rules names held c l d → ∃ m, l.length = dif names.length c d + 2 * m
  | [], c, d, h => by cases h; exact ⟨0, by simp [dif_self]⟩
  | s :: ss, c, d, h => by
    obtain ⟨i, hi, _, _, hs⟩ := h
    obtain ⟨m, hm⟩ := Steps.par hs
    rcases (dif_flip c d i names.length).2 (lt_of hi) with h | h
    · exact ⟨m + 1, by simp only [List.length_cons]; omega⟩
    · exact ⟨m, by simp only [List.length_cons]; omega⟩

theorem OrderSafe_true (rules : List Rule) (fr to : List Sw) (held : List ByteArray) (hz : RlSz rules) (hf : SwSz fr) (ht : SwSz to) : m_gridhallkeep4_OrderSafe rules fr to held = some true := by
  rw [← Gd.eq]
  unfold m_gridhallkeep4_OrderSafe
  refine Gd.nd (by omega) (Gd.nd (by omega) ?_)
  unfold m_gridhallkeep4_OrderSafe_b3 m_gridhallkeep4_OrderSafe_b4
  generalize hA : slc fr 0 _ = A
  generalize hB : slc to 0 _ = B
  have sA : SwSz A := hA ▸ slc_sz hf _
  have sB : SwSz B := hB ▸ slc_sz ht _
  obtain ⟨x, hx⟩ := plan_gd rules A B held hz sA sB
  refine Gd.bind_eq hx (Gd.ite (fun h => Gd.bind_eq orderFact_true (Gd.ret ?_)) (fun h => ?_))
  · have := plan_nil hz sA sB hx (by simpa using h)
    simp [this]
  · have hx0 : x.2 = 0 := by simpa using h
    obtain ⟨o, p⟩ := plan_zero hz sA sB hx hx0
    have hst := p.steps hx0
    have hN := o.names sA
    have h8 := hN.len
    have e1 : stOf (A.map (·.Name)) (codN 0 A) = A := stOf_codN A
    have e2 : stOf (A.map (·.Name)) (codN 0 B) = B := by rw [o.nm]; exact stOf_codN B
    have l1 : codN 0 A < 2 ^ (A.map (·.Name)).length := by simpa using codN_lt A
    have hver := verify_eq o.rl hz hN o.hl l1 p.len hst
    rw [e1, e2] at hver
    have hAB : A.length = B.length := by simpa using congrArg List.length o.nm
    refine Gd.bind_eq hver ?_
    refine Gd.forI (fun k ys s => ys = A.drop k ∧ k ≤ A.length ∧ s = ((dif k (codN 0 A) (codN 0 B) : Nat) : Int)) ?_ ?_ A 0 0 ⟨by simp, by omega, rfl⟩
    · rintro k y ys s nx ⟨hys, hk, rfl⟩ hnx
      obtain ⟨hy, hys'⟩ := drop_cons hys
      have hkl := lt_of hy
      obtain ⟨z, hzz⟩ := get_of (l := B) (i := k) (by omega)
      have hzn : y.Name = z.Name := by
        have := congrArg (·[k]?) o.nm
        simpa [hy, hzz] using this
      have hd := dif_le k (codN 0 A) (codN 0 B)
      simp only [List.length_map] at h8
      have hb : (codN 0 A).testBit k = y.Closed := by rw [codN_bit, if_pos (by omega), Nat.sub_zero, hy]
      have hb2 : (codN 0 B).testBit k = z.Closed := by rw [codN_bit, if_pos (by omega), Nat.sub_zero, hzz]
      refine Gd.ite (fun h => by simp at h; omega) (fun _ => Gd.ix (by omega) (by simpa using hzz) (Gd.ite (fun h => ?_) (fun h => ?_)))
      · rw [wrap_id (by omega)]
        refine hnx _ ⟨hys', by omega, ?_⟩
        simp only [hzn, decide_true, Bool.true_and, Bool.and_true, Bool.not_eq_true', decide_eq_false_iff_not] at h
        simp only [dif, hb, hb2, h, if_false]
        omega
      · refine hnx _ ⟨hys', by omega, ?_⟩
        simp only [hzn, decide_true, Bool.true_and, Bool.and_true, Bool.not_eq_false', decide_eq_true_eq] at h
        simp only [dif, hb, hb2, h, if_true]
        omega
    · rintro k s ⟨hys, hk, rfl⟩
      have hk2 : k = A.length := by
        have := congrArg List.length hys
        simp at this; omega
      subst hk2
      obtain ⟨m, hm⟩ := hst.par
      have hlen := p.len
      simp only [List.length_map] at hm
      refine Gd.bind_eq orderFact_true ?_
      refine Gd.ite (fun _ => Gd.ite (fun _ => Gd.ite (fun _ => Gd.bind_eq (equal_sw B) (Gd.ite (fun _ => Gd.ite (fun _ => Gd.ret ?_) (fun h => ?_)) (fun h => by simp at h))) (fun h => by simp at h)) (fun h => by simp at h)) (fun h => by simp at h)
      · rw [wrap_id (by omega), hm]
        have : ((dif A.length (codN 0 A) (codN 0 B) + 2 * m : Nat) : Int) - (dif A.length (codN 0 A) (codN 0 B) : Nat) = 2 * (m : Int) := by omega
        rw [this, Int.mul_tmod_right]
        rfl
      · simp at h; omega

/-- How many are visited. -/
def cv (b : List Int) : Nat → Nat
  | 0 => 0
  | k + 1 => cv b k + if b[k]? = some (-2) then 0 else 1
theorem cv_le (b : List Int) : ∀ k, cv b k ≤ k
  | 0 => Nat.le_refl _
  | k + 1 => by
    have := cv_le b k
    simp only [cv]; split <;> omega
theorem cv_hi {b : List Int} {n : Nat} (h : ∀ j, n ≤ j → j < 256 → b[j]? = some (-2)) : ∀ m, n + m ≤ 256 → cv b (n + m) = cv b n
  | 0, _ => rfl
  | m + 1, hm => by
    have e : cv b (n + (m + 1)) = cv b (n + m) + if b[n + m]? = some (-2) then 0 else 1 := rfl
    rw [e, if_pos (h (n + m) (by omega) (by omega)), cv_hi h m (by omega)]; rfl

theorem OrderReach_true (rules : List Rule) (fr : List Sw) (held : List ByteArray) (hz : RlSz rules) (hf : SwSz fr) : m_gridhallkeep4_OrderReach rules fr held = some true := by
  rw [← Gd.eq]
  unfold m_gridhallkeep4_OrderReach
  refine Gd.nd (by omega) ?_
  unfold m_gridhallkeep4_OrderReach_b7 m_gridhallkeep4_OrderReach_b9
  have hlen : (slc fr 0 (min (fr.length : Int) 4).toNat).length ≤ 4 := by simp [slc]; omega
  generalize hA : slc fr 0 _ = A at hlen ⊢
  have sA : SwSz A := hA ▸ slc_sz hf _
  obtain ⟨e, he, heq⟩ := ordcheck_gd rules A A held hz sA sA
  by_cases h0 : e = 0
  · subst h0
    have o := heq.1 rfl
    have hN := o.names sA
    have h8 := hN.len
    have e1 : stOf (A.map (·.Name)) (codN 0 A) = A := stOf_codN A
    have l1 : codN 0 A < 2 ^ (A.map (·.Name)).length := by simpa using codN_lt A
    obtain ⟨b, hb, hw⟩ := walk_gd (held := held) o.rl hz hN l1
    rw [e1] at hb
    obtain ⟨lev, hW, hC⟩ := hw.ex
    have hbl := hW.len
    have hreach : m_order_Reach rules A held = some (((cv b 256 : Nat) : Int), 0) := by
      rw [← Gd.eq]
      unfold m_order_Reach
      refine Gd.bind_eq he (Gd.ite (fun h => by simp at h) (fun _ => Gd.bind_eq hb ?_))
      refine Gd.forN (fun m i s => i + m = 256 ∧ s = ((cv b i : Nat) : Int)) ?_ ?_ (256 : Int).toNat 0 0 ⟨by decide, rfl⟩
      · rintro m i s nx ⟨hi, rfl⟩ hnx
        unfold m_order_Reach_b3 m_order_Reach_b4
        have hcl := cv_le b i
        obtain ⟨w, hw⟩ := get_of (l := b) (i := i) (by omega)
        refine Gd.ix (by omega) (by simpa using hw) (Gd.ite (fun h => ?_) (fun h => ?_))
        · have h : w ≠ -2 := by simpa using h
          rw [wrap_id (by omega)]
          refine hnx _ ⟨by omega, ?_⟩
          simp only [cv, hw, Option.some.injEq, h, if_false]; omega
        · have h : w = -2 := by simpa using h
          refine hnx _ ⟨by omega, ?_⟩
          simp only [cv, hw, Option.some.injEq, h, if_true]; omega
      · rintro i s ⟨hi, rfl⟩
        have : i = 256 := by omega
        subst this
        exact Gd.ret rfl
    obtain ⟨Z, hZ⟩ : ∃ Z, Z = cv b 256 := ⟨_, rfl⟩
    rw [← hZ] at hreach
    refine Gd.bind_eq hreach (Gd.ite (fun h => by simp at h) (fun _ => Gd.nd (by omega) ?_))
    have hshl : shlV .i64 1 (A.length : Int) = ((2 ^ A.length : Nat) : Int) := by
      have : A.length = 0 ∨ A.length = 1 ∨ A.length = 2 ∨ A.length = 3 ∨ A.length = 4 := by omega
      rcases this with h | h | h | h | h <;> rw [h] <;> decide
    have hp : 2 ^ A.length ≤ 16 := by
      have := Nat.pow_le_pow_right (n := 2) (by decide) hlen
      simpa using this
    have hp0 : 0 < 2 ^ A.length := Nat.two_pow_pos _
    rw [hshl]
    refine Gd.nd (by omega) ?_
    refine Gd.forN (fun m i s => i + m = 2 ^ A.length ∧ s = ((cv b i : Nat) : Int)) ?_ ?_ (((2 ^ A.length : Nat) : Int)).toNat 0 0 ⟨by omega, rfl⟩
    · rintro m i s nx ⟨hi, rfl⟩ hnx
      refine Gd.nd (by omega) ?_
      refine Gd.forN (fun m k t => k + m = A.length ∧ t.length = A.length ∧ ∀ j, t[j]? = if j < k then (stOf (A.map (·.Name)) i)[j]? else A[j]?) ?_ ?_ (A.length : Int).toNat 0 A ⟨by omega, rfl, fun j => by rw [if_neg (by omega)]⟩
      · rintro m k t nx2 ⟨hk, htl, hj⟩ hnx2
        unfold m_gridhallkeep4_OrderReach_b10
        obtain ⟨y, hy⟩ := get_of (l := A) (i := k) (by omega)
        have hty : t[k]? = some y := by rw [hj k, if_neg (by omega)]; exact hy
        refine Gd.nd (by omega) (Gd.ix (by omega) (by simpa using hty) ?_)
        have hbit := (bits_all (show i < 256 by omega) (show k < 8 by omega)).2.2
        unfold bitV at hbit
        rw [hbit]
        refine hnx2 _ ⟨by omega, by simp [htl], fun j => ?_⟩
        rw [show ((k : Int)).toNat = k by omega, List.getElem?_set]
        by_cases e : k = j
        · subst e
          rw [if_pos rfl, if_pos (by omega), if_pos (by omega), stOf_get, List.getElem?_map, hy]
          rfl
        · rw [if_neg e, hj j]
          by_cases h : j < k
          · rw [if_pos h, if_pos (by omega)]
          · rw [if_neg h, if_neg (by omega)]
      · rintro k t ⟨hk, htl, hj⟩
        have ht : t = stOf (A.map (·.Name)) i := by
          apply List.ext_getElem?
          intro j
          rw [hj j]
          split
          · rfl
          · rw [List.getElem?_eq_none (by omega), List.getElem?_eq_none (by simp [stOf_len]; omega)]
        subst ht
        have hil : i < 2 ^ (A.map (·.Name)).length := by simp; omega
        obtain ⟨b', hb', _, r, hr, _, hv⟩ := plan_eq (held := held) o.rl hz hN o.hl l1 hil
        rw [e1] at hb' hr
        rw [hb] at hb'; cases hb'
        refine Gd.bind_eq hr ?_
        have hcl := cv_le b i
        obtain ⟨w, hw⟩ := get_of (l := b) (i := i) (by omega)
        refine Gd.ite (fun h => ?_) (fun h => ?_)
        · obtain ⟨w', hw', hne⟩ := hv.1 (by simpa using h)
          rw [hw] at hw'; cases hw'
          rw [wrap_id (by omega)]
          refine hnx _ ⟨by omega, ?_⟩
          simp only [cv, hw, Option.some.injEq, hne, if_false]; omega
        · have hw2 : w = -2 := Classical.byContradiction fun hne => by
            have := hv.2 ⟨w, hw, hne⟩
            simp [this] at h
          refine hnx _ ⟨by omega, ?_⟩
          simp only [cv, hw, Option.some.injEq, hw2, if_true]; omega
    · rintro i s ⟨hi, rfl⟩
      have hi2 : i = 2 ^ A.length := by omega
      subst hi2
      have hall : Z = cv b (2 ^ A.length) := by
        rw [hZ]
        have := cv_hi (b := b) (n := 2 ^ A.length) (fun j hj hjl => by
          obtain ⟨w, hw⟩ := get_of (l := b) (i := j) (by omega)
          by_cases e : w = -2
          · subst e; exact hw
          · have := (hW.ch j w hw e).1
            simp only [List.length_map] at this; omega) (256 - 2 ^ A.length) (by omega)
        rw [show 2 ^ A.length + (256 - 2 ^ A.length) = 256 by omega] at this
        exact this
      generalize cv b (2 ^ A.length) = Y at hall ⊢
      subst hall
      clear hreach
      refine Gd.bind_eq orderFact_true ?_
      refine Gd.ret ?_
      simp
  · have hreach : m_order_Reach rules A held = some (0, e) := by
      unfold m_order_Reach
      rw [he]; simp [h0]
    refine Gd.bind_eq hreach (Gd.ite (fun _ => Gd.bind_eq orderFact_true (Gd.ret (by simp))) (fun h => by simp [h0] at h))
end Go.Sim
