/-
  Long division: a digit is settled.
-/
import Derived.Test.YtfakgoeoclfoaaaGreatDoorLrgF
namespace Go.Sim
open Go
set_option linter.unusedVariables false
set_option linter.unusedSimpArgs false
set_option linter.unusedSectionVars false
set_option linter.unnecessarySimpa false

theorem ab_step {nl nl' o s P W c Y T T' B X : Nat} (h1 : nl' + P * o = nl + P * (s % W)) (hs : s = c + o + Y) (h2 : nl + P * c = X + B * T) (hP : P * Y = B * (T' - T)) (hT : T ≤ T') : nl' + P * W * (s / W) = X + B * T' := by
  have hd : s % W + W * (s / W) = s := Nat.mod_add_div s W
  have e : P * (s % W) + P * (W * (s / W)) = P * s := by rw [← Nat.mul_add, hd]
  have e2 : P * s = P * c + P * o + P * Y := by rw [hs, Nat.mul_add, Nat.mul_add]
  have e3 : B * T' = B * T + B * (T' - T) := by rw [← Nat.mul_add]; congr 1; omega
  rw [Nat.mul_assoc P W]
  omega
/-- Add back. -/
theorem ab_gd {b : List U32} {r134 vs : List U32} {j : Nat} {l1 : List U32} {fin : List U32 × Int → Option (List U32 × List U32)} {Q : List U32 × List U32 → Prop}
    (hvs : slc r134 0 (((b.length : Int) : Int).toNat) = vs) (hvl : vs.length = b.length) (hvw : Wf vs) (hl : Wf l1) (hjn : j + b.length < l1.length) (hN : l1.length ≤ 1000001)
    (hk : ∀ l c, l.length = l1.length → Wf l → 0 ≤ c → c ≤ 1 → nv l + WB ^ (j + b.length) * c.toNat = nv l1 + WB ^ j * nv vs → (∀ p, j + b.length ≤ p → l[p]? = l1[p]?) → (∀ p, p < j → l[p]? = l1[p]?) → Gd (fin (l, c)) Q) :
    Gd (forN (fun k s1621 n => m_large_divWords_b20 b r134 (j : Int) k s1621.1 s1621.2 n) fin b.length 0 (l1, 0)) Q := by
  refine Gd.forN (fun m k (z : List U32 × Int) => k + m = b.length ∧ z.1.length = l1.length ∧ Wf z.1 ∧ 0 ≤ z.2 ∧ z.2 ≤ 1 ∧ nv z.1 + WB ^ (j + k) * z.2.toNat = nv l1 + WB ^ j * nv (vs.take k) ∧ (∀ p, j + k ≤ p → z.1[p]? = l1[p]?) ∧ (∀ p, p < j → z.1[p]? = l1[p]?)) ?_ ?_ _ 0 _ ⟨by omega, rfl, hl, Int.le_refl _, by show (0 : Int) ≤ 1; omega, by simp [nv], fun p _ => rfl, fun p _ => rfl⟩
  · rintro m k ⟨l, c⟩ nx ⟨h0, h1, h2, h3, h4, h7, h8, h9⟩ hnx
    simp only at h1 h2 h3 h4 h7 h8 h9 hnx ⊢
    obtain ⟨y, hy⟩ : ∃ y, vs[k]? = some y := ⟨_, List.getElem?_eq_getElem (by omega)⟩
    have hyw := hvw y (List.mem_of_getElem? hy)
    obtain ⟨o, ho⟩ : ∃ o, l[j + k]? = some o := ⟨_, List.getElem?_eq_getElem (by omega)⟩
    have how := h2 o (List.mem_of_getElem? ho)
    have wj : IntKind.i64.wrap ((k : Int) + (j : Int)) = ((j + k : Nat) : Int) := by rw [wrap_id ⟨by omega, by omega⟩]; omega
    have hjk : (((j + k : Nat) : Int)).toNat = j + k := by omega
    unfold m_large_divWords_b20
    rw [hvs, wj]
    refine Gd.ix (by omega) (by rw [hjk]; exact ho) (Gd.ix (by omega) (by rw [Int.toNat_natCast]; exact hy) (Gd.ix (by omega) (by rw [hjk]; exact ho) ?_))
    have hs : IntKind.u64.wrap (c + (IntKind.u64.wrap ((IntKind.u64.wrap (o.n)) + (IntKind.u64.wrap (y.n))))) = c + o.n + y.n := by
      rw [u64_id (n := o.n) (by omega), u64_id (n := y.n) (by omega), u64_id (n := o.n + y.n) (by omega), u64_id (by omega)]
      omega
    rw [hs, hjk, shr32, u32w]
    have hsn : c + o.n + y.n = ((c.toNat + o.n.toNat + y.n.toNat : Nat) : Int) := by omega
    refine hnx _ ⟨by omega, by simp [h1], h2.set (by omega), by simp only; omega, by simp only; omega, ?_, fun p hp => ?_, fun p hp => ?_⟩
    · simp only
      have g := nv_set (l := l) (k := j + k) (x := o) (v := ⟨(c + o.n + y.n) % 4294967296⟩) ho
      simp only at g
      have g1 : ((c + o.n + y.n) % 4294967296).toNat = (c.toNat + o.n.toNat + y.n.toNat) % WB := by rw [hsn]; show _ = _ % 4294967296; omega
      have g2 : ((c + o.n + y.n) / 4294967296).toNat = (c.toNat + o.n.toNat + y.n.toNat) / WB := by rw [hsn]; show _ = _ / 4294967296; omega
      rw [g1] at g
      rw [g2, show j + (k + 1) = (j + k) + 1 by omega, Nat.pow_succ]
      refine ab_step g rfl h7 (T' := nv (vs.take (k + 1))) ?_ ?_
      · rw [nv_take hy, Nat.add_sub_cancel_left, Nat.pow_add, Nat.mul_assoc]
      · rw [nv_take hy]; omega
    · simp only
      rw [List.getElem?_set_ne (by omega)]
      exact h8 p (by omega)
    · simp only
      rw [List.getElem?_set_ne (by omega)]
      exact h9 p hp
  · rintro k ⟨l, c⟩ ⟨h0, h1, h2, h3, h4, h7, h8, h9⟩
    simp only at h1 h2 h3 h4 h7 h8 h9
    have hk' : k = b.length := by omega
    subst hk'
    rw [← hvl, List.take_length] at h7
    rw [hvl] at h7
    exact hk l c h1 h2 h3 h4 h7 h8 h9
theorem b19_gd {qs l' : List U32} {j : Nat} {g : Int} {nx : List U32 × List U32 × Int → Option (List U32 × List U32)} {Q : List U32 × List U32 → Prop} (hj : j < qs.length) (hN : qs.length ≤ 1000001) (hg : 0 ≤ g ∧ g < 4294967296)
    (hn : Gd (nx (qs.set j ⟨g⟩, l', (j : Int) - 1)) Q) : Gd (m_large_divWords_b19 qs (j : Int) nx l' g) Q := by
  unfold m_large_divWords_b19
  refine Gd.idxN hj ?_
  rw [Int.toNat_natCast, u32w, wrap_id (by omega), show g % 4294967296 = g by omega]
  exact hn
theorem big_of {W P B low U V n0 : Nat} (h0 : n0 = low + P * U) (hlow : low < P) (hV : V ≤ B) (hU : U < W * V) : n0 < P * (W * B) := by
  have h1 : U + 1 ≤ W * B := Nat.le_trans hU (Nat.mul_le_mul_left _ hV)
  have h2 : P * (U + 1) ≤ P * (W * B) := Nat.mul_le_mul_left _ h1
  rw [Nat.mul_add] at h2
  omega
theorem zero_of {n0 X M T : Nat} (h : n0 = X + M * T) (hb : n0 < M) : T = 0 := by
  rcases Nat.eq_zero_or_pos T with h' | h'
  · exact h'
  · have : M * 1 ≤ M * T := Nat.mul_le_mul_left _ h'
    omega
/-- One digit: subtracted, and put right. -/
theorem digit_gd {b : List U32} {r134 vs : List U32} {j g q U : Nat} {l0 qs : List U32} {nx : List U32 × List U32 × Int → Option (List U32 × List U32)} {Q : List U32 × List U32 → Prop}
    (hvs : slc r134 0 (((b.length : Int) : Int).toNat) = vs) (hvl : vs.length = b.length) (hvw : Wf vs) (hl : Wf l0) (hjn : j + b.length < l0.length) (hN : l0.length ≤ 1000001) (hj : j < qs.length) (hqN : qs.length ≤ 1000001)
    (hU : nv (l0.drop j) = U) (hV : nv vs ≤ WB ^ b.length) (hUW : U < WB * nv vs) (hq1 : q * nv vs ≤ U) (hq2 : U < (q + 1) * nv vs) (hqW : q < WB) (hg : Gd1 WB (nv vs) U q g)
    (hn : ∀ l', l'.length = l0.length → Wf l' → nv l' + WB ^ j * (q * nv vs) = nv l0 → (∀ p, p < j → l'[p]? = l0[p]?) → Gd (nx (qs.set j ⟨(q : Int)⟩, l', (j : Int) - 1)) Q) :
    Gd (m_large_divWords_b21 b r134 qs l0 (j : Int) nx (g : Int)) Q := by
  have hqW' : q < 4294967296 := hqW
  have wjn : IntKind.i64.wrap ((j : Int) + (b.length : Int)) = ((j + b.length : Nat) : Int) := by rw [wrap_id ⟨by omega, by omega⟩]; omega
  have hjk : (((j + b.length : Nat) : Int)).toNat = j + b.length := by omega
  -- nothing stands above
  have h0 := nv_td l0 (m := j) (by omega)
  rw [hU] at h0
  have hlow := nv_lt (hl.take j)
  rw [List.length_take, Nat.min_eq_left (by omega)] at hlow
  have hpow : WB ^ (j + b.length + 1) = WB ^ j * (WB * WB ^ b.length) := by rw [Nat.pow_succ, Nat.pow_add, Nat.mul_comm WB, Nat.mul_assoc]
  have hbig : nv l0 < WB ^ (j + b.length + 1) := by rw [hpow]; exact big_of h0 hlow hV hUW
  have habove : nv (l0.drop (j + b.length + 1)) = 0 := zero_of (nv_td l0 (m := j + b.length + 1) (by omega)) hbig
  have small : ∀ l : List U32, l.length = l0.length → Wf l → (∀ p, j + b.length + 1 ≤ p → l[p]? = l0[p]?) → nv l < WB ^ (j + b.length + 1) := fun l h1 h2 h3 => by
    rw [nv_upto h3 (by omega), habove, Nat.mul_zero, Nat.add_zero]
    have := nv_lt (h2.take (j + b.length + 1))
    rw [List.length_take, Nat.min_eq_left (by omega)] at this
    exact this
  unfold m_large_divWords_b21
  rw [show ((b.length : Int) : Int).toNat = b.length by omega] at hvs
  rw [show ((b.length : Int) : Int).toNat = b.length by omega]
  refine ms_gd (by rw [show ((b.length : Int) : Int).toNat = b.length by omega]; exact hvs) hvl hvw hl hjn hN hg.w (fun l bo ca e1 e2 e3 e4 e5 e6 e7 e8 e9 => ?_)
  obtain ⟨o, ho⟩ : ∃ o, l[j + b.length]? = some o := ⟨_, List.getElem?_eq_getElem (by omega)⟩
  have how := e2 o (List.mem_of_getElem? ho)
  simp only
  rw [wjn]
  refine Gd.ix (by omega) (by rw [hjk]; exact ho) (Gd.ix (by omega) (by rw [hjk]; exact ho) ?_)
  have hnb : IntKind.i64.wrap (bo + (IntKind.i64.wrap ((IntKind.i64.wrap (o.n)) - (IntKind.i64.wrap ca)))) = bo + o.n - ca := by
    rw [wrap_id (n := o.n) (by omega), wrap_id (n := ca) (by omega), wrap_id (n := o.n - ca) (by omega), wrap_id (by omega)]
    omega
  rw [hnb, hjk, u32w]
  -- the value behind the subtraction
  have hA := nvI_set (l := l) (k := j + b.length) (x := o) (v := ⟨(bo + o.n - ca) % 4294967296⟩) ho how.1 (by simp only; omega)
  simp only at hA
  have hW1 : Wf (l.set (j + b.length) ⟨(bo + o.n - ca) % 4294967296⟩) := e2.set (by omega)
  have hlen1 : (l.set (j + b.length) (⟨(bo + o.n - ca) % 4294967296⟩ : U32)).length = l0.length := by simp [e1]
  have hab1 : ∀ p, j + b.length + 1 ≤ p → (l.set (j + b.length) (⟨(bo + o.n - ca) % 4294967296⟩ : U32))[p]? = l0[p]? := fun p hp => by
    rw [List.getElem?_set_ne (by omega)]; exact e8 p (by omega)
  have hbe1 : ∀ p, p < j → (l.set (j + b.length) (⟨(bo + o.n - ca) % 4294967296⟩ : U32))[p]? = l0[p]? := fun p hp => by
    rw [List.getElem?_set_ne (by omega)]; exact e9 p hp
  have hsm1 := small _ hlen1 hW1 hab1
  generalize l.set (j + b.length) (⟨(bo + o.n - ca) % 4294967296⟩ : U32) = l1 at hA hW1 hlen1 hab1 hbe1 hsm1
  have hPW : ((WB ^ (j + b.length + 1) : Nat) : Int) = ((WB ^ (j + b.length) : Nat) : Int) * 4294967296 := by rw [Nat.pow_succ, Int.natCast_mul, show ((WB : Nat) : Int) = 4294967296 from rfl]
  -- Z: what is wanted
  have hZ : (nv l1 : Int) + ((WB ^ (j + b.length) : Nat) : Int) * (bo + o.n - ca - (bo + o.n - ca) % 4294967296) = nv l0 - ((WB ^ j : Nat) : Int) * ((g : Int) * (nv vs : Int)) := by
    rw [← e7, Int.mul_sub, Int.mul_sub, Int.mul_add, Int.mul_sub]
    omega
  have hZU : (nv l0 : Int) - ((WB ^ j : Nat) : Int) * ((g : Int) * (nv vs : Int)) = nv (l0.take j) + ((WB ^ j : Nat) : Int) * ((U : Int) - (g : Int) * (nv vs : Int)) := by
    rw [h0, Int.natCast_add, Int.natCast_mul, Int.mul_sub]; omega
  have hge := hg.ge; have hle := hg.le
  refine Gd.ite (fun hneg => ?_) (fun hpos => ?_)
  · have hneg : bo + o.n - ca < 0 := of_decide_eq_true hneg
    have hdiv : bo + o.n - ca - (bo + o.n - ca) % 4294967296 = -4294967296 := by omega
    rw [hdiv] at hZ
    have hZ1 : (nv l1 : Int) - ((WB ^ (j + b.length + 1) : Nat) : Int) = nv l0 - ((WB ^ j : Nat) : Int) * ((g : Int) * (nv vs : Int)) := by
      rw [hPW, ← hZ, Int.mul_neg]; omega
    -- so the guess was one too great
    have hgq : g = q + 1 := by
      rcases (show g = q ∨ g = q + 1 by omega) with h | h
      · exfalso
        rw [h] at hZ1 hZU
        have h0' : (0 : Int) ≤ (U : Int) - (q : Int) * (nv vs : Int) := by
          have h1' : ((q * nv vs : Nat) : Int) ≤ U := by omega
          rw [Int.natCast_mul] at h1'; omega
        have : (0 : Int) ≤ ((WB ^ j : Nat) : Int) * ((U : Int) - (q : Int) * (nv vs : Int)) := Int.mul_nonneg (by omega) h0'
        omega
      · exact h
    refine ab_gd (j := j) (l1 := l1) (by rw [show ((b.length : Int) : Int).toNat = b.length by omega]; exact hvs) hvl hvw hW1 (by omega) (by omega) (fun l2 c f1 f2 f3 f4 f5 f6 f7 => ?_)
    obtain ⟨o2, ho2⟩ : ∃ o2, l2[j + b.length]? = some o2 := ⟨_, List.getElem?_eq_getElem (by omega)⟩
    have how2 := f2 o2 (List.mem_of_getElem? ho2)
    simp only
    refine Gd.ix (by omega) (by rw [hjk]; exact ho2) (Gd.ix (by omega) (by rw [hjk]; exact ho2) ?_)
    rw [u32w, u32w, show c % 4294967296 = c by omega]
    have hg1 : IntKind.u64.wrap ((g : Int) - 1) = (q : Int) := by rw [hgq, u64_id (by omega)]; omega
    rw [hg1]
    have hB := nv_set (l := l2) (k := j + b.length) (x := o2) (v := ⟨(o2.n + c) % 4294967296⟩) ho2
    simp only at hB
    have hW2 : Wf (l2.set (j + b.length) ⟨(o2.n + c) % 4294967296⟩) := f2.set (by omega)
    have hlen2 : (l2.set (j + b.length) (⟨(o2.n + c) % 4294967296⟩ : U32)).length = l0.length := by simp [f1, hlen1]
    have hab2 : ∀ p, j + b.length + 1 ≤ p → (l2.set (j + b.length) (⟨(o2.n + c) % 4294967296⟩ : U32))[p]? = l0[p]? := fun p hp => by
      rw [List.getElem?_set_ne (by omega), f6 p (by omega)]; exact hab1 p hp
    have hbe2 : ∀ p, p < j → (l2.set (j + b.length) (⟨(o2.n + c) % 4294967296⟩ : U32))[p]? = l0[p]? := fun p hp => by
      rw [List.getElem?_set_ne (by omega), f7 p hp]; exact hbe1 p hp
    have hsm2 := small _ hlen2 hW2 hab2
    generalize l2.set (j + b.length) (⟨(o2.n + c) % 4294967296⟩ : U32) = l3 at hB hW2 hlen2 hab2 hbe2 hsm2
    refine b19_gd hj hqN (by omega) (hn l3 hlen2 hW2 ?_ hbe2)
    -- values
    obtain ⟨κ, hκ⟩ : ∃ κ : Nat, o2.n.toNat + c.toNat = ((o2.n + c) % 4294967296).toNat + WB * κ := by
      refine ⟨((o2.n + c) / 4294967296).toNat, ?_⟩
      have eW : WB = 4294967296 := rfl
      rw [eW]; omega
    have hsum : nv l3 + WB ^ (j + b.length + 1) * κ = nv l1 + WB ^ j * nv vs := by
      have e : WB ^ (j + b.length) * o2.n.toNat + WB ^ (j + b.length) * c.toNat = WB ^ (j + b.length) * ((o2.n + c) % 4294967296).toNat + WB ^ (j + b.length) * (WB * κ) := by
        rw [← Nat.mul_add, hκ, Nat.mul_add]
      rw [Nat.pow_succ, Nat.mul_assoc]
      omega
    have hVlt : WB ^ j * nv vs < WB ^ (j + b.length + 1) := by
      have h1 : WB ^ j * nv vs ≤ WB ^ j * WB ^ b.length := Nat.mul_le_mul_left _ hV
      have h2 : WB ^ j * WB ^ b.length < WB ^ (j + b.length + 1) := by
        rw [← Nat.pow_add]; exact Nat.pow_lt_pow_right (by decide) (by omega)
      omega
    have hZq : (nv l1 : Int) + ((WB ^ j * nv vs : Nat) : Int) = nv (l0.take j) + ((WB ^ j : Nat) : Int) * ((U : Int) - (q : Int) * (nv vs : Int)) + ((WB ^ (j + b.length + 1) : Nat) : Int) := by
      rw [hgq] at hZ1 hZU
      have e : ((WB ^ j : Nat) : Int) * ((U : Int) - ((q + 1 : Nat) : Int) * (nv vs : Int)) = ((WB ^ j : Nat) : Int) * ((U : Int) - (q : Int) * (nv vs : Int)) - ((WB ^ j * nv vs : Nat) : Int) := by
        rw [Int.natCast_mul, ← Int.mul_sub]
        congr 1
        rw [show ((q + 1 : Nat) : Int) = (q : Int) + 1 by omega, Int.add_mul]
        omega
      rw [e] at hZU
      omega
    have hnn : (0 : Int) ≤ ((WB ^ j : Nat) : Int) * ((U : Int) - (q : Int) * (nv vs : Int)) := Int.mul_nonneg (by omega) (by
      have : ((q * nv vs : Nat) : Int) ≤ U := by omega
      rw [Int.natCast_mul] at this; omega)
    have hκ1 : κ = 1 := by
      rcases Nat.lt_or_ge κ 1 with h | h
      · exfalso
        have : κ = 0 := by omega
        rw [this] at hsum; omega
      · rcases Nat.lt_or_ge 1 κ with h2 | h2
        · exfalso
          have : WB ^ (j + b.length + 1) * 2 ≤ WB ^ (j + b.length + 1) * κ := Nat.mul_le_mul_left _ h2
          omega
        · omega
    rw [hκ1, Nat.mul_one] at hsum
    have e : ((WB ^ j : Nat) : Int) * ((U : Int) - (q : Int) * (nv vs : Int)) = ((WB ^ j * U : Nat) : Int) - ((WB ^ j * (q * nv vs) : Nat) : Int) := by
      rw [Int.mul_sub, Int.natCast_mul, Int.natCast_mul, Int.natCast_mul]
    rw [e] at hZq
    omega
  · have hpos : ¬ bo + o.n - ca < 0 := of_decide_eq_false hpos
    have hdiv : bo + o.n - ca - (bo + o.n - ca) % 4294967296 = 0 := by omega
    rw [hdiv, Int.mul_zero, Int.add_zero] at hZ
    have hgq : g = q := by
      rcases (show g = q ∨ g = q + 1 by omega) with h | h
      · exact h
      · exfalso
        rw [h] at hZ hZU
        have h1 : (U : Int) - ((q + 1 : Nat) : Int) * (nv vs : Int) ≤ -1 := by
          have : (U : Int) < (((q + 1) * nv vs : Nat) : Int) := by omega
          rw [Int.natCast_mul] at this; omega
        have h2 : ((WB ^ j : Nat) : Int) * ((U : Int) - ((q + 1 : Nat) : Int) * (nv vs : Int)) ≤ ((WB ^ j : Nat) : Int) * (-1) := Int.mul_le_mul_of_nonneg_left h1 (by omega)
        omega
    rw [hgq] at hZ ⊢
    refine b19_gd hj hqN (by omega) (hn l1 hlen1 hW1 ?_ hbe1)
    have e : ((WB ^ j : Nat) : Int) * ((q : Int) * (nv vs : Int)) = ((WB ^ j * (q * nv vs) : Nat) : Int) := by rw [Int.natCast_mul, Int.natCast_mul]
    rw [e] at hZ
    omega
end Go.Sim
