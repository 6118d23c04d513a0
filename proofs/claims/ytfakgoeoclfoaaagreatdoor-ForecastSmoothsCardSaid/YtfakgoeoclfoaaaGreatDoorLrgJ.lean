/-
  Long division: what is left, shifted back; quotient and remainder of magnitudes.
-/
import Derived.Test.YtfakgoeoclfoaaaGreatDoorLrgI
namespace Go.Sim
open Go
set_option linter.unusedVariables false
set_option linter.unusedSimpArgs false
set_option linter.unusedSectionVars false
set_option linter.unnecessarySimpa false

/-- A digit of what is shifted back. -/
theorem unshift_digit {W S M u0 u1 hi : Nat} (hW : W = S * M) (hS : 0 < S) :
    (u0 + W * (u1 + W * hi)) / S % W = (u1 * W + u0) / S % W := by
  have e : u0 + W * (u1 + W * hi) = (u1 * W + u0) + S * (M * (W * hi)) := by
    have e1 : W * (W * hi) = S * (M * (W * hi)) := by rw [← Nat.mul_assoc S M, ← hW]
    rw [Nat.mul_add, e1, Nat.mul_comm W u1]; omega
  rw [e, Nat.add_mul_div_left _ _ hS]
  have e2 : M * (W * hi) = W * (M * hi) := by rw [← Nat.mul_assoc, Nat.mul_comm M W, Nat.mul_assoc]
  rw [e2, Nat.add_mul_mod_self_left]
theorem unshift_next {W S u0 T : Nat} (hu : u0 < W) : (u0 + W * T) / S / W = T / S := by
  rw [Nat.div_div_eq_div_mul, Nat.mul_comm S W, ← Nat.div_div_eq_div_mul, Nat.add_mul_div_left _ _ (by omega), Nat.div_eq_of_lt hu, Nat.zero_add]
theorem shr64u {n : Int} {k : Nat} (hk : k ≤ 64) : shrV .u64 n (k : Int) = n / (2 ^ k : Nat) := by
  unfold shrV
  rw [show (min ((k : Int)).toNat IntKind.u64.bits) = k by show min ((k : Int)).toNat 64 = k; omega, Int.fdiv_eq_ediv_of_nonneg _ (Int.le_of_lt (Int.pow_pos (by decide)))]
  rw [Int.natCast_pow]; rfl
theorem unshift_fin {A P d W D D' Z : Nat} (h : A + P * D = Z) (hd : D % W = d) (hD : D / W = D') : (A + P * d) + P * W * D' = Z := by
  have e : d + W * D' = D := by rw [← hd, ← hD, Nat.mod_add_div]
  rw [Nat.mul_assoc P W, Nat.add_assoc, ← Nat.mul_add, e, h]
/-- The remainder, shifted back. -/
theorem unshift_gd {n s : Nat} (hs : s ≤ 31) {u : List U32} (hu : Wf u) (hl : n < u.length) (hz : u.length ≤ 1000001) {qs : List U32} {Q : List U32 × List U32 → Prop} (hlt : nv u / 2 ^ s < WB ^ n)
    (hk : ∀ r, Wf r → r.length = n → nv r = nv u / 2 ^ s → Q (qs, r)) :
    Gd (forN (fun k s1815 n => m_large_divWords_b23 (s : Int) u k s1815 n) (fun s1815 => some (qs, s1815)) n 0 (List.replicate n (⟨0⟩ : U32))) Q := by
  have hS : 0 < (2 : Nat) ^ s := Nat.pow_pos (by decide)
  have hWS : WB = 2 ^ s * 2 ^ (32 - s) := by rw [← Nat.pow_add, show s + (32 - s) = 32 by omega]
  refine Gd.forN (fun m k (z : List U32) => k + m = n ∧ z.length = n ∧ Wf z ∧ nv (z.take k) + WB ^ k * (nv (u.drop k) / 2 ^ s) = nv u / 2 ^ s) ?_ ?_ _ 0 _ ⟨by omega, by simp, fun y hy => ?_, by simp [nv]⟩
  · rintro m k l nx ⟨h0, h1, h2, h3⟩ hnx
    obtain ⟨x0, hx0⟩ : ∃ t, u[k]? = some t := ⟨_, List.getElem?_eq_getElem (by omega)⟩
    obtain ⟨x1, hx1⟩ : ∃ t, u[k + 1]? = some t := ⟨_, List.getElem?_eq_getElem (by omega)⟩
    have w0 := hu x0 (List.mem_of_getElem? hx0); have w1 := hu x1 (List.mem_of_getElem? hx1)
    have wk : IntKind.i64.wrap ((k : Int) + 1) = ((k + 1 : Nat) : Int) := by rw [wrap_id (by omega)]; omega
    unfold m_large_divWords_b23
    rw [wk]
    refine Gd.ix (by omega) (by rw [Int.toNat_natCast]; exact hx1) (Gd.ix (by omega) (by rw [Int.toNat_natCast]; exact hx0) (Gd.nd (by omega) (Gd.idxN (by omega) ?_)))
    rw [u64_id (n := x1.n) (by omega), or_shift w1 w0, shr64u (by omega), u32w, Int.toNat_natCast]
    have e1 : x1.n * 4294967296 + x0.n = ((x1.n.toNat * WB + x0.n.toNat : Nat) : Int) := by
      show _ = ((x1.n.toNat * 4294967296 + x0.n.toNat : Nat) : Int); omega
    have e2 : (x1.n * 4294967296 + x0.n) / ((2 ^ s : Nat) : Int) % 4294967296 = (((x1.n.toNat * WB + x0.n.toNat) / 2 ^ s % WB : Nat) : Int) := by
      rw [e1]; rfl
    rw [e2]
    have hd : nv (u.drop k) = x0.n.toNat + WB * nv (u.drop (k + 1)) := by rw [drop_at hx0, nv]
    have hd1 : nv (u.drop (k + 1)) = x1.n.toNat + WB * nv (u.drop (k + 2)) := by rw [drop_at hx1, nv]
    have hm := unshift_digit (u0 := x0.n.toNat) (u1 := x1.n.toNat) (hi := nv (u.drop (k + 2))) hWS hS
    rw [← hd1, ← hd] at hm
    have hn := unshift_next (W := WB) (S := 2 ^ s) (u0 := x0.n.toNat) (T := nv (u.drop (k + 1))) (by show x0.n.toNat < 4294967296; omega)
    rw [← hd] at hn
    have hlt' : (x1.n.toNat * WB + x0.n.toNat) / 2 ^ s % WB < WB := Nat.mod_lt _ (by decide)
    refine hnx _ ⟨by omega, by rw [List.length_set]; exact h1, h2.set ⟨by omega, by have : (WB : Nat) = 4294967296 := rfl; rw [this] at hlt'; omega⟩, ?_⟩
    rw [set_take (by omega), nv_snoc, List.length_take, Nat.min_eq_left (by omega), Nat.pow_succ, Int.toNat_natCast]
    exact unshift_fin h3 hm hn
  · rintro k l ⟨h0, h1, h2, h3⟩
    have hk' : k = n := by omega
    subst hk'
    rw [List.take_of_length_le (by omega)] at h3
    have h0' := zero_of h3.symm hlt
    rw [h0', Nat.mul_zero, Nat.add_zero] at h3
    exact Gd.ret (hk l h2 h1 h3)
  · rw [List.mem_replicate] at hy
    rw [hy.2]; simp
theorem dw_fin {q V a b S u : Nat} (hS : 0 < S) (hV : V = b * S) (h : q * V + u = a * S) (hu : u < V) : u / S = a - q * b ∧ a - q * b < b ∧ q * b ≤ a := by
  have e : q * V = q * b * S := by rw [hV, Nat.mul_assoc]
  have hle : q * b ≤ a := by
    have h1 : q * b * S ≤ a * S := by omega
    exact Nat.le_of_mul_le_mul_right h1 hS
  have e2 : u = (a - q * b) * S := by rw [Nat.mul_sub_right_distrib]; omega
  refine ⟨by rw [e2, Nat.mul_div_cancel _ hS], ?_, hle⟩
  rw [e2, hV] at hu
  exact Nat.lt_of_mul_lt_mul_right hu
theorem dm_of {q a b : Nat} (h1 : a - q * b < b) (h2 : q * b ≤ a) : q = a / b ∧ a - q * b = a % b := by
  have := (Nat.div_mod_unique (a := a) (b := b) (c := a - q * b) (d := q) (by omega)).2 ⟨by rw [Nat.mul_comm b q]; omega, h1⟩
  exact ⟨this.1.symm, this.2.symm⟩
theorem top_norm {W S M x B P : Nat} (hWS : W = S * M) (hx : x * S < W) (hB : B < (x + 1) * P) : B * S < W * P := by
  have h1 : x < M := by rw [hWS, Nat.mul_comm] at hx; exact Nat.lt_of_mul_lt_mul_left hx
  have h2 : (x + 1) * S ≤ W := by rw [hWS, Nat.mul_comm S M]; exact Nat.mul_le_mul_right _ h1
  have hS : 0 < S := by
    rcases Nat.eq_zero_or_pos S with h | h
    · rw [h] at hWS; simp at hWS; rw [hWS] at hx; omega
    · exact h
  have h3 : B * S < (x + 1) * P * S := (Nat.mul_lt_mul_right hS).2 hB
  have h4 : (x + 1) * P * S = (x + 1) * S * P := by rw [Nat.mul_assoc, Nat.mul_comm P S, ← Nat.mul_assoc]
  have h5 : (x + 1) * S * P ≤ W * P := Nat.mul_le_mul_right _ h2
  omega
/-- The quotient and the remainder of magnitudes. -/
theorem div_gd {a b : List U32} (ha : Wf a) (hb : Wf b) (hta : Top a) (htb : Top b) (hne : b ≠ []) (hza : a.length ≤ 900000) (hzb : b.length ≤ 900000) :
    Gd (m_large_divWords a b) (fun r => Wf r.1 ∧ Wf r.2 ∧ r.1.length ≤ a.length ∧ r.2.length ≤ a.length ∧ nv r.1 = nv a / nv b ∧ nv r.2 = nv a % nv b) := by
  unfold m_large_divWords
  refine Gd.bnd (cmp_gd ha hb hta htb (by omega) (by omega)) (fun c hc => Gd.ite (fun h => ?_) (fun h => ?_))
  · have hlt := hc.1.1 (of_decide_eq_true h)
    exact Gd.ret ⟨Wf.nil, ha, by simp, Nat.le_refl _, by rw [Nat.div_eq_of_lt hlt]; rfl, by rw [Nat.mod_eq_of_lt hlt]⟩
  · have hge : nv b ≤ nv a := by
      have h := of_decide_eq_false h
      have := mt hc.1.2 h
      omega
    have hbl : 0 < b.length := List.length_pos_iff.2 hne
    have hle : b.length ≤ a.length := by
      rcases Nat.lt_or_ge a.length b.length with h | h
      · have := nv_short ha hb htb h; omega
      · exact h
    refine Gd.ite (fun h1 => ?_) (fun h1 => ?_)
    · have h1 := of_decide_eq_true h1
      have h1 : b.length = 1 := by omega
      obtain ⟨x, rfl⟩ := List.length_eq_one_iff.1 h1
      have hx := hb x (by simp)
      have hx0 : x.n ≠ 0 := htb x (by simp)
      refine Gd.ix (y := x) (by omega) (by simp) (Gd.bnd (short_gd ha (by omega) (d := x.n) (by omega)) (fun r hr => Gd.ret ?_))
      obtain ⟨r1, r2, r3, r4⟩ := hr
      have hm : nv a % x.n.toNat < x.n.toNat := Nat.mod_lt _ (by omega)
      refine ⟨r1, ?_, by simp only; omega, by simp at hle ⊢; omega, by rw [r3, nv_one], ?_⟩
      · refine Wf.one ?_
        rw [r4]; omega
      · simp only
        rw [nv_one, nv_one, r4, Int.toNat_natCast]
    · have h1 := of_decide_eq_false h1
      obtain ⟨n2, hn2⟩ : ∃ n2, b.length = n2 + 2 := ⟨b.length - 2, by omega⟩
      have wn1 : IntKind.i64.wrap ((b.length : Int) - 1) = ((n2 + 1 : Nat) : Int) := by rw [hn2, wrap_id (by omega)]; omega
      have wab : IntKind.i64.wrap ((a.length : Int) - (b.length : Int)) = ((a.length - b.length : Nat) : Int) := by rw [wrap_id (by omega)]; omega
      have wab1 : IntKind.i64.wrap (((a.length - b.length : Nat) : Int) + 1) = ((a.length - b.length + 1 : Nat) : Int) := by rw [wrap_id (by omega)]; omega
      rw [wn1, wab, wab1]
      obtain ⟨x, hx⟩ : ∃ t, b[n2 + 1]? = some t := ⟨_, List.getElem?_eq_getElem (by omega)⟩
      have hxw := hb x (List.mem_of_getElem? hx)
      have hx0 : x.n ≠ 0 := htb x (by rw [List.getLast?_eq_getElem?, hn2]; exact hx)
      refine Gd.ix (by omega) (by rw [Int.toNat_natCast]; exact hx) (Gd.bnd (lz_gd (x := x.n) (by omega) hxw.2) ?_)
      rintro sv ⟨s, rfl, hs1, hs2, hs3⟩
      refine Gd.bnd (shifted_gd ha (by omega) hs1) (fun u0 hu0 => Gd.bnd (shifted_gd hb (by omega) hs1) (fun v0 hv0 => ?_))
      obtain ⟨p1, p2, p3, p4⟩ := hu0
      obtain ⟨q1, q2, q3, t, q4, q5⟩ := hv0
      refine Gd.nd (by omega) (Gd.nd (by omega) ?_)
      have hS : 0 < (2 : Nat) ^ s := Nat.pow_pos (by decide)
      have hWS : WB = 2 ^ s * 2 ^ (32 - s) := by rw [← Nat.pow_add, show s + (32 - s) = 32 by omega]
      -- the top word of the divisor
      have hbs : nv b = nv (b.take (n2 + 1)) + WB ^ (n2 + 1) * x.n.toNat := by
        have := nv_take hx
        rw [List.take_of_length_le (by omega)] at this; exact this
      have hbt : nv (b.take (n2 + 1)) < WB ^ (n2 + 1) := by
        have := nv_lt (hb.take (n2 + 1)); rw [List.length_take, Nat.min_eq_left (by omega)] at this; exact this
      have hb2 : nv b < (x.n.toNat + 1) * WB ^ (n2 + 1) := by rw [Nat.add_mul, Nat.mul_comm x.n.toNat]; omega
      have hvlt : nv v0 < WB ^ (n2 + 2) := by
        rw [q3, Nat.pow_succ, Nat.mul_comm _ WB]
        exact top_norm hWS hs3 hb2
      have hvs : nv (v0.take b.length) = nv v0 ∧ Wf (v0.take b.length) ∧ (v0.take b.length).length = b.length := by
        refine ⟨?_, q1.take _, by rw [List.length_take]; omega⟩
        have e := nv_td v0 (m := b.length) (by omega)
        have hz : nv (v0.drop b.length) = 0 := zero_of e (by rw [hn2]; exact hvlt)
        rw [hz, Nat.mul_zero, Nat.add_zero] at e
        exact e.symm
      have hsl : slc v0 0 (((b.length : Int) : Int).toNat) = v0.take b.length := by
        rw [Int.toNat_natCast]; rfl
      generalize v0.take b.length = vs at hvs hsl
      obtain ⟨v1, v2, v3⟩ := hvs
      obtain ⟨y1, hy1⟩ : ∃ t, vs[n2 + 1]? = some t := ⟨_, List.getElem?_eq_getElem (by omega)⟩
      obtain ⟨y2, hy2⟩ : ∃ t, vs[n2]? = some t := ⟨_, List.getElem?_eq_getElem (by omega)⟩
      have hy1w := v2 y1 (List.mem_of_getElem? hy1)
      have hVS : nv vs = nv b * 2 ^ s := by rw [v1, q3]
      have hnorm : 2147483648 ≤ y1.n := by
        have e1 : nv vs = nv (vs.take (n2 + 1)) + WB ^ (n2 + 1) * y1.n.toNat := by
          have := nv_take hy1
          rw [List.take_of_length_le (by omega)] at this; exact this
        have e2 : nv (vs.take (n2 + 1)) < WB ^ (n2 + 1) := by
          have := nv_lt (v2.take (n2 + 1)); rw [List.length_take, Nat.min_eq_left (by omega)] at this; exact this
        have e3 : WB ^ (n2 + 1) * x.n.toNat * 2 ^ s ≤ nv b * 2 ^ s := Nat.mul_le_mul_right _ (by omega)
        rw [Nat.mul_assoc] at e3
        have e4 : WB ^ (n2 + 1) * (x.n.toNat * 2 ^ s) < WB ^ (n2 + 1) * (y1.n.toNat + 1) := by rw [Nat.mul_add (WB ^ (n2 + 1)) y1.n.toNat 1]; omega
        have e5 := Nat.lt_of_mul_lt_mul_left e4
        omega
      have hst : nv (u0.drop (a.length - b.length + 1)) < nv vs := by
        have e := nv_td u0 (m := a.length - b.length + 1) (by omega)
        have h1 : WB ^ (n2 + 1) ≤ nv b := by have := nv_ge hb htb hne; rw [hn2] at this; exact this
        have h2 : nv a < WB ^ a.length := nv_lt ha
        have h3 : nv u0 < WB ^ a.length * 2 ^ s := by rw [p3]; exact (Nat.mul_lt_mul_right hS).2 h2
        have h4 : WB ^ a.length * 2 ^ s = WB ^ (a.length - b.length + 1) * (WB ^ (n2 + 1) * 2 ^ s) := by
          rw [← Nat.mul_assoc, ← Nat.pow_add]; congr 2; omega
        have h5 : nv (u0.drop (a.length - b.length + 1)) < WB ^ (n2 + 1) * 2 ^ s := by
          rw [h4] at h3
          exact Nat.lt_of_mul_lt_mul_left (a := WB ^ (a.length - b.length + 1)) (by omega)
        have h6 : WB ^ (n2 + 1) * 2 ^ s ≤ nv b * 2 ^ s := Nat.mul_le_mul_right _ h1
        omega
      have hstart : ((a.length - b.length : Nat) : Int) = ((List.replicate (a.length - b.length + 1) (⟨0⟩ : U32)).length : Int) - 1 := by
        rw [List.length_replicate]; omega
      rw [Int.toNat_natCast, hstart]
      refine digits_gd (N := a.length + 1) (U0 := nv a * 2 ^ s) hn2 hsl v3 v2 (by omega) y1 y2 hy1 hy2 hnorm _ u0 (by rw [List.length_replicate]; omega) (fun y hy => by rw [List.mem_replicate] at hy; rw [hy.2]; simp) p2 p1 (by rw [List.length_replicate]; exact hst) p3 ?_
      intro qs u f1 f2 f3 f4 f5 f6
      obtain ⟨g1, g2, g3⟩ := dw_fin hS hVS f5 f6
      obtain ⟨g4, g5⟩ := dm_of g2 g3
      refine Gd.nd (by omega) ?_
      rw [Int.toNat_natCast]
      refine unshift_gd hs1 f4 (by omega) (by omega) ?_ (fun r r1 r2 r3 => ⟨f2, r1, ?_, ?_, g4, ?_⟩)
      · rw [g1]; have := nv_lt hb; omega
      · simp only; rw [f1, List.length_replicate]; omega
      · simp only; omega
      · simp only; rw [r3, g1, g5]
end Go.Sim
