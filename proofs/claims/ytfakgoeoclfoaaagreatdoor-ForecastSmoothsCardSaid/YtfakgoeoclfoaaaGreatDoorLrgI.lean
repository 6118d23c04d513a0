/-
  Long division: all digits.
-/
import Derived.Test.YtfakgoeoclfoaaaGreatDoorLrgH
namespace Go.Sim
open Go
set_option linter.unusedVariables false
set_option linter.unusedSimpArgs false
set_option linter.unusedSectionVars false
set_option linter.unnecessarySimpa false

/-- The first guess. -/
theorem gs_first {W R v1 v2 vl u2 ul u0 u1 V U q : Nat} (h : Spl W R v1 v2 vl u2 ul (u0 * W + u1) V U) (hq : q * V ≤ U) (hv : 1 ≤ v1) (hv1 : v1 < W) (hW : W ≤ 2 * v1) (hu0 : u0 ≤ v1) (hu1 : u1 < W) :
    Gs W R v1 v2 vl u2 ul (u0 * W + u1) V U q ((u0 * W + u1) / v1) ((u0 * W + u1) % v1) := by
  have hm : (u0 * W + u1) % v1 < v1 := Nat.mod_lt _ hv
  refine ⟨(Nat.le_div_iff_mul_le hv).2 (h.top_le hq), ?_, by omega, ?_⟩
  · rw [Nat.mul_comm, Nat.add_comm, Nat.mod_add_div]
  · have h1 : u0 * W ≤ v1 * W := Nat.mul_le_mul_right _ hu0
    have h2 : u0 * W + u1 < (W + 2) * v1 := by
      rw [Nat.add_mul, Nat.mul_comm W v1]; omega
    have := (Nat.div_lt_iff_lt_mul hv).2 h2
    omega
theorem lead_le {W R u0 u1 v1 v2 vl ul V X : Nat} (hX : X = (u0 * W + u1) * R + ul) (hV : V = (v1 * W + v2) * R + vl) (hlt : X < V) (hvl : vl < R) (hv2 : v2 < W) : u0 ≤ v1 := by
  rcases Nat.lt_or_ge v1 u0 with h | h
  · exfalso
    have h1 : (v1 + 1) * W * R ≤ u0 * W * R := Nat.mul_le_mul_right _ (Nat.mul_le_mul_right _ h)
    have h2 : (v2 + 1) * R ≤ W * R := Nat.mul_le_mul_right _ hv2
    have e1 : (v1 + 1) * W * R = v1 * W * R + W * R := by rw [Nat.add_mul, Nat.add_mul, Nat.one_mul]
    have e2 : X = u0 * W * R + u1 * R + ul := by rw [hX, Nat.add_mul]
    have e3 : V = v1 * W * R + v2 * R + vl := by rw [hV, Nat.add_mul]
    rw [Nat.add_mul] at h2
    omega
  · exact h
theorem keep_val {q W D V P nl nu U0 : Nat} (h1 : nl + P * (q * V) = nu) (h2 : D * V * (P * W) + nu = U0) : (q + W * D) * V * P + nl = U0 := by
  have e1 : (q + W * D) * V * P = P * (q * V) + D * V * (P * W) := by
    rw [Nat.add_mul, Nat.add_mul, Nat.mul_comm P (q * V)]
    congr 1
    rw [Nat.mul_comm W D, Nat.mul_assoc D W V, Nat.mul_comm W V, ← Nat.mul_assoc D V W, Nat.mul_assoc (D * V) W P, Nat.mul_comm W P]
  omega
theorem mulw_lt {W x y V : Nat} (hx : x < W) (hy : y < V) : x + W * y < W * V := by
  have : W * (y + 1) ≤ W * V := Nat.mul_le_mul_left _ hy
  rw [Nat.mul_add] at this; omega
theorem rest_val {P a x q V U : Nat} (hP : 0 < P) (h1 : a + P * x + P * (q * V) = a + P * U) (h2 : U < (q + 1) * V) : x < V := by
  have e : P * (x + q * V) = P * U := by rw [Nat.mul_add]; omega
  have := Nat.eq_of_mul_eq_mul_left hP e
  rw [Nat.add_mul] at h2
  omega
/-- The digits, one after the other. -/
theorem digits_gd {b : List U32} {r134 vs : List U32} {r127 : Int} {n2 N U0 : Nat} {Q : List U32 × List U32 → Prop}
    (hb : b.length = n2 + 2) (hvs : slc r134 0 (((b.length : Int) : Int).toNat) = vs) (hvl : vs.length = b.length) (hvw : Wf vs) (hN : N ≤ 1000001)
    (y1 y2 : U32) (hy1 : vs[n2 + 1]? = some y1) (hy2 : vs[n2]? = some y2) (hnorm : 2147483648 ≤ y1.n)
    (qs0 u0 : List U32) (hq0 : qs0.length + b.length = N) (hqw : Wf qs0) (hu0 : u0.length = N) (huw : Wf u0) (hstart : nv (u0.drop qs0.length) < nv vs) (hval : nv u0 = U0)
    (hk : ∀ qs u, qs.length = qs0.length → Wf qs → u.length = N → Wf u → nv qs * nv vs + nv u = U0 → nv u < nv vs →
      Gd (need (0 ≤ (b.length : Int) ∧ (b.length : Int) * 4 ≤ 140737488355328) (forN (fun k s1815 n => m_large_divWords_b23 r127 u k s1815 n) (fun s1815 => some (qs, s1815)) ((b.length : Int) : Int).toNat 0 (List.replicate ((b.length : Int) : Int).toNat (⟨0⟩ : U32)))) Q) :
    Gd (loopF (fun s1227 n => m_large_divWords_b15 b r127 r134 s1227.1 s1227.2.1 s1227.2.2 n) FUEL (qs0, u0, (qs0.length : Int) - 1)) Q := by
  have hy1w := hvw y1 (List.mem_of_getElem? hy1); have hy2w := hvw y2 (List.mem_of_getElem? hy2)
  have hVB : nv vs ≤ WB ^ b.length := by have := nv_lt hvw; rw [hvl] at this; omega
  refine Gd.loopF (fun (z : List U32 × List U32 × Int) => z.1.length = qs0.length ∧ Wf z.1 ∧ z.2.1.length = N ∧ Wf z.2.1 ∧ -1 ≤ z.2.2 ∧ z.2.2 < qs0.length ∧ nv (z.1.drop (z.2.2 + 1).toNat) * nv vs * WB ^ (z.2.2 + 1).toNat + nv z.2.1 = U0 ∧ nv (z.2.1.drop (z.2.2 + 1).toNat) < nv vs) (fun z => (z.2.2 + 1).toNat) ?_ FUEL _ ⟨rfl, hqw, hu0, huw, by simp only; omega, by simp only; omega, ?_, ?_⟩ (by simp only [FUEL]; omega)
  · rintro ⟨qs, u, j⟩ nx ⟨h1, h2, h3, h4, h5, h6, h7, h8⟩ hnx
    simp only at h1 h2 h3 h4 h5 h6 h7 h8 hnx ⊢
    unfold m_large_divWords_b15
    refine Gd.ite (fun hj => ?_) (fun hj => ?_)
    · have hj := of_decide_eq_true hj
      obtain ⟨k, rfl⟩ : ∃ k : Nat, j = k := ⟨j.toNat, by omega⟩
      rw [show ((k : Int) + 1).toNat = k + 1 by omega] at h7 h8
      obtain ⟨t0, ht0⟩ : ∃ t, u[k + n2 + 2]? = some t := ⟨_, List.getElem?_eq_getElem (by omega)⟩
      obtain ⟨t1, ht1⟩ : ∃ t, u[k + n2 + 1]? = some t := ⟨_, List.getElem?_eq_getElem (by omega)⟩
      obtain ⟨t2, ht2⟩ : ∃ t, u[k + n2]? = some t := ⟨_, List.getElem?_eq_getElem (by omega)⟩
      have w0 := h4 t0 (List.mem_of_getElem? ht0); have w1 := h4 t1 (List.mem_of_getElem? ht1); have w2 := h4 t2 (List.mem_of_getElem? ht2)
      have wjn : IntKind.i64.wrap ((k : Int) + (b.length : Int)) = ((k + n2 + 2 : Nat) : Int) := by rw [hb, wrap_id (by omega)]; omega
      have wjm : IntKind.i64.wrap (((k + n2 + 2 : Nat) : Int) - 1) = ((k + n2 + 1 : Nat) : Int) := by rw [wrap_id (by omega)]; omega
      have wn1 : IntKind.i64.wrap ((b.length : Int) - 1) = ((n2 + 1 : Nat) : Int) := by rw [hb, wrap_id (by omega)]; omega
      rw [hvs, wjn, wjm, wn1]
      have ey1 : IntKind.u64.wrap y1.n = y1.n := u64_id (by omega)
      refine Gd.ix (by omega) (by rw [Int.toNat_natCast]; exact ht0) (Gd.ix (by omega) (by rw [Int.toNat_natCast]; exact ht1) (Gd.ix (by omega) (by rw [Int.toNat_natCast]; exact hy1) (Gd.nd (by rw [ey1]; omega) (Gd.ix (by omega) (by rw [Int.toNat_natCast]; exact hy1) (Gd.nd (by rw [ey1]; omega) ?_)))))
      rw [u64_id (n := t0.n) (by omega), or_shift w0 w1, ey1]
      -- the dividend from here
      obtain ⟨x, hx⟩ : ∃ x, u[k]? = some x := ⟨_, List.getElem?_eq_getElem (by omega)⟩
      have hxw := h4 x (List.mem_of_getElem? hx)
      have hU1 : nv (u.drop k) = x.n.toNat + WB * nv (u.drop (k + 1)) := by rw [drop_at hx, nv]
      have hUlt : nv (u.drop k) < WB * nv vs := by rw [hU1]; exact mulw_lt (by show x.n.toNat < 4294967296; omega) h8
      have hVlt : nv vs < WB ^ (n2 + 2) := by have := nv_lt hvw; rw [hvl, hb] at this; exact this
      have hz : nv (u.drop (k + 1 + (n2 + 2))) = 0 := by
        have e := nv_td (u.drop (k + 1)) (m := n2 + 2) (by rw [List.length_drop]; omega)
        rw [List.drop_drop] at e
        exact zero_of e (by omega)
      have hVe := nv_lead hy1 hy2 (by rw [List.drop_of_length_le (by omega)]; rfl)
      have hXe := nv_lead (l := u.drop (k + 1)) (m := n2) (x := t0) (y := t1) (by rw [List.getElem?_drop, show k + 1 + (n2 + 1) = k + n2 + 2 by omega]; exact ht0) (by rw [List.getElem?_drop, show k + 1 + n2 = k + n2 + 1 by omega]; exact ht1) (by rw [List.drop_drop]; exact hz)
      have hUe := nv_lead3 (l := u.drop k) (m := n2) (x := t0) (y := t1) (z := t2) (by rw [List.getElem?_drop, show k + (n2 + 2) = k + n2 + 2 by omega]; exact ht0) (by rw [List.getElem?_drop, show k + (n2 + 1) = k + n2 + 1 by omega]; exact ht1) (by rw [List.getElem?_drop]; exact ht2) (by rw [List.drop_drop, show k + (n2 + 3) = k + 1 + (n2 + 2) by omega]; exact hz)
      have hvl' : nv (vs.take n2) < WB ^ n2 := by have := nv_lt (hvw.take n2); rw [List.length_take, Nat.min_eq_left (by omega)] at this; exact this
      have hul' : nv ((u.drop k).take n2) < WB ^ n2 := by
        have := nv_lt (l := (u.drop k).take n2) (fun z hz => h4 z (List.mem_of_mem_drop (List.mem_of_mem_take hz)))
        rw [List.length_take, List.length_drop, Nat.min_eq_left (by omega)] at this; exact this
      have hS : Spl WB (WB ^ n2) y1.n.toNat y2.n.toNat (nv (vs.take n2)) t2.n.toNat (nv ((u.drop k).take n2)) (t0.n.toNat * WB + t1.n.toNat) (nv vs) (nv (u.drop k)) :=
        ⟨hVe, hUe, hvl', hul', by show t2.n.toNat < 4294967296; omega, by show y2.n.toNat < 4294967296; omega⟩
      have hle : t0.n.toNat ≤ y1.n.toNat := lead_le hXe hVe h8 hvl' (by show y2.n.toNat < 4294967296; omega)
      have hVpos : 0 < nv vs := by omega
      obtain ⟨q, hq1, hq2, hqW⟩ : ∃ q, q * nv vs ≤ nv (u.drop k) ∧ nv (u.drop k) < (q + 1) * nv vs ∧ q < WB := by
        refine ⟨nv (u.drop k) / nv vs, Nat.div_mul_le_self _ _, ?_, (Nat.div_lt_iff_lt_mul hVpos).2 hUlt⟩
        have := Nat.lt_succ_self (nv (u.drop k) / nv vs)
        exact (Nat.div_lt_iff_lt_mul hVpos).1 this
      have hG := gs_first hS hq1 (show 1 ≤ y1.n.toNat by omega) (show y1.n.toNat < WB by show y1.n.toNat < 4294967296; omega) (show WB ≤ 2 * y1.n.toNat by show 4294967296 ≤ 2 * y1.n.toNat; omega) hle (show t1.n.toNat < WB by show t1.n.toNat < 4294967296; omega)
      have hg0 := hG.le
      have etop : t0.n * 4294967296 + t1.n = ((t0.n.toNat * WB + t1.n.toNat : Nat) : Int) := by
        show _ = ((t0.n.toNat * 4294967296 + t1.n.toNat : Nat) : Int); omega
      have ey : y1.n = ((y1.n.toNat : Nat) : Int) := by omega
      have ed : Int.tdiv (t0.n * 4294967296 + t1.n) y1.n = (((t0.n.toNat * WB + t1.n.toNat) / y1.n.toNat : Nat) : Int) := by
        rw [etop, ey]; rfl
      have em : Int.tmod (t0.n * 4294967296 + t1.n) y1.n = (((t0.n.toNat * WB + t1.n.toNat) % y1.n.toNat : Nat) : Int) := by
        rw [etop, ey]; rfl
      rw [ed, em]
      generalize (t0.n.toNat * WB + t1.n.toNat) / y1.n.toNat = g0 at hG hg0 ⊢
      generalize (t0.n.toNat * WB + t1.n.toNat) % y1.n.toNat = rest0 at hG ⊢
      have eW : (WB : Nat) = 4294967296 := rfl
      rw [eW] at hg0
      rw [u64_id (n := (g0 : Int)) (by omega)]
      refine guess_gd hb hvs hvl (by omega) (by omega) y1 y2 t2 hy1 hy2 ht2 (by omega) (by omega) (by omega) (by omega) (by omega) hS hq1 hq2 hqW (fun g hg => ?_) hG
      refine digit_gd hvs hvl hvw h4 (by omega) (by omega) (by omega) (by omega) rfl hVB hUlt hq1 hq2 hqW hg (fun l' f1 f2 f3 f4 => ?_)
      have ek : ((k : Int) - 1 + 1).toNat = k := by omega
      refine hnx _ ⟨by rw [List.length_set]; exact h1, h2.set (by rw [eW] at hqW; omega), by simp only; omega, f2, by simp only; omega, by simp only; omega, ?_, ?_⟩ (by simp only; omega)
      · simp only
        rw [ek, drop_at (List.getElem?_set_self (by omega)), nv, List.drop_set_of_lt (by omega)]
        rw [Int.toNat_natCast]
        rw [Nat.pow_succ] at h7
        exact keep_val f3 h7
      · simp only
        rw [ek]
        have e1 := nv_td l' (m := k) (by omega)
        have e2 := nv_td u (m := k) (by omega)
        have e3 : l'.take k = u.take k := by
          apply List.ext_getElem?
          intro i
          rw [List.getElem?_take, List.getElem?_take]
          by_cases hi : i < k
          · rw [if_pos hi, if_pos hi]; exact f4 i hi
          · rw [if_neg hi, if_neg hi]
        rw [e3] at e1
        refine rest_val (a := nv (u.take k)) (P := WB ^ k) (Nat.pow_pos (by decide)) ?_ hq2
        omega
    · have hj := of_decide_eq_false hj
      rw [show (j + 1).toNat = 0 by omega, List.drop_zero, Nat.pow_zero, Nat.mul_one] at h7
      rw [show (j + 1).toNat = 0 by omega, List.drop_zero] at h8
      exact hk qs u h1 h2 h3 h4 h7 h8
  · simp only
    rw [show ((qs0.length : Int) - 1 + 1).toNat = qs0.length by omega, List.drop_length]
    simp [nv, hval]
  · simp only
    rw [show ((qs0.length : Int) - 1 + 1).toNat = qs0.length by omega]
    exact hstart
end Go.Sim
