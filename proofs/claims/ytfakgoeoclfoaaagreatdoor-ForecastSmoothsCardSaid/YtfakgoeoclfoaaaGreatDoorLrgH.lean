/-
  Long division: the guess of a digit, and the digit.
-/
import Derived.Test.YtfakgoeoclfoaaaGreatDoorLrgG
namespace Go.Sim
open Go
set_option linter.unusedVariables false
set_option linter.unusedSimpArgs false
set_option linter.unusedSectionVars false
set_option linter.unnecessarySimpa false

/-- The two leading words of a number of n words, and the rest. -/
theorem nv_lead {l : List U32} {m : Nat} {x y : U32} (h1 : l[m + 1]? = some x) (h2 : l[m]? = some y) (h0 : nv (l.drop (m + 2)) = 0) : nv l = (x.n.toNat * WB + y.n.toNat) * WB ^ m + nv (l.take m) := by
  have e := nv_split h2
  have e1 : nv (l.drop (m + 1)) = x.n.toNat + WB * nv (l.drop (m + 2)) := by rw [drop_at h1, nv]
  rw [e, e1, h0, Nat.mul_zero, Nat.add_zero, Nat.mul_comm (WB ^ m), Nat.add_comm (nv (l.take m)), Nat.add_comm y.n.toNat, Nat.mul_comm WB x.n.toNat]
theorem nv_lead3 {l : List U32} {m : Nat} {x y z : U32} (h1 : l[m + 2]? = some x) (h2 : l[m + 1]? = some y) (h3 : l[m]? = some z) (h0 : nv (l.drop (m + 3)) = 0) : nv l = ((x.n.toNat * WB + y.n.toNat) * WB + z.n.toNat) * WB ^ m + nv (l.take m) := by
  have e := nv_split h3
  have e1 : nv (l.drop (m + 1)) = y.n.toNat + WB * nv (l.drop (m + 2)) := by rw [drop_at h2, nv]
  have e2 : nv (l.drop (m + 2)) = x.n.toNat + WB * nv (l.drop (m + 3)) := by rw [drop_at h1, nv]
  rw [e, e1, e2, h0, Nat.mul_zero, Nat.add_zero, Nat.mul_comm (WB ^ m), Nat.add_comm (nv (l.take m)), Nat.add_comm z.n.toNat, Nat.mul_comm WB (y.n.toNat + _), Nat.add_comm y.n.toNat, Nat.mul_comm WB x.n.toNat]
/-- The loop over the guess. -/
theorem guess_gd {b : List U32} {r134 vs : List U32} {j n2 q U R v1 v2 vl u2 ul top : Nat} {l0 qs : List U32} {nx : List U32 × List U32 × Int → Option (List U32 × List U32)} {Q : List U32 × List U32 → Prop}
    (hb : b.length = n2 + 2) (hvs : slc r134 0 (((b.length : Int) : Int).toNat) = vs) (hvl : vs.length = b.length) (hl0 : j + b.length < l0.length) (hN : l0.length ≤ 1000001)
    (y1 y2 z2 : U32) (hy1 : vs[n2 + 1]? = some y1) (hy2 : vs[n2]? = some y2) (hz2 : l0[j + n2]? = some z2) (e1 : y1.n = v1) (e2 : y2.n = v2) (e3 : z2.n = u2) (w1 : v1 < 4294967296) (hv1 : 1 ≤ v1)
    (hS : Spl WB R v1 v2 vl u2 ul top (nv vs) U) (hq1 : q * nv vs ≤ U) (hq2 : U < (q + 1) * nv vs) (hqW : q < WB)
    (hk : ∀ g, Gd1 WB (nv vs) U q g → Gd (m_large_divWords_b21 b r134 qs l0 (j : Int) nx (g : Int)) Q)
    {g0 rest0 : Nat} (h0 : Gs WB R v1 v2 vl u2 ul top (nv vs) U q g0 rest0) :
    Gd (loopF (fun s1721 n => m_large_divWords_b22 b r134 qs l0 (j : Int) nx s1721.1 s1721.2 n) FUEL ((g0 : Int), (rest0 : Int))) Q := by
  have hu2 : u2 < 4294967296 := hS.u2
  have hv2 : v2 < 4294967296 := hS.v2
  have eW : WB = 4294967296 := rfl
  refine Gd.loopF (fun (z : Int × Int) => ∃ g rest : Nat, z = ((g : Int), (rest : Int)) ∧ Gs WB R v1 v2 vl u2 ul top (nv vs) U q g rest) (fun z => z.1.toNat) ?_ FUEL _ ⟨g0, rest0, rfl, h0⟩ ?_
  · rintro z nx2 ⟨g, rest, rfl, hG⟩ hnx
    simp only at hnx ⊢
    have hrest : rest < 4294967296 := hG.rest
    have hgW : g ≤ 4294967297 := hG.le
    have wn1 : IntKind.i64.wrap ((b.length : Int) - 1) = ((n2 + 1 : Nat) : Int) := by rw [hb, wrap_id (by omega)]; omega
    have wn2 : IntKind.i64.wrap ((b.length : Int) - 2) = ((n2 : Nat) : Int) := by rw [hb, wrap_id (by omega)]; omega
    have wjn : IntKind.i64.wrap ((IntKind.i64.wrap ((j : Int) + (b.length : Int))) - 2) = ((j + n2 : Nat) : Int) := by rw [hb, wrap_id (n := (j : Int) + _) (by omega), wrap_id (by omega)]; omega
    -- one less
    have dec : q < g → Gd (if decide (4294967296 ≤ (IntKind.u64.wrap ((rest : Int) + (IntKind.u64.wrap (y1.n))))) then (m_large_divWords_b21 b r134 qs l0 (j : Int) nx (IntKind.u64.wrap ((g : Int) - 1))) else (nx2 (IntKind.u64.wrap ((g : Int) - 1), IntKind.u64.wrap ((rest : Int) + (IntKind.u64.wrap (y1.n)))))) Q := fun hlt => by
      have er : IntKind.u64.wrap ((rest : Int) + (IntKind.u64.wrap (y1.n))) = ((rest + v1 : Nat) : Int) := by
        rw [e1, u64_id (n := (v1 : Int)) (by omega), u64_id (by omega)]; omega
      have eg : IntKind.u64.wrap ((g : Int) - 1) = ((g - 1 : Nat) : Int) := by rw [u64_id (by omega)]; omega
      rw [er, eg]
      refine Gd.ite (fun h => hk _ (hG.over hS hq2 hv1 hlt (by rw [eW]; have := of_decide_eq_true h; omega))) (fun h => hnx _ ⟨g - 1, rest + v1, rfl, hG.next hlt (by rw [eW]; have := of_decide_eq_false h; omega)⟩ ?_)
      simp only [Int.toNat_natCast]
      omega
    unfold m_large_divWords_b22
    rw [hvs, wn1, wn2, wjn]
    refine Gd.ite (fun h => ?_) (fun h => ?_)
    · have h := of_decide_eq_true h
      refine Gd.ix (by omega) (by rw [Int.toNat_natCast]; exact hy1) (dec (hG.less hS hq1 hqW (.inl (by rw [eW]; omega))))
    · have h := of_decide_eq_false h
      refine Gd.ix (by omega) (by rw [Int.toNat_natCast]; exact hy2) (Gd.ix (by omega) (by rw [Int.toNat_natCast]; exact hz2) ?_)
      have eor : IntKind.u64.wrap ((BitVec.ofInt (IntKind.u64).bits (shlV .u64 (rest : Int) 32) ||| BitVec.ofInt (IntKind.u64).bits (IntKind.u64.wrap (z2.n))).toNat) = ((rest * WB + u2 : Nat) : Int) := by
        rw [or_shift ⟨by omega, by omega⟩ (by rw [e3]; omega), e3, eW]; omega
      have egv : IntKind.u64.wrap ((g : Int) * (IntKind.u64.wrap (y2.n))) = ((g * v2 : Nat) : Int) := by
        have hb2 : g * v2 ≤ 4294967296 * 4294967295 := Nat.mul_le_mul (by omega) (by omega)
        rw [e2, u64_id (n := (v2 : Int)) (by omega), show (g : Int) * (v2 : Int) = ((g * v2 : Nat) : Int) by rw [Int.natCast_mul], u64_id (by omega)]
      rw [eor, egv]
      refine Gd.ite (fun h2 => Gd.ix (by omega) (by rw [Int.toNat_natCast]; exact hy1) (dec (hG.less hS hq1 hqW (.inr ?_)))) (fun h2 => hk g (hG.stop hS hq2 hv1 (by rw [eW]; omega) ?_))
      · exact Int.ofNat_lt.1 (of_decide_eq_true h2)
      · have := of_decide_eq_false h2
        exact Int.ofNat_le.1 (Int.not_lt.1 this)
  · simp only [FUEL, Int.toNat_natCast]
    have : g0 ≤ 4294967297 := h0.le
    omega
end Go.Sim
