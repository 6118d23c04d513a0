/-
  Numbers of any size: products, short division.
-/
import Derived.Test.YtfakgoeoclfoaaaGreatDoorLrgB
namespace Go.Sim
open Go
set_option linter.unusedVariables false
set_option linter.unusedSimpArgs false
set_option linter.unusedSectionVars false
set_option linter.unnecessarySimpa false

theorem nv_set {l : List U32} {k : Nat} {x v : U32} (h : l[k]? = some x) : nv (l.set k v) + WB ^ k * x.n.toNat = nv l + WB ^ k * v.n.toNat := by
  have hk := (List.getElem?_eq_some_iff.1 h).1
  have h1 := nv_split h
  have h2 : nv (l.set k v) = nv (l.take k) + WB ^ k * (v.n.toNat + WB * nv (l.drop (k + 1))) := by
    have := nv_split (l := l.set k v) (k := k) (x := v) (List.getElem?_set_self hk)
    rw [List.take_set_of_le (Nat.le_refl _), List.drop_set_of_lt (by omega)] at this
    exact this
  rw [Nat.mul_add] at h1 h2
  omega
theorem Wf.set {l : List U32} (h : Wf l) {k : Nat} {v : Int} (hv : 0 ≤ v ∧ v < 4294967296) : Wf (l.set k ⟨v⟩) := fun z hz => by
  rcases List.mem_or_eq_of_mem_set hz with hz | hz
  · exact h z hz
  · rw [hz]; exact hv
theorem mul_step {nz nz' nz0 P W c old x y s B T : Nat} (h1 : nz' + P * old = nz + P * (s % W)) (hs : s = c + old + x * y) (h2 : nz + P * c = nz0 + x * T * B) : nz' + P * W * (s / W) = nz0 + x * T * B + P * x * y := by
  have hd : s % W + W * (s / W) = s := Nat.mod_add_div s W
  have e : P * (s % W) + P * (W * (s / W)) = P * s := by rw [← Nat.mul_add, hd]
  have e2 : P * s = P * c + P * old + P * (x * y) := by rw [hs, Nat.mul_add, Nat.mul_add]
  rw [Nat.mul_assoc P W, Nat.mul_assoc P x]
  omega
theorem mul_gd {a b : LI} (ha : IOk a) (hb : IOk b) (hz : a.words.length + b.words.length ≤ 900000) :
    Gd (m_large_Int_Mul a b) (fun r => IOk r ∧ r.words.length ≤ a.words.length + b.words.length ∧ ival r = ival a * ival b) := by
  have wN : IntKind.i64.wrap ((a.words.length : Int) + (b.words.length : Int)) = ((a.words.length + b.words.length : Nat) : Int) := by rw [wrap_id ⟨by omega, by omega⟩]; omega
  unfold m_large_Int_Mul
  rw [wN]
  refine Gd.nd ⟨by omega, by omega⟩ ?_
  refine Gd.forI (fun i ys (z : List U32) => ys = a.words.drop i ∧ i ≤ a.words.length ∧ z.length = a.words.length + b.words.length ∧ Wf z ∧ nv z = nv (a.words.take i) * nv b.words ∧ ∀ q, i + b.words.length ≤ q → ∀ y, z[q]? = some y → y.n = 0) ?_ ?_ _ 0 _ ⟨by simp, by omega, by simp; omega, fun y hy => ?_, by rw [nv_zeros]; simp [nv], fun q _ y hy => ?_⟩
  · rintro i x ys z0 nx ⟨e0, e1, e2, e3, e4, e5⟩ hnx
    have hi : i < a.words.length := by
      have := congrArg List.length e0
      simp at this; omega
    have hx : a.words[i]? = some x := by
      have := congrArg (·[0]?) e0
      simpa [List.getElem?_drop] using this.symm
    have hys : ys = a.words.drop (i + 1) := by
      have := congrArg (List.drop 1) e0
      simpa using this
    have hxw := ha.wf x (List.mem_of_getElem? hx)
    unfold m_large_Int_Mul_b3
    refine Gd.forI (fun k bs (z : List U32 × Int) => bs = b.words.drop k ∧ k ≤ b.words.length ∧ z.1.length = a.words.length + b.words.length ∧ Wf z.1 ∧ 0 ≤ z.2 ∧ z.2 < 4294967296 ∧ nv z.1 + WB ^ (i + k) * z.2.toNat = nv z0 + x.n.toNat * nv (b.words.take k) * WB ^ i ∧ ∀ q, i + k ≤ q → z.1[q]? = z0[q]?) ?_ ?_ _ 0 _ ⟨by simp, by omega, e2, e3, Int.le_refl _, by show (0 : Int) < 4294967296; omega, by simp [nv], fun q _ => rfl⟩
    · rintro k y bs ⟨l, c⟩ nx2 ⟨f0, f1, f2, f3, f4, f5, f6, f7⟩ hnx2
      simp only at f2 f3 f4 f5 f6 f7 hnx2 ⊢
      have hk : k < b.words.length := by
        have := congrArg List.length f0
        simp at this; omega
      have hy : b.words[k]? = some y := by
        have := congrArg (·[0]?) f0
        simpa [List.getElem?_drop] using this.symm
      have hbs : bs = b.words.drop (k + 1) := by
        have := congrArg (List.drop 1) f0
        simpa using this
      have hyw := hb.wf y (List.mem_of_getElem? hy)
      obtain ⟨o, ho⟩ : ∃ o, l[i + k]? = some o := ⟨_, List.getElem?_eq_getElem (by omega)⟩
      have how := f3 o (List.mem_of_getElem? ho)
      have wj : IntKind.i64.wrap ((i : Int) + (k : Int)) = ((i + k : Nat) : Int) := by rw [wrap_id ⟨by omega, by omega⟩]; omega
      have hkn : (((i + k : Nat) : Int)).toNat = i + k := by omega
      have hxy0 : 0 ≤ x.n * y.n := Int.mul_nonneg hxw.1 hyw.1
      have hxy : x.n * y.n ≤ 4294967295 * 4294967295 := Int.mul_le_mul (by omega) (by omega) hyw.1 (by omega)
      have hs : IntKind.u64.wrap (c + (IntKind.u64.wrap ((IntKind.u64.wrap (o.n)) + (IntKind.u64.wrap ((IntKind.u64.wrap (x.n)) * (IntKind.u64.wrap (y.n))))))) = c + o.n + x.n * y.n := by
        rw [u64_id (n := o.n) (by omega), u64_id (n := x.n) (by omega), u64_id (n := y.n) (by omega), u64_id (n := x.n * y.n) (by omega), u64_id (n := o.n + x.n * y.n) (by omega), u64_id (by omega)]
        omega
      unfold m_large_Int_Mul_b4
      rw [wj]
      refine Gd.ix (by omega) (by rw [hkn]; exact ho) (Gd.ix (by omega) (by rw [hkn]; exact ho) ?_)
      rw [hs, hkn, shr32, u32w]
      have hxyn : x.n * y.n = ((x.n.toNat * y.n.toNat : Nat) : Int) := by
        rw [Int.natCast_mul, Int.toNat_of_nonneg hxw.1, Int.toNat_of_nonneg hyw.1]
      have hsn : c + o.n + x.n * y.n = ((c.toNat + o.n.toNat + x.n.toNat * y.n.toNat : Nat) : Int) := by rw [hxyn]; omega
      refine hnx2 _ ⟨hbs, by omega, by simp [f2], f3.set (by omega), by simp only; omega, by simp only; omega, ?_, fun q hq => ?_⟩
      · simp only
        have g := nv_set (l := l) (k := i + k) (x := o) (v := ⟨(c + o.n + x.n * y.n) % 4294967296⟩) ho
        simp only at g
        have g1 : ((c + o.n + x.n * y.n) % 4294967296).toNat = (c.toNat + o.n.toNat + x.n.toNat * y.n.toNat) % WB := by rw [hsn]; show _ = _ % 4294967296; omega
        have g2 : ((c + o.n + x.n * y.n) / 4294967296).toNat = (c.toNat + o.n.toNat + x.n.toNat * y.n.toNat) / WB := by rw [hsn]; show _ = _ / 4294967296; omega
        rw [g1] at g
        have := mul_step g rfl f6
        rw [g2, show i + (k + 1) = (i + k) + 1 by omega, Nat.pow_succ, this, nv_take hy, Nat.pow_add]
        rw [Nat.mul_add, Nat.add_mul, Nat.add_assoc]
        congr 2
        rw [Nat.mul_comm (WB ^ i) (WB ^ k), Nat.mul_comm (WB ^ k * WB ^ i) x.n.toNat, Nat.mul_assoc, Nat.mul_assoc, Nat.mul_assoc, Nat.mul_assoc, Nat.mul_comm y.n.toNat, Nat.mul_comm (WB ^ i) y.n.toNat]
      · simp only
        rw [List.getElem?_set_ne (by omega)]
        exact f7 q (by omega)
    · rintro k ⟨l, c⟩ ⟨f0, f1, f2, f3, f4, f5, f6, f7⟩
      simp only at f2 f3 f4 f5 f6 f7 ⊢
      have hk : k = b.words.length := by
        have := congrArg List.length f0
        simp at this; omega
      subst hk
      have wj : IntKind.i64.wrap ((i : Int) + (b.words.length : Int)) = ((i + b.words.length : Nat) : Int) := by rw [wrap_id ⟨by omega, by omega⟩]; omega
      have hkn : (((i + b.words.length : Nat) : Int)).toNat = i + b.words.length := by omega
      obtain ⟨o, ho⟩ : ∃ o, l[i + b.words.length]? = some o := ⟨_, List.getElem?_eq_getElem (by omega)⟩
      have ho0 : o.n = 0 := e5 _ (Nat.le_refl _) o (by rw [← f7 _ (Nat.le_refl _)]; exact ho)
      rw [wj]
      refine Gd.ix (by omega) (by rw [hkn]; exact ho) ?_
      rw [hkn, u32w, show c % 4294967296 = c by omega]
      refine hnx _ ⟨hys, by omega, by simp [f2], f3.set (by omega), ?_, fun q hq y hy => ?_⟩
      · have g := nv_set (l := l) (k := i + b.words.length) (x := o) (v := ⟨c⟩) ho
        simp only [ho0] at g
        rw [List.take_length] at f6
        rw [nv_take hx, Nat.add_mul, ← e4]
        have e : WB ^ i * x.n.toNat * nv b.words = x.n.toNat * nv b.words * WB ^ i := by rw [Nat.mul_comm (WB ^ i), Nat.mul_assoc, Nat.mul_comm (WB ^ i), ← Nat.mul_assoc]
        rw [e]
        simp at g
        omega
      · rw [List.getElem?_set_ne (by omega), f7 _ (by omega)] at hy
        exact e5 _ (by omega) y hy
  · rintro i z ⟨e0, e1, e2, e3, e4, e5⟩
    have hi : i = a.words.length := by
      have := congrArg List.length e0
      simp at this; omega
    subst hi
    rw [List.take_length] at e4
    refine Gd.bnd (norm_gd _ z e3 (by omega)) (fun r hr => Gd.ret ⟨hr.1, by omega, ?_⟩)
    rw [ival_of hr.2.2.1 hr.2.2.2, e4]
    unfold ival
    cases a.minus <;> cases b.minus <;> simp [Int.mul_neg, Int.neg_mul]
  · rw [List.mem_replicate] at hy
    rw [hy.2]; simp
  · have := List.mem_of_getElem? hy
    rw [List.mem_replicate] at this
    rw [this.2]

/-! ### Short division -/
theorem or_shift {r y : Int} (hr : 0 ≤ r ∧ r < 4294967296) (hy : 0 ≤ y ∧ y < 4294967296) :
    IntKind.u64.wrap ((BitVec.ofInt (IntKind.u64).bits (shlV .u64 r 32) ||| BitVec.ofInt (IntKind.u64).bits (IntKind.u64.wrap y)).toNat) = r * 4294967296 + y := by
  obtain ⟨n, rfl⟩ : ∃ n : Nat, r = n := ⟨r.toNat, by omega⟩
  obtain ⟨m, rfl⟩ : ∃ m : Nat, y = m := ⟨y.toNat, by omega⟩
  have e1 : shlV .u64 (n : Int) 32 = ((n * 4294967296 : Nat) : Int) := by
    unfold shlV
    rw [show (min (32 : Int).toNat IntKind.u64.bits) = 32 by decide, u64w]
    show (n : Int) * 4294967296 % 18446744073709551616 = _
    omega
  rw [e1, u64_id (n := (m : Int)) (by omega)]
  show IntKind.u64.wrap (((BitVec.ofInt 64 ((n * 4294967296 : Nat) : Int) ||| BitVec.ofInt 64 ((m : Nat) : Int)).toNat : Nat) : Int) = _
  rw [BitVec.ofInt_natCast, BitVec.ofInt_natCast, BitVec.toNat_or, BitVec.toNat_ofNat, BitVec.toNat_ofNat, Nat.mod_eq_of_lt (by omega), Nat.mod_eq_of_lt (by omega)]
  have e2 : n * 4294967296 ||| m = n * 4294967296 + m := by
    have := Nat.shiftLeft_add_eq_or_of_lt (i := 32) (b := m) (by omega) n
    rw [Nat.shiftLeft_eq] at this
    exact this.symm
  rw [e2, u64_id (by omega)]
  omega
theorem short_div {r y d : Int} (hr : 0 ≤ r ∧ r < d) (hy : 0 ≤ y ∧ y < 4294967296) (hd : 0 < d ∧ d < 4294967296) :
    ∃ q m : Nat, Int.tdiv (r * 4294967296 + y) d = q ∧ Int.tmod (r * 4294967296 + y) d = m ∧ q < 4294967296 ∧ (m : Int) < d ∧ m + d.toNat * q = WB * r.toNat + y.toNat := by
  obtain ⟨dn, rfl⟩ : ∃ dn : Nat, d = dn := ⟨d.toNat, by omega⟩
  obtain ⟨rn, rfl⟩ : ∃ rn : Nat, r = rn := ⟨r.toNat, by omega⟩
  obtain ⟨Y, rfl⟩ : ∃ Y : Nat, y = Y := ⟨y.toNat, by omega⟩
  have hdn : 0 < dn := by omega
  have e : ∀ W : Nat, Y < W → ∃ q m : Nat, Int.tdiv ((rn : Int) * W + Y) dn = q ∧ Int.tmod ((rn : Int) * W + Y) dn = m ∧ q < W ∧ m < dn ∧ m + dn * q = W * rn + Y := fun W hW => by
    have hN : rn * W + Y < dn * W := by
      have : (rn + 1) * W ≤ dn * W := Nat.mul_le_mul_right _ (by omega)
      rw [Nat.add_mul] at this
      omega
    have hc : (rn : Int) * W + Y = ((rn * W + Y : Nat) : Int) := by rw [Int.natCast_add, Int.natCast_mul]
    rw [hc]
    refine ⟨(rn * W + Y) / dn, (rn * W + Y) % dn, rfl, rfl, ?_, Nat.mod_lt _ hdn, ?_⟩
    · rw [Nat.div_lt_iff_lt_mul hdn, Nat.mul_comm W dn]; exact hN
    · rw [Nat.mod_add_div, Nat.mul_comm rn W]
  obtain ⟨q, m, h1, h2, h3, h4, h5⟩ := e WB (by show Y < 4294967296; omega)
  refine ⟨q, m, h1, h2, h3, by omega, ?_⟩
  simp only [Int.toNat_natCast]
  exact h5
theorem short_fin {q dn B m Y rn : Nat} (h1 : m + dn * q = WB * rn + Y) : (q + WB * B) * dn + m = Y + WB * (B * dn + rn) := by
  rw [Nat.add_mul, Nat.mul_add, Nat.mul_assoc WB, Nat.mul_comm q dn]
  generalize dn * q = Z at h1
  generalize WB * rn = X at h1 ⊢
  generalize WB * (B * dn) = T
  omega
theorem short_gd {a : List U32} (ha : Wf a) (hz : a.length ≤ 1000000) {d : Int} (hd : 0 < d ∧ d < 4294967296) :
    Gd (m_large_shortDiv a d) (fun r => Wf r.1 ∧ r.1.length = a.length ∧ nv r.1 = nv a / d.toNat ∧ r.2 = (nv a % d.toNat : Nat)) := by
  unfold m_large_shortDiv
  refine Gd.nd ⟨by omega, by omega⟩ ?_
  rw [wrap_id ⟨by omega, by omega⟩]
  refine Gd.loopF (fun (z : List U32 × Int × Int) => -1 ≤ z.2.2 ∧ z.2.2 < a.length ∧ z.1.length = a.length ∧ Wf z.1 ∧ 0 ≤ z.2.1 ∧ z.2.1 < d ∧ nv (z.1.drop (z.2.2 + 1).toNat) * d.toNat + z.2.1.toNat = nv (a.drop (z.2.2 + 1).toNat)) (fun z => (z.2.2 + 1).toNat) ?_ FUEL _ ⟨by simp only; omega, by simp only; omega, by simp, fun y hy => ?_, Int.le_refl _, by simp only; omega, ?_⟩ (by simp only [FUEL]; omega)
  · rintro ⟨l, r, i⟩ nx ⟨h1, h2, h3, h4, h5, h6, h7⟩ hnx
    simp only at h1 h2 h3 h4 h5 h6 h7 hnx ⊢
    unfold m_large_shortDiv_b1
    refine Gd.ite (fun hi => ?_) (fun hi => Gd.ret ?_)
    · have hi : 0 ≤ i := of_decide_eq_true hi
      obtain ⟨k, rfl⟩ : ∃ k : Nat, i = k := ⟨i.toNat, by omega⟩
      obtain ⟨y, hy⟩ : ∃ y, a[k]? = some y := ⟨_, List.getElem?_eq_getElem (by omega)⟩
      have hyw := ha y (List.mem_of_getElem? hy)
      have hkn : ((k : Int)).toNat = k := by omega
      rw [u64_id (n := d) (by omega)]
      refine Gd.ix (by omega) (by rw [hkn]; exact hy) (Gd.nd (by omega) (Gd.idxN (show k < l.length by omega) (Gd.nd (by omega) ?_)))
      rw [or_shift ⟨h5, by omega⟩ hyw]
      rw [show ((k : Int) + 1).toNat = k + 1 by omega] at h7
      obtain ⟨q, m, e1, e2, hqlt, hmlt, hdm⟩ := short_div ⟨h5, h6⟩ hyw hd
      rw [e1, e2, hkn, u64_id (n := (q : Int)) (by omega), u32w, wrap_id ⟨by omega, by omega⟩, show (q : Int) % 4294967296 = (q : Int) by omega]
      refine hnx _ ⟨by simp only; omega, by simp only; omega, by simp [h3], h4.set (by omega), by simp only; omega, by simp only; omega, ?_⟩ (by simp only; omega)
      simp only
      rw [show ((k : Int) - 1 + 1).toNat = k by omega, drop_at hy, drop_at (l := l.set k _) (List.getElem?_set_self (by omega)), List.drop_set_of_lt (by omega), nv, nv, ← h7]
      simp only [Int.toNat_natCast]
      exact short_fin hdm
    · have hi : ¬ 0 ≤ i := of_decide_eq_false hi
      rw [show (i + 1).toNat = 0 by omega, List.drop_zero, List.drop_zero] at h7
      have hdn : 0 < d.toNat := by omega
      refine ⟨h4, h3, ?_, ?_⟩
      · simp only
        rw [← h7, Nat.mul_comm, Nat.mul_add_div hdn, Nat.div_eq_of_lt (by omega)]; rfl
      · simp only
        rw [u32w, ← h7, Nat.mul_comm, Nat.mul_add_mod, Nat.mod_eq_of_lt (by omega)]
        omega
  · rw [List.mem_replicate] at hy
    rw [hy.2]; simp
  · simp only
    rw [show ((a.length : Int) - 1 + 1).toNat = a.length by omega, List.drop_length, List.drop_of_length_le (by simp)]
    simp [nv]
end Go.Sim
