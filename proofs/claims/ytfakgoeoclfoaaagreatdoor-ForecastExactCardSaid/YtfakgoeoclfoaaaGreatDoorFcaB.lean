/-
  The laws of package forecast over the models: shifts, residuals, values on a line.
-/
import Derived.Test.YtfakgoeoclfoaaaGreatDoorFcaA
namespace Go.Sim
open Go
set_option linter.unusedVariables false
set_option linter.unusedSimpArgs false
set_option linter.unusedSectionVars false
set_option linter.unnecessarySimpa false

theorem cl_val {q : Rat} {n : Nat} {d : Nat} (hn : q.num = (n : Int)) (hd : q.den = d) : cl q = Lib.decDigits n ++ (if d = 1 then [] else 47 :: Lib.decDigits d) := by
  unfold cl
  rw [hn, hd, Lib.itoa_nonneg]
theorem dig1 {n : Nat} (h : n < 10) : Lib.decDigits n = [UInt8.ofNat (48 + n)] := Lib.decDigits_one h
theorem forecast_fact : m_gridhallkeep4_forecastFact = some true := by
  have hl : LOk [1, 2, 5] := ⟨by decide, by decide⟩
  have s2 : slope [1, 2, 5] = 2 := by
    show (((3 : Int) * sxy 0 [1, 2, 5] - sx 3 * sumI [1, 2, 5] : Int) : Rat) / ((dn 3 : Int) : Rat) = 2
    decide +kernel
  have h2 : height [1, 2, 5] = 2/3 := by
    unfold height
    rw [s2]
    show ((sumI [1, 2, 5] : Int) : Rat) / ((3 : Int) : Rat) - 2 * ((sx 3 : Rat) / ((3 : Int) : Rat)) = 2/3
    decide +kernel
  have m2 : mean [1, 2, 5] 2 = 7/2 := by
    show ((sumI [2, 5] : Int) : Rat) / ((2 : Int) : Rat) = 7/2
    decide +kernel
  have n2 : (2 : Rat).num = ((2 : Nat) : Int) := by decide +kernel
  have d2 : (2 : Rat).den = 1 := by decide +kernel
  have n3 : (2/3 : Rat).num = ((2 : Nat) : Int) := by decide +kernel
  have d3 : (2/3 : Rat).den = 3 := by decide +kernel
  have n7 : (7/2 : Rat).num = ((7 : Nat) : Int) := by decide +kernel
  have d7 : (7/2 : Rat).den = 2 := by decide +kernel
  have nh : (1/2 : Rat).num = ((1 : Nat) : Int) := by decide +kernel
  have dh : (1/2 : Rat).den = 2 := by decide +kernel
  have n1 : (1 : Rat).num = ((1 : Nat) : Int) := by decide +kernel
  have d1 : (1 : Rat).den = 1 := by decide +kernel
  have c2 : ctext 2 = (⟨#[50]⟩ : ByteArray) := by unfold ctext; rw [cl_val n2 d2, dig1 (by omega)]; rfl
  have c3 : ctext (2/3) = (⟨#[50, 47, 51]⟩ : ByteArray) := by unfold ctext; rw [cl_val n3 d3, dig1 (by omega), dig1 (by omega)]; rfl
  have c7 : ctext (7/2) = (⟨#[55, 47, 50]⟩ : ByteArray) := by unfold ctext; rw [cl_val n7 d7, dig1 (by omega), dig1 (by omega)]; rfl
  have ch : ctext (1/2) = (⟨#[49, 47, 50]⟩ : ByteArray) := by unfold ctext; rw [cl_val nh dh, dig1 (by omega), dig1 (by omega)]; rfl
  have c1 : ctext 1 = (⟨#[49]⟩ : ByteArray) := by unfold ctext; rw [cl_val n1 d1, dig1 (by omega)]; rfl
  have hL := Line_ok hl (by decide)
  rw [s2, h2, c2, c3] at hL
  have hM := mean_ok hl (k := 2) (by decide) (by decide)
  rw [m2, c7] at hM
  have hS := qsum_ok (A := 1) (l := [1/2, 1/2]) (fun q hq => by
    have : q = 1/2 := by simpa using hq
    rw [this]
    have := RB.frac (m := 1) (d := 2) (by decide) (by decide) (by decide)
    simpa using this) (by decide) (by decide)
  have hs1 : sumQ [1/2, 1/2] = 1 := by decide +kernel
  rw [hs1, c1, List.map_cons, List.map_cons, List.map_nil, ch] at hS
  unfold m_gridhallkeep4_forecastFact
  rw [hL, Option.bind_some]
  show (m_forecast_Mean [1, 2, 5] ((2 : Nat) : Int)).bind _ = _
  rw [hM, Option.bind_some, hS, Option.bind_some]
  rfl
theorem int_ne {n : Int} (h : n ≠ 0) : (n : Rat) ≠ 0 := fun e => h (Rat.intCast_inj.1 (show ((n : Int) : Rat) = ((0 : Int) : Rat) from e))
theorem slc_take (l : List Int) (n : Nat) : slc l 0 ((min (l.length : Int) n : Int).toNat) = l.take n := by
  unfold slc
  rw [List.drop_zero]
  rcases Nat.le_total l.length n with h | h
  · rw [List.take_of_length_le (by omega), List.take_of_length_le h]
  · rw [show (min (l.length : Int) n).toNat - 0 = n by omega]

/-! ### residuals -/
theorem sum_res (a b : Rat) : ∀ (l : List Int) (k : Nat), sumQ (resL a b k l) = (sumI l : Rat) - (a * (((l.length : Int) * k + sx l.length : Int) : Rat) + b * ((l.length : Int) : Rat))
  | [], k => by
    show (0 : Rat) = ((0 : Int) : Rat) - (a * (((0 : Int) * k + 0 : Int) : Rat) + b * ((0 : Int) : Rat))
    rw [Int.zero_mul, Int.zero_add, Rat.intCast_zero]; grind
  | v :: r, k => by
    rw [resL, sumQ, sum_res a b r (k + 1), sumI, List.length_cons, sx]
    have e1 : ((((r.length + 1 : Nat) : Int) * (k : Int) + (sx r.length + (r.length : Int)) : Int) : Rat) = ((k : Int) : Rat) + ((((r.length : Int) * ((k + 1 : Nat) : Int) + sx r.length : Int)) : Rat) := by
      rw [← Rat.intCast_add]
      congr 1
      rw [show ((r.length + 1 : Nat) : Int) = (r.length : Int) + 1 by omega, show ((k + 1 : Nat) : Int) = (k : Int) + 1 by omega, Int.add_mul, Int.mul_add]; omega
    have e2 : (((r.length + 1 : Nat) : Int) : Rat) = 1 + ((r.length : Int) : Rat) := by
      rw [show ((r.length + 1 : Nat) : Int) = 1 + (r.length : Int) by omega, Rat.intCast_add, Rat.intCast_one]
    rw [e1, e2, Rat.intCast_add]
    generalize ((((r.length : Int) * ((k + 1 : Nat) : Int) + sx r.length : Int)) : Rat) = z
    grind
def wresL (k : Nat) : List Rat → List Rat
  | [] => []
  | q :: r => ((k : Int) : Rat) * q :: wresL (k + 1) r
theorem wresL_app : ∀ (p q : List Rat) (k : Nat), wresL k (p ++ q) = wresL k p ++ wresL (k + p.length) q
  | [], q, k => by simp [wresL]
  | v :: p, q, k => by
    rw [List.cons_append, wresL, wresL_app p q (k + 1), wresL, List.cons_append, List.length_cons, show k + (p.length + 1) = k + 1 + p.length by omega]
theorem wresL_len : ∀ (p : List Rat) (k : Nat), (wresL k p).length = p.length
  | [], _ => rfl
  | v :: p, k => by rw [wresL, List.length_cons, wresL_len p, List.length_cons]
/-- sums over places from k on -/
def sxF (k : Nat) : Nat → Int
  | 0 => 0
  | n + 1 => k + sxF (k + 1) n
def sxxF (k : Nat) : Nat → Int
  | 0 => 0
  | n + 1 => (k : Int) * k + sxxF (k + 1) n
theorem sxF_snoc : ∀ (n k : Nat), sxF k (n + 1) = sxF k n + ((k + n : Nat) : Int)
  | 0, k => by simp [sxF]
  | n + 1, k => by
    have := sxF_snoc n (k + 1)
    rw [sxF, this, sxF]; omega
theorem sxxF_snoc : ∀ (n k : Nat), sxxF k (n + 1) = sxxF k n + ((k + n : Nat) : Int) * ((k + n : Nat) : Int)
  | 0, k => by simp [sxxF]
  | n + 1, k => by
    have := sxxF_snoc n (k + 1)
    rw [sxxF, this, sxxF, show k + 1 + n = k + (n + 1) by omega, Int.add_assoc]
theorem sxF_eq : ∀ n, sxF 0 n = sx n
  | 0 => rfl
  | n + 1 => by rw [sxF_snoc, sxF_eq n, sx, Nat.zero_add]
theorem sxxF_eq : ∀ n, sxxF 0 n = sxx n
  | 0 => rfl
  | n + 1 => by rw [sxxF_snoc, sxxF_eq n, sxx, Nat.zero_add]
theorem sum_wres (a b : Rat) : ∀ (l : List Int) (k : Nat), sumQ (wresL k (resL a b k l)) = (sxy k l : Rat) - (a * (sxxF k l.length : Rat) + b * (sxF k l.length : Rat))
  | [], k => by
    show (0 : Rat) = ((0 : Int) : Rat) - (a * ((0 : Int) : Rat) + b * ((0 : Int) : Rat))
    rw [Rat.intCast_zero]; grind
  | v :: r, k => by
    rw [resL, wresL, sumQ, sum_wres a b r (k + 1), sxy, List.length_cons, sxxF, sxF]
    rw [Rat.intCast_add, Rat.intCast_add, Rat.intCast_add, Rat.intCast_mul, Rat.intCast_mul]
    grind
theorem line_eqs {l : List Int} (h : LOk l) (h2 : 2 ≤ l.length) :
    (sumI l : Rat) - (slope l * (sx l.length : Rat) + height l * ((l.length : Int) : Rat)) = 0 ∧ (sxy 0 l : Rat) - (slope l * (sxx l.length : Rat) + height l * (sx l.length : Rat)) = 0 := by
  have hd : ((dn l.length : Int) : Rat) ≠ 0 := int_ne (by have := dn_pos h2 h.len; omega)
  have hn : ((l.length : Int) : Rat) ≠ 0 := int_ne (by omega)
  have hdn : ((dn l.length : Int) : Rat) = ((l.length : Int) : Rat) * (sxx l.length : Rat) - (sx l.length : Rat) * (sx l.length : Rat) := by
    unfold dn
    rw [Rat.intCast_sub, Rat.intCast_mul, Rat.intCast_mul]
  unfold height slope
  rw [Rat.intCast_sub, Rat.intCast_mul, Rat.intCast_mul]
  generalize ((dn l.length : Int) : Rat) = d at hd hdn ⊢
  generalize ((l.length : Int) : Rat) = n at hn hdn ⊢
  generalize (sxx l.length : Rat) = xx at hdn ⊢
  generalize (sx l.length : Rat) = x at hdn ⊢
  generalize (sxy 0 l : Rat) = xy
  generalize (sumI l : Rat) = y
  constructor
  · grind
  · have e : d = n * xx - x * x := hdn
    have e1 : (n * xy - x * y) / d * d = n * xy - x * y := by grind
    generalize (n * xy - x * y) / d = s at e1 ⊢
    have e2 : y / n * n = y := by grind
    have e3 : x / n * n = x := by grind
    generalize y / n = yn at e2 ⊢
    generalize x / n = xn at e3 ⊢
    have key : n * (xy - (s * xx + (yn - s * xn) * x)) = 0 := by
      have : n * (xy - (s * xx + (yn - s * xn) * x)) = n * xy - s * (n * xx) - (yn * n) * x + s * (xn * n) * x := by grind
      rw [this, e2, e3]
      have : s * (n * xx - x * x) = n * xy - x * y := by rw [← e]; exact e1
      grind
    grind
theorem Residuals_of (l : List Int) : m_gridhallkeep4_ForecastResiduals l = some true := by
  refine Gd.eq.1 ?_
  unfold m_gridhallkeep4_ForecastResiduals
  refine Gd.nd (by omega) ?_
  rw [show (12 : Int) = ((12 : Nat) : Int) from rfl, slc_take]
  generalize ht : l.take 12 = t
  have htl : t.length ≤ 12 := by rw [← ht, List.length_take]; omega
  by_cases h : LOk t ∧ 2 ≤ t.length
  · obtain ⟨h, h2⟩ := h
    have hra := resL_rb (slope_rb h h2) (height_rb h h2) (l := t) (k := 0) h.val (by have := h.len; omega)
    have hlen : (resL (slope t) (height t) 0 t).length = t.length := resL_len _ _ _ _
    have hw : ∀ (R : List Rat) (k : Nat), k + R.length ≤ 48 → (∀ q ∈ R, RB q 11) → ∀ q ∈ wresL k R, RB q 12 := by
      intro R
      induction R with
      | nil => intro k _ _ q hq; cases hq
      | cons z R ih =>
        intro k hk hR q hq
        rw [List.length_cons] at hk
        rcases List.mem_cons.1 hq with rfl | hq
        · exact ((RB.small (m := (k : Int)) (by omega)).mul (hR z (List.mem_cons_self ..)) (by omega)).mono (by omega)
        · exact ih (k + 1) (by omega) (fun x hx => hR x (List.mem_cons_of_mem _ hx)) q hq
    refine Gd.bind_eq (resid_ok h h2) (Gd.ite (fun hx => by simp at hx) (fun _ => Gd.ite (fun hx => ?_) (fun _ => ?_)))
    · exfalso
      simp [hlen] at hx
    · obtain ⟨e1, e2⟩ := line_eqs h h2
      have s1 : sumQ (resL (slope t) (height t) 0 t) = 0 := by
        rw [sum_res]
        have : ((t.length : Int) * ((0 : Nat) : Int) + sx t.length) = sx t.length := by simp
        rw [this]; exact e1
      have s2 : sumQ (wresL 0 (resL (slope t) (height t) 0 t)) = 0 := by
        rw [sum_wres, sxxF_eq, sxF_eq]; exact e2
      generalize resL (slope t) (height t) 0 t = R at hra hlen s1 s2 ⊢
      refine Gd.forI (fun i ys (s : List ByteArray) => ∃ pre post, R = pre ++ post ∧ ys = post.map ctext ∧ i = pre.length ∧ s = (wresL 0 pre).map ctext) ?_ ?_ (R.map ctext) 0 _ ⟨[], R, rfl, rfl, rfl, rfl⟩
      · rintro i y ys s nx ⟨pre, post, q1, q2, rfl, rfl⟩ hnx
        cases post with
        | nil => simp at q2
        | cons z post =>
          simp only [List.map_cons, List.cons.injEq] at q2
          obtain ⟨rfl, rfl⟩ := q2
          have hpl : pre.length + 1 ≤ R.length := by rw [q1]; simp
          have hz : RB z 11 := hra z (by rw [q1]; simp)
          have hk : RB ((pre.length : Int) : Rat) 1 := RB.small (by omega)
          have hkz : RB (((pre.length : Int) : Rat) * z) 12 := hk.mul hz (by omega)
          have hone : ((pre.length : Int) : Rat) / ((1 : Int) : Rat) = ((pre.length : Int) : Rat) := by rw [Rat.intCast_one]; grind
          unfold m_gridhallkeep4_ForecastResiduals_b1
          refine Gd.bind_eq (bof (n := (pre.length : Int)) (d := 1) ⟨by omega, by omega⟩ ⟨by omega, by omega⟩ (by omega)) ?_
          rw [hone, tx_ok (hk.fits (by decide))]
          refine Gd.bind_eq (bmul (hk.fits (by decide)) (hz.fits (by decide))) ?_
          rw [tx_ok (hkz.fits (by decide))]
          refine Gd.ite (fun hx => by simp at hx) (fun _ => Gd.nd ?_ (hnx _ ⟨pre ++ [z], post, by rw [q1]; simp, rfl, by simp, ?_⟩))
          · rw [List.length_map, wresL_len]; simp only [List.length_singleton]; omega
          · rw [wresL_app, List.map_append, Nat.zero_add]; rfl
      · rintro i s ⟨pre, post, q1, q2, q3, rfl⟩
        cases post with
        | cons z post => simp at q2
        | nil =>
          rw [List.append_nil] at q1
          subst q1
          have hs1 := qsum_ok (A := 11) hra (by decide) (by omega)
          have hs2 := qsum_ok (A := 12) (hw R 0 (by omega) hra) (by decide) (by rw [wresL_len]; omega)
          rw [s1, zero_text] at hs1
          rw [s2, zero_text] at hs2
          exact Gd.bind_eq hs1 (Gd.bind_eq hs2 (Gd.bind_eq forecast_fact (Gd.ret rfl)))
  · obtain ⟨c, hc, e⟩ := resid_no h
    exact Gd.bind_eq e (Gd.ite (fun _ => Gd.bind_eq forecast_fact (Gd.ret rfl)) (fun hx => by simp [hc] at hx))

/-! ### a number is added to all values -/
def upL2 (by_ : Int) (l : List Int) : List Int := l.map (· + by_)
theorem sumI_up (b : Int) : ∀ l : List Int, sumI (upL2 b l) = sumI l + (l.length : Int) * b
  | [] => by simp [upL2, sumI]
  | v :: r => by
    have := sumI_up b r
    unfold upL2 at this ⊢
    rw [List.map_cons, sumI, this, sumI, List.length_cons, show ((r.length + 1 : Nat) : Int) = (r.length : Int) + 1 by omega, Int.add_mul]; omega
theorem sxy_up (b : Int) : ∀ (l : List Int) (k : Nat), sxy k (upL2 b l) = sxy k l + sxF k l.length * b
  | [], k => by simp [upL2, sxy, sxF]
  | v :: r, k => by
    have := sxy_up b r (k + 1)
    unfold upL2 at this ⊢
    rw [List.map_cons, sxy, this, sxy, List.length_cons, sxF, Int.mul_add, Int.add_mul]; omega
theorem slope_up (l : List Int) (b : Int) : slope (upL2 b l) = slope l := by
  unfold slope
  have hl : (upL2 b l).length = l.length := List.length_map _
  rw [hl, sxy_up, sumI_up, sxF_eq]
  congr 2
  rw [Int.mul_add, Int.mul_add, ← Int.mul_assoc, ← Int.mul_assoc, Int.mul_comm (sx l.length) (l.length : Int)]; omega
theorem height_up {l : List Int} (h2 : 1 ≤ l.length) (b : Int) : height (upL2 b l) = height l + (b : Rat) := by
  unfold height
  have hl : (upL2 b l).length = l.length := List.length_map _
  have hn : ((l.length : Int) : Rat) ≠ 0 := int_ne (by omega)
  rw [hl, slope_up, sumI_up, Rat.intCast_add, Rat.intCast_mul]
  generalize ((l.length : Int) : Rat) = n at hn ⊢
  generalize slope l * ((sx l.length : Rat) / n) = z
  grind
theorem mean_up {l : List Int} (b : Int) {k : Nat} (h1 : 1 ≤ k) (h2 : k ≤ l.length) : mean (upL2 b l) k = mean l k + (b : Rat) := by
  unfold mean
  have hl : (upL2 b l).length = l.length := List.length_map _
  have hk : ((k : Int) : Rat) ≠ 0 := int_ne (by omega)
  have hd : (upL2 b l).drop (l.length - k) = upL2 b (l.drop (l.length - k)) := by unfold upL2; rw [List.map_drop]
  have hlen : (l.drop (l.length - k)).length = k := by rw [List.length_drop]; omega
  rw [hl, hd, sumI_up, hlen, Rat.intCast_add, Rat.intCast_mul]
  generalize ((k : Int) : Rat) = n at hk ⊢
  grind
theorem ahead_up {l : List Int} (h2 : 1 ≤ l.length) (b : Int) (k : Nat) : ahead (upL2 b l) k = ahead l k + (b : Rat) := by
  unfold ahead
  have hl : (upL2 b l).length = l.length := List.length_map _
  rw [hl, slope_up, height_up h2, Rat.add_assoc]
theorem Shifts_of (l : List Int) (b k : Int) (hl : ∀ v ∈ l, -9223372036854775808 ≤ v ∧ v ≤ 9223372036854775807) (hb : -9223372036854775808 ≤ b ∧ b ≤ 9223372036854775807) (hk : -9223372036854775808 ≤ k ∧ k ≤ 9223372036854775807) :
    m_gridhallkeep4_ForecastShifts l b k = some true := by
  refine Gd.eq.1 ?_
  unfold m_gridhallkeep4_ForecastShifts
  rw [show (12 : Int) = ((12 : Nat) : Int) from rfl, slc_take]
  have htl : (l.take 12).length ≤ 12 := by rw [List.length_take]; omega
  have htv : ∀ v ∈ l.take 12, -9223372036854775808 ≤ v ∧ v ≤ 9223372036854775807 := fun v hv => hl v (List.mem_of_mem_take hv)
  generalize l.take 12 = t at htl htv ⊢
  refine Gd.nd (by omega) (Gd.nd (by omega) (Gd.bnd (cut_gd (n := b) (lo := -500) (hi := 500) (by omega) (by omega) (by omega) hb) (fun B hB => Gd.bnd (cut_gd (n := k) (lo := 1) (hi := ((12 : Nat) : Int)) (by omega) (by omega) (by omega) hk) (fun K hK => ?_))))
  obtain ⟨K, rfl⟩ : ∃ n : Nat, K = n := ⟨K.toNat, by omega⟩
  rw [Int.toNat_natCast]
  refine Gd.forN (fun m i (s : List Int × List Int) => m + i = t.length ∧ ∃ pre, pre.length = i ∧ (∀ v ∈ pre, -9000 ≤ v ∧ v ≤ 9000) ∧ s.1 = pre ++ t.drop i ∧ s.2 = upL2 B pre) ?_ ?_ t.length 0 _ ⟨rfl, [], rfl, by simp, by simp, rfl⟩
  · rintro m i ⟨s1, s2⟩ nx ⟨h1, pre, h2, h3, h4, h5⟩ hnx
    simp only at h4 h5 hnx ⊢
    subst h4 h5
    obtain ⟨y, hy⟩ : ∃ y, t[i]? = some y := ⟨_, List.getElem?_eq_getElem (by omega)⟩
    have hd : t.drop i = y :: t.drop (i + 1) := by
      obtain ⟨h, e⟩ := List.getElem?_eq_some_iff.1 hy
      rw [← e]; exact List.drop_eq_getElem_cons h
    have hyw := htv y (List.mem_of_getElem? hy)
    have e1 : (pre ++ t.drop i)[i]? = some y := by rw [List.getElem?_append_right (by omega), h2, Nat.sub_self, hd]; rfl
    unfold m_gridhallkeep4_ForecastShifts_b1
    refine Gd.ix (by omega) (by rw [Int.toNat_natCast]; exact e1) (Gd.bnd (cut_gd (n := y) (lo := -9000) (hi := 9000) (by omega) (by omega) (by omega) hyw) (fun c hc => Gd.ix (by omega) (by rw [Int.toNat_natCast]; exact e1) ?_))
    rw [Int.toNat_natCast]
    have e2 : (pre ++ t.drop i).set i c = (pre ++ [c]) ++ t.drop (i + 1) := by
      rw [List.set_append_right _ _ (by omega), h2, Nat.sub_self, hd, List.set_cons_zero]; simp
    have e3 : ((pre ++ [c]) ++ t.drop (i + 1))[i]? = some c := by
      rw [List.append_assoc, List.getElem?_append_right (by omega), h2, Nat.sub_self]; rfl
    rw [e2]
    refine Gd.ix (by omega) (by rw [Int.toNat_natCast]; exact e3) ?_
    rw [wrap_id (n := c + B) ⟨by omega, by omega⟩]
    have hul : (upL2 B pre).length = pre.length := List.length_map _
    refine Gd.nd (by rw [hul]; simp only [List.length_singleton]; omega) (hnx _ ⟨by omega, pre ++ [c], by simp; omega, ?_, rfl, ?_⟩)
    · intro v hv
      rcases List.mem_append.1 hv with hv | hv
      · exact h3 v hv
      · rw [List.mem_singleton] at hv; subst hv; exact hc
    · simp [upL2]
  · rintro i ⟨s1, s2⟩ ⟨h1, pre, h2, h3, h4, h5⟩
    simp only at h4 h5 ⊢
    rw [List.drop_of_length_le (by omega), List.append_nil] at h4
    subst h5
    have h4 := h4.symm
    subst h4
    have hpl : pre.length ≤ 12 := by omega
    have ok1 : LOk pre := ⟨by omega, fun v hv => by have := h3 v hv; omega⟩
    have ok2 : LOk (upL2 B pre) := ⟨by have : (upL2 B pre).length = pre.length := List.length_map _; omega, fun v hv => by
      obtain ⟨z, hz, rfl⟩ := List.mem_map.1 hv
      have := h3 z hz; omega⟩
    have hul : (upL2 B pre).length = pre.length := List.length_map _
    have hBr : RB (B : Rat) 1 := RB.small (by omega)
    have hone : (B : Rat) / ((1 : Int) : Rat) = (B : Rat) := by rw [Rat.intCast_one]; grind
    refine Gd.bind_eq (bof (n := B) (d := 1) ⟨by omega, by omega⟩ ⟨by omega, by omega⟩ (by omega)) ?_
    rw [hone, tx_ok (hBr.fits (by decide))]
    have hfin : Gd m_gridhallkeep4_ForecastShifts_b2 (fun x => x = true) := by
      unfold m_gridhallkeep4_ForecastShifts_b2
      exact Gd.bind_eq forecast_fact (Gd.ret rfl)
    have hb3 : ∀ {p : ByteArray × Int} {r1 r2 : ByteArray × Int}, (∃ a a2 : Rat, fits a ∧ fits a2 ∧ a2 = a + (B : Rat) ∧ r1 = (ctext a, 0) ∧ r2 = (ctext a2, 0)) ∨ r1.2 ≠ 0 → Gd (m_gridhallkeep4_ForecastShifts_b3 (ctext (B : Rat), 0) r1 r2) (fun x => x = true) := by
      intro p r1 r2 h
      unfold m_gridhallkeep4_ForecastShifts_b3
      rcases h with ⟨a, a2, f1, f2, e, rfl, rfl⟩ | h
      · refine Gd.ite (fun _ => ?_) (fun hx => by simp at hx)
        refine Gd.bind_eq (badd f1 (hBr.fits (by decide))) ?_
        rw [← e, tx_ok f2]
        exact Gd.ite (fun hx => by simp at hx) (fun _ => hfin)
      · exact Gd.ite (fun hx => absurd (of_decide_eq_true hx) h) (fun _ => hfin)
    have aheads : ∃ r1 r2, m_forecast_Ahead pre (K : Int) = some r1 ∧ m_forecast_Ahead (upL2 B pre) (K : Int) = some r2 ∧ r1.2 = r2.2 ∧ Gd (m_gridhallkeep4_ForecastShifts_b3 (ctext (B : Rat), 0) r1 r2) (fun x => x = true) := by
      rcases Nat.lt_or_ge pre.length 2 with hlt | hge
      · exact ⟨_, _, ahead_short ok1 hlt _, ahead_short ok2 (by omega) _, rfl, hb3 (p := (⟨#[]⟩, 0)) (.inr (by decide))⟩
      · refine ⟨_, _, ahead_ok ok1 hge (by omega), ahead_ok ok2 (by omega) (by omega), rfl, hb3 (p := (⟨#[]⟩, 0)) (.inl ⟨_, _, ahead_fits ok1 hge (by omega), ahead_fits ok2 (by omega) (by omega), ahead_up (by omega) B K, rfl, rfl⟩)⟩
    obtain ⟨a1, a2, ea1, ea2, ea3, ea4⟩ := aheads
    have means : ∃ r1 r2, m_forecast_Mean pre (K : Int) = some r1 ∧ m_forecast_Mean (upL2 B pre) (K : Int) = some r2 ∧ r1.2 = r2.2 ∧ (r1.2 ≠ 0 ∨ ∃ a a2 : Rat, fits a ∧ fits a2 ∧ a2 = a + (B : Rat) ∧ r1 = (ctext a, 0) ∧ r2 = (ctext a2, 0)) := by
      rcases Nat.lt_or_ge pre.length K with hlt | hge
      · exact ⟨_, _, mean_bad ok1 (.inr (by omega)), mean_bad ok2 (.inr (by omega)), rfl, .inl (by decide)⟩
      · exact ⟨_, _, mean_ok ok1 (by omega) hge, mean_ok ok2 (by omega) (by omega), rfl, .inr ⟨_, _, mean_fits ok1 (by omega) hge, mean_fits ok2 (by omega) (by omega), mean_up B (by omega) hge, rfl, rfl⟩⟩
    obtain ⟨m1, m2, em1, em2, em3, em4⟩ := means
    refine Gd.bind_eq em1 (Gd.bind_eq em2 (Gd.bind_eq ea1 (Gd.bind_eq ea2 (Gd.ite (fun hx => ?_) (fun _ => ?_)))))
    · exfalso
      simp [em3, ea3] at hx
    · rcases em4 with hm | ⟨a, a', f1, f2, e, rfl, rfl⟩
      · exact Gd.ite (fun hx => absurd (of_decide_eq_true hx) hm) (fun _ => ea4)
      · refine Gd.ite (fun _ => ?_) (fun hx => by simp at hx)
        refine Gd.bind_eq (badd f1 (hBr.fits (by decide))) ?_
        rw [← e, tx_ok f2]
        exact Gd.ite (fun hx => by simp at hx) (fun _ => ea4)

/-! ### values on a line -/
def onLine (a b : Int) (n : Nat) : List Int := (List.range n).map fun i : Nat => a + b * (i : Int)
theorem onLine_succ (a b : Int) (n : Nat) : onLine a b (n + 1) = onLine a b n ++ [a + b * (n : Int)] := by unfold onLine; rw [List.range_succ, List.map_append]; rfl
theorem onLine_len (a b : Int) (n : Nat) : (onLine a b n).length = n := by unfold onLine; simp
theorem sumI_line (a b : Int) : ∀ n, sumI (onLine a b n) = a * (n : Int) + b * sx n
  | 0 => by simp [onLine, sumI, sx]
  | n + 1 => by
    rw [onLine_succ, sumI_app, sumI_line a b n, sx]
    simp only [sumI]
    rw [Int.mul_add, show ((n + 1 : Nat) : Int) = (n : Int) + 1 by omega, Int.mul_add]; omega
theorem sxy_line (a b : Int) : ∀ n, sxy 0 (onLine a b n) = a * sx n + b * sxx n
  | 0 => by simp [onLine, sxy, sx, sxx]
  | n + 1 => by
    rw [onLine_succ, sxy_app, sxy_line a b n, sx, sxx, onLine_len]
    simp only [sxy, Nat.zero_add]
    rw [Int.mul_add, Int.mul_add, Int.mul_add, Int.mul_comm (n : Int) a, ← Int.mul_assoc, Int.mul_comm (n : Int) b, Int.mul_assoc]; omega
theorem slope_line {a b : Int} {n : Nat} (h2 : 2 ≤ n) (h48 : n ≤ 48) : slope (onLine a b n) = (b : Rat) := by
  have hd : ((dn n : Int) : Rat) ≠ 0 := int_ne (by have := dn_pos h2 h48; omega)
  unfold slope
  rw [onLine_len, sumI_line, sxy_line]
  have e : (n : Int) * (a * sx n + b * sxx n) - sx n * (a * (n : Int) + b * sx n) = b * dn n := by
    unfold dn
    rw [Int.mul_add, Int.mul_add, Int.mul_sub]
    have e1 : (n : Int) * (a * sx n) = sx n * (a * (n : Int)) := by rw [Int.mul_left_comm (n : Int) a, Int.mul_left_comm (sx n) a, Int.mul_comm (n : Int)]
    have e2 : (n : Int) * (b * sxx n) = b * ((n : Int) * sxx n) := Int.mul_left_comm ..
    have e3 : sx n * (b * sx n) = b * (sx n * sx n) := Int.mul_left_comm ..
    omega
  rw [e, Rat.intCast_mul]
  generalize ((dn n : Int) : Rat) = d at hd ⊢
  grind
theorem height_line {a b : Int} {n : Nat} (h2 : 2 ≤ n) (h48 : n ≤ 48) : height (onLine a b n) = (a : Rat) := by
  have hn : ((n : Int) : Rat) ≠ 0 := int_ne (by omega)
  unfold height
  rw [slope_line h2 h48, onLine_len, sumI_line, Rat.intCast_add, Rat.intCast_mul, Rat.intCast_mul]
  generalize ((n : Int) : Rat) = m at hn ⊢
  generalize (sx n : Rat) = x
  grind
theorem res_line (a b : Int) : ∀ n, resL (b : Rat) (a : Rat) 0 (onLine a b n) = List.replicate n 0
  | 0 => rfl
  | n + 1 => by
    rw [onLine_succ, resL_app, res_line a b n, onLine_len, List.replicate_succ']
    congr 1
    simp only [resL, Nat.zero_add]
    congr 1
    rw [Rat.intCast_add, Rat.intCast_mul]; grind
theorem Exact_of (a b n k : Int) (ha : -9223372036854775808 ≤ a ∧ a ≤ 9223372036854775807) (hb : -9223372036854775808 ≤ b ∧ b ≤ 9223372036854775807) (hn : -9223372036854775808 ≤ n ∧ n ≤ 9223372036854775807) (hk : -9223372036854775808 ≤ k ∧ k ≤ 9223372036854775807) :
    m_gridhallkeep4_ForecastExact a b n k = some true := by
  refine Gd.eq.1 ?_
  unfold m_gridhallkeep4_ForecastExact
  refine Gd.bnd (cut_gd (n := a) (lo := -900) (hi := 900) (by omega) (by omega) (by omega) ha) (fun A hA => Gd.bnd (cut_gd (n := b) (lo := -900) (hi := 900) (by omega) (by omega) (by omega) hb) (fun B hB => Gd.bnd (cut_gd (n := n) (lo := 2) (hi := 30) (by omega) (by omega) (by omega) hn) (fun N hN => Gd.bnd (cut_gd (n := k) (lo := 0) (hi := 40) (by omega) (by omega) (by omega) hk) (fun K hK => Gd.nd (by omega) ?_))))
  obtain ⟨N, rfl⟩ : ∃ m : Nat, N = m := ⟨N.toNat, by omega⟩
  obtain ⟨K, rfl⟩ : ∃ m : Nat, K = m := ⟨K.toNat, by omega⟩
  rw [Int.toNat_natCast]
  have hmul : ∀ i : Nat, i ≤ 80 → -72000 ≤ B * (i : Int) ∧ B * (i : Int) ≤ 72000 := fun i hi => by
    have := mul48 (a := B) (A := 900) (b := (i : Int)) (B := 80) ⟨by omega, by omega⟩ ⟨by omega, by omega⟩ (by omega)
    omega
  refine Gd.forN (fun m i (s : List Int) => m + i = N ∧ s = onLine A B i) ?_ ?_ N 0 _ ⟨rfl, rfl⟩
  · rintro m i s nx ⟨h1, rfl⟩ hnx
    have := hmul i (by omega)
    unfold m_gridhallkeep4_ForecastExact_b1
    rw [wrap_id (n := B * (i : Int)) ⟨by omega, by omega⟩, wrap_id (n := A + B * (i : Int)) ⟨by omega, by omega⟩]
    refine Gd.nd (by rw [onLine_len]; simp only [List.length_singleton]; omega) (hnx _ ⟨by omega, (onLine_succ A B i).symm⟩)
  · rintro i s ⟨h1, rfl⟩
    have hi : i = N := by omega
    subst hi
    have hlen := onLine_len A B i
    have ok : LOk (onLine A B i) := ⟨by omega, fun v hv => by
      unfold onLine at hv
      obtain ⟨j, hj, rfl⟩ := List.mem_map.1 hv
      have := hmul j (by have := List.mem_range.1 hj; omega)
      omega⟩
    have hkk := hmul (i - 1 + K) (by omega)
    have e0 : (i : Int) - 1 + (K : Int) = ((i - 1 + K : Nat) : Int) := by omega
    rw [wrap_id (n := (i : Int) - 1) ⟨by omega, by omega⟩, wrap_id (n := (i : Int) - 1 + (K : Int)) ⟨by omega, by omega⟩, e0, wrap_id (n := B * ((i - 1 + K : Nat) : Int)) ⟨by omega, by omega⟩, wrap_id (n := A + B * ((i - 1 + K : Nat) : Int)) ⟨by omega, by omega⟩]
    have hr := resid_ok ok (by omega)
    rw [slope_line (by omega) (by omega), height_line (by omega) (by omega), res_line] at hr
    have hah : ahead (onLine A B i) K = ((A + B * ((i - 1 + K : Nat) : Int) : Int) : Rat) := by
      unfold ahead
      rw [slope_line (by omega) (by omega), height_line (by omega) (by omega), onLine_len, e0, Rat.intCast_add, Rat.intCast_mul, Rat.add_comm]
    have hone : ((A + B * ((i - 1 + K : Nat) : Int) : Int) : Rat) / ((1 : Int) : Rat) = ((A + B * ((i - 1 + K : Nat) : Int) : Int) : Rat) := by rw [Rat.intCast_one]; grind
    have hrb : RB ((A + B * ((i - 1 + K : Nat) : Int) : Int) : Rat) 1 := RB.small (by omega)
    refine Gd.bind_eq hr (Gd.bind_eq (ahead_ok ok (by omega) (by omega)) (Gd.bind_eq (bof (n := A + B * ((i - 1 + K : Nat) : Int)) (d := 1) ⟨by omega, by omega⟩ ⟨by omega, by omega⟩ (by omega)) ?_))
    rw [hone, hah, tx_ok (hrb.fits (by decide))]
    refine Gd.bind_eq forecast_fact (Gd.ite (fun _ => Gd.ite (fun _ => Gd.ite (fun _ => Gd.ite (fun _ => Gd.ite (fun _ => Gd.ite (fun _ => ?_) (fun hx => ?_)) (fun hx => by simp at hx)) (fun hx => by simp at hx)) (fun hx => by simp at hx)) (fun hx => by simp at hx)) (fun hx => by simp at hx))
    · unfold m_slices_ContainsFunc_api_Rat_api_Rat__gridhallkeep4_ForecastExact_1 m_slices_IndexFunc_api_Rat_api_Rat__gridhallkeep4_ForecastExact_1
      have key := idxF (l := (List.replicate i (0 : Rat)).map ctext) (p := m_gridhallkeep4_ForecastExact_1) (body := fun k s114 n => m_slices_IndexFunc_api_Rat_api_Rat__gridhallkeep4_ForecastExact_1_b1 ((List.replicate i (0 : Rat)).map ctext) k n) (fun k nx y Q hy h1 h2 => by
        unfold m_slices_IndexFunc_api_Rat_api_Rat__gridhallkeep4_ForecastExact_1_b1
        refine Gd.ix (by omega) (by rw [Int.toNat_natCast]; exact hy) (Gd.ite (fun hp => Gd.ret (h1 hp)) (fun hp => h2 hp)))
      refine Gd.bnd (Gd.bnd key (fun r hr => Gd.ret (Q := fun b => b = false) ?_)) (fun b hb => by subst hb; exact Gd.ret rfl)
      refine decide_eq_false fun h0 => ?_
      obtain ⟨y, hy, hp⟩ := hr.1 h0
      obtain ⟨q, hq, rfl⟩ := List.mem_map.1 hy
      rw [(List.mem_replicate.1 hq).2, zero_text] at hp
      exact absurd hp (by decide)
    · simp at hx
end Go.Sim
