/-
  The law of smoothed values over the models.
-/
import Derived.Test.YtfakgoeoclfoaaaGreatDoorFcaB
namespace Go.Sim
open Go
set_option linter.unusedVariables false
set_option linter.unusedSimpArgs false
set_option linter.unusedSectionVars false
set_option linter.unnecessarySimpa false

/-- a smoothed value -/
def smo (t : Rat) : Rat → List Int → Rat
  | s, [] => s
  | s, v :: r => smo t (s + ((v : Rat) - s) * t) r
theorem smo_snoc (t : Rat) : ∀ (l : List Int) (s : Rat) (v : Int), smo t s (l ++ [v]) = smo t s l + ((v : Rat) - smo t s l) * t
  | [], s, v => rfl
  | x :: l, s, v => smo_snoc t l _ v
/-- A value that is N / q ^ j, between lo and hi. -/
def Conv (q : Nat) (lo hi : Int) (j : Nat) (s : Rat) : Prop := ∃ N : Int, s = (N : Rat) / (((q ^ j : Nat) : Int) : Rat) ∧ lo * ((q ^ j : Nat) : Int) ≤ N ∧ N ≤ hi * ((q ^ j : Nat) : Int)
theorem conv_step {q p : Nat} (hq : 0 < q) (hp : p ≤ q) {lo hi v : Int} (hv : lo ≤ v ∧ v ≤ hi) {j : Nat} {s : Rat} (h : Conv q lo hi j s) :
    Conv q lo hi (j + 1) (s + ((v : Rat) - s) * (((p : Int) : Rat) / ((q : Int) : Rat))) := by
  obtain ⟨N, e, h1, h2⟩ := h
  have hQ : (((q ^ j : Nat) : Int) : Rat) ≠ 0 := int_ne (by have : 0 < q ^ j := Nat.pow_pos hq; omega)
  have hq0 : ((q : Int) : Rat) ≠ 0 := int_ne (by omega)
  have hQ1 : ((q ^ (j + 1) : Nat) : Int) = ((q ^ j : Nat) : Int) * (q : Int) := by rw [Nat.pow_succ, Int.natCast_mul]
  have hQp : 0 ≤ ((q ^ j : Nat) : Int) := Int.natCast_nonneg _
  refine ⟨N * ((q : Int) - p) + v * (p : Int) * ((q ^ j : Nat) : Int), ?_, ?_, ?_⟩
  · rw [hQ1, e, Rat.intCast_add, Rat.intCast_mul, Rat.intCast_mul, Rat.intCast_mul, Rat.intCast_mul, Rat.intCast_sub]
    generalize (((q ^ j : Nat) : Int) : Rat) = Q at hQ ⊢
    generalize ((q : Int) : Rat) = a at hq0 ⊢
    generalize ((p : Int) : Rat) = b
    generalize (N : Rat) = n
    generalize (v : Rat) = w
    grind
  · rw [hQ1]
    have e1 : lo * ((q ^ j : Nat) : Int) * ((q : Int) - p) ≤ N * ((q : Int) - p) := Int.mul_le_mul_of_nonneg_right h1 (by omega)
    have e2 : lo * ((p : Int) * ((q ^ j : Nat) : Int)) ≤ v * ((p : Int) * ((q ^ j : Nat) : Int)) := Int.mul_le_mul_of_nonneg_right hv.1 (Int.mul_nonneg (by omega) hQp)
    have e3 : lo * (((q ^ j : Nat) : Int) * (q : Int)) = lo * ((q ^ j : Nat) : Int) * ((q : Int) - p) + lo * ((p : Int) * ((q ^ j : Nat) : Int)) := by
      generalize ((q ^ j : Nat) : Int) = Q; grind
    have e4 : v * (p : Int) * ((q ^ j : Nat) : Int) = v * ((p : Int) * ((q ^ j : Nat) : Int)) := Int.mul_assoc ..
    omega
  · rw [hQ1]
    have e1 : N * ((q : Int) - p) ≤ hi * ((q ^ j : Nat) : Int) * ((q : Int) - p) := Int.mul_le_mul_of_nonneg_right h2 (by omega)
    have e2 : v * ((p : Int) * ((q ^ j : Nat) : Int)) ≤ hi * ((p : Int) * ((q ^ j : Nat) : Int)) := Int.mul_le_mul_of_nonneg_right hv.2 (Int.mul_nonneg (by omega) hQp)
    have e3 : hi * (((q ^ j : Nat) : Int) * (q : Int)) = hi * ((q ^ j : Nat) : Int) * ((q : Int) - p) + hi * ((p : Int) * ((q ^ j : Nat) : Int)) := by
      generalize ((q ^ j : Nat) : Int) = Q; grind
    have e4 : v * (p : Int) * ((q ^ j : Nat) : Int) = v * ((p : Int) * ((q ^ j : Nat) : Int)) := Int.mul_assoc ..
    omega
theorem conv_zero {q : Nat} {lo hi v : Int} (hv : lo ≤ v ∧ v ≤ hi) : Conv q lo hi 0 (v : Rat) := by
  refine ⟨v, ?_, ?_, ?_⟩
  · rw [Nat.pow_zero]
    show (v : Rat) = (v : Rat) / ((1 : Int) : Rat)
    rw [Rat.intCast_one]; grind
  · rw [Nat.pow_zero]; simp; exact hv.1
  · rw [Nat.pow_zero]; simp; exact hv.2
theorem conv_all {q p : Nat} (hq : 0 < q) (hp : p ≤ q) {lo hi : Int} : ∀ (l : List Int) {j : Nat} {s : Rat}, (∀ v ∈ l, lo ≤ v ∧ v ≤ hi) → Conv q lo hi j s → Conv q lo hi (j + l.length) (smo (((p : Int) : Rat) / ((q : Int) : Rat)) s l)
  | [], j, s, _, h => h
  | v :: r, j, s, hv, h => by
    rw [List.length_cons, show j + (r.length + 1) = j + 1 + r.length by omega]
    exact conv_all hq hp r (fun z hz => hv z (List.mem_cons_of_mem _ hz)) (conv_step hq hp (hv v (List.mem_cons_self ..)) h)
theorem conv_rb {q : Nat} (hq : 0 < q) (hq2 : q ≤ 1000) {j : Nat} (hj : j ≤ 19) {s : Rat} (h : Conv q (-100000) 100000 j s) : RB s 7 := by
  obtain ⟨N, rfl, h1, h2⟩ := h
  have hp : 0 < q ^ j := Nat.pow_pos hq
  have h3 : q ^ j ≤ 1000 ^ j := Nat.pow_le_pow_left hq2 j
  have h4 : (1000 : Nat) ^ j ≤ 1000 ^ 19 := Nat.pow_le_pow_right (by decide) hj
  have h5 : (1000 : Nat) ^ 19 = 1000000000000000000000000000000000000000000000000000000000 := by decide
  have h6 : WB ^ 7 = 26959946667150639794667015087019630673637144422540572481103610249216 := by decide
  exact RB.ratio (k := 7) (by rw [h6]; omega) (by rw [h6]; omega) (by omega) (by decide)
structure SmOk (l : List Int) (p q : Int) : Prop where
  ok : LOk l
  q1 : 1 ≤ q
  q2 : q ≤ 1000
  p1 : 0 ≤ p
  p2 : p ≤ q
  ne : l ≠ []
def smv (l : List Int) (p q : Int) : Rat := smo ((p : Rat) / (q : Rat)) ((l.headD 0 : Int) : Rat) l.tail
theorem smv_rb {l : List Int} {p q : Int} (h : SmOk l p q) (hl : l.length ≤ 20) : RB (smv l p q) 7 := by
  have := h.q1; have := h.p1; have := h.p2
  obtain ⟨P, rfl⟩ : ∃ n : Nat, p = n := ⟨p.toNat, by omega⟩
  obtain ⟨Q, rfl⟩ : ∃ n : Nat, q = n := ⟨q.toNat, by omega⟩
  cases l with
  | nil => exact absurd rfl h.ne
  | cons v r =>
    rw [List.length_cons] at hl
    have hv := h.ok.val
    have hc := conv_all (q := Q) (p := P) (by omega) (by omega) (lo := -100000) (hi := 100000) r (j := 0) (s := (v : Rat)) (fun z hz => hv z (List.mem_cons_of_mem _ hz)) (conv_zero (hv v (List.mem_cons_self ..)))
    exact conv_rb (by omega) (by have := h.q2; omega) (by omega) hc
theorem smooth_ok {l : List Int} {p q : Int} (h : SmOk l p q) (hl : l.length ≤ 20) : m_forecast_Smooth l p q = some (ctext (smv l p q), 0) := by
  have h1 := h.q1; have h2 := h.q2; have h3 := h.p1; have h4 := h.p2
  have hfit := (smv_rb h hl).fits (by decide)
  cases l with
  | nil => exact absurd rfl h.ne
  | cons v r =>
    have hv := h.ok.val
    refine Gd.eq.1 ?_
    unfold m_forecast_Smooth
    refine Gd.bind_eq (fcheck_ok h.ok) (Gd.ite (fun hx => by simp at hx) (fun _ => Gd.ite (fun hx => ?_) (fun _ => Gd.ite (fun hx => ?_) (fun _ => Gd.ix (y := v) (by omega) rfl ?_))))
    · simp only [Bool.or_eq_true, decide_eq_true_eq] at hx; omega
    · have := of_decide_eq_true hx; simp at this; omega
    have hv0 := hv v (List.mem_cons_self ..)
    refine Gd.bnd (whole_gd (n := v) ⟨by omega, by omega⟩) (fun w hw => Gd.nd ⟨by omega, by simp only [List.length_cons]; omega⟩ ?_)
    have hs : slc (v :: r) (1 : Int).toNat (v :: r).length = r := by
      unfold slc
      rw [show (1 : Int).toNat = 1 from rfl, List.drop_succ_cons, List.drop_zero]
      exact List.take_of_length_le (by simp)
    rw [hs]
    have hpre : ∀ pre post : List Int, r = pre ++ post → RB (smo ((p : Rat) / (q : Rat)) (v : Rat) pre) 7 := fun pre post e => by
      have hk : SmOk (v :: pre) p q := ⟨⟨by have := h.ok.len; rw [e] at this; simp at this ⊢; omega, fun z hz => hv z (by
        rcases List.mem_cons.1 hz with rfl | hz
        · exact List.mem_cons_self ..
        · rw [e]; exact List.mem_cons_of_mem _ (List.mem_append_left _ hz))⟩, h1, h2, h3, h4, by simp⟩
      exact smv_rb hk (by rw [e] at hl; simp at hl ⊢; omega)
    refine Gd.forI (fun i ys (s : Bool × List U32 × Bool × List U32) => ∃ pre, r = pre ++ ys ∧ ROk ⟨⟨s.1, s.2.1⟩, ⟨s.2.2.1, s.2.2.2⟩⟩ ∧ rv ⟨⟨s.1, s.2.1⟩, ⟨s.2.2.1, s.2.2.2⟩⟩ = smo ((p : Rat) / (q : Rat)) (v : Rat) pre) ?_ ?_ r 0 _ ⟨[], rfl, hw.1, hw.2.2⟩
    · rintro i y ys ⟨c1, w1, c2, w2⟩ nx ⟨pre, e, j1, j2⟩ hnx
      simp only at j1 j2 hnx ⊢
      have hy := hv y (by rw [e]; simp)
      have ls := j1.rb (by rw [j2]; exact hpre pre (y :: ys) e)
      unfold m_forecast_Smooth_b1
      refine Gd.bnd (whole_gd (n := y) ⟨by omega, by omega⟩) (fun a ha => Gd.bnd (rsub_gd ha.1 j1 ha.2.1 ls (by omega)) (fun d hd => Gd.bnd (frac_gd (n := p) (d := q) ⟨by omega, by omega⟩ ⟨by omega, by omega⟩ (by omega)) (fun t ht => Gd.bnd (rmul_gd hd.1 ht.1 hd.2.1 ht.2.1 (by omega)) (fun m hm => Gd.bnd (radd_gd j1 hm.1 ls hm.2.1 (by omega)) (fun s hs => hnx _ ⟨pre ++ [y], by rw [e]; simp, hs.1, ?_⟩)))))
      have : rv s = smo ((p : Rat) / (q : Rat)) (v : Rat) (pre ++ [y]) := by
        rw [hs.2.2, hm.2.2, hd.2.2, ht.2.2, ha.2.2, j2, smo_snoc]
      exact this
    · rintro i ⟨c1, w1, c2, w2⟩ ⟨pre, e, j1, j2⟩
      simp only at j1 j2 ⊢
      rw [List.append_nil] at e
      subst e
      refine Gd.bnd (ftext_gd j1) (fun t ht => Gd.ret ?_)
      rw [ht, j2]
      exact tx_ok hfit
theorem smooth_no {l : List Int} {p q : Int} (h : ¬ SmOk l p q) : ∃ c, c ≠ 0 ∧ m_forecast_Smooth l p q = some (⟨#[]⟩, c) := by
  suffices hh : Gd (m_forecast_Smooth l p q) (fun r => r.1 = ⟨#[]⟩ ∧ r.2 ≠ 0) by
    obtain ⟨⟨r1, r2⟩, e, h1, h2⟩ := hh
    simp only at h1 h2
    exact ⟨r2, h2, by rw [e, h1]⟩
  unfold m_forecast_Smooth
  by_cases hl : LOk l
  · refine Gd.bind_eq (fcheck_ok hl) (Gd.ite (fun hx => by simp at hx) (fun _ => Gd.ite (fun _ => Gd.ret ⟨rfl, by decide⟩) (fun hx => Gd.ite (fun _ => Gd.ret ⟨rfl, by decide⟩) (fun h0 => ?_))))
    exfalso
    simp only [Bool.or_eq_false_iff, decide_eq_false_iff_not] at hx
    have h0 := of_decide_eq_false h0
    exact h ⟨hl, by omega, by omega, by omega, by omega, fun e => by rw [e] at h0; simp at h0⟩
  · obtain ⟨c, hc, e⟩ := fcheck_no hl
    exact Gd.bind_eq e (Gd.ite (fun _ => Gd.ret ⟨rfl, hc⟩) (fun hx => by simp [hc] at hx))

/-! ### the least and the greatest -/
theorem min_gd {l : List Int} (hne : l ≠ []) (hl : l.length ≤ 1000) : Gd (m_slices_Min_int_int l) (fun r => r ∈ l ∧ ∀ v ∈ l, r ≤ v) := by
  cases l with
  | nil => exact absurd rfl hne
  | cons a t =>
    unfold m_slices_Min_int_int
    rw [if_neg (by simp only [List.length_cons, decide_eq_true_eq]; omega)]
    refine Gd.ix (y := a) (by omega) rfl ?_
    refine Gd.loopF (fun (z : Int × Int) => 1 ≤ z.2 ∧ z.2 ≤ ((a :: t).length : Int) ∧ z.1 ∈ (a :: t) ∧ ∀ v ∈ (a :: t).take z.2.toNat, z.1 ≤ v) (fun z => ((a :: t).length - z.2.toNat)) ?_ FUEL _ ⟨by simp only; omega, by simp only [List.length_cons]; omega, List.mem_cons_self .., ?_⟩ (by simp only [FUEL]; omega)
    · rintro ⟨m, i⟩ nx ⟨h1, h2, h3, h4⟩ hnx
      simp only at h1 h2 h3 h4 hnx ⊢
      obtain ⟨k, rfl⟩ : ∃ k : Nat, i = k := ⟨i.toNat, by omega⟩
      unfold m_slices_Min_int_int_b1
      refine Gd.ite (fun hlt => ?_) (fun hge => Gd.ret ⟨h3, fun v hv => ?_⟩)
      · have hlt := of_decide_eq_true hlt
        obtain ⟨y, hy⟩ : ∃ y, (a :: t)[k]? = some y := ⟨_, List.getElem?_eq_getElem (by omega)⟩
        refine Gd.ix (by omega) (by rw [Int.toNat_natCast]; exact hy) ?_
        rw [wrap_id (n := (k : Int) + 1) ⟨by omega, by omega⟩]
        refine hnx _ ⟨by simp only; omega, by simp only; omega, ?_, fun v hv => ?_⟩ (by simp only; omega)
        · simp only
          rcases Int.le_total m y with h | h
          · rw [Int.min_eq_left h]; exact h3
          · rw [Int.min_eq_right h]; exact List.mem_of_getElem? hy
        · simp only at hv ⊢
          rw [show ((k : Int) + 1).toNat = k + 1 by omega, List.take_add_one, hy] at hv
          rw [Int.toNat_natCast] at h4
          rcases List.mem_append.1 hv with hv | hv
          · have := h4 v hv; omega
          · simp only [Option.toList_some, List.mem_singleton] at hv; subst hv; omega
      · have hge := of_decide_eq_false hge
        exact h4 v (by rw [List.take_of_length_le (by omega)]; exact hv)
    · intro v hv
      have : v = a := by simpa using hv
      rw [this]; exact Int.le_refl _
theorem max_gd {l : List Int} (hne : l ≠ []) (hl : l.length ≤ 1000) : Gd (m_slices_Max_int_int l) (fun r => r ∈ l ∧ ∀ v ∈ l, v ≤ r) := by
  cases l with
  | nil => exact absurd rfl hne
  | cons a t =>
    unfold m_slices_Max_int_int
    rw [if_neg (by simp only [List.length_cons, decide_eq_true_eq]; omega)]
    refine Gd.ix (y := a) (by omega) rfl ?_
    refine Gd.loopF (fun (z : Int × Int) => 1 ≤ z.2 ∧ z.2 ≤ ((a :: t).length : Int) ∧ z.1 ∈ (a :: t) ∧ ∀ v ∈ (a :: t).take z.2.toNat, v ≤ z.1) (fun z => ((a :: t).length - z.2.toNat)) ?_ FUEL _ ⟨by simp only; omega, by simp only [List.length_cons]; omega, List.mem_cons_self .., ?_⟩ (by simp only [FUEL]; omega)
    · rintro ⟨m, i⟩ nx ⟨h1, h2, h3, h4⟩ hnx
      simp only at h1 h2 h3 h4 hnx ⊢
      obtain ⟨k, rfl⟩ : ∃ k : Nat, i = k := ⟨i.toNat, by omega⟩
      unfold m_slices_Max_int_int_b1
      refine Gd.ite (fun hlt => ?_) (fun hge => Gd.ret ⟨h3, fun v hv => ?_⟩)
      · have hlt := of_decide_eq_true hlt
        obtain ⟨y, hy⟩ : ∃ y, (a :: t)[k]? = some y := ⟨_, List.getElem?_eq_getElem (by omega)⟩
        refine Gd.ix (by omega) (by rw [Int.toNat_natCast]; exact hy) ?_
        rw [wrap_id (n := (k : Int) + 1) ⟨by omega, by omega⟩]
        refine hnx _ ⟨by simp only; omega, by simp only; omega, ?_, fun v hv => ?_⟩ (by simp only; omega)
        · simp only
          rcases Int.le_total m y with h | h
          · rw [Int.max_eq_right h]; exact List.mem_of_getElem? hy
          · rw [Int.max_eq_left h]; exact h3
        · simp only at hv ⊢
          rw [show ((k : Int) + 1).toNat = k + 1 by omega, List.take_add_one, hy] at hv
          rw [Int.toNat_natCast] at h4
          rcases List.mem_append.1 hv with hv | hv
          · have := h4 v hv; omega
          · simp only [Option.toList_some, List.mem_singleton] at hv; subst hv; omega
      · have hge := of_decide_eq_false hge
        exact h4 v (by rw [List.take_of_length_le (by omega)]; exact hv)
    · intro v hv
      have : v = a := by simpa using hv
      rw [this]; exact Int.le_refl _

/-! ### compared -/
theorem sign_of {a : LI} (h : IOk a) : (0 ≤ m_large_Int_Sign a ↔ 0 ≤ ival a) ∧ (m_large_Int_Sign a ≤ 0 ↔ ival a ≤ 0) := by
  have hz := nv_zero h.wf h.tp
  unfold m_large_Int_Sign ival
  by_cases h0 : a.words = []
  · have hn : nv a.words = 0 := hz.2 h0
    rw [if_pos (by rw [h0]; rfl), hn]
    split <;> omega
  · have hn : nv a.words ≠ 0 := fun e => h0 (hz.1 e)
    have hl : a.words.length ≠ 0 := fun e => h0 (List.eq_nil_of_length_eq_zero e)
    rw [if_neg (by simp only [decide_eq_true_eq]; omega)]
    cases hm : a.minus
    · simp only [Bool.false_eq_true, if_false]; omega
    · simp only [if_true]; omega
theorem compare_gd {p q : Rat} (hp : fits p) (hq : fits q) : Gd (m_rat_Compare (ctext p) (ctext q)) (fun r => r.2 = 0 ∧ (0 ≤ r.1 ↔ q.num * (p.den : Int) ≤ p.num * (q.den : Int)) ∧ (r.1 ≤ 0 ↔ p.num * (q.den : Int) ≤ q.num * (p.den : Int))) := by
  unfold m_rat_Compare
  refine Gd.bind_eq (checkall2 hp hq) (Gd.ite (fun hx => by simp at hx) (fun _ => Gd.bnd (parse_gd hp) (fun a ha => Gd.bnd (parse_gd hq) (fun b hb => ?_))))
  have la := ha.2.1; have lb := hb.2.1
  have la1 := la.1; have la2 := la.2; have lb1 := lb.1; have lb2 := lb.2
  have e1 : ival a.N = p.num := by rw [← ha.1.num, ha.2.2]
  have e2 : ival a.D = (p.den : Int) := by rw [ival_nat ha.1.pos, ← ha.1.den, ha.2.2]
  have e3 : ival b.N = q.num := by rw [← hb.1.num, hb.2.2]
  have e4 : ival b.D = (q.den : Int) := by rw [ival_nat hb.1.pos, ← hb.1.den, hb.2.2]
  unfold m_large_Rat_Cmp m_large_Int_Cmp
  refine Gd.bnd (P := fun c => (0 ≤ c ↔ q.num * (p.den : Int) ≤ p.num * (q.den : Int)) ∧ (c ≤ 0 ↔ p.num * (q.den : Int) ≤ q.num * (p.den : Int))) ?_ (fun c hc => Gd.ret ⟨rfl, hc⟩)
  refine Gd.bnd (mul_gd ha.1.n hb.1.d (by omega)) (fun x hx => Gd.bnd (mul_gd hb.1.n ha.1.d (by omega)) (fun y hy => ?_))
  refine Gd.bnd (P := fun c => (0 ≤ c ↔ q.num * (p.den : Int) ≤ p.num * (q.den : Int)) ∧ (c ≤ 0 ↔ p.num * (q.den : Int) ≤ q.num * (p.den : Int))) (Gd.bnd (isub_gd hx.1 hy.1 (by omega) (by omega)) (fun d hd => Gd.ret ?_)) (fun c hc => Gd.ret hc)
  have hs := sign_of hd.1
  rw [hd.2.2, hx.2.2, hy.2.2, e1, e2, e3, e4] at hs
  exact ⟨hs.1.trans (by omega), hs.2.trans (by omega)⟩
theorem conv_num {q : Nat} (hq : 0 < q) {lo hi : Int} {j : Nat} {s : Rat} (h : Conv q lo hi j s) : lo * (s.den : Int) ≤ s.num ∧ s.num ≤ hi * (s.den : Int) := by
  obtain ⟨N, e, h1, h2⟩ := h
  have hQ : 0 < ((q ^ j : Nat) : Int) := by have : 0 < q ^ j := Nat.pow_pos hq; omega
  have hd : 0 < (s.den : Int) := by have := s.den_nz; omega
  have hx : s.num * ((q ^ j : Nat) : Int) = N * (s.den : Int) := by
    have e0 : s = Rat.divInt N ((q ^ j : Nat) : Int) := by rw [e, Rat.divInt_eq_div]
    have e1 : Rat.divInt s.num (s.den : Int) = Rat.divInt N ((q ^ j : Nat) : Int) := by rw [← e0]; exact Rat.num_divInt_den s
    exact (Rat.divInt_eq_divInt_iff (by omega) (by omega)).1 e1
  generalize ((q ^ j : Nat) : Int) = Q at *
  constructor
  · have h3 : lo * Q * (s.den : Int) ≤ N * (s.den : Int) := Int.mul_le_mul_of_nonneg_right h1 (by omega)
    rw [← hx, Int.mul_right_comm] at h3
    exact Int.le_of_mul_le_mul_right h3 hQ
  · have h3 : N * (s.den : Int) ≤ hi * Q * (s.den : Int) := Int.mul_le_mul_of_nonneg_right h2 (by omega)
    rw [← hx, Int.mul_right_comm] at h3
    exact Int.le_of_mul_le_mul_right h3 hQ
theorem smo_zero : ∀ (l : List Int) (s : Rat), smo 0 s l = s
  | [], s => rfl
  | v :: r, s => by
    rw [smo, smo_zero r]
    grind
theorem smo_last : ∀ (l : List Int) (v : Int), smo 1 (v : Rat) l = (((v :: l).getLastD 0 : Int) : Rat)
  | [], v => rfl
  | x :: r, v => by
    have e : (v : Rat) + ((x : Rat) - (v : Rat)) * 1 = (x : Rat) := by grind
    rw [smo, e, smo_last r x]
    rfl
theorem Smooths_of (l : List Int) (p q : Int) : m_gridhallkeep4_ForecastSmooths l p q = some true := by
  refine Gd.eq.1 ?_
  unfold m_gridhallkeep4_ForecastSmooths
  refine Gd.nd (by omega) ?_
  rw [show (20 : Int) = ((20 : Nat) : Int) from rfl, slc_take]
  have htl : (l.take 20).length ≤ 20 := by rw [List.length_take]; omega
  generalize l.take 20 = t at htl ⊢
  by_cases h : SmOk t p q
  · have h1 := h.q1; have h2 := h.q2; have h3 := h.p1; have h4 := h.p2
    have hA : SmOk t 0 1 := ⟨h.ok, by decide, by decide, by decide, by decide, h.ne⟩
    have hB : SmOk t 7 7 := ⟨h.ok, by decide, by decide, by decide, by decide, h.ne⟩
    have hlen : 0 < t.length := List.length_pos_iff.2 h.ne
    have hval := h.ok.val
    refine Gd.bind_eq (smooth_ok h htl) (Gd.ite (fun hx => by simp at hx) (fun _ => Gd.bind_eq (smooth_ok hA htl) (Gd.bind_eq (smooth_ok hB htl) (Gd.ite (fun hx => ?_) (fun _ => ?_)))))
    · exfalso
      simp only [decide_true, Bool.not_true, Bool.or_self, Bool.false_or, decide_eq_true_eq] at hx; omega
    have hsf := (smv_rb h htl).fits (by decide)
    have one : ∀ {v : Int}, v ∈ t → m_rat_Of v 1 = some (ctext (v : Rat), 0) ∧ fits (v : Rat) := fun {v} hv => by
      have hb := hval v hv
      have hr : RB (v : Rat) 1 := RB.small (by omega)
      have hone : (v : Rat) / ((1 : Int) : Rat) = (v : Rat) := by rw [Rat.intCast_one]; grind
      refine ⟨?_, hr.fits (by decide)⟩
      rw [bof (n := v) (d := 1) ⟨by omega, by omega⟩ ⟨by omega, by omega⟩ (by omega), hone, tx_ok (hr.fits (by decide))]
    have conv : ∀ {lo hi : Int}, (∀ v ∈ t, lo ≤ v ∧ v ≤ hi) → lo * ((smv t p q).den : Int) ≤ (smv t p q).num ∧ (smv t p q).num ≤ hi * ((smv t p q).den : Int) := fun {lo hi} hb => by
      obtain ⟨P, rfl⟩ : ∃ n : Nat, p = n := ⟨p.toNat, by omega⟩
      obtain ⟨Q, rfl⟩ : ∃ n : Nat, q = n := ⟨q.toNat, by omega⟩
      cases t with
      | nil => exact absurd rfl h.ne
      | cons v r =>
        exact conv_num (q := Q) (by omega) (conv_all (q := Q) (p := P) (by omega) (by omega) r (j := 0) (s := (v : Rat)) (fun z hz => hb z (List.mem_cons_of_mem _ hz)) (conv_zero (hb v (List.mem_cons_self ..))))
    refine Gd.bnd (min_gd h.ne (by omega)) (fun lo hlo => Gd.bind_eq (one hlo.1).1 (Gd.bnd (max_gd h.ne (by omega)) (fun hi hhi => Gd.bind_eq (one hhi.1).1 ?_)))
    have hc := conv (lo := lo) (hi := hi) (fun v hv => ⟨hlo.2 v hv, hhi.2 v hv⟩)
    obtain ⟨y0, e0⟩ : ∃ y, t[0]? = some y := ⟨_, List.getElem?_eq_getElem hlen⟩
    obtain ⟨yl, el⟩ : ∃ y, t[t.length - 1]? = some y := ⟨_, List.getElem?_eq_getElem (by omega)⟩
    refine Gd.ix (by omega) (show t[(0 : Int).toNat]? = some y0 from e0) (Gd.bind_eq (one (List.mem_of_getElem? e0)).1 ?_)
    rw [wrap_id (n := (t.length : Int) - 1) ⟨by omega, by omega⟩]
    refine Gd.ix (by omega) (by rw [show ((t.length : Int) - 1).toNat = t.length - 1 by omega]; exact el) (Gd.bind_eq (one (List.mem_of_getElem? el)).1 ?_)
    refine Gd.bnd (compare_gd hsf (one hlo.1).2) (fun c1 hc1 => Gd.bnd (compare_gd hsf (one hhi.1).2) (fun c2 hc2 => Gd.bind_eq forecast_fact (Gd.ret ?_)))
    have f1 : smv t 0 1 = (y0 : Rat) := by
      unfold smv
      have ez : ((0 : Int) : Rat) / ((1 : Int) : Rat) = 0 := by decide +kernel
      rw [ez, smo_zero]
      cases t with
      | nil => cases e0
      | cons v r => simp only [List.getElem?_cons_zero, Option.some.injEq] at e0; rw [e0]; rfl
    have f2 : smv t 7 7 = (yl : Rat) := by
      unfold smv
      have ez : ((7 : Int) : Rat) / ((7 : Int) : Rat) = 1 := by decide +kernel
      rw [ez]
      cases t with
      | nil => cases e0
      | cons v r =>
        show smo 1 (v : Rat) r = _
        rw [smo_last]
        congr 1
        have : (v :: r).getLast? = some yl := by rw [List.getLast?_eq_getElem?]; exact el
        rw [List.getLastD_eq_getLast?, this]; rfl
    have k1 : (lo : Rat).num = lo := Rat.num_intCast lo
    have k2 : (lo : Rat).den = 1 := Rat.den_intCast lo
    have k3 : (hi : Rat).num = hi := Rat.num_intCast hi
    have k4 : (hi : Rat).den = 1 := Rat.den_intCast hi
    rw [k1, k2] at hc1
    rw [k3, k4] at hc2
    have g1 : 0 ≤ c1.1 := hc1.2.1.2 (by simpa using hc.1)
    have g2 : c2.1 ≤ 0 := hc2.2.2.2 (by simpa using hc.2)
    rw [f1, f2, hc1.1, hc2.1]
    simp [g1, g2]
  · obtain ⟨c, hc, e⟩ := smooth_no h
    exact Gd.bind_eq e (Gd.ite (fun _ => Gd.bind_eq forecast_fact (Gd.ret rfl)) (fun hx => by simp [hc] at hx))
end Go.Sim
