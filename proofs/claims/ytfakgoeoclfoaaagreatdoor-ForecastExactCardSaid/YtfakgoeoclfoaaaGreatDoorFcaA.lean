/-
  Forecasts: sums, the line, what the functions of package forecast answer.
-/
import Derived.Test.YtfakgoeoclfoaaaGreatDoorLrgR
namespace Go.Sim
open Go
set_option linter.unusedVariables false
set_option linter.unusedSimpArgs false
set_option linter.unusedSectionVars false
set_option linter.unnecessarySimpa false

def sumI : List Int → Int
  | [] => 0
  | v :: r => v + sumI r
theorem sumI_app : ∀ a b : List Int, sumI (a ++ b) = sumI a + sumI b
  | [], b => by simp [sumI]
  | v :: a, b => by rw [List.cons_append, sumI, sumI_app a b, sumI, Int.add_assoc]
def sx : Nat → Int
  | 0 => 0
  | n + 1 => sx n + n
def sxx : Nat → Int
  | 0 => 0
  | n + 1 => sxx n + n * n
def sxy (k : Nat) : List Int → Int
  | [] => 0
  | v :: r => k * v + sxy (k + 1) r
theorem sxy_app : ∀ (a b : List Int) (k : Nat), sxy k (a ++ b) = sxy k a + sxy (k + a.length) b
  | [], b, k => by simp [sxy]
  | v :: a, b, k => by
    rw [List.cons_append, sxy, sxy_app a b, sxy, Int.add_assoc, List.length_cons, show k + (a.length + 1) = k + 1 + a.length by omega]
/-- values that are accepted -/
structure LOk (l : List Int) : Prop where
  len : l.length ≤ 48
  val : ∀ v ∈ l, -100000 ≤ v ∧ v ≤ 100000
theorem sum_bd : ∀ {l : List Int}, (∀ v ∈ l, -100000 ≤ v ∧ v ≤ 100000) → -(100000 * (l.length : Int)) ≤ sumI l ∧ sumI l ≤ 100000 * (l.length : Int)
  | [], _ => by simp [sumI]
  | v :: r, h => by
    have h1 := sum_bd (l := r) (fun z hz => h z (List.mem_cons_of_mem _ hz))
    have h2 := h v (List.mem_cons_self ..)
    rw [sumI, List.length_cons]; omega
theorem sx_bd : ∀ {n : Nat}, n ≤ 48 → 0 ≤ sx n ∧ sx n ≤ 48 * n
  | 0, _ => by simp [sx]
  | n + 1, h => by
    have h1 := sx_bd (n := n) (by omega)
    rw [sx]; omega
theorem sxx_bd : ∀ {n : Nat}, n ≤ 48 → 0 ≤ sxx n ∧ sxx n ≤ 2304 * n
  | 0, _ => by simp [sxx]
  | n + 1, h => by
    have h1 := sxx_bd (n := n) (by omega)
    have h2 : (n : Int) * n ≤ 48 * 48 := Int.mul_le_mul (by omega) (by omega) (by omega) (by omega)
    have h3 : 0 ≤ (n : Int) * n := Int.mul_nonneg (by omega) (by omega)
    rw [sxx]; omega
theorem kv_bd {k : Nat} {v : Int} (hk : k ≤ 48) (hv : -100000 ≤ v ∧ v ≤ 100000) : -4800000 ≤ (k : Int) * v ∧ (k : Int) * v ≤ 4800000 := by
  have h1 : (k : Int) * v ≤ (k : Int) * 100000 := Int.mul_le_mul_of_nonneg_left hv.2 (by omega)
  have h2 : (k : Int) * (-100000) ≤ (k : Int) * v := Int.mul_le_mul_of_nonneg_left hv.1 (by omega)
  omega
theorem sxy_bd : ∀ {l : List Int} {k : Nat}, (∀ v ∈ l, -100000 ≤ v ∧ v ≤ 100000) → k + l.length ≤ 48 → -(4800000 * (l.length : Int)) ≤ sxy k l ∧ sxy k l ≤ 4800000 * (l.length : Int)
  | [], k, _, _ => by simp [sxy]
  | v :: r, k, h, hl => by
    rw [List.length_cons] at hl
    have h1 := sxy_bd (l := r) (k := k + 1) (fun z hz => h z (List.mem_cons_of_mem _ hz)) (by omega)
    have h2 := kv_bd (k := k) (by omega) (h v (List.mem_cons_self ..))
    rw [sxy, List.length_cons]; omega
def dn (n : Nat) : Int := n * sxx n - sx n * sx n
theorem dn_all : ∀ n, n < 49 → 2 ≤ n → 0 < dn n ∧ dn n ≤ 1000000 := by decide +kernel
theorem dn_pos {n : Nat} (h : 2 ≤ n) (h2 : n ≤ 48) : 0 < dn n ∧ dn n ≤ 1000000 := dn_all n (by omega) h

/-! ### checked values -/
theorem idxF {α : Type} {l : List α} {p : α → Bool} {body : Nat → Unit → (Unit → Option Int) → Option Int}
    (hb : ∀ (k : Nat) nx (y : α) (Q : Int → Prop), l[k]? = some y → (p y = true → Q k) → (p y = false → Gd (nx ()) Q) → Gd (body k () nx) Q) :
    Gd (forN body (fun _ => some (-1)) ((l.length : Int)).toNat 0 ()) (fun r => (0 ≤ r ↔ ∃ y ∈ l, p y = true)) := by
  rw [Int.toNat_natCast]
  refine Gd.forN (fun m i _ => m + i = l.length ∧ ∀ j y, j < i → l[j]? = some y → p y = false) ?_ ?_ l.length 0 () ⟨rfl, fun j y h => by omega⟩
  · rintro m i _ nx ⟨h1, h2⟩ hnx
    obtain ⟨y, hy⟩ : ∃ y, l[i]? = some y := ⟨_, List.getElem?_eq_getElem (by omega)⟩
    refine hb i nx y _ hy (fun hp => ?_) (fun hp => hnx () ⟨by omega, fun j z hj hz => ?_⟩)
    · exact ⟨fun _ => ⟨y, List.mem_of_getElem? hy, hp⟩, fun _ => by omega⟩
    · rcases Nat.lt_or_ge j i with hji | hji
      · exact h2 j z hji hz
      · rw [show j = i by omega, hy] at hz; cases hz; exact hp
  · rintro i _ ⟨h1, h2⟩
    refine ⟨-1, rfl, fun h => by omega, fun ⟨y, hy, hp⟩ => ?_⟩
    obtain ⟨j, hj⟩ := List.getElem?_of_mem hy
    have := h2 j y (by have := (List.getElem?_eq_some_iff.1 hj).1; omega) hj
    rw [this] at hp; cases hp
theorem fcheck_gd (l : List Int) : Gd (m_forecast_Check l) (fun c => c = 0 ↔ LOk l) := by
  unfold m_forecast_Check
  refine Gd.ite (fun h => Gd.ret ?_) (fun h => ?_)
  · have h := of_decide_eq_true h
    exact ⟨fun e => by simp at e, fun e => by have := e.len; omega⟩
  · have h := of_decide_eq_false h
    unfold m_slices_ContainsFunc_int_int__forecast_Check_1 m_slices_IndexFunc_int_int__forecast_Check_1
    have key := idxF (l := l) (p := m_forecast_Check_1) (body := fun k s114 n => m_slices_IndexFunc_int_int__forecast_Check_1_b1 l k n) (fun k nx y Q hy h1 h2 => by
      unfold m_slices_IndexFunc_int_int__forecast_Check_1_b1
      refine Gd.ix (by omega) (by rw [Int.toNat_natCast]; exact hy) (Gd.ite (fun hp => Gd.ret (h1 hp)) (fun hp => h2 hp)))
    refine Gd.bnd (Gd.bnd key (fun r hr => Gd.ret (Q := fun b => (b = true ↔ ∃ y ∈ l, m_forecast_Check_1 y = true)) (by rw [decide_eq_true_eq]; exact hr))) (fun b hb => Gd.ite (fun hx => Gd.ret ?_) (fun hx => Gd.ret ?_))
    · obtain ⟨y, hy, hp⟩ := hb.1 hx
      refine ⟨fun e => by simp at e, fun e => ?_⟩
      have := e.val y hy
      unfold m_forecast_Check_1 at hp
      simp only [Bool.or_eq_true, decide_eq_true_eq] at hp; omega
    · refine ⟨fun _ => ⟨by omega, fun v hv => ?_⟩, fun _ => rfl⟩
      cases hp : m_forecast_Check_1 v with
      | true => rw [hb.2 ⟨v, hv, hp⟩] at hx; cases hx
      | false =>
        unfold m_forecast_Check_1 at hp
        simp only [Bool.or_eq_false_iff, decide_eq_false_iff_not] at hp; omega
theorem fcheck_ok {l : List Int} (h : LOk l) : m_forecast_Check l = some 0 := Gd.eq.1 ((fcheck_gd l).mono (fun c hc => hc.2 h))
theorem fcheck_no {l : List Int} (h : ¬ LOk l) : ∃ c, c ≠ 0 ∧ m_forecast_Check l = some c := by
  obtain ⟨c, e, hc⟩ := fcheck_gd l
  exact ⟨c, fun e => h (hc.1 e), e⟩
theorem fsum_ok {l : List Int} (hl : l.length ≤ 48) (hv : ∀ v ∈ l, -100000 ≤ v ∧ v ≤ 100000) : m_forecast_sum l = some (sumI l) := by
  refine Gd.eq.1 ?_
  unfold m_forecast_sum
  refine Gd.seen (fun pre s => s = sumI pre) ?_ (fun s hs => Gd.ret hs) 0 rfl
  rintro i y s nx pre ⟨post, e⟩ hs hnx
  unfold m_forecast_sum_b1
  have h1 := sum_bd (l := pre ++ [y]) (fun v h => hv v (by rw [e]; rcases List.mem_append.1 h with h | h; exact List.mem_append_left _ h; rw [List.mem_singleton] at h; subst h; simp))
  have h2 : (pre ++ [y]).length ≤ 48 := by rw [e] at hl; simp at hl ⊢; omega
  have h3 : s + y = sumI (pre ++ [y]) := by rw [hs, sumI_app]; simp [sumI]
  rw [h3, wrap_id ⟨by omega, by omega⟩]
  exact hnx _ rfl

/-! ### the line -/
def slope (l : List Int) : Rat := (((l.length : Int) * sxy 0 l - sx l.length * sumI l : Int) : Rat) / ((dn l.length : Int) : Rat)
def height (l : List Int) : Rat := (sumI l : Rat) / ((l.length : Int) : Rat) - slope l * ((sx l.length : Rat) / ((l.length : Int) : Rat))
theorem mul48 {a b A B : Int} (ha : -A ≤ a ∧ a ≤ A) (hb : -B ≤ b ∧ b ≤ B) (hA : 0 ≤ A) : -(A * B) ≤ a * b ∧ a * b ≤ A * B := by
  have h1 : a.natAbs ≤ A.toNat := by omega
  have h2 : b.natAbs ≤ B.toNat := by omega
  have h3 : (a * b).natAbs ≤ A.toNat * B.toNat := by rw [Int.natAbs_mul]; exact Nat.mul_le_mul h1 h2
  have h4 : ((A.toNat * B.toNat : Nat) : Int) = A * B := by
    rw [Int.natCast_mul, Int.toNat_of_nonneg hA, Int.toNat_of_nonneg (by omega)]
  omega
structure LineOk (l : List Int) (a b : LR) : Prop where
  ra : ROk a
  rb : ROk b
  va : rv a = slope l
  vb : rv b = height l
theorem slope_num {l : List Int} (h : LOk l) : -100000000000 ≤ (l.length : Int) * sxy 0 l - sx l.length * sumI l ∧ (l.length : Int) * sxy 0 l - sx l.length * sumI l ≤ 100000000000 := by
  have h0 := h.len
  have h1 := sxy_bd (k := 0) h.val (by omega)
  have h2 := sx_bd h.len
  have h3 := sum_bd h.val
  have h4 := mul48 (a := (l.length : Int)) (A := 48) (b := sxy 0 l) (B := 230400000) ⟨by omega, by omega⟩ ⟨by omega, by omega⟩ (by omega)
  have h5 := mul48 (a := sx l.length) (A := 2304) (b := sumI l) (B := 4800000) ⟨by omega, by omega⟩ ⟨by omega, by omega⟩ (by omega)
  omega
theorem slope_rb {l : List Int} (h : LOk l) (h2 : 2 ≤ l.length) : RB (slope l) 2 := by
  have h1 := slope_num h
  have h3 := dn_pos h2 h.len
  have e : WB ^ 2 = 18446744073709551616 := by decide
  exact RB.ratio (k := 2) (by rw [e]; omega) (by rw [e]; omega) (by omega) (by decide)
theorem height_rb {l : List Int} (h : LOk l) (h2 : 2 ≤ l.length) : RB (height l) 5 := by
  have h0 := h.len
  have h1 := sum_bd h.val
  have h3 := sx_bd h.len
  have a1 : RB ((sumI l : Rat) / ((l.length : Int) : Rat)) 1 := RB.frac (by omega) (by omega) (by omega)
  have a2 : RB ((sx l.length : Rat) / ((l.length : Int) : Rat)) 1 := RB.frac (by omega) (by omega) (by omega)
  exact (a1.sub ((slope_rb h h2).mul a2 (by omega)) (by omega)).mono (by omega)
theorem line_gd {l : List Int} (h : LOk l) (h2 : 2 ≤ l.length) : Gd (m_forecast_line l) (fun r => r.2.2 = 0 ∧ LineOk l r.1 r.2.1) := by
  have h0 := h.len
  unfold m_forecast_line
  refine Gd.ite (fun hx => absurd (of_decide_eq_true hx) (by omega)) (fun _ => Gd.bind_eq (fsum_ok h.len h.val) ?_)
  refine Gd.forI (fun i ys (s : Int × Int × Int) => ∃ pre, l = pre ++ ys ∧ i = pre.length ∧ s = (sx i, sxx i, sxy 0 pre)) ?_ ?_ l 0 _ ⟨[], rfl, rfl, rfl⟩
  · rintro i y ys s nx ⟨pre, e1, rfl, rfl⟩ hnx
    have hpl : pre.length + 1 ≤ l.length := by rw [e1]; simp
    have hval : ∀ v ∈ pre ++ [y], -100000 ≤ v ∧ v ≤ 100000 := fun v hv => h.val v (by
      rw [e1]
      rcases List.mem_append.1 hv with hv | hv
      · exact List.mem_append_left _ hv
      · rw [List.mem_singleton] at hv; subst hv; simp)
    have b1 := sx_bd (n := pre.length + 1) (by omega)
    have b2 := sxx_bd (n := pre.length + 1) (by omega)
    have b3 := sxy_bd (l := pre ++ [y]) (k := 0) hval (by simp; omega)
    have b4 := kv_bd (k := pre.length) (v := y) (by omega) (hval y (by simp))
    have b5 : (pre.length : Int) * pre.length ≤ 48 * 48 := Int.mul_le_mul (by omega) (by omega) (by omega) (by omega)
    have b6 : 0 ≤ (pre.length : Int) * pre.length := Int.mul_nonneg (by omega) (by omega)
    have e3 : sxy 0 (pre ++ [y]) = sxy 0 pre + (pre.length : Int) * y := by rw [sxy_app]; simp [sxy]
    rw [List.length_append, List.length_singleton] at b3
    rw [sx] at b1
    rw [sxx] at b2
    rw [e3] at b3
    unfold m_forecast_line_b1
    simp only
    rw [wrap_id (n := (pre.length : Int) * pre.length) ⟨by omega, by omega⟩, wrap_id (n := (pre.length : Int) * y) ⟨by omega, by omega⟩, wrap_id (n := sx pre.length + pre.length) ⟨by omega, by omega⟩, wrap_id (n := sxx pre.length + (pre.length : Int) * pre.length) ⟨by omega, by omega⟩, wrap_id (n := sxy 0 pre + (pre.length : Int) * y) ⟨by omega, by omega⟩]
    refine hnx _ ⟨pre ++ [y], by rw [e1]; simp, by simp, ?_⟩
    rw [e3]; rfl
  · rintro i s ⟨pre, e1, rfl, rfl⟩
    rw [List.append_nil] at e1
    subst e1
    have b1 := sx_bd h.len
    have b2 := sxx_bd h.len
    have b3 := sxy_bd (k := 0) h.val (by omega)
    have b4 := sum_bd h.val
    have b5 := slope_num h
    have b6 := dn_pos h2 h.len
    have c1 := mul48 (a := (l.length : Int)) (A := 48) (b := sxy 0 l) (B := 230400000) ⟨by omega, by omega⟩ ⟨by omega, by omega⟩ (by omega)
    have c2 := mul48 (a := sx l.length) (A := 2304) (b := sumI l) (B := 4800000) ⟨by omega, by omega⟩ ⟨by omega, by omega⟩ (by omega)
    have c3 := mul48 (a := (l.length : Int)) (A := 48) (b := sxx l.length) (B := 110592) ⟨by omega, by omega⟩ ⟨by omega, by omega⟩ (by omega)
    have c4 := mul48 (a := sx l.length) (A := 2304) (b := sx l.length) (B := 2304) ⟨by omega, by omega⟩ ⟨by omega, by omega⟩ (by omega)
    simp only
    rw [wrap_id (n := (l.length : Int) * sxy 0 l) ⟨by omega, by omega⟩, wrap_id (n := sx l.length * sumI l) ⟨by omega, by omega⟩, wrap_id (n := (l.length : Int) * sxy 0 l - sx l.length * sumI l) ⟨by omega, by omega⟩, wrap_id (n := (l.length : Int) * sxx l.length) ⟨by omega, by omega⟩, wrap_id (n := sx l.length * sx l.length) ⟨by omega, by omega⟩]
    have hdn : (l.length : Int) * sxx l.length - sx l.length * sx l.length = dn l.length := rfl
    rw [hdn, wrap_id (n := dn l.length) ⟨by omega, by omega⟩]
    refine Gd.bnd (frac_gd ⟨by omega, by omega⟩ ⟨by omega, by omega⟩ (by omega)) (fun p hp => Gd.bnd (frac_gd (n := sumI l) (d := (l.length : Int)) ⟨by omega, by omega⟩ ⟨by omega, by omega⟩ (by omega)) (fun q hq => Gd.bnd (frac_gd (n := sx l.length) (d := (l.length : Int)) ⟨by omega, by omega⟩ ⟨by omega, by omega⟩ (by omega)) (fun t ht => Gd.bnd (rmul_gd hp.1 ht.1 hp.2.1 ht.2.1 (by omega)) (fun m hm => Gd.bnd (rsub_gd hq.1 hm.1 hq.2.1 hm.2.1 (by omega)) (fun r hr => Gd.ret ⟨rfl, hp.1, hr.1, hp.2.2, ?_⟩)))))
    rw [hr.2.2, hq.2.2, hm.2.2, hp.2.2, ht.2.2]; rfl
theorem line_short {l : List Int} (h2 : l.length < 2) : Gd (m_forecast_line l) (fun r => r.2.2 = 10) := by
  unfold m_forecast_line
  exact Gd.ite (fun _ => Gd.ret rfl) (fun hx => absurd (of_decide_eq_false hx) (by omega))

/-! ### what is answered -/
theorem ftext_gd {a : LR} (h : ROk a) : Gd (m_forecast_text a) (fun r => r = tx (rv a)) := text_core h
def mean (l : List Int) (k : Nat) : Rat := (sumI (l.drop (l.length - k)) : Rat) / ((k : Int) : Rat)
theorem mean_fits {l : List Int} (h : LOk l) {k : Nat} (h1 : 1 ≤ k) (h2 : k ≤ l.length) : fits (mean l k) := by
  have h0 := h.len
  have b := sum_bd (l := l.drop (l.length - k)) (fun v hv => h.val v (List.mem_of_mem_drop hv))
  rw [List.length_drop] at b
  exact (RB.frac (m := sumI (l.drop (l.length - k))) (d := (k : Int)) (by omega) (by omega) (by omega)).fits (by decide)
theorem mean_ok {l : List Int} (h : LOk l) {k : Nat} (h1 : 1 ≤ k) (h2 : k ≤ l.length) : m_forecast_Mean l k = some (ctext (mean l k), 0) := by
  have h0 := h.len
  have hv : ∀ v ∈ l.drop (l.length - k), -100000 ≤ v ∧ v ≤ 100000 := fun v hv => h.val v (List.mem_of_mem_drop hv)
  have b := sum_bd hv
  rw [List.length_drop] at b
  refine Gd.eq.1 ?_
  unfold m_forecast_Mean
  rw [wrap_id (n := (l.length : Int) - (k : Int)) ⟨by omega, by omega⟩]
  refine Gd.bind_eq (fcheck_ok h) (Gd.ite (fun hx => by simp at hx) (fun _ => Gd.ite (fun hx => ?_) (fun _ => Gd.nd ⟨by omega, by omega⟩ ?_)))
  · simp only [Bool.or_eq_true, decide_eq_true_eq] at hx; omega
  · have hs : slc l ((l.length : Int) - (k : Int)).toNat l.length = l.drop (l.length - k) := by
      unfold slc
      rw [show ((l.length : Int) - (k : Int)).toNat = l.length - k by omega]
      exact List.take_of_length_le (by rw [List.length_drop]; omega)
    rw [hs]
    refine Gd.bind_eq (fsum_ok (by rw [List.length_drop]; omega) hv) (Gd.bnd (frac_gd (n := sumI (l.drop (l.length - k))) (d := (k : Int)) ⟨by omega, by omega⟩ ⟨by omega, by omega⟩ (by omega)) (fun r hr => Gd.bnd (ftext_gd hr.1) (fun t ht => Gd.ret ?_)))
    rw [ht, hr.2.2]
    exact tx_ok (mean_fits h h1 h2)
theorem mean_bad {l : List Int} (h : LOk l) {k : Int} (hk : k < 1 ∨ (l.length : Int) < k) : m_forecast_Mean l k = some (⟨#[]⟩, 1) := by
  refine Gd.eq.1 ?_
  unfold m_forecast_Mean
  refine Gd.bind_eq (fcheck_ok h) (Gd.ite (fun hx => by simp at hx) (fun _ => Gd.ite (fun _ => Gd.ret rfl) (fun hx => ?_)))
  simp only [Bool.or_eq_false_iff, decide_eq_false_iff_not] at hx; omega
def ahead (l : List Int) (k : Nat) : Rat := slope l * (((l.length : Int) - 1 + k : Int) : Rat) + height l
theorem ahead_fits {l : List Int} (h : LOk l) (h2 : 2 ≤ l.length) {k : Nat} (hk : k ≤ 48) : fits (ahead l k) := by
  have h0 := h.len
  have a := RB.small (m := (l.length : Int) - 1 + k) (by omega)
  exact ((((slope_rb h h2).mul a (by omega)).add (height_rb h h2) (by omega))).fits (by decide)
theorem ahead_ok {l : List Int} (h : LOk l) (h2 : 2 ≤ l.length) {k : Nat} (hk : k ≤ 48) : m_forecast_Ahead l k = some (ctext (ahead l k), 0) := by
  have h0 := h.len
  refine Gd.eq.1 ?_
  unfold m_forecast_Ahead
  rw [wrap_id (n := (l.length : Int) - 1) ⟨by omega, by omega⟩, wrap_id (n := (l.length : Int) - 1 + (k : Int)) ⟨by omega, by omega⟩]
  refine Gd.bind_eq (fcheck_ok h) (Gd.ite (fun hx => by simp at hx) (fun _ => Gd.bnd (line_gd h h2) (fun r hr => Gd.ite (fun hx => by simp [hr.1] at hx) (fun _ => Gd.ite (fun hx => ?_) (fun _ => ?_)))))
  · simp only [Bool.or_eq_true, decide_eq_true_eq] at hx; omega
  · have la := hr.2.ra.rb (by rw [hr.2.va]; exact slope_rb h h2)
    have lb := hr.2.rb.rb (by rw [hr.2.vb]; exact height_rb h h2)
    refine Gd.bnd (whole_gd (n := (l.length : Int) - 1 + k) ⟨by omega, by omega⟩) (fun w hw => Gd.bnd (rmul_gd hr.2.ra hw.1 la hw.2.1 (by omega)) (fun m hm => Gd.bnd (radd_gd hm.1 hr.2.rb hm.2.1 lb (by omega)) (fun s hs => Gd.bnd (ftext_gd hs.1) (fun t ht => Gd.ret ?_))))
    rw [ht, hs.2.2, hm.2.2, hw.2.2, hr.2.va, hr.2.vb]
    exact tx_ok (ahead_fits h h2 hk)
theorem ahead_short {l : List Int} (h : LOk l) (h2 : l.length < 2) (k : Int) : m_forecast_Ahead l k = some (⟨#[]⟩, 10) := by
  refine Gd.eq.1 ?_
  unfold m_forecast_Ahead
  refine Gd.bind_eq (fcheck_ok h) (Gd.ite (fun hx => by simp at hx) (fun _ => Gd.bnd (line_short h2) (fun r hr => Gd.ite (fun _ => Gd.ret (by rw [hr])) (fun hx => by simp [hr] at hx))))
/-- the residuals, from place k on -/
def resL (a b : Rat) (k : Nat) : List Int → List Rat
  | [] => []
  | v :: r => ((v : Rat) - (a * ((k : Int) : Rat) + b)) :: resL a b (k + 1) r
theorem resL_app (a b : Rat) : ∀ (p q : List Int) (k : Nat), resL a b k (p ++ q) = resL a b k p ++ resL a b (k + p.length) q
  | [], q, k => by simp [resL]
  | v :: p, q, k => by
    rw [List.cons_append, resL, resL_app a b p q (k + 1), resL, List.cons_append, List.length_cons, show k + (p.length + 1) = k + 1 + p.length by omega]
theorem resL_len (a b : Rat) : ∀ (p : List Int) (k : Nat), (resL a b k p).length = p.length
  | [], _ => rfl
  | v :: p, k => by rw [resL, List.length_cons, resL_len a b p, List.length_cons]
theorem res_one {a b : Rat} (ha : RB a 2) (hb : RB b 5) {v : Int} (hv : -100000 ≤ v ∧ v ≤ 100000) {k : Nat} (hk : k ≤ 48) : RB ((v : Rat) - (a * ((k : Int) : Rat) + b)) 11 :=
  ((RB.small (m := v) (by omega)).sub (((ha.mul (RB.small (m := (k : Int)) (by omega)) (by omega)).add hb (by omega))) (by omega)).mono (by omega)
theorem resL_rb {a b : Rat} (ha : RB a 2) (hb : RB b 5) : ∀ {l : List Int} {k : Nat}, (∀ v ∈ l, -100000 ≤ v ∧ v ≤ 100000) → k + l.length ≤ 48 → ∀ q ∈ resL a b k l, RB q 11
  | [], k, _, _ => by intro q hq; cases hq
  | v :: r, k, h, hl => by
    rw [List.length_cons] at hl
    intro q hq
    rcases List.mem_cons.1 hq with rfl | hq
    · exact res_one ha hb (h v (List.mem_cons_self ..)) (by omega)
    · exact resL_rb ha hb (l := r) (k := k + 1) (fun z hz => h z (List.mem_cons_of_mem _ hz)) (by omega) q hq
theorem resid_ok {l : List Int} (h : LOk l) (h2 : 2 ≤ l.length) : m_forecast_Residuals l = some ((resL (slope l) (height l) 0 l).map ctext, 0) := by
  have h0 := h.len
  refine Gd.eq.1 ?_
  unfold m_forecast_Residuals
  refine Gd.bind_eq (fcheck_ok h) (Gd.ite (fun hx => by simp at hx) (fun _ => Gd.bnd (line_gd h h2) (fun r hr => Gd.ite (fun hx => by simp [hr.1] at hx) (fun _ => ?_))))
  have la := hr.2.ra.rb (by rw [hr.2.va]; exact slope_rb h h2)
  have lb := hr.2.rb.rb (by rw [hr.2.vb]; exact height_rb h h2)
  refine Gd.forI (fun i ys (s : List ByteArray) => ∃ pre, l = pre ++ ys ∧ i = pre.length ∧ s = (resL (slope l) (height l) 0 pre).map ctext) ?_ ?_ l 0 _ ⟨[], rfl, rfl, rfl⟩
  · rintro i y ys s nx ⟨pre, e1, rfl, rfl⟩ hnx
    have hpl : pre.length + 1 ≤ l.length := by rw [e1]; simp
    have hy := h.val y (by rw [e1]; simp)
    unfold m_forecast_Residuals_b1
    refine Gd.bnd (whole_gd (n := y) ⟨by omega, by omega⟩) (fun v hv => Gd.bnd (whole_gd (n := (pre.length : Int)) ⟨by omega, by omega⟩) (fun k hk => Gd.bnd (rmul_gd hr.2.ra hk.1 la hk.2.1 (by omega)) (fun m hm => Gd.bnd (radd_gd hm.1 hr.2.rb hm.2.1 lb (by omega)) (fun s hs => Gd.bnd (rsub_gd hv.1 hs.1 hv.2.1 hs.2.1 (by omega)) (fun q hq => Gd.bnd (ftext_gd hq.1) (fun t ht => ?_))))))
    have hval : rv q = (y : Rat) - (slope l * ((pre.length : Int) : Rat) + height l) := by rw [hq.2.2, hv.2.2, hs.2.2, hm.2.2, hk.2.2, hr.2.va, hr.2.vb]
    have hf := (res_one (slope_rb h h2) (height_rb h h2) hy (k := pre.length) (by omega)).fits (by decide)
    rw [hval, tx_ok hf] at ht
    subst ht
    refine Gd.nd ?_ (hnx _ ⟨pre ++ [y], by rw [e1]; simp, by simp, ?_⟩)
    · rw [List.length_map, resL_len]; simp only [List.length_singleton]; omega
    · rw [resL_app, List.map_append, Nat.zero_add]; rfl
  · rintro i s ⟨pre, e1, rfl, rfl⟩
    rw [List.append_nil] at e1
    subst e1
    exact Gd.ret rfl
theorem resid_no {l : List Int} (h : ¬ (LOk l ∧ 2 ≤ l.length)) : ∃ c, c ≠ 0 ∧ m_forecast_Residuals l = some ([], c) := by
  suffices hh : Gd (m_forecast_Residuals l) (fun r => r.1 = [] ∧ r.2 ≠ 0) by
    obtain ⟨⟨r1, r2⟩, e, h1, h2⟩ := hh
    simp only at h1 h2
    exact ⟨r2, h2, by rw [e, h1]⟩
  unfold m_forecast_Residuals
  by_cases hl : LOk l
  · exact Gd.bind_eq (fcheck_ok hl) (Gd.ite (fun hx => by simp at hx) (fun _ => Gd.bnd (line_short (by
      rcases Nat.lt_or_ge l.length 2 with h2 | h2
      · exact h2
      · exact absurd ⟨hl, h2⟩ h)) (fun r hr => Gd.ite (fun _ => Gd.ret ⟨rfl, by rw [hr]; decide⟩) (fun hx => by simp [hr] at hx))))
  · obtain ⟨c, hc, e⟩ := fcheck_no hl
    exact Gd.bind_eq e (Gd.ite (fun _ => Gd.ret ⟨rfl, hc⟩) (fun hx => by simp [hc] at hx))
theorem Line_ok {l : List Int} (h : LOk l) (h2 : 2 ≤ l.length) : m_forecast_Line l = some (ctext (slope l), ctext (height l), 0) := by
  refine Gd.eq.1 ?_
  unfold m_forecast_Line
  refine Gd.bind_eq (fcheck_ok h) (Gd.ite (fun hx => by simp at hx) (fun _ => Gd.bnd (line_gd h h2) (fun r hr => Gd.ite (fun hx => by simp [hr.1] at hx) (fun _ => Gd.bnd (ftext_gd hr.2.ra) (fun s hs => Gd.bnd (ftext_gd hr.2.rb) (fun t ht => Gd.ret ?_))))))
  rw [hs, ht, hr.2.va, hr.2.vb, tx_ok ((slope_rb h h2).fits (by decide)), tx_ok ((height_rb h h2).fits (by decide))]

/-! ### sums of texts -/
def sumQ : List Rat → Rat
  | [] => 0
  | q :: r => q + sumQ r
theorem sumQ_app : ∀ a b : List Rat, sumQ (a ++ b) = sumQ a + sumQ b
  | [], b => by rw [List.nil_append, sumQ, Rat.zero_add]
  | v :: a, b => by rw [List.cons_append, sumQ, sumQ_app a b, sumQ, Rat.add_assoc]
theorem zero_text : ctext 0 = (⟨#[48]⟩ : ByteArray) := by
  unfold ctext cl
  have n0 : (0 : Rat).num = ((0 : Nat) : Int) := rfl
  rw [n0, Lib.itoa_nonneg, dec_zero, if_pos (show (0 : Rat).den = 1 from rfl)]; rfl
theorem sumQ_rb {A : Nat} : ∀ {l : List Rat}, (∀ q ∈ l, RB q A) → 1 + (A + 1) * l.length ≤ 800000 → RB (sumQ l) (1 + (A + 1) * l.length)
  | [], _, _ => (RB.small (m := 0) (by decide))
  | q :: r, h, hl => by
    rw [List.length_cons, Nat.mul_succ] at hl ⊢
    have h1 := sumQ_rb (l := r) (fun z hz => h z (List.mem_cons_of_mem _ hz)) (by omega)
    exact ((h q (List.mem_cons_self ..)).add h1 (by omega)).mono (by omega)
theorem qsum_ok {A : Nat} {l : List Rat} (h : ∀ q ∈ l, RB q A) (hA : A ≤ 187) (hl : 1 + (A + 1) * l.length ≤ 187) : m_rat_Sum (l.map ctext) = some (ctext (sumQ l), 0) := by
  have hlen : l.length ≤ 187 := by
    have : 1 * l.length ≤ (A + 1) * l.length := Nat.mul_le_mul_right _ (by omega)
    omega
  refine Gd.eq.1 ?_
  unfold m_rat_Sum
  have hall : m_rat_CheckAll (l.map ctext) = some 0 := by
    refine Gd.eq.1 ((checkall_gd (fun s hs => ?_)).mono (fun c hc => hc.2 (fun s hs => ?_)))
    · obtain ⟨q, hq, rfl⟩ := List.mem_map.1 hs
      have := ctext_size ((h q hq).fits hA)
      unfold maxLen; omega
    · obtain ⟨q, hq, rfl⟩ := List.mem_map.1 hs
      exact ⟨q, (h q hq).fits hA, rfl⟩
  refine Gd.ite (fun hx => absurd (of_decide_eq_true hx) (by rw [List.length_map]; omega)) (fun _ => Gd.bind_eq hall (Gd.ite (fun hx => by simp at hx) (fun _ => ?_)))
  refine Gd.forI (fun i ys (s : ByteArray) => ∃ pre post, l = pre ++ post ∧ ys = post.map ctext ∧ s = ctext (sumQ pre)) ?_ ?_ (l.map ctext) 0 _ ⟨[], l, rfl, rfl, zero_text.symm⟩
  · rintro i y ys s nx ⟨pre, post, e1, e2, rfl⟩ hnx
    cases post with
    | nil => simp at e2
    | cons q post =>
      simp only [List.map_cons, List.cons.injEq] at e2
      obtain ⟨rfl, rfl⟩ := e2
      have hq : q ∈ l := by rw [e1]; simp
      have hmul : (A + 1) * (pre ++ [q]).length ≤ (A + 1) * l.length := Nat.mul_le_mul_left _ (by rw [e1]; simp)
      have hsub : ∀ z ∈ pre ++ [q], RB z A := fun z hz => h z (by
        rw [e1]
        rcases List.mem_append.1 hz with hz | hz
        · exact List.mem_append_left _ hz
        · rw [List.mem_singleton] at hz; subst hz; simp)
      have hs := (sumQ_rb hsub (by omega)).fits (by omega)
      have hm2 : (A + 1) * pre.length ≤ (A + 1) * (pre ++ [q]).length := Nat.mul_le_mul_left _ (by simp)
      have hp := (sumQ_rb (fun z hz => hsub z (List.mem_append_left _ hz)) (by omega)).fits (by omega)
      have e3 : sumQ (pre ++ [q]) = sumQ pre + q := by rw [sumQ_app, sumQ, sumQ, Rat.add_zero]
      unfold m_rat_Sum_b1
      refine Gd.bind_eq (badd hp ((h q hq).fits hA)) ?_
      rw [← e3, tx_ok hs]
      exact Gd.ite (fun hx => by simp at hx) (fun _ => hnx _ ⟨pre ++ [q], post, by rw [e1]; simp, rfl, rfl⟩)
  · rintro i s ⟨pre, post, e1, e2, rfl⟩
    cases post with
    | nil => rw [List.append_nil] at e1; subst e1; exact Gd.ret rfl
    | cons q post => simp at e2
theorem cut_gd {n lo hi : Int} (h1 : -10000 ≤ lo) (h2 : lo ≤ hi) (h3 : hi ≤ 10000) (hn : -9223372036854775808 ≤ n ∧ n ≤ 9223372036854775807) : Gd (m_gridhallref4_Cut n lo hi) (fun r => lo ≤ r ∧ r ≤ hi) := by
  unfold m_gridhallref4_Cut m_gridhallref4_Cut_b1
  rw [wrap_id (n := hi - lo) ⟨by omega, by omega⟩, wrap_id (n := hi - lo + 1) ⟨by omega, by omega⟩]
  have hb1 : Int.tmod n (hi - lo + 1) < hi - lo + 1 := Int.tmod_lt_of_pos _ (by omega)
  have hb2 : -(hi - lo + 1) < Int.tmod n (hi - lo + 1) := by
    have h1 := Int.tmod_lt_of_pos (-n) (show 0 < hi - lo + 1 by omega)
    rw [Int.neg_tmod] at h1; omega
  refine Gd.nd (by omega) (Gd.ite (fun h => Gd.ret ?_) (fun h => Gd.ret ?_))
  · have h := of_decide_eq_true h
    rw [wrap_id (n := Int.tmod n (hi - lo + 1) + (hi - lo + 1)) ⟨by omega, by omega⟩, wrap_id ⟨by omega, by omega⟩]; omega
  · have h := of_decide_eq_false h
    rw [wrap_id ⟨by omega, by omega⟩]; omega
end Go.Sim
