/-
  Maintenance plans, in plain Lean: plans that are accepted; the search.
-/
import Derived.Test.YtogalpcheddenaaUpkQ
namespace Go.Sim
open Go
set_option linter.unusedVariables false
set_option linter.unusedSimpArgs false
set_option linter.unusedSectionVars false
set_option linter.unnecessarySimpa false

def wei (t : Task) (k : Nat) : Int := ((t.Jobs[k]?).map (·.Weight)).getD 0
def fst' (t : Task) (k : Nat) : Int := ((t.Jobs[k]?).map (·.First)).getD 0
def lst' (t : Task) (k : Nat) : Int := ((t.Jobs[k]?).map (·.Last)).getD 0
def costN (t : Task) (l : List Int) : Nat → Int
  | 0 => 0
  | k + 1 => costN t l k + wei t k * (stt l k - fst' t k)
/-- A plan for the first n jobs. -/
structure Part (t : Task) (l : List Int) (n : Nat) : Prop where
  len : l.length = n
  le : n ≤ t.Jobs.length
  rg : ∀ i, i < n → fst' t i ≤ stt l i ∧ stt l i ≤ lst' t i
  ok : ∀ i, i < n → OkAt t l i
abbrev Feas (t : Task) (l : List Int) : Prop := Part t l t.Jobs.length

theorem dayc_cg {t : Task} {l l' : List Int} {i : Nat} (h : ∀ k, k ≤ i → stt l k = stt l' k) (d : Int) : ∀ k, k ≤ i → dayc t l i k d = dayc t l' i k d
  | 0, _ => rfl
  | k + 1, hk => by
    show dayc t l i k d + (if max (stt l k) (stt l i) ≤ d ∧ d < min (stt l k + lng t k) (stt l i + lng t i) then 1 else 0) = dayc t l' i k d + (if max (stt l' k) (stt l' i) ≤ d ∧ d < min (stt l' k + lng t k) (stt l' i + lng t i) then 1 else 0)
    rw [dayc_cg h d k (by omega), h k (by omega), h i (Nat.le_refl _)]
theorem OkAt.cg {t : Task} {l l' : List Int} {i : Nat} (h : ∀ k, k ≤ i → stt l k = stt l' k) (ho : OkAt t l i) : OkAt t l' i := by
  refine ⟨fun k hk hh => ho.ap k hk ?_, fun d h0 h1 => ?_⟩
  · simpa only [enn, h k (by omega), h i (Nat.le_refl _)] using hh
  · rw [← dayc_cg h d i (Nat.le_refl _)]
    exact ho.cr d (by rw [h i (Nat.le_refl _)]; exact h0) (by simpa only [enn, h i (Nat.le_refl _)] using h1)
theorem costN_cg {t : Task} {l l' : List Int} : ∀ n, (∀ k, k < n → stt l k = stt l' k) → costN t l n = costN t l' n
  | 0, _ => rfl
  | n + 1, h => by simp only [costN, costN_cg n (fun k hk => h k (by omega)), h n (by omega)]
theorem jobs_at {t : Task} (hT : TaskOk t) {i : Nat} (hi : i < t.Jobs.length) : ∃ j, t.Jobs[i]? = some j ∧ JobOk j ∧ wei t i = j.Weight ∧ fst' t i = j.First ∧ lst' t i = j.Last := by
  obtain ⟨j, hj⟩ := get_of hi
  exact ⟨j, hj, hT.job j (List.mem_of_getElem? hj), by simp [wei, hj], by simp [fst', hj], by simp [lst', hj]⟩
theorem prod_bd {w d : Int} (w0 : 0 ≤ w) (w1 : w ≤ 1000) (d0 : 0 ≤ d) (d1 : d ≤ 60) : 0 ≤ w * d ∧ w * d ≤ 60000 := by
  refine ⟨Int.mul_nonneg w0 d0, ?_⟩
  have : w * d ≤ 1000 * 60 := Int.mul_le_mul w1 d1 d0 (by omega)
  omega
theorem rg_bd {t : Task} (hT : TaskOk t) {i : Nat} (hi : i < t.Jobs.length) {x : Int} (h : fst' t i ≤ x ∧ x ≤ lst' t i) : 0 ≤ x ∧ x ≤ 60 := by
  obtain ⟨j, _, hJ, _, hf, hl⟩ := jobs_at hT hi
  have := hJ.f0
  have := hJ.la
  omega
theorem cost_bd {t : Task} (hT : TaskOk t) {l : List Int} : ∀ n, n ≤ t.Jobs.length → (∀ i, i < n → fst' t i ≤ stt l i ∧ stt l i ≤ lst' t i) → 0 ≤ costN t l n ∧ costN t l n ≤ 60000 * n
  | 0, _, _ => by simp [costN]
  | n + 1, hn, h => by
    have ih := cost_bd hT n (by omega) (fun i hi => h i (by omega))
    obtain ⟨j, _, hJ, hw, hf, hl⟩ := jobs_at hT (show n < t.Jobs.length by omega)
    have hr := h n (by omega)
    have := hJ.w0; have := hJ.w1; have := hJ.f0; have := hJ.la
    have := prod_bd (w := wei t n) (d := stt l n - fst' t n) (by omega) (by omega) (by omega) (by omega)
    simp only [costN]; omega
theorem cost_mono {t : Task} (hT : TaskOk t) {l : List Int} {a : Nat} : ∀ m, a + m ≤ t.Jobs.length → (∀ i, i < a + m → fst' t i ≤ stt l i) → costN t l a ≤ costN t l (a + m)
  | 0, _, _ => Int.le_refl _
  | m + 1, hn, h => by
    have ih := cost_mono hT (a := a) m (by omega) (fun i hi => h i (by omega))
    obtain ⟨j, _, hJ, hw, hf, hl⟩ := jobs_at hT (show a + m < t.Jobs.length by omega)
    have := hJ.w0
    have hh := h (a + m) (by omega)
    have : 0 ≤ wei t (a + m) * (stt l (a + m) - fst' t (a + m)) := Int.mul_nonneg (by omega) (by omega)
    show costN t l a ≤ costN t l (a + m) + wei t (a + m) * (stt l (a + m) - fst' t (a + m))
    omega

theorem verify_gd {t : Task} (hz : ∀ j ∈ t.Jobs, j.Name.size ≤ maxLen) (l : List Int) : Gd (m_upkeep_Verify t l) (fun r => (r.2 = 0 ↔ TaskOk t ∧ Feas t l) ∧ (r.2 = 0 → r.1 = costN t l t.Jobs.length)) := by
  obtain ⟨e, he, heq⟩ := check_gd t hz
  unfold m_upkeep_Verify
  have hbad : ∀ {x e : Int}, e ≠ 0 → (TaskOk t → ¬ Feas t l) → Gd (some (x, e)) (fun r => (r.2 = 0 ↔ TaskOk t ∧ Feas t l) ∧ (r.2 = 0 → r.1 = costN t l t.Jobs.length)) := fun he hn =>
    Gd.ret ⟨⟨fun h => absurd h he, fun h => absurd h.2 (hn h.1)⟩, fun h => absurd h he⟩
  refine Gd.bind_eq he (Gd.ite (fun h => hbad (by simpa using h) (fun h' => absurd (heq.2 h') (by simpa using h))) (fun h => ?_))
  have he0 : e = 0 := by simpa using h
  have hT := heq.1 he0
  have h6 := hT.j6
  refine Gd.ite (fun h => hbad (by omega) (fun _ hf => ?_)) (fun h => ?_)
  · have := hf.len
    simp at h; omega
  have hlen : l.length = t.Jobs.length := by simp at h; omega
  refine Gd.forI (fun k ys s => ys = t.Jobs.drop k ∧ k ≤ t.Jobs.length ∧ s = costN t l k ∧ ∀ i, i < k → fst' t i ≤ stt l i ∧ stt l i ≤ lst' t i) ?_ ?_ t.Jobs 0 0 ⟨by simp, by omega, rfl, fun i hi => by omega⟩
  · rintro k y ys s nx ⟨hys, hk, rfl, hr⟩ hnx
    obtain ⟨hy, hys'⟩ := drop_cons hys
    have hkl := lt_of hy
    obtain ⟨x, hx⟩ := get_of (l := l) (i := k) (by omega)
    have hsx := stt_of hx
    have hJ := hT.job y (List.mem_of_getElem? hy)
    have hf : fst' t k = y.First := by simp [fst', hy]
    have hla : lst' t k = y.Last := by simp [lst', hy]
    have hwe : wei t k = y.Weight := by simp [wei, hy]
    unfold m_upkeep_Verify_b1
    refine Gd.ix (by omega) (by simpa using hx) (Gd.ite (fun h => hbad (by omega) (fun _ hF => ?_)) (fun h1 => ?_))
    · have := hF.rg k hkl
      simp at h; omega
    refine Gd.ix (by omega) (by simpa using hx) (Gd.ite (fun h => hbad (by omega) (fun _ hF => ?_)) (fun h2 => Gd.ix (by omega) (by simpa using hx) ?_))
    · have := hF.rg k hkl
      simp at h; omega
    simp only [decide_eq_false_iff_not] at h1 h2
    have := hJ.f0; have := hJ.la; have := hJ.w0; have := hJ.w1
    have hp := prod_bd (w := y.Weight) (d := x - y.First) (by omega) (by omega) (by omega) (by omega)
    have hc := cost_bd hT k (by omega) hr
    rw [wrap_id (n := x - y.First) (by omega), wrap_id (n := y.Weight * (x - y.First)) (by omega), wrap_id (by omega)]
    refine hnx _ ⟨hys', by omega, by simp only [costN, hsx, hf, hwe], fun i hi => ?_⟩
    by_cases e : i = k
    · subst e; omega
    · exact hr i (by omega)
  · rintro k s ⟨hys, hk, rfl, hr⟩
    have hk2 : k = t.Jobs.length := by have := drop_nil hys; omega
    subst hk2
    refine Gd.forN (fun m i _ => i + m = l.length ∧ ∀ i', i' < i → OkAt t l i') ?_ ?_ (l.length : Int).toNat 0 () ⟨by omega, fun i hi => by omega⟩
    · rintro m i _ nx ⟨hi, ho⟩ hnx
      unfold m_upkeep_Verify_b2
      refine Gd.bnd (wrong_gd hT (l := l) (i := i) ⟨by omega, by omega, fun k hk => rg_bd hT (by omega) (hr k (by omega))⟩) (fun e he => Gd.ite (fun h => hbad (by simpa using h) (fun _ hF => ?_)) (fun h => hnx () ⟨by omega, fun i' hi' => ?_⟩))
      · have := he.2 (hF.ok i (by omega))
        simp [this] at h
      · by_cases q : i' = i
        · subst q; exact he.1 (by simpa using h)
        · exact ho i' (by omega)
    · rintro i _ ⟨hi, ho⟩
      exact Gd.ret ⟨⟨fun _ => ⟨hT, hlen, Nat.le_refl _, hr, fun i' hi' => ho i' (by omega)⟩, fun _ => rfl⟩, fun _ => rfl⟩

/-- A search's state. -/
structure SOk (t : Task) (s : S_upkeep_search) : Prop where
  tt : s.t = t
  bb : s.best = [] ∨ (Feas t s.best ∧ s.cost = costN t s.best t.Jobs.length)
structure UPost (t : Task) (s : S_upkeep_search) (l : List Int) (q : Int → Prop) (s' : S_upkeep_search) : Prop where
  ok : SOk t s'
  mono : s.best ≠ [] → s'.best ≠ [] ∧ s'.cost ≤ s.cost
  all : ∀ p, Feas t p → (∀ k, k < l.length → stt p k = stt l k) → q (stt p l.length) → s'.best ≠ [] ∧ s'.cost ≤ costN t p t.Jobs.length
theorem stt_app {l : List Int} {x : Int} {k : Nat} (h : k < l.length) : stt (l ++ [x]) k = stt l k := by
  simp [stt, List.getD_eq_getElem?_getD, List.getElem?_append_left h]
theorem stt_app_last (l : List Int) (x : Int) : stt (l ++ [x]) l.length = x := by
  simp [stt, List.getD_eq_getElem?_getD]
theorem slc_all (l : List Int) : slc l 0 ((l.length : Int)).toNat = l := by
  simp [slc]
theorem isEmpty_false {l : List Int} : (!l.isEmpty) = true ↔ l ≠ [] := by cases l <;> simp

theorem try_gd {t : Task} (hT : TaskOk t) (hN : 0 < t.Jobs.length) : ∀ (m : Nat) (l : List Int) (s : S_upkeep_search), Part t l l.length → t.Jobs.length = l.length + m → SOk t s → ∀ n, m < n →
    Gd (m_upkeep_search_try_fuel n s l (costN t l l.length)) (UPost t s l (fun _ => True))
  | m, l, s, hP, hm, hS, 0, hn => by omega
  | m, l, s, hP, hm, hS, n + 1, hn => by
    have h6 := hT.j6
    have hst := hS.tt
    show Gd (m_upkeep_search_try_step (m_upkeep_search_try_fuel n) s l (costN t l l.length)) _
    unfold m_upkeep_search_try_step
    refine Gd.ite (fun h => Gd.ret ⟨hS, fun h => ⟨h, Int.le_refl _⟩, fun p hF hp _ => ?_⟩) (fun h => ?_)
    · rw [Bool.and_eq_true, isEmpty_false, decide_eq_true_eq] at h
      refine ⟨h.1, ?_⟩
      have e1 := costN_cg (t := t) l.length hp
      have e2 := cost_mono hT (l := p) (a := l.length) m (by omega) (fun i hi => (hF.rg i (by omega)).1)
      rw [← hm] at e2
      omega
    have hcut : s.best ≠ [] → costN t l l.length < s.cost := fun hb => by
      refine Int.not_le.1 fun hle => ?_
      have : (!s.best.isEmpty && decide (s.cost ≤ costN t l l.length)) = true := by rw [isEmpty_false.2 hb, decide_eq_true hle]; rfl
      rw [this] at h; cases h
    rw [hst]
    refine Gd.ite (fun h => ?_) (fun h => ?_)
    · have hl : l.length = t.Jobs.length := by simp at h; omega
      refine Gd.nd (by omega) (Gd.nd (by omega) (Gd.ret ⟨⟨rfl, .inr ⟨by unfold Feas; rw [← hl]; exact hP, by rw [← hl]⟩⟩, fun hb => ⟨fun e => by simp only at e; rw [e] at hl; simp at hl; omega, ?_⟩, fun p hF hp _ => ⟨fun e => by simp only at e; rw [e] at hl; simp at hl; omega, ?_⟩⟩))
      · have := hcut hb
        simp only; omega
      · have := costN_cg (t := t) l.length hp
        simp only; rw [← hl]; omega
    · have hl : l.length ≠ t.Jobs.length := by simp at h; omega
      obtain ⟨m', rfl⟩ : ∃ m', m = m' + 1 := ⟨m - 1, by omega⟩
      have hli : l.length < t.Jobs.length := by omega
      obtain ⟨j, hj, hJ, hw, hf, hla⟩ := jobs_at hT hli
      have := hJ.f0; have := hJ.la; have := hJ.w0; have := hJ.w1; have := hJ.fl
      have hcb := cost_bd hT l.length (by omega) hP.rg
      refine Gd.ix (by omega) (by simpa using hj) ?_
      refine Gd.loopF (fun z => j.First ≤ z.1 ∧ UPost t s l (fun x => x < z.1) ⟨⟨z.2.1, z.2.2.1, z.2.2.2.1⟩, z.2.2.2.2.1, z.2.2.2.2.2⟩) (fun z => (j.Last + 1 - z.1).toNat) ?_ FUEL _ ⟨Int.le_refl _, ⟨hst ▸ rfl, ?_⟩, fun hb => ⟨hb, Int.le_refl _⟩, fun p hF hp hlt => ?_⟩ (by simp only [FUEL]; omega)
      · rintro ⟨d, js, ap, cr, be, co⟩ nx ⟨hd, hpost⟩ hnx
        simp only at hd hpost
        have hte := hpost.ok.tt
        simp only at hte
        show Gd (m_upkeep_search_try_b3 (m_upkeep_search_try_fuel n) l (costN t l l.length) j d js ap cr be co nx) _
        unfold m_upkeep_search_try_b3 m_upkeep_search_try_b4
        refine Gd.ite (fun h => ?_) (fun h => ?_)
        · simp only [decide_eq_true_eq] at h
          rw [slc_all, hte]
          refine Gd.nd (by omega) (Gd.nd (by simp; omega) ?_)
          have hpre : ∀ k, k ≤ l.length → 0 ≤ stt (l ++ [d]) k ∧ stt (l ++ [d]) k ≤ 60 := fun k hk => by
            by_cases e : k = l.length
            · subst e; rw [stt_app_last]; omega
            · rw [stt_app (by omega)]; exact rg_bd hT (by omega) (hP.rg k (by omega))
          refine Gd.bnd (wrong_gd hT (l := l ++ [d]) (i := l.length) ⟨hli, by simp, hpre⟩) (fun e he => ?_)
          have hw1 : IntKind.i64.wrap (d + 1) = d + 1 := wrap_id (by omega)
          rw [hw1]
          have hext : ∀ p, (∀ k, k < l.length → stt p k = stt l k) → stt p l.length = d → ∀ k, k ≤ l.length → stt p k = stt (l ++ [d]) k := fun p hp e k hk => by
            by_cases q : k = l.length
            · subst q; rw [stt_app_last]; exact e
            · rw [stt_app (by omega)]; exact hp k (by omega)
          refine Gd.ite (fun h0 => ?_) (fun h0 => ?_)
          · have he0 : e = 0 := by simpa using h0
            have hok := he.1 he0
            have hprod := prod_bd (w := j.Weight) (d := d - j.First) (by omega) (by omega) (by omega) (by omega)
            rw [wrap_id (n := d - j.First) (by omega), wrap_id (n := j.Weight * (d - j.First)) (by omega), wrap_id (n := costN t l l.length + j.Weight * (d - j.First)) (by omega)]
            have hcost : costN t l l.length + j.Weight * (d - j.First) = costN t (l ++ [d]) (l ++ [d]).length := by
              rw [List.length_append, List.length_singleton]
              simp only [costN]
              rw [costN_cg (t := t) (l := l ++ [d]) (l' := l) l.length (fun k hk => stt_app hk), stt_app_last, hw, hf]
            rw [hcost]
            have hP' : Part t (l ++ [d]) (l ++ [d]).length := by
              refine ⟨rfl, by simp; omega, fun i hi => ?_, fun i hi => ?_⟩
              · simp at hi
                by_cases q : i = l.length
                · subst q; rw [stt_app_last]; omega
                · rw [stt_app (by omega)]; exact hP.rg i (by omega)
              · simp at hi
                by_cases q : i = l.length
                · subst q; exact hok
                · exact (hP.ok i (by omega)).cg (fun k hk => (stt_app (by omega)).symm)
            refine Gd.bnd (try_gd hT hN m' (l ++ [d]) ⟨t, be, co⟩ hP' (by simp; omega) (by have hq := hpost.ok; rw [hte] at hq; exact hq) n (by omega)) (fun r hr => ?_)
            refine hnx _ ⟨by simp only; omega, ⟨hr.ok, fun hb => ?_, fun p hF hp hlt => ?_⟩⟩ (by simp only; omega)
            · have h1 := hpost.mono hb
              have h2 := hr.mono h1.1
              exact ⟨h2.1, Int.le_trans h2.2 h1.2⟩
            · by_cases q : stt p l.length = d
              · exact hr.all p hF (fun k hk => hext p hp q k (by simp at hk; omega)) trivial
              · have h1 := hpost.all p hF hp (by omega)
                have h2 := hr.mono h1.1
                exact ⟨h2.1, Int.le_trans h2.2 h1.2⟩
          · have he0 : e ≠ 0 := by simpa using h0
            refine hnx _ ⟨by simp only; omega, ⟨hpost.ok, hpost.mono, fun p hF hp hlt => ?_⟩⟩ (by simp only; omega)
            by_cases q : stt p l.length = d
            · exact absurd (he.2 ((hF.ok l.length hli).cg (hext p hp q))) he0
            · exact hpost.all p hF hp (by omega)
        · simp only [decide_eq_false_iff_not] at h
          refine Gd.ret ⟨hpost.ok, hpost.mono, fun p hF hp _ => hpost.all p hF hp ?_⟩
          have := (hF.rg l.length hli).2
          omega
      · have := hS.bb
        simpa using this
      · have := (hF.rg l.length hli).1
        simp only at hlt
        omega
termination_by m => m

/-- What the best plan is. -/
def BestOk (t : Task) (r : List Int × Int × Int) : Prop :=
  (¬ TaskOk t ∧ r.1 = [] ∧ r.2.1 = 0 ∧ r.2.2 ≠ 0) ∨ (TaskOk t ∧ r.2.2 = 8 ∧ r.1 = [] ∧ r.2.1 = 0 ∧ ∀ p, ¬ Feas t p) ∨
  (TaskOk t ∧ r.2.2 = 0 ∧ Feas t r.1 ∧ r.2.1 = costN t r.1 t.Jobs.length ∧ ∀ p, Feas t p → r.2.1 ≤ costN t p t.Jobs.length)
theorem best_gd {t : Task} (hz : ∀ j ∈ t.Jobs, j.Name.size ≤ maxLen) : Gd (m_upkeep_Best t) (BestOk t) := by
  obtain ⟨e, he, heq⟩ := check_gd t hz
  unfold m_upkeep_Best
  refine Gd.bind_eq he (Gd.ite (fun h => ?_) (fun h => ?_))
  · have h0 : e ≠ 0 := by simpa using h
    exact Gd.ret (.inl ⟨fun h' => h0 (heq.2 h'), rfl, rfl, h0⟩)
  have hT := heq.1 (by simpa using h)
  refine Gd.ite (fun h => ?_) (fun h => ?_)
  · have h0 : t.Jobs.length = 0 := by simpa using h
    refine Gd.ret (.inr (.inr ⟨hT, rfl, ⟨h0.symm ▸ rfl, Nat.le_refl _, fun i hi => by omega, fun i hi => by omega⟩, by rw [h0]; rfl, fun p _ => by rw [h0]; exact Int.le_refl _⟩))
  · have h0 : t.Jobs.length ≠ 0 := by simpa using h
    have h6 := hT.j6
    have := try_gd hT (by omega) t.Jobs.length [] ⟨t, [], 0⟩ ⟨rfl, Nat.zero_le _, fun i hi => by simp at hi, fun i hi => by simp at hi⟩ (by simp) ⟨rfl, .inl rfl⟩ FUEL (by unfold FUEL; omega)
    refine Gd.bnd (o := m_upkeep_search_try ⟨t, [], 0⟩ [] 0) this (fun r hr => Gd.ite (fun h => ?_) (fun h => ?_))
    · have hb : r.best = [] := by simpa using h
      refine Gd.ret (.inr (.inl ⟨hT, rfl, rfl, rfl, fun p hF => ?_⟩))
      exact (hr.all p hF (fun k hk => by simp at hk) trivial).1 hb
    · have hb : r.best ≠ [] := by simpa using h
      rcases hr.ok.bb with h | ⟨hF, hc⟩
      · exact absurd h hb
      · exact Gd.ret (.inr (.inr ⟨hT, rfl, hF, hc, fun p hF => (hr.all p hF (fun k hk => by simp at hk) trivial).2⟩))
end Go.Sim
