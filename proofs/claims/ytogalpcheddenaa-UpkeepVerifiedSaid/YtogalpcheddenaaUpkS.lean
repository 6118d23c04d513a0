/-
  Maintenance plans: the three laws.
-/
import Derived.Test.YtogalpcheddenaaUpkR
import Derived.KernelRfl
namespace Go.Sim
open Go
set_option linter.unusedVariables false
set_option linter.unusedSimpArgs false
set_option linter.unusedSectionVars false
set_option linter.unnecessarySimpa false

def JbSz (l : List Job) : Prop := ∀ j ∈ l, j.Name.size ≤ maxLen
theorem small_gd (t : Task) (hz : JbSz t.Jobs) : Gd (m_gridhallkeep4_small t) (fun t' => JbSz t'.Jobs) := by
  unfold m_gridhallkeep4_small
  have h4 : (slc t.Jobs 0 (min (t.Jobs.length : Int) 4).toNat).length ≤ 4 := by simp [slc]; omega
  have hs : JbSz (slc t.Jobs 0 (min (t.Jobs.length : Int) 4).toNat) := fun j hj => hz j (List.mem_of_mem_take (by simpa [slc] using hj))
  refine Gd.nd (by omega) ?_
  generalize slc t.Jobs 0 _ = A at h4 hs ⊢
  refine Gd.nd (by omega) ?_
  refine Gd.forN (fun m i (s : List Job) => i + m = A.length ∧ s.length = A.length ∧ JbSz s) ?_ ?_ (A.length : Int).toNat 0 A ⟨by omega, rfl, hs⟩
  · rintro m i s nx ⟨hi, hl, hsz⟩ hnx
    unfold m_gridhallkeep4_small_b3 m_gridhallkeep4_small_b4
    obtain ⟨y, hy⟩ := get_of (l := s) (i := i) (by omega)
    refine Gd.ix (by omega) (by simpa using hy) (Gd.ite (fun _ => hnx _ ⟨by omega, by simp [hl], fun j hj => ?_⟩) (fun _ => hnx _ ⟨by omega, hl, hsz⟩))
    rcases List.mem_or_eq_of_mem_set hj with h | rfl
    · exact hsz j h
    · exact hsz y (List.mem_of_getElem? hy)
  · rintro i s ⟨hi, hl, hsz⟩
    exact Gd.ret hsz
theorem upkeepFact_true : m_gridhallkeep4_upkeepFact = some true := by kernel_rfl

theorem dayc_jobs {t t' : Task} {l : List Int} {i : Nat} (h : ∀ k, k ≤ i → t.Jobs[k]? = t'.Jobs[k]?) (d : Int) : ∀ k, k ≤ i → dayc t l i k d = dayc t' l i k d
  | 0, _ => rfl
  | k + 1, hk => by
    have e1 : enn t l k = enn t' l k := by simp only [enn, lng, h k (by omega)]
    have e2 : enn t l i = enn t' l i := by simp only [enn, lng, h i (Nat.le_refl _)]
    show dayc t l i k d + (if max (stt l k) (stt l i) ≤ d ∧ d < min (enn t l k) (enn t l i) then 1 else 0) = dayc t' l i k d + (if max (stt l k) (stt l i) ≤ d ∧ d < min (enn t' l k) (enn t' l i) then 1 else 0)
    rw [dayc_jobs h d k (by omega), e1, e2]
theorem OkAt.weak {t t' : Task} {l : List Int} {i : Nat} (ho : OkAt t l i) (h : ∀ k, k ≤ i → t.Jobs[k]? = t'.Jobs[k]?) (ha : ∀ p ∈ t'.Apart, p ∈ t.Apart) (hc : t.Crews ≤ t'.Crews) : OkAt t' l i := by
  have e : ∀ k, k ≤ i → enn t' l k = enn t l k := fun k hk => by simp only [enn, lng, h k hk]
  refine ⟨fun k hk hh => ?_, fun d h0 h1 => ?_⟩
  · rw [e k (by omega), e i (Nat.le_refl _)] at hh
    have := ho.ap k hk hh
    exact ⟨fun hm => this.1 (ha _ hm), fun hm => this.2 (ha _ hm)⟩
  · rw [e i (Nat.le_refl _)] at h1
    have := ho.cr d h0 h1
    rw [← dayc_jobs h d i (Nat.le_refl _)]
    omega
theorem costN_jobs {t t' : Task} {l : List Int} : ∀ n, (∀ k, k < n → t.Jobs[k]? = t'.Jobs[k]?) → costN t l n = costN t' l n
  | 0, _ => rfl
  | n + 1, h => by simp only [costN, costN_jobs n (fun k hk => h k (by omega)), wei, fst', h n (by omega)]
theorem feas_weak {t t' : Task} {l : List Int} (hF : Feas t l) (hj : t'.Jobs = t.Jobs) (ha : ∀ p ∈ t'.Apart, p ∈ t.Apart) (hc : t.Crews ≤ t'.Crews) : Feas t' l := by
  unfold Feas
  rw [hj]
  refine ⟨hF.len, by rw [hj]; exact Nat.le_refl _, fun i hi => ?_, fun i hi => (hF.ok i hi).weak (fun k _ => by rw [hj]) ha hc⟩
  have := hF.rg i hi
  simpa only [fst', lst', hj] using this
/-- A task that is easier has a best plan, and it costs at most as much. -/
theorem better {t t' : Task} {r r' : List Int × Int × Int} (hT' : TaskOk t') (hB' : BestOk t' r') {p : List Int} (hF : Feas t' p) {c : Int} (hc : costN t' p t'.Jobs.length ≤ c) : r'.2.2 = 0 ∧ r'.2.1 ≤ c := by
  rcases hB' with ⟨h, _⟩ | ⟨_, _, _, _, h⟩ | ⟨_, h0, _, _, h⟩
  · exact absurd hT' h
  · exact absurd hF (h p)
  · exact ⟨h0, Int.le_trans (h p hF) hc⟩

theorem UpkeepCrews_true (t : Task) (hz : JbSz t.Jobs) : m_gridhallkeep4_UpkeepCrews t = some true := by
  rw [← Gd.eq]
  unfold m_gridhallkeep4_UpkeepCrews
  refine Gd.bnd (small_gd t hz) (fun t hz => Gd.bnd (best_gd hz) (fun r hr => Gd.ite (fun h => Gd.bind_eq upkeepFact_true (Gd.ret ?_)) (fun h => ?_)))
  · have h : r.2.2 ≠ 0 := by simpa using h
    rcases hr with ⟨_, _, h1, _⟩ | ⟨_, _, _, h1, _⟩ | ⟨_, h0, _⟩
    · simp [h1]
    · simp [h1]
    · exact absurd h0 h
  · have h : r.2.2 = 0 := by simpa using h
    rcases hr with ⟨_, _, _, h0⟩ | ⟨_, h0, _⟩ | ⟨hT, _, hF, hc, _⟩
    · exact absurd h h0
    · rw [h] at h0; cases h0
    have := hT.a256; have := hT.c1; have := hT.c6
    rw [wrap_id (n := (t.Apart.length : Int) - 1) (by omega), wrap_id (n := t.Crews + 1) (by omega)]
    refine Gd.nd (by omega) ?_
    have hsub : ∀ p ∈ slc t.Apart 0 (max 0 ((t.Apart.length : Int) - 1)).toNat, p ∈ t.Apart := fun p hp => List.mem_of_mem_take (by simpa [slc] using hp)
    have hslen : (slc t.Apart 0 (max 0 ((t.Apart.length : Int) - 1)).toNat).length ≤ 256 := by simp [slc]; omega
    generalize slc t.Apart 0 _ = B at hsub hslen ⊢
    refine Gd.bnd (best_gd (t := ⟨t.Jobs, t.Apart, min (t.Crews + 1) 6⟩) hz) (fun a ha => Gd.bnd (best_gd (t := ⟨t.Jobs, B, t.Crews⟩) hz) (fun b hb => Gd.bind_eq upkeepFact_true (Gd.ret ?_)))
    have hT1 : TaskOk ⟨t.Jobs, t.Apart, min (t.Crews + 1) 6⟩ := ⟨hT.j6, hT.a256, by simp only; omega, by simp only; omega, hT.job, hT.nd, hT.pair⟩
    have hT2 : TaskOk ⟨t.Jobs, B, t.Crews⟩ := ⟨hT.j6, hslen, hT.c1, hT.c6, hT.job, hT.nd, fun p hp => hT.pair p (hsub p hp)⟩
    have hF1 : Feas ⟨t.Jobs, t.Apart, min (t.Crews + 1) 6⟩ r.1 := feas_weak hF rfl (fun p hp => hp) (by simp only; omega)
    have hF2 : Feas ⟨t.Jobs, B, t.Crews⟩ r.1 := feas_weak hF rfl hsub (Int.le_refl _)
    have q1 := better (t := t) (r := r) hT1 ha hF1 (c := r.2.1) (by rw [hc]; exact Int.le_of_eq (costN_jobs _ fun _ _ => rfl))
    have q2 := better (t := t) (r := r) hT2 hb hF2 (c := r.2.1) (by rw [hc]; exact Int.le_of_eq (costN_jobs _ fun _ _ => rfl))
    simp [q1.1, q1.2, q2.1, q2.2]

theorem stt_take {l : List Int} {k n : Nat} (h : k < n) : stt (l.take n) k = stt l k := by
  simp [stt, List.getD_eq_getElem?_getD, List.getElem?_take, h]
theorem UpkeepAlone_true (t : Task) (hz : JbSz t.Jobs) : m_gridhallkeep4_UpkeepAlone t = some true := by
  rw [← Gd.eq]
  unfold m_gridhallkeep4_UpkeepAlone
  refine Gd.bnd (small_gd t hz) (fun t hz => Gd.bnd (best_gd (t := ⟨t.Jobs, [], t.Crews⟩) hz) (fun r hr => Gd.ite (fun h => Gd.bind_eq upkeepFact_true (Gd.ret ?_)) (fun h => ?_)))
  · rcases hr with ⟨_, _, h1, _⟩ | ⟨_, _, _, h1, _⟩ | ⟨_, h0, _, hc, _⟩
    · simp [h1]
    · simp [h1]
    · have h : t.Jobs.length = 0 := by simpa [h0] using h
      simp only [h, costN] at hc
      simp [hc]
  · have h : r.2.2 = 0 ∧ t.Jobs.length ≠ 0 := by simpa using h
    rcases hr with ⟨_, _, _, h0⟩ | ⟨_, h0, _⟩ | ⟨hT, _, hF, hc, _⟩
    · exact absurd h.1 h0
    · rw [h.1] at h0; cases h0
    have h6 := hT.j6
    simp only at h6
    rw [wrap_id (n := (t.Jobs.length : Int) - 1) (by omega)]
    refine Gd.nd (by omega) ?_
    have hslc : slc t.Jobs 0 ((t.Jobs.length : Int) - 1).toNat = t.Jobs.take (t.Jobs.length - 1) := by
      simp [slc]
    rw [hslc]
    have hz' : JbSz (t.Jobs.take (t.Jobs.length - 1)) := fun j hj => hz j (List.mem_of_mem_take hj)
    refine Gd.bnd (best_gd (t := ⟨t.Jobs.take (t.Jobs.length - 1), [], t.Crews⟩) hz') (fun b hb => Gd.bind_eq upkeepFact_true (Gd.ret ?_))
    have hlen : (t.Jobs.take (t.Jobs.length - 1)).length = t.Jobs.length - 1 := by simp
    have hget : ∀ k, k < t.Jobs.length - 1 → t.Jobs[k]? = (t.Jobs.take (t.Jobs.length - 1))[k]? := fun k hk => by rw [List.getElem?_take, if_pos hk]
    have hT1 : TaskOk ⟨t.Jobs.take (t.Jobs.length - 1), [], t.Crews⟩ := by
      refine ⟨by simp only [hlen]; omega, by simp, hT.c1, hT.c6, fun j hj => hT.job j (List.mem_of_mem_take hj), ?_, fun p hp => by simp at hp⟩
      have := hT.nd
      simp only at this ⊢
      exact this.sublist ((List.take_sublist _ _).map _)
    have hF1 : Feas ⟨t.Jobs.take (t.Jobs.length - 1), [], t.Crews⟩ (r.1.take (t.Jobs.length - 1)) := by
      have hfl := hF.len
      simp only at hfl
      refine ⟨by simp only [hlen, List.length_take]; omega, Nat.le_refl _, fun i hi => ?_, fun i hi => ?_⟩
      · simp only [hlen] at hi
        rw [stt_take hi]
        have := hF.rg i (by simp only; omega)
        simpa only [fst', lst', ← hget i hi] using this
      · simp only [hlen] at hi
        have h1 := (hF.ok i (by simp only; omega)).cg (l' := r.1.take (t.Jobs.length - 1)) (fun k hk => (stt_take (by omega)).symm)
        exact h1.weak (fun k hk => hget k (by omega)) (fun p hp => hp) (Int.le_refl _)
    have hcost : costN ⟨t.Jobs.take (t.Jobs.length - 1), [], t.Crews⟩ (r.1.take (t.Jobs.length - 1)) (t.Jobs.take (t.Jobs.length - 1)).length ≤ r.2.1 := by
      rw [hlen, hc, costN_cg (l' := r.1) _ (fun k hk => stt_take hk), costN_jobs (t' := ⟨t.Jobs, [], t.Crews⟩) _ (fun k hk => (hget k hk).symm)]
      have := cost_mono hT (l := r.1) (a := t.Jobs.length - 1) 1 (by simp only; omega) (fun i hi => (hF.rg i (by simp only; omega)).1)
      rw [show t.Jobs.length - 1 + 1 = t.Jobs.length by omega] at this
      exact this
    have q := better (t := t) (r := r) hT1 hb hF1 hcost
    simp [q.1, q.2]

theorem UpkeepVerified_true (t : Task) (other : List Int) (hz : JbSz t.Jobs) : m_gridhallkeep4_UpkeepVerified t other = some true := by
  rw [← Gd.eq]
  unfold m_gridhallkeep4_UpkeepVerified
  refine Gd.bnd (small_gd t hz) (fun t hz => Gd.bnd (best_gd hz) (fun r hr => Gd.bnd (verify_gd hz other) (fun v hv => Gd.ite (fun h => Gd.bind_eq upkeepFact_true (Gd.ret ?_)) (fun h => ?_))))
  · have h : r.2.2 ≠ 0 := by simpa using h
    rcases hr with ⟨hn, h1, h2, _⟩ | ⟨_, _, h1, h2, h3⟩ | ⟨_, h0, _⟩
    · have : v.2 ≠ 0 := fun e => hn (hv.1.1 e).1
      simp [h1, h2, this]
    · have : v.2 ≠ 0 := fun e => h3 _ (hv.1.1 e).2
      simp [h1, h2, this]
    · exact absurd h0 h
  · have h : r.2.2 = 0 := by simpa using h
    rcases hr with ⟨_, _, _, h0⟩ | ⟨_, h0, _⟩ | ⟨hT, _, hF, hc, hmin⟩
    · exact absurd h h0
    · rw [h] at h0; cases h0
    refine Gd.bnd (verify_gd hz r.1) (fun w hw => Gd.bind_eq upkeepFact_true (Gd.ret ?_))
    have w0 := hw.1.2 ⟨hT, hF⟩
    have wc := hw.2 w0
    have hlast : v.2 ≠ 0 ∨ r.2.1 ≤ v.1 := by
      by_cases e : v.2 = 0
      · exact .inr (by rw [hv.2 e]; exact hmin other (hv.1.1 e).2)
      · exact .inl e
    simp [w0, wc, hc]
    rw [← hc]
    exact hlast
end Go.Sim
