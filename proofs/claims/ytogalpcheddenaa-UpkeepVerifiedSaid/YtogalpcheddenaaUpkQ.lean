/-
  Maintenance plans, in plain Lean: a job with those before it.
-/
import Derived.Test.YtogalpcheddenaaUpkP
namespace Go.Sim
open Go
set_option linter.unusedVariables false
set_option linter.unusedSimpArgs false
set_option linter.unusedSectionVars false
set_option linter.unnecessarySimpa false

def stt (l : List Int) (k : Nat) : Int := l.getD k 0
def lng (t : Task) (k : Nat) : Int := ((t.Jobs[k]?).map (·.Long)).getD 0
def enn (t : Task) (l : List Int) (k : Nat) : Int := stt l k + lng t k
def dayc (t : Task) (l : List Int) (i : Nat) : Nat → Int → Int
  | 0, _ => 0
  | k + 1, d => dayc t l i k d + if max (stt l k) (stt l i) ≤ d ∧ d < min (enn t l k) (enn t l i) then 1 else 0
theorem dayc_le (t : Task) (l : List Int) (i : Nat) (d : Int) : ∀ k, 0 ≤ dayc t l i k d ∧ dayc t l i k d ≤ k
  | 0 => by simp [dayc]
  | k + 1 => by
    have := dayc_le t l i d k
    simp only [dayc]; split <;> omega
structure OkAt (t : Task) (l : List Int) (i : Nat) : Prop where
  ap : ∀ k : Nat, k < i → max (stt l k) (stt l i) < min (enn t l k) (enn t l i) → (⟨i, k⟩ : S_A2_Int) ∉ t.Apart ∧ (⟨k, i⟩ : S_A2_Int) ∉ t.Apart
  cr : ∀ d : Int, stt l i ≤ d → d < enn t l i → dayc t l i i d + 1 ≤ t.Crews

theorem stt_of {l : List Int} {k : Nat} {x : Int} (h : l[k]? = some x) : stt l k = x := by simp [stt, List.getD_eq_getElem?_getD, h]
theorem lng_of {t : Task} {k : Nat} {j : Job} (h : t.Jobs[k]? = some j) : lng t k = j.Long := by simp [lng, h]
theorem wrong_b67 : m_upkeep_wrong_b6 = m_upkeep_wrong_b7 := rfl

theorem days_gd {Q : Int → Prop} {ds : List Int} {ji jk : Job} {li lk : Int} {nx : List Int → Option Int} {c : Int → Int} (hl : ds.length = 120) (hc : ∀ d : Nat, d < 120 → ds[d]? = some (c d)) (hcb : ∀ d, 0 ≤ c d ∧ c d ≤ 100)
    (hi0 : 0 ≤ li) (hi1 : li ≤ 60) (hk0 : 0 ≤ lk) (hk1 : lk ≤ 60) (hji : 1 ≤ ji.Long ∧ ji.Long ≤ 60) (hjk : 1 ≤ jk.Long ∧ jk.Long ≤ 60)
    (hnx : ∀ ds', ds'.length = 120 → (∀ d : Nat, d < 120 → ds'[d]? = some (c d + if max lk li ≤ (d : Int) ∧ (d : Int) < min (lk + jk.Long) (li + ji.Long) then 1 else 0)) → Gd (nx ds') Q) :
    Gd (loopF (fun s n => m_upkeep_wrong_b7 li ji nx lk jk s.1 s.2 n) FUEL (max lk li, ds)) Q := by
  have w1 : IntKind.i64.wrap (lk + jk.Long) = lk + jk.Long := wrap_id (by omega)
  have w2 : IntKind.i64.wrap (li + ji.Long) = li + ji.Long := wrap_id (by omega)
  refine Gd.loopF (fun (s : Int × List Int) => max lk li ≤ s.1 ∧ (s.1 ≤ max lk li ∨ s.1 ≤ min (lk + jk.Long) (li + ji.Long)) ∧ s.2.length = 120 ∧ ∀ d : Nat, d < 120 → s.2[d]? = some (c d + if max lk li ≤ (d : Int) ∧ (d : Int) < s.1 then 1 else 0))
    (fun s => (min (lk + jk.Long) (li + ji.Long) - s.1).toNat) ?_ FUEL _ ⟨by simp only; omega, by simp only; omega, hl, fun d hd => ?_⟩ (by simp only [FUEL]; omega)
  · rintro ⟨n, ds'⟩ nx2 ⟨h1, h2, h3, h4⟩ hnx2
    simp only at h1 h2 h3 h4
    show Gd (m_upkeep_wrong_b7 li ji nx lk jk n ds' nx2) Q
    unfold m_upkeep_wrong_b7
    rw [w1, w2]
    refine Gd.ite (fun h => ?_) (fun h => ?_)
    · simp only [decide_eq_true_eq] at h
      have hn : n.toNat < 120 := by omega
      have hg := h4 n.toNat hn
      rw [if_neg (by omega)] at hg
      have hb := hcb (n.toNat : Int)
      refine Gd.ix (by omega) hg (Gd.ix (by omega) hg ?_)
      rw [wrap_id (n := n + 1) (by omega), wrap_id (by omega)]
      refine hnx2 _ ⟨by simp only; omega, by simp only; omega, by simp [h3], fun d hd => ?_⟩ (by simp only; omega)
      simp only
      rw [List.getElem?_set]
      by_cases e : n.toNat = d
      · subst e
        rw [if_pos rfl, if_pos (by omega), if_pos (by omega)]
        simp
      · rw [if_neg e, h4 d hd]
        by_cases hin : max lk li ≤ (d : Int) ∧ (d : Int) < n
        · rw [if_pos hin, if_pos (by omega)]
        · rw [if_neg hin, if_neg (by omega)]
    · simp only [decide_eq_false_iff_not] at h
      refine hnx ds' h3 (fun d hd => ?_)
      rw [h4 d hd]
      by_cases hin : max lk li ≤ (d : Int) ∧ (d : Int) < n
      · rw [if_pos hin, if_pos (by omega)]
      · rw [if_neg hin, if_neg (by omega)]
  · simp only
    rw [hc d hd, if_neg (by omega)]
    simp

/-- A plan's beginning that can be looked at. -/
structure PreOk (t : Task) (l : List Int) (i : Nat) : Prop where
  jl : i < t.Jobs.length
  ll : i < l.length
  r : ∀ k, k ≤ i → 0 ≤ stt l k ∧ stt l k ≤ 60
theorem wrong_gd {t : Task} (hT : TaskOk t) {l : List Int} {i : Nat} (hp : PreOk t l i) : Gd (m_upkeep_wrong t l i) (fun e => e = 0 ↔ OkAt t l i) := by
  obtain ⟨li, hli⟩ := get_of hp.ll
  obtain ⟨ji, hji⟩ := get_of hp.jl
  have h6 := hT.j6
  have hilt := hp.jl
  have hsi := stt_of hli
  have hri := hp.r i (Nat.le_refl _)
  have hJi := hT.job ji (List.mem_of_getElem? hji)
  have eni : enn t l i = li + ji.Long := by rw [enn, hsi, lng_of hji]
  have := hJi.l1
  have := hJi.l2
  unfold m_upkeep_wrong
  refine Gd.ix (by omega) (by simpa using hli) (Gd.ix (by omega) (by simpa using hji) (Gd.nd (by omega) ?_))
  refine Gd.forN (fun m k (ds : List Int) => k + m = i ∧ ds.length = 120 ∧ (∀ d : Nat, d < 120 → ds[d]? = some (dayc t l i k d)) ∧
    ∀ k' : Nat, k' < k → max (stt l k') (stt l i) < min (enn t l k') (enn t l i) → (⟨i, k'⟩ : S_A2_Int) ∉ t.Apart ∧ (⟨k', i⟩ : S_A2_Int) ∉ t.Apart) ?_ ?_ (i : Int).toNat 0 _ ⟨by omega, List.length_replicate, fun d hd => ?_, fun k' hk' => by omega⟩
  · rintro m k ds nx ⟨hk, hl, hd, hap⟩ hnx
    obtain ⟨lk, hlk⟩ := get_of (l := l) (i := k) (by have := hp.ll; omega)
    obtain ⟨jk, hjk⟩ := get_of (l := t.Jobs) (i := k) (by omega)
    have hsk := stt_of hlk
    have hrk := hp.r k (by omega)
    have hJk := hT.job jk (List.mem_of_getElem? hjk)
    have := hJk.l1
    have := hJk.l2
    have enk : enn t l k = lk + jk.Long := by rw [enn, hsk, lng_of hjk]
    have w1 : IntKind.i64.wrap (lk + jk.Long) = lk + jk.Long := wrap_id (by omega)
    have w2 : IntKind.i64.wrap (li + ji.Long) = li + ji.Long := wrap_id (by omega)
    unfold m_upkeep_wrong_b5
    rw [wrong_b67]
    refine Gd.ix (by omega) (by simpa using hlk) (Gd.ix (by omega) (by simpa using hli) (Gd.ix (by omega) (by simpa using hlk) (Gd.ix (by omega) (by simpa using hjk) ?_)))
    rw [w1, w2]
    have loop : (max lk li < min (lk + jk.Long) (li + ji.Long) → (⟨i, k⟩ : S_A2_Int) ∉ t.Apart ∧ (⟨k, i⟩ : S_A2_Int) ∉ t.Apart) → Gd (loopF (fun s n => m_upkeep_wrong_b7 li ji nx lk jk s.1 s.2 n) FUEL (max lk li, ds)) (fun e => e = 0 ↔ OkAt t l i) := by
      intro hno
      refine days_gd hl hd (fun d => by have := dayc_le t l i d k; omega) (by omega) (by omega) (by omega) (by omega) (by omega) (by omega) (fun ds' hl' hd' => hnx ds' ⟨by omega, hl', fun d hdl => ?_, fun k' hk' ho => ?_⟩)
      · rw [hd' d hdl]
        simp only [dayc, hsk, hsi, enk, eni]
      · by_cases e : k' = k
        · subst e
          rw [hsk, hsi, enk, eni] at ho
          exact hno ho
        · exact hap k' (by omega) ho
    refine Gd.ite (fun h => ?_) (fun h => ?_)
    · simp only [decide_eq_true_eq] at h
      have hbad : ¬ ((⟨i, k⟩ : S_A2_Int) ∉ t.Apart ∧ (⟨k, i⟩ : S_A2_Int) ∉ t.Apart) → ¬ OkAt t l i := fun hn hok => hn (hok.ap k (by omega) (by rw [hsk, hsi, enk, eni]; exact h))
      refine Gd.bnd (pair_gd _ _) (fun r hr => Gd.ite (fun h1 => Gd.ret ⟨fun h => by omega, fun h' => absurd h' (hbad fun hh => hh.1 (hr.1 h1))⟩) (fun h1 => ?_))
      refine Gd.bnd (pair_gd _ _) (fun r2 hr2 => Gd.ite (fun h2 => Gd.ret ⟨fun h => by omega, fun h' => absurd h' (hbad fun hh => hh.2 (hr2.1 h2))⟩) (fun h2 => ?_))
      exact loop fun _ => ⟨fun hm => (by rw [hr.2 hm] at h1; cases h1), fun hm => (by rw [hr2.2 hm] at h2; cases h2)⟩
    · simp only [decide_eq_false_iff_not] at h
      exact loop fun h' => absurd h' h
  · rintro k ds ⟨hk, hl, hd, hap⟩
    have hki : k = i := by omega
    subst hki
    refine Gd.ix (by omega) (by simpa using hli) ?_
    refine Gd.loopF (fun n => li ≤ n ∧ ∀ d : Int, li ≤ d → d < n → dayc t l k k d + 1 ≤ t.Crews) (fun n => (li + ji.Long - n).toNat) ?_ FUEL _ ⟨by omega, fun d h0 h1 => by omega⟩ (by simp only [FUEL]; omega)
    rintro n nx ⟨hn, hall⟩ hnx
    show Gd (m_upkeep_wrong_b8 t li ji ds n nx) _
    unfold m_upkeep_wrong_b8
    rw [wrap_id (n := li + ji.Long) (by omega)]
    refine Gd.ite (fun h => ?_) (fun h => Gd.ret ⟨fun _ => ⟨hap, fun d h0 h1 => hall d (by omega) ?_⟩, fun _ => rfl⟩)
    · simp only [decide_eq_true_eq] at h
      have hg := hd n.toNat (by omega)
      rw [show ((n.toNat : Nat) : Int) = n by omega] at hg
      have hb := dayc_le t l k n k
      refine Gd.ix (by omega) hg ?_
      rw [wrap_id (by omega)]
      refine Gd.ite (fun h2 => Gd.ret ⟨fun h => by omega, fun h' => ?_⟩) (fun h2 => ?_)
      · have := h'.cr n (by omega) (by omega)
        simp at h2; omega
      · rw [wrap_id (by omega)]
        simp only [decide_eq_false_iff_not] at h2
        refine hnx _ ⟨by omega, fun d h0 h1 => ?_⟩ (by omega)
        by_cases e : d = n
        · subst e; omega
        · exact hall d h0 (by omega)
    · simp only [decide_eq_false_iff_not] at h
      omega
  · rw [List.getElem?_replicate, if_pos hd]; rfl
end Go.Sim
