/-
  Numbers of any size: compared, subtracted; signs.
-/
import Derived.Test.YtfakgoeoclfoaaaGreatDoorLrgA
namespace Go.Sim
open Go
set_option linter.unusedVariables false
set_option linter.unusedSimpArgs false
set_option linter.unusedSectionVars false
set_option linter.unnecessarySimpa false

/-- Without zeros at the end. -/
def Top (l : List U32) : Prop := ∀ y, l.getLast? = some y → y.n ≠ 0
theorem nv_ge {l : List U32} (hw : Wf l) (ht : Top l) (hne : l ≠ []) : WB ^ (l.length - 1) ≤ nv l := by
  rcases List.eq_nil_or_concat l with h | ⟨a, y, h⟩
  · exact absurd h hne
  · have h : l = a ++ [y] := by simpa using h
    have hy := ht y (by rw [h]; simp)
    have hyw := hw y (by rw [h]; simp)
    rw [h, nv_snoc, List.length_append, List.length_singleton, Nat.add_sub_cancel]
    have : WB ^ a.length * 1 ≤ WB ^ a.length * y.n.toNat := Nat.mul_le_mul_left _ (by omega)
    omega
theorem nv_short {a b : List U32} (ha : Wf a) (hb : Wf b) (htb : Top b) (h : a.length < b.length) : nv a < nv b := by
  have h1 := nv_lt ha
  have h2 := nv_ge hb htb (by intro e; rw [e] at h; simp at h)
  have h3 : WB ^ a.length ≤ WB ^ (b.length - 1) := Nat.pow_le_pow_right (by decide) (by omega)
  omega
theorem nv_eq_of {a b : List U32} (ha : Wf a) (hb : Wf b) : a.length = b.length → nv a = nv b → a = b := by
  induction a generalizing b with
  | nil => intro h _; exact (List.eq_nil_of_length_eq_zero h.symm).symm
  | cons x a ih =>
    intro h e
    cases b with
    | nil => simp at h
    | cons y b =>
      have hx := ha x (by simp); have hy := hb y (by simp)
      rw [nv, nv] at e
      have e1 : x.n.toNat = y.n.toNat := by
        have := congrArg (· % WB) e
        simp only [Nat.add_mul_mod_self_left] at this
        rw [Nat.mod_eq_of_lt (by show x.n.toNat < 4294967296; omega), Nat.mod_eq_of_lt (by show y.n.toNat < 4294967296; omega)] at this
        exact this
      have e2 : nv a = nv b := by
        rw [e1] at e
        exact Nat.eq_of_mul_eq_mul_left (by decide) (Nat.add_left_cancel e)
      have := ih (fun z hz => ha z (List.mem_cons_of_mem _ hz)) (fun z hz => hb z (List.mem_cons_of_mem _ hz)) (by simpa using h) e2
      cases x; cases y
      simp only at e1 hx hy
      rw [this]
      congr 2; omega
theorem drop_at {l : List U32} {k : Nat} {x : U32} (h : l[k]? = some x) : l.drop k = x :: l.drop (k + 1) := by
  obtain ⟨hk, hx⟩ := List.getElem?_eq_some_iff.1 h
  rw [List.drop_eq_getElem_cons hk, hx]
theorem nv_split {l : List U32} {k : Nat} {x : U32} (h : l[k]? = some x) : nv l = nv (l.take k) + WB ^ k * (x.n.toNat + WB * nv (l.drop (k + 1))) := by
  have hk := (List.getElem?_eq_some_iff.1 h).1
  have e : nv l = nv (l.take k ++ l.drop k) := by rw [List.take_append_drop]
  rw [e, nv_app, drop_at h, List.length_take, Nat.min_eq_left (by omega)]
  rfl
/-- What a comparison says. -/
def Cmp3 (r : Int) (x y : Nat) : Prop := (r < 0 ↔ x < y) ∧ (r = 0 ↔ x = y)
theorem cmp_gd {a b : List U32} (ha : Wf a) (hb : Wf b) (hta : Top a) (htb : Top b) (hza : a.length ≤ 1000000) (hzb : b.length ≤ 1000000) : Gd (m_large_cmpWords a b) (fun r => Cmp3 r (nv a) (nv b)) := by
  unfold m_large_cmpWords
  refine Gd.ite (fun h => Gd.ret ?_) (fun h => ?_)
  · have h : ¬ (a.length : Int) = b.length := by simpa using h
    rw [wrap_id ⟨by omega, by omega⟩]
    rcases Nat.lt_or_gt_of_ne (show a.length ≠ b.length by omega) with hl | hl
    · have := nv_short ha hb htb hl
      exact ⟨⟨fun _ => this, fun _ => by omega⟩, ⟨fun h => by omega, fun h => by omega⟩⟩
    · have := nv_short hb ha hta hl
      exact ⟨⟨fun h => by omega, fun h => by omega⟩, ⟨fun h => by omega, fun h => by omega⟩⟩
  · have hl : a.length = b.length := by have : (a.length : Int) = b.length := by simpa using h
                                        omega
    rw [wrap_id ⟨by omega, by omega⟩]
    refine Gd.loopF (fun (i : Int) => -1 ≤ i ∧ i < a.length ∧ a.drop (i + 1).toNat = b.drop (i + 1).toNat) (fun i => (i + 1).toNat) ?_ FUEL _ ⟨by omega, by omega, ?_⟩ (by simp only [FUEL]; omega)
    · rintro i nx ⟨h1, h2, h3⟩ hnx
      unfold m_large_cmpWords_b1
      refine Gd.ite (fun hi => ?_) (fun hi => Gd.ret ?_)
      · have hi : 0 ≤ i := of_decide_eq_true hi
        obtain ⟨k, rfl⟩ : ∃ k : Nat, i = k := ⟨i.toNat, by omega⟩
        obtain ⟨x, hx⟩ : ∃ x, a[k]? = some x := ⟨_, List.getElem?_eq_getElem (by omega)⟩
        obtain ⟨y, hy⟩ : ∃ y, b[k]? = some y := ⟨_, List.getElem?_eq_getElem (by omega)⟩
        have hxw := ha x (List.mem_of_getElem? hx); have hyw := hb y (List.mem_of_getElem? hy)
        have hkn : ((k : Int)).toNat = k := by omega
        rw [show ((k : Int) + 1).toNat = k + 1 by omega] at h3
        have sa := nv_split hx
        have sb := nv_split hy
        rw [← h3] at sb
        have la := nv_lt (ha.take k); have lb := nv_lt (hb.take k)
        rw [List.length_take, Nat.min_eq_left (by omega)] at la lb
        generalize nv (a.drop (k + 1)) = T at sa sb
        generalize nv (a.take k) = ta at sa la
        generalize nv (b.take k) = tb at sb lb
        generalize WB ^ k = P at sa sb la lb
        have lt_of_lt : ∀ (u v tu tv : Nat), u < v → tu < P → tu + P * (u + WB * T) < tv + P * (v + WB * T) := fun u v tu tv huv hu => by
          have : P * (u + 1) ≤ P * v := Nat.mul_le_mul_left _ huv
          rw [Nat.mul_add] at this
          rw [Nat.mul_add, Nat.mul_add]
          omega
        refine Gd.ix (by omega) (by rw [hkn]; exact hx) (Gd.ix (by omega) (by rw [hkn]; exact hy) (Gd.ite (fun hne => ?_) (fun he => ?_)))
        · have hne : ¬ x.n = y.n := by simpa using hne
          refine Gd.ix (by omega) (by rw [hkn]; exact hx) (Gd.ix (by omega) (by rw [hkn]; exact hy) (Gd.ite (fun hlt => Gd.ret ?_) (fun hlt => Gd.ret ?_)))
          · have hlt : x.n < y.n := of_decide_eq_true hlt
            have := lt_of_lt x.n.toNat y.n.toNat ta tb (by omega) la
            rw [← sa, ← sb] at this
            exact ⟨⟨fun _ => this, fun _ => by omega⟩, ⟨fun h => by omega, fun h => by omega⟩⟩
          · have hlt : ¬ x.n < y.n := of_decide_eq_false hlt
            have := lt_of_lt y.n.toNat x.n.toNat tb ta (by omega) lb
            rw [← sa, ← sb] at this
            exact ⟨⟨fun h => by omega, fun h => by omega⟩, ⟨fun h => by omega, fun h => by omega⟩⟩
        · have he : x.n = y.n := by simpa using he
          rw [wrap_id ⟨by omega, by omega⟩]
          refine hnx _ ⟨by omega, by omega, ?_⟩ (by omega)
          rw [show ((k : Int) - 1 + 1).toNat = k by omega, drop_at hx, drop_at hy, h3]
          have : x = y := by cases x; cases y; simp only at he; rw [he]
          rw [this]
      · have hi : ¬ 0 ≤ i := of_decide_eq_false hi
        have : (i + 1).toNat = 0 := by omega
        rw [this, List.drop_zero, List.drop_zero] at h3
        rw [h3]
        exact ⟨⟨fun h => by omega, fun h => by omega⟩, ⟨fun _ => rfl, fun _ => rfl⟩⟩
    · rw [show ((a.length : Int) - 1 + 1).toNat = a.length by omega, List.drop_length, List.drop_of_length_le (by omega)]

/-! ### Differences -/
theorem sub_gd {a b : List U32} (ha : Wf a) (hb : Wf b) (hle : nv b ≤ nv a) (hl : b.length ≤ a.length) (hz : a.length ≤ 1000000) :
    Gd (m_large_subWords a b) (fun r => Wf r ∧ r.length = a.length ∧ nv r = nv a - nv b) := by
  unfold m_large_subWords
  refine Gd.nd ⟨by omega, by omega⟩ ?_
  refine Gd.forN (fun m k (z : List U32 × Int) => k + m = a.length ∧ z.1.length = a.length ∧ Wf z.1 ∧ -1 ≤ z.2 ∧ z.2 ≤ 0 ∧ (nv (z.1.take k) : Int) + (WB ^ k : Nat) * z.2 = nv (a.take k) - nv (b.take k)) ?_ ?_ _ 0 _ ⟨by simp, by simp, fun y hy => ?_, by show (-1 : Int) ≤ 0; omega, Int.le_refl _, by simp [nv]⟩
  · rintro m k ⟨l, c⟩ nx ⟨h0, h1, h2, h3, h4, h5⟩ hnx
    simp only at h1 h2 h3 h4 h5 hnx ⊢
    have hka : k < a.length := by omega
    have hkn : ((k : Int)).toNat = k := by omega
    obtain ⟨y, hy⟩ : ∃ y, a[k]? = some y := ⟨_, List.getElem?_eq_getElem hka⟩
    have hyw := ha y (List.mem_of_getElem? hy)
    have fin : ∀ (n : Int) (x : Nat), n = c + y.n - x → x < WB → nv (b.take (k + 1)) = nv (b.take k) + WB ^ k * x → Gd (m_large_subWords_b4 l nx k n) _ := fun n x hn hx hb1 => by
      unfold m_large_subWords_b4
      rw [shr32i, hkn, u32w]
      have hx : x < 4294967296 := hx
      refine Gd.idxN (by omega) (hnx _ ⟨by omega, by simp [h1], ?_, by simp only; omega, by simp only; omega, ?_⟩)
      · intro z hz
        rcases List.mem_or_eq_of_mem_set hz with hz | hz
        · exact h2 z hz
        · rw [hz]; simp only; omega
      · simp only
        rw [set_take (by omega), nv_snoc, List.length_take, Nat.min_eq_left (by omega), nv_take hy, hb1]
        simp only
        have e1 : ((n % 4294967296).toNat : Int) + 4294967296 * (n / 4294967296) = c + y.n.toNat - x := by omega
        have e2 : ((WB ^ k : Nat) : Int) * ((n % 4294967296).toNat : Int) + ((WB ^ (k + 1) : Nat) : Int) * (n / 4294967296) = ((WB ^ k : Nat) : Int) * c + ((WB ^ k : Nat) : Int) * (y.n.toNat : Int) - ((WB ^ k : Nat) : Int) * (x : Int) := by
          rw [Nat.pow_succ, Int.natCast_mul, Int.mul_assoc, ← Int.mul_add, show ((WB : Nat) : Int) = 4294967296 from rfl, e1, Int.mul_sub, Int.mul_add]
        simp only [Int.natCast_add, Int.natCast_mul] at *
        omega
    unfold m_large_subWords_b3
    refine Gd.ix (by omega) (by rw [hkn]; exact hy) (Gd.ite (fun h => ?_) (fun h => ?_))
    · have hkb : k < b.length := by have := of_decide_eq_true h; omega
      obtain ⟨x, hx⟩ : ∃ x, b[k]? = some x := ⟨_, List.getElem?_eq_getElem hkb⟩
      have hxw := hb x (List.mem_of_getElem? hx)
      refine Gd.ix (by omega) (by rw [hkn]; exact hx) (fin _ x.n.toNat ?_ (by show x.n.toNat < 4294967296; omega) (nv_take hx))
      rw [wrap_id (n := y.n) (by omega), wrap_id (n := c + y.n) (by omega), wrap_id (n := x.n) (by omega), wrap_id (by omega)]
      omega
    · have hkb : b.length ≤ k := by have := of_decide_eq_false h; omega
      refine fin _ 0 ?_ (by decide) ?_
      · rw [wrap_id (n := y.n) (by omega), wrap_id (by omega)]; simp
      · rw [List.take_of_length_le (by omega), List.take_of_length_le (by omega)]; simp
  · rintro k ⟨l, c⟩ ⟨h0, h1, h2, h3, h4, h5⟩
    simp only at h1 h2 h3 h4 h5 ⊢
    have hk : k = a.length := by omega
    subst hk
    rw [List.take_length, List.take_of_length_le hl, List.take_of_length_le (by omega)] at h5
    have hlt := nv_lt h2
    rw [h1] at hlt
    have hc : c = 0 := by
      rcases (show c = -1 ∨ c = 0 by omega) with h | h
      · exfalso; rw [h] at h5; omega
      · exact h
    rw [hc] at h5
    exact Gd.ret ⟨h2, h1, by omega⟩
  · rw [List.mem_replicate] at hy
    rw [hy.2]; simp

/-! ### Signed numbers -/
theorem IOk.tp {a : LI} (h : IOk a) : Top a.words := h.top
theorem ival_of {r : LI} {m : Bool} {n : Nat} (h1 : nv r.words = n) (h2 : r.minus = true ↔ m = true ∧ n ≠ 0) : ival r = if m = true then -(n : Int) else n := by
  unfold ival
  rw [h1]
  by_cases hr : r.minus = true
  · rw [if_pos hr, if_pos (h2.1 hr).1]
  · rw [if_neg hr]
    by_cases hm : m = true
    · have : n = 0 := by
        by_cases hn : n = 0
        · exact hn
        · exact absurd (h2.2 ⟨hm, hn⟩) hr
      rw [if_pos hm, this]; rfl
    · rw [if_neg hm]
theorem neg_gd {a : LI} (h : IOk a) (hz : a.words.length ≤ 1000000) : Gd (m_large_Int_Neg a) (fun r => IOk r ∧ r.words.length ≤ a.words.length ∧ ival r = -ival a) := by
  unfold m_large_Int_Neg
  refine Gd.bnd (norm_gd (!a.minus) a.words h.wf hz) (fun r hr => Gd.ret ⟨hr.1, hr.2.1, ?_⟩)
  rw [ival_of hr.2.2.1 hr.2.2.2]
  unfold ival
  cases a.minus <;> simp
theorem iadd_gd {a b : LI} (ha : IOk a) (hb : IOk b) (hza : a.words.length ≤ 900000) (hzb : b.words.length ≤ 900000) :
    Gd (m_large_Int_Add a b) (fun r => IOk r ∧ r.words.length ≤ max a.words.length b.words.length + 1 ∧ ival r = ival a + ival b) := by
  unfold m_large_Int_Add
  refine Gd.ite (fun h => ?_) (fun h => ?_)
  · have h : a.minus = b.minus := of_decide_eq_true h
    refine Gd.bnd (add_gd ha.wf hb.wf (by omega) (by omega)) (fun w hw => Gd.bnd (norm_gd a.minus w hw.1 (by omega)) (fun r hr => Gd.ret ⟨hr.1, by omega, ?_⟩))
    rw [ival_of hr.2.2.1 hr.2.2.2, hw.2.2]
    unfold ival
    rw [← h]
    cases a.minus <;> simp <;> omega
  · have h : a.minus ≠ b.minus := of_decide_eq_false h
    refine Gd.bnd (cmp_gd ha.wf hb.wf ha.tp hb.tp (by omega) (by omega)) (fun c hc => Gd.ite (fun h0 => ?_) (fun h0 => ?_))
    · have h0 : 0 ≤ c := of_decide_eq_true h0
      have hle : nv b.words ≤ nv a.words := by
        have := hc.1; omega
      have hlen : b.words.length ≤ a.words.length := by
        rcases Nat.lt_or_ge a.words.length b.words.length with hlt | hge
        · have := nv_short ha.wf hb.wf hb.tp hlt; omega
        · exact hge
      refine Gd.bnd (sub_gd ha.wf hb.wf hle hlen (by omega)) (fun w hw => Gd.bnd (norm_gd a.minus w hw.1 (by omega)) (fun r hr => Gd.ret ⟨hr.1, by omega, ?_⟩))
      rw [ival_of hr.2.2.1 hr.2.2.2, hw.2.2]
      unfold ival
      cases ea : a.minus <;> cases eb : b.minus <;> first | (rw [ea, eb] at h; exact absurd rfl h) | (simp; omega)
    · have h0 : ¬ 0 ≤ c := of_decide_eq_false h0
      have hlt : nv a.words < nv b.words := hc.1.1 (by omega)
      have hlen : a.words.length ≤ b.words.length := by
        rcases Nat.lt_or_ge b.words.length a.words.length with hl | hge
        · have := nv_short hb.wf ha.wf ha.tp hl; omega
        · exact hge
      refine Gd.bnd (sub_gd hb.wf ha.wf (by omega) hlen (by omega)) (fun w hw => Gd.bnd (norm_gd b.minus w hw.1 (by omega)) (fun r hr => Gd.ret ⟨hr.1, by omega, ?_⟩))
      rw [ival_of hr.2.2.1 hr.2.2.2, hw.2.2]
      unfold ival
      cases ea : a.minus <;> cases eb : b.minus <;> first | (rw [ea, eb] at h; exact absurd rfl h) | (simp; omega)
theorem isub_gd {a b : LI} (ha : IOk a) (hb : IOk b) (hza : a.words.length ≤ 900000) (hzb : b.words.length ≤ 900000) :
    Gd (m_large_Int_Sub a b) (fun r => IOk r ∧ r.words.length ≤ max a.words.length b.words.length + 1 ∧ ival r = ival a - ival b) := by
  unfold m_large_Int_Sub
  refine Gd.bnd (neg_gd hb (by omega)) (fun c hc => Gd.bnd (iadd_gd ha hc.1 hza (by omega)) (fun r hr => Gd.ret ⟨hr.1, by omega, by rw [hr.2.2, hc.2.2]; omega⟩))
end Go.Sim
