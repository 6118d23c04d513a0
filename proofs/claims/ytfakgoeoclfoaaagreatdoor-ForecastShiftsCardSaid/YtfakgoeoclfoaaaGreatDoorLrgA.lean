/-
  Numbers of any size: words, and what they are worth.
-/
import Derived.Test.YtfakgoeoclfoaaaGreatDoorModL
import Derived.Test.YtfakgoeoclfoaaaGreatDoorSimW
namespace Go.Sim
open Go
set_option linter.unusedVariables false
set_option linter.unusedSimpArgs false
set_option linter.unusedSectionVars false
set_option linter.unnecessarySimpa false

abbrev WB : Nat := 4294967296
def nv : List U32 → Nat
  | [] => 0
  | y :: l => y.n.toNat + WB * nv l
def Wf (l : List U32) : Prop := ∀ y ∈ l, 0 ≤ y.n ∧ y.n < 4294967296
theorem Wf.nil : Wf [] := fun y h => by cases h
theorem Wf.app {a b : List U32} (ha : Wf a) (hb : Wf b) : Wf (a ++ b) := fun y h => by
  rcases List.mem_append.1 h with h | h
  · exact ha y h
  · exact hb y h
theorem Wf.one {v : Int} (h : 0 ≤ v ∧ v < 4294967296) : Wf [⟨v⟩] := fun y hy => by
  rw [List.mem_singleton] at hy; subst hy; exact h
theorem Wf.take {l : List U32} (h : Wf l) (k : Nat) : Wf (l.take k) := fun y hy => h y (List.mem_of_mem_take hy)
theorem nv_app : ∀ (a b : List U32), nv (a ++ b) = nv a + WB ^ a.length * nv b
  | [], b => by simp [nv]
  | y :: a, b => by
    rw [List.cons_append, nv, nv_app a b, nv, List.length_cons, Nat.pow_succ]
    rw [Nat.mul_add, ← Nat.mul_assoc, Nat.mul_comm (WB ^ a.length) WB, Nat.add_assoc]
theorem nv_one (y : U32) : nv [y] = y.n.toNat := by simp [nv]
theorem nv_snoc (a : List U32) (y : U32) : nv (a ++ [y]) = nv a + WB ^ a.length * y.n.toNat := by rw [nv_app, nv_one]
theorem nv_lt : ∀ {l : List U32}, Wf l → nv l < WB ^ l.length
  | [], _ => by simp [nv]
  | y :: l, h => by
    have h1 := nv_lt (l := l) (fun z hz => h z (List.mem_cons_of_mem _ hz))
    have h2 := h y (by simp)
    rw [nv, List.length_cons, Nat.pow_succ]
    have : WB * nv l + WB ≤ WB ^ l.length * WB := by
      rw [Nat.mul_comm (WB ^ l.length) WB, ← Nat.mul_succ]
      exact Nat.mul_le_mul_left _ h1
    have : y.n.toNat < WB := by show y.n.toNat < 4294967296; omega
    omega
theorem nv_take {l : List U32} {k : Nat} {y : U32} (h : l[k]? = some y) : nv (l.take (k + 1)) = nv (l.take k) + WB ^ k * y.n.toNat := by
  have hk := (List.getElem?_eq_some_iff.1 h).1
  rw [List.take_add_one, h]
  show nv (l.take k ++ [y]) = _
  rw [nv_snoc, List.length_take, Nat.min_eq_left (by omega)]
theorem nv_zeros (n : Nat) : nv (List.replicate n (⟨0⟩ : U32)) = 0 := by
  induction n with
  | zero => rfl
  | succ n ih => rw [List.replicate_succ, nv, ih]; rfl
theorem set_take {l : List U32} {k : Nat} {v : U32} (h : k < l.length) : (l.set k v).take (k + 1) = l.take k ++ [v] := by
  rw [List.take_add_one, List.getElem?_set_self h, List.take_set_of_le (Nat.le_refl _)]; rfl
theorem u32w (n : Int) : IntKind.u32.wrap n = n % 4294967296 := by simp [IntKind.wrap, IntKind.bits, IntKind.signed]
theorem u64w (n : Int) : IntKind.u64.wrap n = n % 18446744073709551616 := by simp [IntKind.wrap, IntKind.bits, IntKind.signed]
theorem u64_id {n : Int} (h : 0 ≤ n ∧ n < 18446744073709551616) : IntKind.u64.wrap n = n := by rw [u64w]; omega
theorem shr32 (n : Int) : shrV .u64 n 32 = n / 4294967296 := by
  unfold shrV
  rw [show (min (32 : Int).toNat IntKind.u64.bits) = 32 by decide, Int.fdiv_eq_ediv_of_nonneg _ (by decide)]
  rfl
theorem shr32i (n : Int) : shrV .i64 n 32 = n / 4294967296 := by
  unfold shrV
  rw [show (min (32 : Int).toNat IntKind.i64.bits) = 32 by decide, Int.fdiv_eq_ediv_of_nonneg _ (by decide)]
  rfl

/-! ### Numbers -/
abbrev LI := S_large_Int
structure IOk (a : LI) : Prop where
  wf : Wf a.words
  top : ∀ y, a.words.getLast? = some y → y.n ≠ 0
  sign : a.minus = true → a.words ≠ []
def ival (a : LI) : Int := if a.minus = true then -(nv a.words : Int) else (nv a.words : Int)
theorem norm_gd (minus : Bool) : ∀ (w : List U32), Wf w → w.length ≤ 1000000 → Gd (m_large_norm minus w) (fun r => IOk r ∧ r.words.length ≤ w.length ∧ nv r.words = nv w ∧ (r.minus = true ↔ minus = true ∧ nv w ≠ 0)) := by
  intro w hw hl
  unfold m_large_norm
  refine Gd.loopF (fun (l : List U32) => Wf l ∧ l.length ≤ w.length ∧ nv l = nv w) (fun l => l.length) ?_ FUEL w ⟨hw, Nat.le_refl _, rfl⟩ (by simp only [FUEL]; omega)
  rintro l nx ⟨h1, h2, h3⟩ hnx
  have fin : (∀ y, l.getLast? = some y → y.n ≠ 0) → Gd (m_large_norm_b2 minus l) (fun r => IOk r ∧ r.words.length ≤ w.length ∧ nv r.words = nv w ∧ (r.minus = true ↔ minus = true ∧ nv w ≠ 0)) := fun ht => by
    have hz : nv l = 0 → l = [] := fun h0 => by
      rcases List.eq_nil_or_concat l with h | ⟨a, y, h⟩
      · exact h
      · exfalso
        have h : l = a ++ [y] := by simpa using h
        have hy := ht y (by rw [h]; simp)
        have hyw := h1 y (by rw [h]; simp)
        rw [h, nv_snoc] at h0
        have hp : 0 < WB ^ a.length := Nat.pow_pos (by decide)
        have : 0 < WB ^ a.length * y.n.toNat := Nat.mul_pos hp (by omega)
        omega
    unfold m_large_norm_b2
    refine Gd.ite (fun hm => Gd.ret ⟨⟨h1, ht, ?_⟩, h2, h3, ?_⟩) (fun hm => Gd.ret ⟨⟨h1, ht, fun h => by cases h⟩, h2, h3, ?_⟩)
    · intro h e
      have h : decide (0 < (l.length : Int)) = true := h
      have e : l = [] := e
      rw [e] at h; simp at h
    · constructor
      · intro h
        have h : 0 < (l.length : Int) := of_decide_eq_true h
        refine ⟨hm, fun h0 => ?_⟩
        rw [← h3] at h0
        have := hz h0
        rw [this] at h; simp at h
      · intro h
        show decide (0 < (l.length : Int)) = true
        rw [decide_eq_true_eq]
        cases l with
        | nil => exact absurd (h3.symm.trans rfl) h.2
        | cons a b => simp
    · rw [hm]
      constructor
      · intro h; cases h
      · intro h; cases h.1
  unfold m_large_norm_b3
  refine Gd.ite (fun h => ?_) (fun h => fin (fun y hy => ?_))
  · have hpos : 0 < l.length := by have := of_decide_eq_true h; omega
    have hw1 : IntKind.i64.wrap ((l.length : Int) - 1) = ((l.length - 1 : Nat) : Int) := by rw [wrap_id ⟨by omega, by omega⟩]; omega
    rw [hw1]
    refine Gd.idxN (by omega) (Gd.ite (fun h0 => ?_) (fun h0 => fin (fun y hy => ?_)))
    · have h0 : (l[l.length - 1]).n = 0 := of_decide_eq_true h0
      refine Gd.nd ⟨by omega, by omega⟩ ?_
      have hs : slc l 0 (((l.length - 1 : Nat) : Int).toNat) = l.take (l.length - 1) := by simp [slc]
      rw [hs]
      refine hnx _ ⟨h1.take _, by rw [List.length_take]; omega, ?_⟩ (by rw [List.length_take]; omega)
      have := nv_take (l := l) (k := l.length - 1) (List.getElem?_eq_getElem (by omega))
      rw [show l.length - 1 + 1 = l.length by omega, List.take_length, h0] at this
      rw [← h3, this]; simp
    · have h0 : (l[l.length - 1]).n ≠ 0 := of_decide_eq_false h0
      rw [List.getLast?_eq_getElem?, List.getElem?_eq_getElem (by omega)] at hy
      rw [← Option.some.inj hy]; exact h0
  · have h : ¬ 0 < (l.length : Int) := of_decide_eq_false h
    have : l = [] := List.eq_nil_of_length_eq_zero (by omega)
    rw [this] at hy; cases hy

/-! ### Sums -/
theorem add_core {a b : List U32} (ha : Wf a) (hb : Wf b) (hl : b.length ≤ a.length) (hz : a.length ≤ 1000000) :
    Gd (m_large_addWords_b5 a b) (fun r => Wf r ∧ r.length = a.length + 1 ∧ nv r = nv a + nv b) := by
  have w1 : IntKind.i64.wrap ((a.length : Int) + 1) = ((a.length + 1 : Nat) : Int) := by rw [wrap_id ⟨by omega, by omega⟩]; omega
  unfold m_large_addWords_b5
  rw [w1]
  refine Gd.nd ⟨by omega, by omega⟩ ?_
  refine Gd.forN (fun m k (z : List U32 × Int) => k + m = a.length ∧ z.1.length = a.length + 1 ∧ Wf z.1 ∧ 0 ≤ z.2 ∧ z.2 ≤ 1 ∧ nv (z.1.take k) + WB ^ k * z.2.toNat = nv (a.take k) + nv (b.take k)) ?_ ?_ _ 0 _ ⟨by simp, by simp, fun y hy => ?_, Int.le_refl _, by show (0 : Int) ≤ 1; omega, by simp [nv]⟩
  · rintro m k ⟨l, c⟩ nx ⟨h0, h1, h2, h3, h4, h5⟩ hnx
    simp only at h1 h2 h3 h4 h5 hnx ⊢
    have hka : k < a.length := by omega
    have hkn : ((k : Int)).toNat = k := by omega
    obtain ⟨y, hy⟩ : ∃ y, a[k]? = some y := ⟨_, List.getElem?_eq_getElem hka⟩
    have hyw := ha y (List.mem_of_getElem? hy)
    -- one place
    have fin : ∀ (n : Int) (x : Nat), n = c + y.n + x → x < WB → nv (b.take (k + 1)) = nv (b.take k) + WB ^ k * x → Gd (m_large_addWords_b4 l nx k n) _ := fun n x hn hx hb1 => by
      unfold m_large_addWords_b4
      rw [shr32, hkn, u32w]
      have hx : x < 4294967296 := hx
      refine Gd.idxN (by omega) (hnx _ ⟨by omega, by simp [h1], ?_, by simp only; omega, by simp only; omega, ?_⟩)
      · intro z hz
        rcases List.mem_or_eq_of_mem_set hz with hz | hz
        · exact h2 z hz
        · rw [hz]; simp only; omega
      · simp only
        rw [set_take (by omega), nv_snoc, List.length_take, Nat.min_eq_left (by omega), nv_take hy, hb1]
        simp only
        have e1 : (n % 4294967296).toNat + WB * (n / 4294967296).toNat = c.toNat + y.n.toNat + x := by
          show (n % 4294967296).toNat + 4294967296 * (n / 4294967296).toNat = _
          omega
        have e2 : WB ^ k * (n % 4294967296).toNat + WB ^ (k + 1) * (n / 4294967296).toNat = WB ^ k * c.toNat + WB ^ k * y.n.toNat + WB ^ k * x := by
          rw [Nat.pow_succ, Nat.mul_assoc, ← Nat.mul_add, e1, Nat.mul_add, Nat.mul_add]
        omega
    unfold m_large_addWords_b3
    refine Gd.ix (by omega) (by rw [hkn]; exact hy) (Gd.ite (fun h => ?_) (fun h => ?_))
    · have hkb : k < b.length := by have := of_decide_eq_true h; omega
      obtain ⟨x, hx⟩ : ∃ x, b[k]? = some x := ⟨_, List.getElem?_eq_getElem hkb⟩
      have hxw := hb x (List.mem_of_getElem? hx)
      refine Gd.ix (by omega) (by rw [hkn]; exact hx) (fin _ x.n.toNat ?_ (by show x.n.toNat < 4294967296; omega) (nv_take hx))
      rw [u64_id (n := y.n) (by omega), u64_id (n := c + y.n) (by omega), u64_id (n := x.n) (by omega), u64_id (by omega)]
      omega
    · have hkb : b.length ≤ k := by have := of_decide_eq_false h; omega
      refine fin _ 0 ?_ (by decide) ?_
      · rw [u64_id (n := y.n) (by omega), u64_id (by omega)]; simp
      · rw [List.take_of_length_le (by omega), List.take_of_length_le (by omega)]; simp
  · rintro k ⟨l, c⟩ ⟨h0, h1, h2, h3, h4, h5⟩
    simp only at h1 h2 h3 h4 h5 ⊢
    have hk : k = a.length := by omega
    subst hk
    have hln : ((a.length : Int)).toNat = a.length := by omega
    rw [hln, u32w]
    refine Gd.idxN (by omega) (Gd.ret ⟨?_, by simp [h1], ?_⟩)
    · intro z hz
      rcases List.mem_or_eq_of_mem_set hz with hz | hz
      · exact h2 z hz
      · rw [hz]; simp only; omega
    · have e := set_take (l := l) (k := a.length) (v := ⟨c % 4294967296⟩) (by omega)
      rw [List.take_of_length_le (by simp; omega)] at e
      rw [e, nv_snoc, List.length_take, Nat.min_eq_left (by omega)]
      simp only
      rw [List.take_length, List.take_of_length_le hl] at h5
      rw [show (c % 4294967296).toNat = c.toNat by omega]
      exact h5
  · rw [List.mem_replicate] at hy
    rw [hy.2]; simp
theorem add_gd {a b : List U32} (ha : Wf a) (hb : Wf b) (hza : a.length ≤ 1000000) (hzb : b.length ≤ 1000000) :
    Gd (m_large_addWords a b) (fun r => Wf r ∧ r.length = max a.length b.length + 1 ∧ nv r = nv a + nv b) := by
  unfold m_large_addWords
  refine Gd.ite (fun h => (add_core hb ha (by have := of_decide_eq_true h; omega) hzb).mono ?_) (fun h => (add_core ha hb (by have := of_decide_eq_false h; omega) hza).mono ?_)
  · rintro r ⟨h1, h2, h3⟩
    have := of_decide_eq_true h
    exact ⟨h1, by omega, by omega⟩
  · rintro r ⟨h1, h2, h3⟩
    have := of_decide_eq_false h
    exact ⟨h1, by omega, by omega⟩
end Go.Sim
