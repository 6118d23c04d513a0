/-
  Numerals that are written.
-/
import Derived.Test.YtfakgoeoclfoaaaGreatDoorLrgN
namespace Go.Sim
open Go
set_option linter.unusedVariables false
set_option linter.unusedSimpArgs false
set_option linter.unusedSectionVars false
set_option linter.unnecessarySimpa false

/-- Digits to the base 10 ^ 9, the lowest ahead. -/
def pv : List U32 → Nat
  | [] => 0
  | y :: l => y.n.toNat + 1000000000 * pv l
theorem pv_snoc : ∀ (a : List U32) (y : U32), pv (a ++ [y]) = pv a + 1000000000 ^ a.length * y.n.toNat
  | [], y => by
    show y.n.toNat + 1000000000 * 0 = 0 + 1000000000 ^ 0 * y.n.toNat
    rw [Nat.pow_zero]; omega
  | x :: a, y => by
    rw [List.cons_append, pv, pv_snoc a y, pv, List.length_cons, Nat.pow_succ]
    rw [Nat.mul_add, ← Nat.mul_assoc, Nat.mul_comm (1000000000 ^ a.length) 1000000000, Nat.add_assoc]
theorem pv_drop {l : List U32} {k : Nat} {y : U32} (h : l[k]? = some y) : pv (l.drop k) = pv (l.drop (k + 1)) * 1000000000 + y.n.toNat := by
  rw [drop_at h, pv]; omega
theorem ba_nines : (⟨#[48, 48, 48, 48, 48, 48, 48, 48, 48]⟩ : ByteArray) = ba (List.replicate 9 48) := rfl
theorem itoaB_nat (n : Nat) : itoaB (n : Int) = ba (Lib.decDigits n) := by unfold itoaB; rw [Lib.itoa_nonneg]; rfl
theorem itoaB_neg {n : Nat} (h : 0 < n) : itoaB (-(n : Int)) = ba (45 :: Lib.decDigits n) := by
  unfold itoaB Lib.itoa
  rw [if_pos (by omega), show (-(n : Int)).natAbs = n by omega]; rfl
def upL (D : List UInt8) : List U8 := D.map fun b => ⟨b.toNat⟩
theorem bytesL_up (D : List UInt8) : bytesL (ba D) = upL D := bytesL_ba D
theorem up_app (a b : List UInt8) : upL a ++ upL b = upL (a ++ b) := by unfold upL; rw [List.map_append]
theorem bstr_up (D : List UInt8) : bstr (upL D) = ba D := bstr_bytesL D
theorem up_len (D : List UInt8) : (upL D).length = D.length := List.length_map _

theorem pv_ten (N : Nat) {Q : List U32} (hQ : ∀ z ∈ Q, 0 ≤ z.n ∧ z.n < 1000000000) (hl : Q.length ≤ N) : pv Q < 10 ^ (9 * N) := by
  have key : ∀ (Q : List U32), (∀ z ∈ Q, 0 ≤ z.n ∧ z.n < 1000000000) → pv Q < 1000000000 ^ Q.length := by
    intro Q
    induction Q with
    | nil => intro _; show 0 < 1000000000 ^ 0; decide
    | cons z Q ih =>
      intro hQ
      have h1 := ih (fun x hx => hQ x (List.mem_cons_of_mem _ hx))
      have h2 := hQ z (List.mem_cons_self ..)
      rw [pv, List.length_cons, Nat.pow_succ, Nat.mul_comm]
      generalize 1000000000 ^ Q.length = X at *
      omega
  have h2 : (1000000000 : Nat) ^ Q.length ≤ 1000000000 ^ N := Nat.pow_le_pow_right (by decide) hl
  rw [Nat.pow_mul]
  exact Nat.lt_of_lt_of_le (key Q hQ) h2
theorem two_ten (n a b : Nat) (h1 : a ≤ 3 * n) (h2 : 10 * n ≤ 32 * b) : 10 ^ a ≤ WB ^ b := by
  have e1 : (10 : Nat) ^ a ≤ 10 ^ (3 * n) := Nat.pow_le_pow_right (by decide) h1
  have e2 : ((10 : Nat) ^ 3) ^ n ≤ (2 ^ 10) ^ n := Nat.pow_le_pow_left (by decide) n
  have e3 : (2 : Nat) ^ (10 * n) ≤ 2 ^ (32 * b) := Nat.pow_le_pow_right (by decide) h2
  rw [← Nat.pow_mul, ← Nat.pow_mul] at e2
  rw [WB_pow b]
  exact Nat.le_trans e1 (Nat.le_trans e2 e3)
theorem long_no (n a b : Nat) (h1 : a ≤ 3 * n) (h2 : 10 * n ≤ 32 * b) {w : List U32} (hw : Wf w) (ht : Top w) (hl : b < w.length) : ¬ nv w < 10 ^ a := by
  have hne : w ≠ [] := fun e => by rw [e] at hl; simp at hl
  have hge := nv_ge hw ht hne
  have hp : WB ^ b ≤ WB ^ (w.length - 1) := Nat.pow_le_pow_right (by decide) (by omega)
  exact Nat.not_lt.2 (Nat.le_trans (two_ten n a b h1 h2) (Nat.le_trans hp hge))
theorem short_lt (N K : Nat) {w : List U32} (hw : Wf w) (hl : w.length ≤ N) (hK : 32 * N ≤ K) : nv w < 2 ^ K := by
  have h2 := nv_lt hw
  have h3 : WB ^ w.length ≤ WB ^ N := Nat.pow_le_pow_right (by decide) hl
  rw [WB_pow N] at h3
  have h4 : (2 : Nat) ^ (32 * N) ≤ 2 ^ K := Nat.pow_le_pow_right (by decide) hK
  exact Nat.lt_of_lt_of_le h2 (Nat.le_trans h3 h4)
theorem nines_zeros {m : Nat} (h : m ≤ 9) : (⟨#[48, 48, 48, 48, 48, 48, 48, 48, 48]⟩ : ByteArray).extract m ((⟨#[48, 48, 48, 48, 48, 48, 48, 48, 48]⟩ : ByteArray).size) = ba (List.replicate (9 - m) 48) := by
  rw [ba_nines, ba_size, ba_extract, List.take_of_length_le (Nat.le_refl _), List.drop_replicate]
/-- The parts are joined. -/
theorem join_gd {a : LI} {P : List U32} {V : Nat} (hP : ∀ y ∈ P, 0 ≤ y.n ∧ y.n < 1000000000) (hV : pv P = V) (hne : P ≠ []) (htop : ∀ y, P.getLast? = some y → y.n ≠ 0) (hl : P.length ≤ 1000) (ha : a.minus = true → V ≠ 0) :
    Gd (loopF (fun s300 n => m_large_Int_Text_b4 a P s300.1 s300.2 n) FUEL (IntKind.i64.wrap ((P.length : Int) - 1), ([] : List U8)))
      (fun r => r.2 = decide ((Lib.decDigits V).length ≤ 2000) ∧ r.1 = itoaB (if a.minus = true then -(V : Int) else V) ∧ r.1.size ≤ 10000) := by
  have hpos : 0 < P.length := List.length_pos_iff.2 hne
  have wl : IntKind.i64.wrap ((P.length : Int) - 1) = (P.length : Int) - 1 := wrap_id ⟨by omega, by omega⟩
  rw [wl]
  refine Gd.loopF (fun (z : Int × List U8) => -1 ≤ z.1 ∧ z.1 < P.length ∧ (z.1 = (P.length : Int) - 1 ∧ z.2 = [] ∨ z.1 < (P.length : Int) - 1 ∧ 0 < pv (P.drop (z.1 + 1).toNat) ∧ z.2 = upL (Lib.decDigits (pv (P.drop (z.1 + 1).toNat))) ∧ z.2.length ≤ 9 * 1000))
    (fun z => (z.1 + 1).toNat) ?_ FUEL _ ⟨by simp only; omega, by simp only; omega, .inl ⟨rfl, rfl⟩⟩ (by simp only [FUEL]; omega)
  rintro ⟨n, l⟩ nx ⟨h1, h2, h3⟩ hnx
  simp only at h1 h2 h3 hnx ⊢
  unfold m_large_Int_Text_b4
  refine Gd.ite (fun hn => ?_) (fun hn => ?_)
  · have hn : 0 ≤ n := of_decide_eq_true hn
    obtain ⟨k, rfl⟩ : ∃ k : Nat, n = k := ⟨n.toNat, by omega⟩
    obtain ⟨y, hy⟩ : ∃ y, P[k]? = some y := ⟨_, List.getElem?_eq_getElem (by omega)⟩
    have hyw := hP y (List.mem_of_getElem? hy)
    obtain ⟨u, hu⟩ : ∃ u : Nat, y.n = u := ⟨y.n.toNat, by omega⟩
    have hu9 : u < 10 ^ 9 := by
      have : (10 : Nat) ^ 9 = 1000000000 := rfl
      omega
    have hkn : ((k : Int) + 1).toNat = k + 1 := by omega
    have hkk : ((k : Int) - 1 + 1).toNat = k := by omega
    refine Gd.ix (by omega) (by rw [Int.toNat_natCast]; exact hy) ?_
    rw [hu, u64_id (n := (u : Int)) (by omega), itoaB_nat]
    refine Gd.nd ⟨by omega, by omega⟩ ?_
    rw [wl]
    have hlen : (Lib.decDigits u).length ≤ 9 := nd_le (by decide) hu9
    have hd := pv_drop hy
    have hun : y.n.toNat = u := by omega
    rw [hun] at hd
    have hwk : IntKind.i64.wrap ((k : Int) - 1) = (k : Int) - 1 := wrap_id ⟨by omega, by omega⟩
    refine Gd.ite (fun hlt => ?_) (fun hlt => ?_)
    · have hlt : (k : Int) < (P.length : Int) - 1 := of_decide_eq_true hlt
      rcases h3 with ⟨h3, _⟩ | ⟨_, h3, h4, h5⟩
      · omega
      rw [hkn] at h3 h4
      rw [ba_size, Int.toNat_natCast, nines_zeros hlen, bytesL_up]
      have hsz : (ba (List.replicate (9 - (Lib.decDigits u).length) (48 : UInt8))).size = 9 - (Lib.decDigits u).length := by rw [ba_size, List.length_replicate]
      rw [hsz]
      refine Gd.nd ⟨by omega, by show ((Lib.decDigits u).length : Int) ≤ ((9 : Nat) : Int); omega⟩ (Gd.nd (by omega) ?_)
      unfold m_large_Int_Text_b5
      rw [hu, u64_id (n := (u : Int)) (by omega), itoaB_nat, hwk, bytesL_up, ba_size]
      rw [List.length_append, up_len, List.length_replicate]
      refine Gd.nd (by omega) ?_
      have hfin : l ++ upL (List.replicate (9 - (Lib.decDigits u).length) (48 : UInt8)) ++ upL (Lib.decDigits u) = upL (Lib.decDigits (pv (P.drop k))) := by
        have hdp := dec_pad (k := 9) (by decide) h3 hu9
        rw [show (10 : Nat) ^ 9 = 1000000000 from rfl, ← hd] at hdp
        rw [h4, List.append_assoc, up_app, up_app, hdp]
        rfl
      rw [hfin]
      have hdl := lt_of_nd (u := pv (P.drop k)) (k := (Lib.decDigits (pv (P.drop k))).length) (Nat.le_refl _)
      refine hnx _ ⟨by simp only; omega, by simp only; omega, .inr ⟨by simp only; omega, by simp only; rw [hkk, hd]; omega, by simp only; rw [hkk], ?_⟩⟩ (by simp only; omega)
      simp only
      rw [up_len]
      have hb := pv_ten 1000 (fun z hz => hP z (List.mem_of_mem_drop hz)) (show (P.drop k).length ≤ 1000 by rw [List.length_drop]; omega)
      exact nd_le (k := 9 * 1000) (by decide) hb
    · have hlt : ¬ (k : Int) < (P.length : Int) - 1 := of_decide_eq_false hlt
      rcases h3 with ⟨h3, h4⟩ | ⟨h3, _⟩
      · unfold m_large_Int_Text_b5
        rw [hu, u64_id (n := (u : Int)) (by omega), itoaB_nat, hwk, bytesL_up, ba_size, h4]
        refine Gd.nd (by simp only [List.length_nil]; omega) ?_
        have hlast : P.drop (k + 1) = [] := List.drop_of_length_le (by omega)
        rw [hlast] at hd
        have hd : pv (P.drop k) = u := by rw [hd]; show 0 * 1000000000 + u = u; omega
        have hu0 : u ≠ 0 := by
          have := htop y (by rw [List.getLast?_eq_getElem?, show P.length - 1 = k by omega]; exact hy)
          omega
        rw [List.nil_append]
        refine hnx _ ⟨by simp only; omega, by simp only; omega, .inr ⟨by simp only; omega, by simp only; rw [hkk, hd]; omega, by simp only; rw [hkk, hd], ?_⟩⟩ (by simp only; omega)
        simp only
        rw [up_len]; omega
      · omega
  · have hn : ¬ 0 ≤ n := of_decide_eq_false hn
    rcases h3 with ⟨h3, _⟩ | ⟨_, h3, h4, h5⟩
    · omega
    have hz : (n + 1).toNat = 0 := by omega
    rw [hz, List.drop_zero, hV] at h3 h4
    subst h4
    rw [up_len] at h5 ⊢
    have hne' : (Lib.decDigits V) ≠ [] := (num_dec V).1.ne
    have hp : 0 < (Lib.decDigits V).length := List.length_pos_iff.2 hne'
    have hsz : ((ba (Lib.decDigits V)).size : Int) = ((Lib.decDigits V).length : Int) := by rw [ba_size]
    have hdd : decide (((ba (Lib.decDigits V)).size : Int) ≤ 2000) = decide ((Lib.decDigits V).length ≤ 2000) := by
      rw [hsz]; exact decide_eq_decide.2 (by omega)
    refine Gd.nd hp (Gd.ite (fun hm => Gd.nd ?_ ?_) (fun hm => ?_))
    · rw [bstr_up, ba_size, show (⟨#[45]⟩ : ByteArray).size = 1 from rfl]
      unfold maxLen; omega
    · unfold m_large_Int_Text_b6
      rw [bstr_up]
      have hx : (⟨#[45]⟩ : ByteArray) ++ ba (Lib.decDigits V) = ba (45 :: Lib.decDigits V) := by
        rw [show (⟨#[45]⟩ : ByteArray) = ba [45] from rfl, ba_app]; rfl
      refine Gd.ret ⟨hdd, ?_, ?_⟩
      · rw [if_pos hm, itoaB_neg (by have := ha hm; omega)]; exact hx
      · simp only
        rw [hx, ba_size, List.length_cons]; omega
    · unfold m_large_Int_Text_b6
      rw [bstr_up]
      refine Gd.ret ⟨hdd, ?_, ?_⟩
      · rw [if_neg (by rw [hm]; simp), itoaB_nat]
      · simp only
        rw [ba_size]; omega
theorem pow9_bound (K N : Nat) {p n W : Nat} (h : 1000000000 ^ p * n ≤ W) (hn : 1 ≤ n) (hW : W < 2 ^ K) (hK : K ≤ 29 * N) : p < N := by
  rcases Nat.lt_or_ge p N with hp | hp
  · exact hp
  · exfalso
    have h1 : ((2 : Nat) ^ 29) ^ N ≤ (1000000000 : Nat) ^ N := Nat.pow_le_pow_left (by decide) N
    have h2 : (1000000000 : Nat) ^ N ≤ 1000000000 ^ p := Nat.pow_le_pow_right (by decide) hp
    have h3 : (1000000000 : Nat) ^ p * 1 ≤ 1000000000 ^ p * n := Nat.mul_le_mul_left _ hn
    have h4 : (2 : Nat) ^ K ≤ 2 ^ (29 * N) := Nat.pow_le_pow_right (by decide) hK
    rw [← Nat.pow_mul] at h1
    rw [Nat.mul_one] at h3
    exact absurd hW (Nat.not_lt.2 (Nat.le_trans h4 (Nat.le_trans h1 (Nat.le_trans h2 (Nat.le_trans h3 h)))))
theorem part_step {V A B n : Nat} (h : V = A + B * n) : V = (A + B * (n % 1000000000)) + B * 1000000000 * (n / 1000000000) := by
  rw [Nat.mul_assoc, Nat.add_assoc, ← Nat.mul_add, Nat.mod_add_div]; exact h
theorem itext_gd {a : LI} (h : IOk a) : Gd (m_large_Int_Text a) (fun r => r.2 = decide ((Lib.decDigits (nv a.words)).length ≤ 2000) ∧ (r.2 = true → r.1 = itoaB (ival a)) ∧ r.1.size ≤ 10000) := by
  unfold m_large_Int_Text
  refine Gd.ite (fun h0 => ?_) (fun h0 => ?_)
  · have h0 : a.words = [] := List.eq_nil_of_length_eq_zero (by have := of_decide_eq_true h0; omega)
    have hm : a.minus = false := by
      cases hm : a.minus with
      | false => rfl
      | true => exact absurd h0 (h.sign hm)
    refine Gd.ret ⟨?_, fun _ => ?_, by decide⟩
    · rw [h0]
      have hx : (Lib.decDigits (nv [])).length ≤ 2000 := by
        show (Lib.decDigits 0).length ≤ 2000
        rw [Lib.decDigits_one (by omega)]; simp
      rw [decide_eq_true hx]
    · unfold ival
      rw [if_neg (by rw [hm]; simp), h0]
      show (⟨#[48]⟩ : ByteArray) = itoaB ((0 : Nat) : Int)
      rw [itoaB_nat, Lib.decDigits_one (by omega)]; rfl
  · have h0 : a.words.length ≠ 0 := by have := of_decide_eq_false h0; omega
    have hne : a.words ≠ [] := fun e => h0 (by rw [e]; rfl)
    refine Gd.ite (fun h1 => ?_) (fun h1 => ?_)
    · have h1 : 210 < a.words.length := by have := of_decide_eq_true h1; omega
      refine Gd.ret ⟨?_, fun hh => absurd hh (by simp), by decide⟩
      symm
      refine decide_eq_false fun hle => ?_
      exact long_no 667 2000 210 (by decide) (by decide) h.wf h.tp h1 (lt_of_nd (k := 2000) hle)
    · have h1 : a.words.length ≤ 210 := by have := of_decide_eq_false h1; omega
      have hW := short_lt 210 6720 h.wf h1 (by decide)
      have hnz : nv a.words ≠ 0 := fun e => hne ((nv_zero h.wf h.tp).1 e)
      refine Gd.loopF (fun (z : List U32 × List U32) => (∀ y ∈ z.1, 0 ≤ y.n ∧ y.n < 1000000000) ∧ Wf z.2 ∧ Top z.2 ∧ z.2.length ≤ 210 ∧ nv a.words = pv z.1 + 1000000000 ^ z.1.length * nv z.2 ∧ z.1.length ≤ 300 ∧ (nv z.2 = 0 → z.1 ≠ [] ∧ ∀ y, z.1.getLast? = some y → y.n ≠ 0))
        (fun z => 301 - z.1.length) ?_ FUEL _ ⟨by simp, h.wf, h.tp, h1, ?_, by simp, fun e => absurd e hnz⟩ (by simp only [FUEL, List.length_nil]; omega)
      · rintro ⟨P, w⟩ nx ⟨i1, i2, i3, i4, i5, i6, i7⟩ hnx
        simp only at i1 i2 i3 i4 i5 i6 i7 hnx ⊢
        unfold m_large_Int_Text_b1
        refine Gd.ite (fun hw => ?_) (fun hw => ?_)
        · have hw : 0 < w.length := by have := of_decide_eq_true hw; omega
          have hwn : w ≠ [] := fun e => by rw [e] at hw; simp at hw
          have hwz : nv w ≠ 0 := fun e => hwn ((nv_zero i2 i3).1 e)
          have hpl := pow9_bound 6720 300 (p := P.length) (n := nv w) (W := nv a.words) (by rw [i5]; exact Nat.le_add_left _ _) (by omega) hW (by decide)
          refine Gd.bnd (short_gd i2 (by omega) (d := 1000000000) (by omega)) (fun r hr => ?_)
          have hdn : (1000000000 : Int).toNat = 1000000000 := rfl
          rw [hdn] at hr
          refine Gd.nd (by simp only [List.length_singleton]; omega) (Gd.bnd (norm_gd false r.1 hr.1 (by omega)) (fun q hq => ?_))
          have hrn : 0 ≤ r.2 ∧ r.2 < 1000000000 ∧ r.2.toNat = nv w % 1000000000 := by
            have := Nat.mod_lt (nv w) (show 1000000000 > 0 by omega)
            rw [hr.2.2.2]; omega
          refine hnx _ ⟨?_, hq.1.wf, hq.1.tp, by simp only; omega, ?_, by simp only [List.length_append, List.length_singleton]; omega, fun hz => ⟨by simp, fun y hy => ?_⟩⟩ (by simp only [List.length_append, List.length_singleton]; omega)
          · intro y hy
            rcases List.mem_append.1 hy with hy | hy
            · exact i1 y hy
            · rw [List.mem_singleton] at hy; subst hy; simp only; omega
          · simp only
            rw [pv_snoc, List.length_append, List.length_singleton, Nat.pow_succ, hq.2.2.1, hr.2.2.1]
            simp only
            rw [hrn.2.2]
            exact part_step i5
          · simp only at hz hy
            rw [List.getLast?_append, List.getLast?_singleton] at hy
            simp only [Option.some_or, Option.some.injEq] at hy
            subst hy
            simp only
            rw [hq.2.2.1, hr.2.2.1] at hz
            have : nv w / 1000000000 = 0 := hz
            omega
        · have hw : w = [] := List.eq_nil_of_length_eq_zero (by have := of_decide_eq_false hw; omega)
          subst hw
          obtain ⟨j1, j2⟩ := i7 rfl
          have hVV : pv P = nv a.words := by
            rw [i5]
            show pv P = pv P + 1000000000 ^ P.length * 0
            rw [Nat.mul_zero]; rfl
          refine (join_gd (a := a) i1 hVV j1 j2 (by omega) (fun _ => hnz)).mono (fun r hr => ⟨hr.1, fun _ => ?_, hr.2.2⟩)
          rw [hr.2.1]; rfl
      · show nv a.words = 0 + 1000000000 ^ 0 * nv a.words
        rw [Nat.pow_zero]; omega
end Go.Sim
