/-
  The text of a rational number; which texts are accepted, and what they are worth.
-/
import Derived.Test.YtfakgoeoclfoaaaGreatDoorLrgO
import Derived.Test.YtfakgoeoclfoaaaGreatDoorSimY
namespace Go.Sim
open Go
set_option linter.unusedVariables false
set_option linter.unusedSimpArgs false
set_option linter.unusedSectionVars false
set_option linter.unnecessarySimpa false

def cl (q : Rat) : List UInt8 := Lib.itoa q.num ++ (if q.den = 1 then [] else 47 :: Lib.decDigits q.den)
def ctext (q : Rat) : ByteArray := ba (cl q)
def fits (q : Rat) : Prop := (Lib.decDigits q.num.natAbs).length ≤ 2000 ∧ (Lib.decDigits q.den).length ≤ 2000
instance (q : Rat) : Decidable (fits q) := by unfold fits; infer_instance

theorem no_slash {l : List UInt8} (h : ∀ c ∈ l, Dig c) : (47 : UInt8) ∉ l := fun hm => absurd (h 47 hm) (by unfold Dig; decide)
theorem itoa_eq (n : Int) : Lib.itoa n = if n < 0 then 45 :: Lib.decDigits n.natAbs else Lib.decDigits n.natAbs := by
  unfold Lib.itoa
  split
  · rfl
  · rw [show n.toNat = n.natAbs by omega]
theorem head_dec (u : Nat) : (Lib.decDigits u).head? ≠ some 45 := by
  obtain ⟨h, _⟩ := num_dec u
  cases hl : Lib.decDigits u with
  | nil => simp
  | cons c r =>
    rw [hl] at h
    have := h.dig c (List.mem_cons_self ..)
    simp only [List.head?_cons, ne_eq, Option.some.injEq]
    rintro rfl
    exact absurd this (by unfold Dig; decide)
theorem cl_head (q : Rat) : (cl q).head? = some 45 ↔ q.num < 0 := by
  unfold cl
  rw [itoa_eq]
  by_cases h : q.num < 0
  · rw [if_pos h]; simp [h]
  · rw [if_neg h, head_app (num_dec _).1.ne]
    simp only [h, iff_false]
    exact head_dec _
theorem cl_trim (q : Rat) : (if (cl q).head? = some 45 then (cl q).tail else cl q) = Lib.decDigits q.num.natAbs ++ (if q.den = 1 then [] else 47 :: Lib.decDigits q.den) := by
  by_cases h : q.num < 0
  · rw [if_pos ((cl_head q).2 h)]
    unfold cl
    rw [itoa_eq, if_pos h]; rfl
  · rw [if_neg (fun e => h ((cl_head q).1 e))]
    unfold cl
    rw [itoa_eq, if_neg h]

/-! ### strings.Cut -/
theorem index_none {c : UInt8} {l : List UInt8} (h : c ∉ l) : Lib.indexByte l c = -1 := by
  rcases indexByte_cases c l with ⟨_, h2⟩ | ⟨a, b, rfl, _⟩
  · exact h2
  · exact absurd (by simp) h
theorem index_at {c : UInt8} {b : List UInt8} : ∀ {a : List UInt8}, c ∉ a → Lib.indexByte (a ++ c :: b) c = a.length
  | [], _ => by simp [Lib.indexByte]
  | x :: a, h => by
    have hx : (x == c) = false := by simp only [List.mem_cons, not_or] at h; simpa using fun e => h.1 e.symm
    have ih := index_at (b := b) (a := a) (fun hm => h (List.mem_cons_of_mem _ hm))
    rw [List.cons_append]
    simp only [Lib.indexByte, hx, ih]
    rw [if_neg (by simp), if_neg (by simp)]
    simp only [List.length_cons]; omega
theorem cut_none {l : List UInt8} (h : (47 : UInt8) ∉ l) : m_strings_Cut (ba l) (⟨#[47]⟩) = some (ba l, ⟨#[]⟩, false) := by
  unfold m_strings_Cut m_internal_stringslite_Cut
  rw [show (⟨#[47]⟩ : ByteArray) = ba [47] from rfl, index_eq, bl_ba, index_none h]
  rfl
theorem cut_some {a b : List UInt8} (h : (47 : UInt8) ∉ a) (hs : a.length + 1 + b.length ≤ maxLen) : m_strings_Cut (ba (a ++ 47 :: b)) (⟨#[47]⟩) = some (ba a, ba b, true) := by
  have hsz : (ba (a ++ 47 :: b)).size = a.length + 1 + b.length := by rw [ba_size]; simp; omega
  unfold maxLen at hs
  unfold m_strings_Cut m_internal_stringslite_Cut
  rw [show (⟨#[47]⟩ : ByteArray) = ba [47] from rfl, index_eq, bl_ba, index_at h]
  simp only [Option.bind_some]
  rw [if_pos (by simp), hsz, show (ba [47]).size = 1 from rfl, wrap_id ⟨by omega, by omega⟩]
  unfold need
  rw [if_pos ⟨by omega, by omega⟩, if_pos ⟨by omega, by omega⟩, Int.toNat_natCast, show ((a.length : Int) + ((1 : Nat) : Int)).toNat = a.length + 1 by omega, ba_extract, ba_extract]
  simp only [Option.bind_some, List.drop_zero]
  rw [List.take_left, List.take_of_length_le (by simp; omega), show a ++ 47 :: b = (a ++ [47]) ++ b by simp, List.drop_left' (by simp)]

/-! ### numerals are checked -/
theorem ncheck_gd (l : List UInt8) (hs : l.length ≤ maxLen) : Gd (m_nat_Check (ba l)) (fun c => c = 0 ↔ Num l ∧ l.length ≤ 2000) := by
  unfold m_nat_Check
  refine Gd.nd (by rw [ba_size]; exact hs) ?_
  rw [bytesL_up]
  refine Gd.seen (fun pre _ => ∀ y ∈ pre, 48 ≤ y.n ∧ y.n ≤ 57) ?_ ?_ () (fun y hy => by cases hy)
  · rintro i y _ nx pre ⟨post, hl⟩ hI hnx
    have hy : y ∈ upL l := by rw [hl]; simp
    obtain ⟨c, hc, rfl⟩ := List.mem_map.1 hy
    unfold m_nat_Check_b1
    refine Gd.ite (fun hb => Gd.ret ?_) (fun hb => hnx () (fun z hz => ?_))
    · simp only [Bool.or_eq_true, decide_eq_true_eq] at hb
      constructor
      · intro h; simp at h
      · rintro ⟨h, _⟩
        have := h.dig c hc
        unfold Dig at this; omega
    · simp only [Bool.or_eq_false_iff, decide_eq_false_iff_not] at hb
      rcases List.mem_append.1 hz with hz | hz
      · exact hI z hz
      · rw [List.mem_singleton] at hz; subst hz; simp only; omega
  · intro _ hI
    have hd : ∀ c ∈ l, Dig c := fun c hc => by
      have := hI ⟨c.toNat⟩ (List.mem_map.2 ⟨c, hc, rfl⟩)
      unfold Dig; simp only at this; omega
    refine Gd.ite (fun h => Gd.ret ?_) (fun h => ?_)
    · have h : l = [] := ba_inj ((of_decide_eq_true h).trans rfl)
      constructor
      · intro h; simp at h
      · rintro ⟨hn, _⟩; exact absurd h hn.ne
    · have hne : l ≠ [] := fun e => absurd (of_decide_eq_false h) (by rw [e]; simp [ba])
      have last : (l.head? = some 48 → l = [48]) → Gd (if decide (2000 < ((ba l).size : Int)) = true then some (2 : Int) else some 0) (fun c => c = 0 ↔ Num l ∧ l.length ≤ 2000) := fun hlead => by
        rw [ba_size]
        refine Gd.ite (fun h2 => Gd.ret ?_) (fun h2 => Gd.ret ?_)
        · have := of_decide_eq_true h2
          constructor
          · intro h; simp at h
          · rintro ⟨_, h⟩; omega
        · have := of_decide_eq_false h2
          exact ⟨fun _ => ⟨⟨hd, hne, hlead⟩, by omega⟩, fun _ => rfl⟩
      refine Gd.ite (fun h1 => ?_) (fun h1 => last (fun hh => ?_))
      · rw [ba_size] at h1
        have h1 := of_decide_eq_true h1
        cases l with
        | nil => exact absurd rfl hne
        | cons c r =>
          refine Gd.ix (y := ⟨c.toNat⟩) (by omega) rfl (Gd.ite (fun h2 => Gd.ret ?_) (fun h2 => last (fun hh => ?_)))
          · have h2 := of_decide_eq_true h2
            simp only at h2
            constructor
            · intro h; simp at h
            · rintro ⟨hn, _⟩
              have hc : c = 48 := UInt8.toNat_inj.1 (by show c.toNat = 48; omega)
              have := hn.lead (by rw [hc]; rfl)
              rw [this] at h1; simp at h1
          · have h2 := of_decide_eq_false h2
            simp only [List.head?_cons, Option.some.injEq] at hh
            subst hh
            exact absurd rfl h2
      · rw [ba_size] at h1
        have h1 := of_decide_eq_false h1
        cases l with
        | nil => exact absurd rfl hne
        | cons c r =>
          have : r = [] := List.eq_nil_of_length_eq_zero (by simp only [List.length_cons] at h1; omega)
          subst this
          simp only [List.head?_cons, Option.some.injEq] at hh
          rw [hh]
theorem readn_gd {n : List UInt8} (hn : Num n) (l1 : n.length ≤ 2000) : Gd (m_large_Read (ba n)) (fun a => IOk a ∧ a.words.length ≤ 10000 ∧ ival a = dv n) := by
  have := read_gd hn.dig l1 false
  simpa using this
theorem ntwo_gd {n d : List UInt8} (hn : Num n) (hd : Num d) (l1 : n.length ≤ 2000) (l2 : d.length ≤ 2000) :
    Gd (m_nat_two (ba n) (ba d)) (fun r => r.2.2 = 0 ∧ (IOk r.1 ∧ r.1.words.length ≤ 10000 ∧ ival r.1 = dv n) ∧ (IOk r.2.1 ∧ r.2.1.words.length ≤ 10000 ∧ ival r.2.1 = dv d)) := by
  unfold m_nat_two
  have chk : ∀ {l : List UInt8}, Num l → l.length ≤ 2000 → Gd (m_nat_Check (ba l)) (fun c => c = 0) := fun h hl => (ncheck_gd _ (by unfold maxLen; omega)).mono (fun c hc => hc.2 ⟨h, hl⟩)
  refine Gd.forN (fun m i _ => m + i = 2) (fun m i _ nx hI hnx => ?_) (fun i _ _ => ?_) _ 0 () rfl
  · unfold m_nat_two_b1
    have hi : i = 0 ∨ i = 1 := by omega
    have hy : ∃ l : List UInt8, ([ba n, ba d] : List ByteArray)[i]? = some (ba l) ∧ Num l ∧ l.length ≤ 2000 := by
      rcases hi with rfl | rfl
      · exact ⟨n, rfl, hn, l1⟩
      · exact ⟨d, rfl, hd, l2⟩
    obtain ⟨l, hl, h1, h2⟩ := hy
    refine Gd.ix (by omega) (by rw [Int.toNat_natCast]; exact hl) (Gd.bnd (chk h1 h2) (fun c hc => ?_))
    subst hc
    exact hnx () (by omega)
  · exact Gd.bnd (readn_gd hn l1) (fun a ha => Gd.bnd (readn_gd hd l2) (fun b hb => Gd.ret ⟨rfl, ha, hb⟩))
theorem dec_one : Lib.decDigits 1 = [49] := Lib.decDigits_one (by omega)
theorem dec_zero : Lib.decDigits 0 = [48] := Lib.decDigits_one (by omega)
theorem dec_inj {a b : Nat} (h : Lib.decDigits a = Lib.decDigits b) : a = b := by
  have h1 := (num_dec a).2
  rw [h, (num_dec b).2] at h1; exact h1.symm
theorem ngcd_gd {n d : List UInt8} (hn : Num n) (hd : Num d) (l1 : n.length ≤ 2000) (l2 : d.length ≤ 2000) :
    Gd (m_nat_Gcd (ba n) (ba d)) (fun r => r.1 = (⟨#[49]⟩ : ByteArray) ↔ Nat.gcd (dv n) (dv d) = 1) := by
  unfold m_nat_Gcd
  refine Gd.bnd (ntwo_gd hn hd l1 l2) (fun r hr => ?_)
  obtain ⟨h0, h1, h2⟩ := hr
  rw [h0]
  refine Gd.bnd (gcd_gd h1.1 h2.1 (L := 10000) (by omega) h1.2.1 h2.2.1) (fun g hg => ?_)
  have e1 : nv r.1.words = dv n := by rw [← ival_abs, h1.2.2]; rfl
  have e2 : nv r.2.1.words = dv d := by rw [← ival_abs, h2.2.2]; rfl
  rw [e1, e2] at hg
  unfold m_nat_text
  have hb : Gd ((m_large_Int_Text g).bind fun r102 => if (!r102.2) = true then some ((⟨#[]⟩ : ByteArray), (2 : Int)) else some (r102.1, 0)) (fun t => t.1 = (⟨#[49]⟩ : ByteArray) ↔ Nat.gcd (dv n) (dv d) = 1) := by
    refine Gd.bnd (itext_gd hg.1) (fun t ht => Gd.ite (fun hf => Gd.ret ?_) (fun hf => Gd.ret ?_))
    · have hf : t.2 = false := by simpa using hf
      rw [hf, hg.2.2.2] at ht
      constructor
      · intro h; exact absurd h (by decide)
      · intro h
        have := ht.1
        rw [h, dec_one] at this; simp at this
    · have hf : t.2 = true := by simpa using hf
      have e3 := ht.2.1 hf
      simp only
      rw [e3, ival_nat hg.2.1, itoaB_nat, hg.2.2.2, show (⟨#[49]⟩ : ByteArray) = ba [49] from rfl]
      constructor
      · intro h
        exact dec_inj ((ba_inj h).trans dec_one.symm)
      · intro h; rw [h, dec_one]
  exact Gd.bnd hb (fun t ht => Gd.ret ht)

/-! ### rational numbers are checked -/
theorem rcheck_can {q : Rat} (h : fits q) : m_rat_Check (ctext q) = some 0 := by
  refine Gd.eq.1 ?_
  have hD := (num_dec q.num.natAbs).1
  have hE := (num_dec q.den).1
  unfold m_rat_Check ctext
  refine Gd.bind_eq (trim_minus _) ?_
  rw [cl_trim]
  have hz : q.num < 0 → Lib.decDigits q.num.natAbs ≠ [48] := fun hn e => by
    rw [← dec_zero] at e
    have := dec_inj e; omega
  by_cases hd : q.den = 1
  · rw [if_pos hd, List.append_nil]
    refine Gd.bind_eq (cut_none (no_slash hD.dig)) ?_
    refine Gd.bnd (ncheck_gd _ (by have := h.1; unfold maxLen; omega)) (fun c hc => ?_)
    have hc0 := hc.2 ⟨hD, h.1⟩
    subst hc0
    refine Gd.ite (fun hx => by simp at hx) (fun _ => ?_)
    unfold m_rat_Check_b2
    refine Gd.ite (fun hx => ?_) (fun _ => Gd.ret rfl)
    exfalso
    simp only [show decide ((0 : Int) = 5) = false from rfl, Bool.or_self, Bool.false_or, Bool.and_eq_true, decide_eq_true_eq] at hx
    have h1 : Lib.decDigits q.num.natAbs = [48] := ba_inj (hx.1.trans rfl)
    have h2 := hx.2
    rw [ba_size, ba_size] at h2
    unfold cl at h2
    rw [if_pos hd, List.append_nil, itoa_eq] at h2
    split at h2
    · rename_i hn; exact hz hn h1
    · omega
  · rw [if_neg hd]
    refine Gd.bind_eq (cut_some (no_slash hD.dig) (by have := h.1; have := h.2; unfold maxLen; omega)) ?_
    refine Gd.bnd (ncheck_gd _ (by have := h.1; unfold maxLen; omega)) (fun c hc => ?_)
    have hc0 := hc.2 ⟨hD, h.1⟩
    subst hc0
    refine Gd.ite (fun _ => ?_) (fun hx => by simp at hx)
    refine Gd.bnd (ncheck_gd _ (by have := h.2; unfold maxLen; omega)) (fun c hc => ?_)
    have hc0 := hc.2 ⟨hE, h.2⟩
    subst hc0
    unfold m_rat_Check_b2
    refine Gd.ite (fun hx => ?_) (fun _ => Gd.ite (fun hx => by simp at hx) (fun _ => Gd.ite (fun _ => ?_) (fun hx => by simp at hx)))
    · exfalso
      simp only [show decide ((0 : Int) = 5) = false from rfl, Bool.or_self, Bool.false_or, Bool.and_eq_true, decide_eq_true_eq] at hx
      have h1 : Lib.decDigits q.num.natAbs = [48] := ba_inj (hx.1.trans rfl)
      have h2 := hx.2
      rw [ba_size, ba_size] at h2
      unfold cl at h2
      rw [if_neg hd, itoa_eq] at h2
      split at h2
      · rename_i hn; exact hz hn h1
      · omega
    · refine Gd.bnd (ngcd_gd hD hE h.1 h.2) (fun r hr => ?_)
      rw [(num_dec q.num.natAbs).2, (num_dec q.den).2] at hr
      have hr1 := hr.2 q.reduced
      refine Gd.ite (fun hx => ?_) (fun _ => Gd.ret rfl)
      exfalso
      simp only [hr1, decide_true, Bool.not_true, Bool.or_false, Bool.or_eq_true, decide_eq_true_eq] at hx
      rcases hx with hx | hx
      · have := dec_inj ((ba_inj (hx.trans rfl) : Lib.decDigits q.den = [48]).trans dec_zero.symm)
        exact q.den_nz this
      · have := dec_inj ((ba_inj (hx.trans rfl) : Lib.decDigits q.den = [49]).trans dec_one.symm)
        exact hd this
theorem cl_of {neg : Bool} {n : List UInt8} {m : Int} (hn : Num n) (h0 : ¬ (n = [48] ∧ neg = true)) (hm : m = if neg = true then -(dv n : Int) else dv n) :
    Lib.itoa m = (if neg = true then 45 :: n else n) ∧ m.natAbs = dv n := by
  have hz : dv n = 0 → n = [48] := fun h => by
    have e := dec_of hn
    rw [h, dec_zero] at e; exact e.symm
  rw [itoa_eq]
  cases neg with
  | false =>
    simp only [Bool.false_eq_true, if_false] at hm ⊢
    rw [if_neg (by omega), show m.natAbs = dv n by omega]
    exact ⟨dec_of hn, rfl⟩
  | true =>
    simp only [if_true] at hm ⊢
    have hnz : dv n ≠ 0 := fun h => h0 ⟨hz h, rfl⟩
    rw [if_pos (by omega), show m.natAbs = dv n by omega]
    exact ⟨by rw [dec_of hn], rfl⟩
theorem rcheck_gd (s : ByteArray) (hs : s.size ≤ maxLen) : Gd (m_rat_Check s) (fun c => c = 0 ↔ ∃ q, fits q ∧ s = ctext q) := by
  have sound : Gd (m_rat_Check s) (fun c => c = 0 → ∃ q, fits q ∧ s = ctext q) := by
    obtain ⟨l, rfl⟩ : ∃ l, s = ba l := ⟨bl s, (ba_bl s).symm⟩
    rw [ba_size] at hs
    unfold m_rat_Check
    refine Gd.bind_eq (trim_minus l) ?_
    obtain ⟨neg, hneg⟩ : ∃ neg : Bool, neg = decide (l.head? = some 45) := ⟨_, rfl⟩
    generalize ht : (if l.head? = some 45 then l.tail else l) = t
    have hl : l = if neg = true then 45 :: t else t := by
      by_cases h : l.head? = some 45
      · rw [if_pos h] at ht
        rw [hneg, decide_eq_true h, if_pos rfl, ← ht]
        cases l with
        | nil => cases h
        | cons c r => simp only [List.head?_cons, Option.some.injEq] at h; rw [h]; rfl
      · rw [if_neg h] at ht
        rw [hneg, decide_eq_false h, if_neg (by simp)]; exact ht
    have htl : t.length ≤ l.length := by
      rw [hl]; split
      · simp
      · omega
    have hsz : neg = true → (ba t).size < (ba l).size := fun h => by
      rw [ba_size, ba_size, hl, if_pos h]; simp
    by_cases hsl : (47 : UInt8) ∈ t
    · obtain ⟨a, b, e, ha, _⟩ : ∃ a b, t = a ++ 47 :: b ∧ (47 : UInt8) ∉ a ∧ True := by
        rcases indexByte_cases 47 t with ⟨h1, _⟩ | ⟨a, b, e, h2, _⟩
        · exact absurd hsl h1
        · exact ⟨a, b, e, h2, trivial⟩
      have hab : a.length + 1 + b.length = t.length := by rw [e]; simp; omega
      rw [e]
      refine Gd.bind_eq (cut_some ha (by omega)) ?_
      refine Gd.bnd (ncheck_gd a (by omega)) (fun c1 hc1 => Gd.ite (fun _ => ?_) (fun hx => by simp at hx))
      refine Gd.bnd (ncheck_gd b (by omega)) (fun c2 hc2 => ?_)
      unfold m_rat_Check_b2
      refine Gd.ite (fun _ => Gd.ret (fun h => by simp at h)) (fun hA => Gd.ite (fun _ => Gd.ret (fun h => by simp at h)) (fun hB => Gd.ite (fun _ => ?_) (fun hx => by simp at hx)))
      simp only [Bool.or_eq_false_iff, Bool.not_eq_false', decide_eq_true_eq] at hB
      obtain ⟨n1, n2⟩ := hc1.1 hB.1
      obtain ⟨d1, d2⟩ := hc2.1 hB.2
      have h0 : ¬ (a = [48] ∧ neg = true) := by
        rintro ⟨ea, en⟩
        simp only [Bool.or_eq_false_iff, Bool.and_eq_false_iff, decide_eq_false_iff_not] at hA
        rcases hA.2 with h | h
        · exact h (by rw [ea]; rfl)
        · have := hsz en; rw [e] at this; omega
      refine Gd.bnd (ngcd_gd n1 d1 n2 d2) (fun r hr => Gd.ite (fun _ => Gd.ret (fun h => by simp at h)) (fun hC => Gd.ret (fun _ => ?_)))
      simp only [Bool.or_eq_false_iff, Bool.not_eq_false', decide_eq_true_eq, decide_eq_false_iff_not] at hC
      have hg := hr.1 hC.2
      have hnz : dv b ≠ 0 := fun h => hC.1.1 (by
        have := dec_of d1
        rw [h, dec_zero] at this; rw [← this]; rfl)
      have hn1 : dv b ≠ 1 := fun h => hC.1.2 (by
        have := dec_of d1
        rw [h, dec_one] at this; rw [← this]; rfl)
      obtain ⟨e1, e2⟩ := cl_of (neg := neg) n1 h0 rfl
      refine ⟨Rat.mk' (if neg = true then -(dv a : Int) else dv a) (dv b) hnz (by rw [e2]; exact hg), ⟨?_, ?_⟩, ?_⟩
      · simp only; rw [e2, dec_of n1]; exact n2
      · simp only; rw [dec_of d1]; exact d2
      · unfold ctext cl
        simp only
        rw [e1, if_neg hn1, dec_of d1, hl, e]
        split <;> rfl
    · refine Gd.bind_eq (cut_none hsl) ?_
      refine Gd.bnd (ncheck_gd t (by omega)) (fun c1 hc1 => Gd.ite (fun hx => by simp at hx) (fun _ => ?_))
      unfold m_rat_Check_b2
      refine Gd.ite (fun _ => Gd.ret (fun h => by simp at h)) (fun hA => Gd.ite (fun _ => Gd.ret (fun h => by simp at h)) (fun hB => Gd.ite (fun hx => by simp at hx) (fun _ => Gd.ret (fun _ => ?_))))
      simp only [Bool.or_eq_false_iff, Bool.not_eq_false', decide_eq_true_eq] at hB
      obtain ⟨n1, n2⟩ := hc1.1 hB.1
      have h0 : ¬ (t = [48] ∧ neg = true) := by
        rintro ⟨ea, en⟩
        simp only [Bool.or_eq_false_iff, Bool.and_eq_false_iff, decide_eq_false_iff_not] at hA
        rcases hA.2 with h | h
        · exact h (by rw [ea]; rfl)
        · have := hsz en; omega
      obtain ⟨e1, e2⟩ := cl_of (neg := neg) n1 h0 rfl
      refine ⟨Rat.mk' (if neg = true then -(dv t : Int) else dv t) 1 (by decide) (by rw [e2]; exact Nat.coprime_one_right _), ⟨?_, ?_⟩, ?_⟩
      · simp only; rw [e2, dec_of n1]; exact n2
      · simp only; rw [dec_one]; decide
      · unfold ctext cl
        simp only
        rw [e1, if_pos trivial, List.append_nil, ← hl]
  obtain ⟨c, e, h⟩ := sound
  refine ⟨c, e, h, ?_⟩
  rintro ⟨q, hq, rfl⟩
  rw [rcheck_can hq] at e
  exact (Option.some.inj e).symm
end Go.Sim
