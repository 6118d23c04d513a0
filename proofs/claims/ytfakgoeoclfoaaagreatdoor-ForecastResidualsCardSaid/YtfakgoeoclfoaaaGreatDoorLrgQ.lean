/-
  Rational numbers out of their texts and back.
-/
import Derived.Test.YtfakgoeoclfoaaaGreatDoorLrgP
namespace Go.Sim
open Go
set_option linter.unusedVariables false
set_option linter.unusedSimpArgs false
set_option linter.unusedSectionVars false
set_option linter.unnecessarySimpa false

theorem dec_inv {u k : Nat} {l : List U32} (hw : Wf l) (ht : Top l) (hk : (Lib.decDigits (nv l)).length ≤ 2000) : l.length ≤ 300 := by
  rcases Nat.lt_or_ge 300 l.length with h | h
  · exact absurd (lt_of_nd (k := 2000) hk) (long_no 667 2000 300 (by decide) (by decide) hw ht h)
  · exact h
theorem ROk.small {a : LR} (h : ROk a) (hf : fits (rv a)) : RL a 300 := by
  obtain ⟨h1, h2⟩ := hf
  rw [h.num, ival_abs] at h1
  rw [h.den] at h2
  exact ⟨dec_inv (u := 0) (k := 0) h.n.wf h.n.tp h1, dec_inv (u := 0) (k := 0) h.d.wf h.d.tp h2⟩

theorem rtext_gd {a : LR} (h : ROk a) : Gd (m_large_Rat_Text a) (fun r => (r.2 = true ↔ fits (rv a)) ∧ (r.2 = true → r.1 = ctext (rv a))) := by
  have e1 : (rv a).num.natAbs = nv a.N.words := by rw [h.num, ival_abs]
  have e2 : (rv a).den = nv a.D.words := h.den
  unfold m_large_Rat_Text
  refine Gd.bnd (itext_gd h.n) (fun t ht => Gd.ite (fun hf => Gd.ret ?_) (fun hf => ?_))
  · have hf : t.2 = false := by simpa using hf
    refine ⟨⟨fun hh => by simp at hh, fun hh => ?_⟩, fun hh => by simp at hh⟩
    have h1 := ht.1
    rw [hf] at h1
    have := hh.1
    rw [e1] at this
    exact absurd this (of_decide_eq_false h1.symm)
  · have hf : t.2 = true := by simpa using hf
    have hN := ht.1
    rw [hf] at hN
    have hN := of_decide_eq_true hN.symm
    have hNt := ht.2.1 hf
    refine Gd.bnd (itext_gd h.d) (fun u hu => ?_)
    have hval : ival a.D = ((nv a.D.words : Nat) : Int) := ival_nat h.pos
    have hiff : (u.2 = true ↔ fits (rv a)) := by
      unfold fits
      rw [e1, e2, hu.1, decide_eq_true_eq]
      exact ⟨fun x => ⟨hN, x⟩, fun x => x.2⟩
    have hut : u.2 = true → u.1 = ba (Lib.decDigits (rv a).den) := fun x => by rw [hu.2.1 x, hval, itoaB_nat, e2]
    have hnt : t.1 = ba (Lib.itoa (rv a).num) := by rw [hNt, h.num]; rfl
    refine Gd.ite (fun h1 => Gd.ret ⟨hiff, fun hh => ?_⟩) (fun h1 => Gd.nd ?_ (Gd.nd ?_ (Gd.ret ⟨hiff, fun hh => ?_⟩)))
    · have h1 : u.1 = (⟨#[49]⟩ : ByteArray) := of_decide_eq_true h1
      have := hut hh
      rw [h1] at this
      have hd : (rv a).den = 1 := dec_inj ((ba_inj (show ba [49] = _ from this)).symm.trans dec_one.symm)
      unfold ctext cl
      rw [if_pos hd, List.append_nil]; exact hnt
    · have := ht.2.2
      show t.1.size + 1 ≤ maxLen
      unfold maxLen; omega
    · have := ht.2.2
      have := hu.2.2
      rw [size_app]
      show t.1.size + 1 + u.1.size ≤ maxLen
      unfold maxLen; omega
    · have h1 : u.1 ≠ (⟨#[49]⟩ : ByteArray) := of_decide_eq_false h1
      have h2 := hut hh
      have hd : (rv a).den ≠ 1 := fun e => h1 (by rw [h2, e, dec_one]; rfl)
      unfold ctext cl
      rw [if_neg hd]
      simp only
      rw [hnt, h2, show (⟨#[47]⟩ : ByteArray) = ba [47] from rfl, ba_app, ba_app, List.append_assoc]; rfl
/-- What a text function answers for a value. -/
def tx (q : Rat) : ByteArray × Int := if fits q then (ctext q, 0) else (⟨#[]⟩, 2)
theorem tx_ok {q : Rat} (h : fits q) : tx q = (ctext q, 0) := if_pos h
theorem tx_no {q : Rat} (h : ¬ fits q) : tx q = (⟨#[]⟩, 2) := if_neg h
theorem text_core {a : LR} (h : ROk a) : Gd ((m_large_Rat_Text a).bind fun r102 => if (!r102.2) = true then some ((⟨#[]⟩ : ByteArray), (2 : Int)) else some (r102.1, 0)) (fun r => r = tx (rv a)) := by
  refine Gd.bnd (rtext_gd h) (fun r hr => Gd.ite (fun hf => Gd.ret ?_) (fun hf => Gd.ret ?_))
  · have hf : r.2 = false := by simpa using hf
    rw [tx_no (fun x => by have := hr.1.2 x; rw [hf] at this; cases this)]
  · have hf : r.2 = true := by simpa using hf
    rw [tx_ok (hr.1.1 hf), hr.2 hf]
theorem rat_text {a : LR} (h : ROk a) : Gd (m_rat_text a) (fun r => r = tx (rv a)) := text_core h

theorem rat_ext {p q : Rat} (h1 : p.num = q.num) (h2 : p.den = q.den) : p = q := Rat.ext h1 h2
theorem read_itoa {n : Int} (h : (Lib.decDigits n.natAbs).length ≤ 2000) : Gd (m_large_Read (ba (Lib.itoa n))) (fun a => IOk a ∧ a.words.length ≤ 10000 ∧ ival a = n) := by
  have hD := num_dec n.natAbs
  have := read_gd hD.1.dig h (decide (n < 0))
  rw [itoa_eq]
  simp only [decide_eq_true_eq] at this
  refine this.mono (fun a ha => ⟨ha.1, ha.2.1, ?_⟩)
  rw [ha.2.2, hD.2]
  split <;> omega
theorem itoa_slash (n : Int) : (47 : UInt8) ∉ Lib.itoa n := by
  rw [itoa_eq]
  have := no_slash (num_dec n.natAbs).1.dig
  split
  · simp only [List.mem_cons, not_or]; exact ⟨by decide, this⟩
  · exact this
theorem itoa_le {n : Int} (h : (Lib.decDigits n.natAbs).length ≤ 2000) : (Lib.itoa n).length ≤ 2001 := by
  rw [itoa_eq]
  split
  · simp only [List.length_cons]; omega
  · omega
theorem parse_gd {q : Rat} (h : fits q) : Gd (m_large_Parse (ctext q)) (fun a => ROk a ∧ RL a 300 ∧ rv a = q) := by
  have fin : ∀ a : LR, IOk a.N → IOk a.D → ival a.N = q.num → ival a.D = (q.den : Int) → ROk a ∧ RL a 300 ∧ rv a = q := fun a h1 h2 h3 h4 => by
    have hp : a.D.minus = false := h2.plus (by omega)
    have hd : nv a.D.words = q.den := by
      have := ival_nat hp
      omega
    have hok : ROk a := ⟨h1, h2, hp, by rw [hd]; exact q.den_nz, by rw [hd, ← ival_abs, h3]; exact q.reduced⟩
    have hv : rv a = q := rat_ext (by rw [hok.num, h3]) (by rw [hok.den, hd])
    exact ⟨hok, hok.small (by rw [hv]; exact h), hv⟩
  have hl := itoa_le h.1
  unfold m_large_Parse ctext cl
  by_cases hd : q.den = 1
  · rw [if_pos hd, List.append_nil]
    refine Gd.bind_eq (cut_none (itoa_slash _)) (Gd.ite (fun _ => ?_) (fun hx => by simp at hx))
    refine Gd.bnd (read_itoa h.1) (fun a ha => Gd.bnd (of_gd (n := 1) (by omega)) (fun b hb => Gd.ret ?_))
    exact fin _ ha.1 hb.1 ha.2.2 (by rw [hb.2.2, hd]; rfl)
  · rw [if_neg hd]
    refine Gd.bind_eq (cut_some (itoa_slash _) (by have := h.2; unfold maxLen; omega)) (Gd.ite (fun hx => by simp at hx) (fun _ => ?_))
    refine Gd.bnd (read_itoa h.1) (fun a ha => Gd.bnd (readn_gd (num_dec q.den).1 h.2) (fun b hb => Gd.ret ?_))
    exact fin _ ha.1 hb.1 ha.2.2 (by rw [hb.2.2, (num_dec q.den).2])
theorem fits_of {q : Rat} {k : Nat} (hn : q.num.natAbs < 10 ^ k) (hd : q.den < 10 ^ k) (hk : 1 ≤ k) (hk2 : k ≤ 2000) : fits q :=
  ⟨Nat.le_trans (nd_le hk hn) hk2, Nat.le_trans (nd_le hk hd) hk2⟩
theorem ctext_size {q : Rat} (h : fits q) : (ctext q).size ≤ 10000 := by
  unfold ctext cl
  rw [ba_size, List.length_append]
  have := itoa_le h.1
  have := h.2
  split
  · simp; omega
  · simp only [List.length_cons]; omega

theorem checkall_gd {l : List ByteArray} (hs : ∀ s ∈ l, s.size ≤ maxLen) : Gd (m_rat_CheckAll l) (fun c => c = 0 ↔ ∀ s ∈ l, ∃ q, fits q ∧ s = ctext q) := by
  unfold m_rat_CheckAll
  refine Gd.seen (fun pre _ => ∀ s ∈ pre, ∃ q, fits q ∧ s = ctext q) ?_ (fun _ hI => Gd.ret ⟨fun _ => hI, fun _ => rfl⟩) () (fun s hs => by cases hs)
  rintro i y _ nx pre ⟨post, hl⟩ hI hnx
  have hy : y ∈ l := by rw [hl]; simp
  unfold m_rat_CheckAll_b1
  refine Gd.bnd (rcheck_gd y (hs y hy)) (fun c hc => Gd.ite (fun h => Gd.ret ?_) (fun h => hnx () (fun z hz => ?_)))
  · have h : c ≠ 0 := by simpa using h
    exact ⟨fun e => absurd e h, fun e => absurd (hc.2 (e y hy)) h⟩
  · have h : c = 0 := by simpa using h
    rcases List.mem_append.1 hz with hz | hz
    · exact hI z hz
    · rw [List.mem_singleton] at hz; subst hz; exact hc.1 h
theorem checkall2 {p q : Rat} (hp : fits p) (hq : fits q) : m_rat_CheckAll [ctext p, ctext q] = some 0 := by
  refine Gd.eq.1 ((checkall_gd (fun s hs => ?_)).mono (fun c hc => hc.2 (fun s hs => ?_)))
  · have h1 := ctext_size hp
    have h2 := ctext_size hq
    unfold maxLen
    rcases List.mem_cons.1 hs with rfl | hs
    · omega
    · rw [List.mem_singleton] at hs; subst hs; omega
  · rcases List.mem_cons.1 hs with rfl | hs
    · exact ⟨p, hp, rfl⟩
    · rw [List.mem_singleton] at hs; exact ⟨q, hq, hs⟩
theorem badd {p q : Rat} (hp : fits p) (hq : fits q) : m_rat_Add (ctext p) (ctext q) = some (tx (p + q)) := by
  refine Gd.eq.1 ?_
  unfold m_rat_Add m_rat_op__large_Rat_Add
  refine Gd.bnd (P := fun r => r = tx (p + q)) (Gd.bind_eq (checkall2 hp hq) (Gd.ite (fun hx => by simp at hx) (fun _ => ?_))) (fun r hr => by subst hr; exact Gd.ret rfl)
  refine Gd.bnd (parse_gd hp) (fun a ha => Gd.bnd (parse_gd hq) (fun b hb => Gd.bnd (radd_gd ha.1 hb.1 ha.2.1 hb.2.1 (by omega)) (fun c hc => Gd.bnd (rat_text hc.1) (fun r hr => Gd.ret ?_))))
  rw [hr, hc.2.2, ha.2.2, hb.2.2]
theorem bmul {p q : Rat} (hp : fits p) (hq : fits q) : m_rat_Mul (ctext p) (ctext q) = some (tx (p * q)) := by
  refine Gd.eq.1 ?_
  unfold m_rat_Mul m_rat_op__large_Rat_Mul
  refine Gd.bnd (P := fun r => r = tx (p * q)) (Gd.bind_eq (checkall2 hp hq) (Gd.ite (fun hx => by simp at hx) (fun _ => ?_))) (fun r hr => by subst hr; exact Gd.ret rfl)
  refine Gd.bnd (parse_gd hp) (fun a ha => Gd.bnd (parse_gd hq) (fun b hb => Gd.bnd (rmul_gd ha.1 hb.1 ha.2.1 hb.2.1 (by omega)) (fun c hc => Gd.bnd (rat_text hc.1) (fun r hr => Gd.ret ?_))))
  rw [hr, hc.2.2, ha.2.2, hb.2.2]
theorem bof {n d : Int} (hn : -9223372036854775808 ≤ n ∧ n ≤ 9223372036854775807) (hd : -9223372036854775808 ≤ d ∧ d ≤ 9223372036854775807) (h0 : d ≠ 0) : m_rat_Of n d = some (tx ((n : Rat) / (d : Rat))) := by
  refine Gd.eq.1 ?_
  unfold m_rat_Of
  refine Gd.ite (fun h => absurd (of_decide_eq_true h) h0) (fun _ => Gd.bnd (frac_gd hn hd h0) (fun a ha => Gd.bnd (rat_text ha.1) (fun r hr => Gd.ret ?_)))
  rw [hr, ha.2.2]
end Go.Sim
