/-
  The archive's text, in plain Lean, and what is recovered from a text.
-/
import Derived.Test.YtldmgakhhhjhoaaDoorAspL
import Derived.Lib.AtoiAllCases
namespace Go.Sim
open Go
set_option linter.unusedVariables false
set_option linter.unusedSimpArgs false
set_option linter.unusedSectionVars false
set_option linter.unnecessarySimpa false

/-! ### What valid events look like -/
theorem kind_chars {s : ByteArray} (h : m_archive_kind s = some true) : s.size ≤ 8 ∧ ∀ c ∈ bl s, 48 ≤ c.toNat := by
  by_cases hs : s.size ≤ maxLen
  · have key : Gd (m_archive_kind s) (fun b => b = true → s.size ≤ 8 ∧ ∀ c ∈ bl s, 48 ≤ c.toNat) := by
      unfold m_archive_kind
      refine Gd.nd hs (Gd.forI (fun _ l _ => ∃ a b : List UInt8, bl s = a ++ b ∧ l = b.map (fun c => (⟨c.toNat⟩ : U8)) ∧ ∀ c ∈ a, 48 ≤ c.toNat) (fun i y ys z n hI hn => ?_) (fun i z hI => ?_) _ _ _ ⟨[], bl s, rfl, rfl, by simp⟩)
      · obtain ⟨a, b, h1, h2, h3⟩ := hI
        unfold m_archive_kind_b1
        refine Gd.ite (fun _ => Gd.ret (fun h => by cases h)) (fun hc => hn _ ?_)
        cases b with
        | nil => cases h2
        | cons c b =>
          simp only [List.map_cons, List.cons.injEq] at h2
          obtain ⟨rfl, rfl⟩ := h2
          refine ⟨a ++ [c], b, by rw [h1]; simp, rfl, fun x hx => ?_⟩
          rcases List.mem_append.1 hx with hx | hx
          · exact h3 x hx
          · rw [List.mem_singleton] at hx; subst hx
            simp at hc
            omega
      · obtain ⟨a, b, h1, h2, h3⟩ := hI
        have hb : b = [] := by cases b with
          | nil => rfl
          | cons _ _ => cases h2
        subst hb
        refine Gd.ret (fun h => ?_)
        simp only [Bool.and_eq_true, decide_eq_true_eq] at h
        refine ⟨by omega, fun c hc => h3 c (by rw [h1] at hc; simpa using hc)⟩
    obtain ⟨b, hb, hq⟩ := key
    rw [h] at hb; cases hb
    exact hq rfl
  · unfold m_archive_kind need at h
    rw [if_neg hs] at h; cases h
theorem name_chars {s : ByteArray} (h : m_netmodel_Name s = some true) : s.size ≤ 8 ∧ ∀ c ∈ bl s, 48 ≤ c.toNat := by
  by_cases hs : s.size ≤ maxLen
  · have key : Gd (m_netmodel_Name s) (fun b => b = true → s.size ≤ 8 ∧ ∀ c ∈ bl s, 48 ≤ c.toNat) := by
      unfold m_netmodel_Name
      refine Gd.nd hs (Gd.forI (fun _ l _ => ∃ a b : List UInt8, bl s = a ++ b ∧ l = b.map (fun c => (⟨c.toNat⟩ : U8)) ∧ ∀ c ∈ a, 48 ≤ c.toNat) (fun i y ys z n hI hn => ?_) (fun i z hI => ?_) _ _ _ ⟨[], bl s, rfl, rfl, by simp⟩)
      · obtain ⟨a, b, h1, h2, h3⟩ := hI
        unfold m_netmodel_Name_b1
        refine Gd.ite (fun _ => Gd.ret (fun h => by cases h)) (fun hc => hn _ ?_)
        cases b with
        | nil => cases h2
        | cons c b =>
          simp only [List.map_cons, List.cons.injEq] at h2
          obtain ⟨rfl, rfl⟩ := h2
          refine ⟨a ++ [c], b, by rw [h1]; simp, rfl, fun x hx => ?_⟩
          rcases List.mem_append.1 hx with hx | hx
          · exact h3 x hx
          · rw [List.mem_singleton] at hx; subst hx
            simp at hc
            omega
      · obtain ⟨a, b, h1, h2, h3⟩ := hI
        have hb : b = [] := by cases b with
          | nil => rfl
          | cons _ _ => cases h2
        subst hb
        refine Gd.ret (fun h => ?_)
        simp only [Bool.and_eq_true, decide_eq_true_eq] at h
        refine ⟨by omega, fun c hc => h3 c (by rw [h1] at hc; simpa using hc)⟩
    obtain ⟨b, hb, hq⟩ := key
    rw [h] at hb; cases hb
    exact hq rfl
  · unfold m_netmodel_Name need at h
    rw [if_neg hs] at h; cases h
theorem EvOk.line {e : Ev} (h : EvOk e) : LineOk e := by
  have h1 := h.t0; have h2 := h.t1; have h3 := h.v0; have h4 := h.v1
  have k := (kind_chars h.kind).1; have n := (name_chars h.name).1
  exact ⟨by omega, by omega, by omega, by omega⟩
theorem EvOk.tr {e : Ev} (h : EvOk e) : -100000000 < e.Time ∧ e.Time < 100000000 := by have := h.t0; have := h.t1; omega
theorem EvOk.vr {e : Ev} (h : EvOk e) : -100000000 < e.Value ∧ e.Value < 100000000 := by have := h.v0; have := h.v1; omega
theorem itoa_not {n : Int} {c : UInt8} (hc : c.toNat < 45) : c ∉ Lib.itoa n := fun hm => by have := itoa_chars _ _ hm; omega

/-! ### Rows of a text -/
def rowP (n : Int) (e : Ev) : List UInt8 := lineP e ++ 32 :: bl (fmt (digP n (lineP e)))
def textP : Int → List Ev → List UInt8
  | _, [] => []
  | n, e :: l => rowP n e ++ 10 :: textP (digP n (lineP e)) l
def dgs (n : Int) (l : List Ev) : Int := l.foldl (fun n e => digP n (lineP e)) n
theorem textP_app : ∀ (a : List Ev) (n : Int) (b : List Ev), textP n (a ++ b) = textP n a ++ textP (dgs n a) b
  | [], n, b => rfl
  | e :: a, n, b => by
    rw [List.cons_append, textP, textP, textP_app a]
    simp [dgs]
theorem dgs_app (n : Int) (a : List Ev) (e : Ev) : dgs n (a ++ [e]) = digP (dgs n a) (lineP e) := by simp [dgs]
theorem textP_snoc (n : Int) (a : List Ev) (e : Ev) : textP n (a ++ [e]) = textP n a ++ (rowP (dgs n a) e ++ [10]) := by
  rw [textP_app]; rfl
theorem hex_dig (n : Int) (e : Ev) : HexB (fmt (digP n (lineP e))) := (fmt_eq (digP_rng _ _)).2
theorem row_len (n : Int) {e : Ev} (h : EvOk e) : (rowP n e).length ≤ 127 := by
  have h1 := lineP_len h.line
  have k := (kind_chars h.kind).1; have m := (name_chars h.name).1
  have hx := (hex_dig n e).1
  have hb := bl_len (fmt (digP n (lineP e)))
  unfold rowP
  simp only [List.length_append, List.length_cons]
  omega
theorem textP_len : ∀ (l : List Ev) (n : Int), (∀ e ∈ l, EvOk e) → (textP n l).length ≤ 128 * l.length
  | [], _, _ => by simp [textP]
  | e :: l, n, h => by
    have h1 := row_len n (h e (by simp))
    have h2 := textP_len l (digP n (lineP e)) (fun x hx => h x (List.mem_cons_of_mem _ hx))
    simp only [textP, List.length_append, List.length_cons]
    omega
theorem row_words (n : Int) {e : Ev} (h : EvOk e) : splitL 32 (rowP n e) = [Lib.itoa e.Time, bl e.Kind, bl e.Name, Lib.itoa e.Value, bl (fmt (digP n (lineP e)))] := by
  have k : (32 : UInt8) ∉ bl e.Kind := fun hm => by have := (kind_chars h.kind).2 _ hm; simp at this
  have m : (32 : UInt8) ∉ bl e.Name := fun hm => by have := (name_chars h.name).2 _ hm; simp at this
  have x : (32 : UInt8) ∉ bl (fmt (digP n (lineP e))) := (hex_dig n e).not (by decide)
  generalize hg : fmt (digP n (lineP e)) = f at x
  unfold rowP
  rw [hg]
  unfold lineP
  rw [show (Lib.itoa e.Time ++ 32 :: (bl e.Kind ++ 32 :: (bl e.Name ++ 32 :: Lib.itoa e.Value))) ++ 32 :: bl f = Lib.itoa e.Time ++ 32 :: (bl e.Kind ++ 32 :: (bl e.Name ++ 32 :: (Lib.itoa e.Value ++ 32 :: bl f))) by simp]
  rw [splitL_cons (itoa_not (by decide)), splitL_cons k, splitL_cons m, splitL_cons (itoa_not (by decide)), splitL_none x]
theorem row10 (n : Int) {e : Ev} (h : EvOk e) : (10 : UInt8) ∉ rowP n e := by
  have k : (10 : UInt8) ∉ bl e.Kind := fun hm => by have := (kind_chars h.kind).2 _ hm; simp at this
  have m : (10 : UInt8) ∉ bl e.Name := fun hm => by have := (name_chars h.name).2 _ hm; simp at this
  have x : (10 : UInt8) ∉ bl (fmt (digP n (lineP e))) := (hex_dig n e).not (by decide)
  have i1 : (10 : UInt8) ∉ Lib.itoa e.Time := itoa_not (by decide)
  have i2 : (10 : UInt8) ∉ Lib.itoa e.Value := itoa_not (by decide)
  generalize hg : fmt (digP n (lineP e)) = f at x
  unfold rowP
  rw [hg]
  unfold lineP
  simp only [List.mem_append, List.mem_cons, not_or]
  exact ⟨⟨i1, by decide, k, by decide, m, by decide, i2⟩, by decide, x⟩
theorem itoaB_inj {a b : Int} (ha : -100000000 < a ∧ a < 100000000) (hb : -100000000 < b ∧ b < 100000000) (h : Lib.itoa a = Lib.itoa b) : a = b := by
  have h1 := atoi_itoa ha; have h2 := atoi_itoa hb
  have : itoaB a = itoaB b := by rw [itoaB_ba, itoaB_ba, h]
  rw [this, h2] at h1
  exact (Prod.mk.inj h1).1.symm
theorem row_inj {n m : Int} {a b : Ev} (ha : EvOk a) (hb : EvOk b) (h : rowP n a = rowP m b) : a = b := by
  have := row_words n ha
  rw [h, row_words m hb] at this
  simp only [List.cons.injEq] at this
  obtain ⟨h1, h2, h3, h4, _⟩ := this
  have e1 := itoaB_inj hb.tr ha.tr h1
  have e4 := itoaB_inj hb.vr ha.vr h4
  have e2 := bl_inj h2; have e3 := bl_inj h3
  cases a; cases b
  simp only at e1 e2 e3 e4
  subst e1; subst e2; subst e3; subst e4; rfl
theorem first_nl {a b c d : List UInt8} (ha : (10 : UInt8) ∉ a) (hc : (10 : UInt8) ∉ c) (h : a ++ 10 :: b = c ++ 10 :: d) : a = c ∧ b = d := by
  have h1 := splitL_cons (c := 10) (r := b) ha
  rw [h, splitL_cons hc] at h1
  have e := (List.cons.inj h1).1
  subst e
  have := List.append_cancel_left h
  exact ⟨rfl, (List.cons.inj this).2⟩

/-! ### The text that is written -/
abbrev FNV : Int := 14695981039346656037
theorem text_eq {l : List Ev} (h : ∀ e ∈ l, EvOk e) (hl : l.length ≤ 300) : m_archive_Archive_Text ⟨l⟩ = some (ba (textP FNV l)) := by
  refine Gd.eq.1 ?_
  unfold m_archive_Archive_Text
  refine Gd.forI (fun k ys (z : ByteArray × Int) => ∃ dn, l = dn ++ ys ∧ z = (ba (textP FNV dn), dgs FNV dn)) (fun k e ys z nx hI hn => ?_) (fun k z hI => ?_) _ _ _ ⟨[], rfl, rfl⟩
  · obtain ⟨dn, e1, rfl⟩ := hI
    have he : EvOk e := h e (by rw [e1]; simp)
    have hdn : ∀ x ∈ dn, EvOk x := fun x hx => h x (by rw [e1]; simp [hx])
    have hlen := textP_len dn FNV hdn
    have hdl : dn.length + 1 ≤ 300 := by have := congrArg List.length e1; simp at this; omega
    have hll := lineP_len he.line
    have k8 := (kind_chars he.kind).1; have n8 := (name_chars he.name).1
    have hf := fmt_eq (digP_rng (dgs FNV dn) (lineP e))
    have hfs := hf.2.1
    have z1 : (⟨#[32]⟩ : ByteArray).size = 1 := rfl
    have z2 : (⟨#[10]⟩ : ByteArray).size = 1 := rfl
    unfold m_archive_Archive_Text_b1
    refine Gd.bind_eq (line_eq he.line) (Gd.bind_eq (digest_eq _ _ (by rw [ba_size]; omega)) (Gd.nd ?_ (Gd.bind_eq (by rw [bl_ba]; exact hf.1) (Gd.nd ?_ (Gd.nd ?_ (Gd.nd ?_ (hn _ ⟨dn ++ [e], by rw [e1]; simp, ?_⟩)))))))
    · rw [ba_size, z1]; simp only [maxLen]; omega
    · simp only [size_app, ba_size, z1, maxLen]; omega
    · simp only [size_app, ba_size, z1, z2, maxLen]; omega
    · simp only [size_app, ba_size, z1, z2, maxLen]; omega
    · rw [dgs_app, textP_snoc, bl_ba]
      refine Prod.ext (bl_inj ?_) rfl
      rw [bl_app, bl_app, bl_app, bl_app, bl_ba, bl_ba, bl_ba, rowP]
      show _ ++ (((lineP e ++ [32]) ++ _) ++ [10]) = _
      simp
  · obtain ⟨dn, e1, rfl⟩ := hI
    rw [List.append_nil] at e1; subst e1
    exact Gd.ret rfl
/-! ### Cut -/
theorem sindex_eq (s : ByteArray) (c : UInt8) : m_internal_stringslite_Index s (ba [c]) = some (Lib.indexByte (bl s) c) := by
  have h := index_eq s c
  unfold m_strings_Index at h
  cases hq : m_internal_stringslite_Index s (ba [c]) with
  | none => rw [hq] at h; cases h
  | some v => rw [hq] at h; exact h
theorem cut_none {s : ByteArray} {c : UInt8} (h : c ∉ bl s) : m_strings_Cut s (ba [c]) = some (s, ⟨#[]⟩, false) := by
  refine Gd.eq.1 ?_
  unfold m_strings_Cut m_internal_stringslite_Cut
  rcases indexByte_cases c (bl s) with ⟨_, hi⟩ | ⟨a, b, hab, _, _⟩
  · have h1 := sindex_eq s c
    rw [hi] at h1
    rw [h1]
    exact Gd.ret rfl
  · rw [hab] at h; exact absurd (by simp) h
theorem cut_some {s : ByteArray} {c : UInt8} {a b : List UInt8} (h : bl s = a ++ c :: b) (ha : c ∉ a) (hs : s.size ≤ 1000000) : m_strings_Cut s (ba [c]) = some (ba a, ba b, true) := by
  refine Gd.eq.1 ?_
  have hz : s.size = a.length + 1 + b.length := by rw [← bl_len, h]; simp; omega
  have hi : Lib.indexByte (bl s) c = (a.length : Int) := by
    rcases indexByte_cases c (bl s) with ⟨hno, _⟩ | ⟨a', b', hab, ha', hi⟩
    · rw [h] at hno; exact absurd (by simp) hno
    · have h1 := splitL_cons (c := c) (r := b) ha
      rw [← h, hab, splitL_cons ha'] at h1
      rw [hi, (List.cons.inj h1).1]
  have h1 := sindex_eq s c
  rw [hi] at h1
  unfold m_strings_Cut m_internal_stringslite_Cut
  rw [h1]
  have w : IntKind.i64.wrap ((a.length : Int) + ((ba [c]).size : Int)) = (a.length : Int) + 1 := by rw [ba_size]; exact wrap_id ⟨by simp; omega, by simp; omega⟩
  obtain ⟨x1, x2⟩ := extract_at h
  have inner : (if decide (0 ≤ (a.length : Int)) = true then (need (0 ≤ (a.length : Int) ∧ (a.length : Int) ≤ (s.size : Int)) (need (0 ≤ (IntKind.i64.wrap ((a.length : Int) + ((ba [c]).size : Int))) ∧ (IntKind.i64.wrap ((a.length : Int) + ((ba [c]).size : Int))) ≤ (s.size : Int)) (some ((s.extract 0 (((a.length : Int) : Int).toNat)), (s.extract ((IntKind.i64.wrap ((a.length : Int) + ((ba [c]).size : Int)) : Int).toNat) s.size), true)))) else (some (s, (⟨#[]⟩), false))) = some (ba a, ba b, true) := by
    rw [w]
    refine Gd.eq.1 (Gd.ite (fun _ => Gd.nd ⟨by omega, by omega⟩ (Gd.nd ⟨by omega, by omega⟩ (Gd.ret ?_))) (fun h => by simp at h))
    rw [Int.toNat_natCast, x1, show ((a.length : Int) + 1).toNat = a.length + 1 by omega, x2]
  exact Gd.bind_eq (a := (ba a, ba b, true)) inner (Gd.ret rfl)
end Go.Sim
