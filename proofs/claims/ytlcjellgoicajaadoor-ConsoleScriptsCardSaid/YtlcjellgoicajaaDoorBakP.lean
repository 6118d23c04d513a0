/-
  The console, in plain Lean: what Check, Print and Parse answer.
-/
import Derived.Test.YtlcjellgoicajaaDoorTxtP
import Derived.Lib.AtoiAllCases
namespace Go.Sim
open Go
set_option linter.unusedVariables false
set_option linter.unusedSimpArgs false
set_option linter.unusedSectionVars false
set_option linter.unnecessarySimpa false

abbrev Cmd := S_api_ConsoleCommand
abbrev Form := S_console_form
abbrev noCmd : Cmd := S_api_ConsoleCommand.mk (⟨#[]⟩) (⟨#[]⟩) 0

theorem len2 {α : Type} {l : List α} (h : l.length = 2) : ∃ a b, l = [a, b] := by
  match l, h with
  | [a, b], _ => exact ⟨a, b, rfl⟩
theorem len3 {α : Type} {l : List α} (h : l.length = 3) : ∃ a b c, l = [a, b, c] := by
  match l, h with
  | [a, b, c], _ => exact ⟨a, b, c, rfl⟩

/-! ### Forms -/
structure FormOk (f : Form) : Prop where
  sp : (32 : UInt8) ∉ bl f.verb
  nl : (10 : UInt8) ∉ bl f.verb
  s0 : 1 ≤ f.verb.size
  s1 : f.verb.size ≤ 5
  lo : -100000 ≤ f.low_
  hi : f.high_ ≤ 100000
def formB (f : Form) : Bool := !(bl f.verb).contains 32 && (!(bl f.verb).contains 10 && (decide (1 ≤ f.verb.size) && (decide (f.verb.size ≤ 5) && (decide (-100000 ≤ f.low_) && decide (f.high_ ≤ 100000)))))
theorem form_ok {f : Form} (h : formB f = true) : FormOk f := by
  simp only [formB, Bool.and_eq_true, Bool.not_eq_true', decide_eq_true_eq] at h
  obtain ⟨h1, h2, h3, h4, h5, h6⟩ := h
  refine ⟨fun hm => ?_, fun hm => ?_, h3, h4, h5, h6⟩
  · rw [List.contains_iff_mem.2 hm] at h1; cases h1
  · rw [List.contains_iff_mem.2 hm] at h2; cases h2
theorem find_gd (v : ByteArray) : Gd (m_console_find v) (fun r => r.2 = true → FormOk r.1 ∧ r.1.verb = v) := by
  unfold m_console_find
  refine Gd.forN (fun m i _ => m + i = 8) (fun m i s nx hI hn => ?_) (fun i s _ => Gd.ret (fun h => by cases h)) _ _ _ (by rfl)
  unfold m_console_find_b1
  refine Gd.idxN (show i < 8 by omega) (Gd.ite (fun h => Gd.ret (fun _ => ⟨form_ok ?_, by simpa using h⟩)) (fun _ => hn _ (by omega)))
  exact (List.all_eq_true (p := formB)).1 (by kernel_rfl) _ (List.getElem_mem _)

/-! ### Names -/
def NameOk (s : ByteArray) : Prop := s.size ≤ 8 ∧ ∀ c ∈ bl s, 48 ≤ c.toNat
theorem NameOk.not {s : ByteArray} (h : NameOk s) {c : UInt8} (hc : c.toNat < 48) : c ∉ bl s := fun hm => by have := h.2 c hm; omega
theorem name_gd (s : ByteArray) (h : s.size ≤ maxLen) : Gd (m_netmodel_Name s) (fun b => b = true → NameOk s) := by
  unfold m_netmodel_Name
  refine Gd.nd h (Gd.forI (fun _ l _ => ∃ a b : List UInt8, bl s = a ++ b ∧ l = b.map (fun c => (⟨c.toNat⟩ : U8)) ∧ ∀ c ∈ a, 48 ≤ c.toNat) (fun i y ys z n hI hn => ?_) (fun i z hI => ?_) _ _ _ ⟨[], bl s, rfl, rfl, by simp⟩)
  · obtain ⟨a, b, h1, h2, h3⟩ := hI
    unfold m_netmodel_Name_b1
    refine Gd.ite (fun _ => Gd.ret (fun h => by cases h)) (fun hc => hn _ ?_)
    cases b with
    | nil => cases h2
    | cons c b =>
      simp only [List.map_cons, List.cons.injEq] at h2
      obtain ⟨rfl, rfl⟩ := h2
      refine ⟨a ++ [c], b, by rw [h1]; simp, rfl, fun x hx => ?_⟩
      rcases List.mem_append.1 hx with hx | hx
      · exact h3 x hx
      · rw [List.mem_singleton] at hx; subst hx
        simp at hc
        omega
  · obtain ⟨a, b, h1, h2, h3⟩ := hI
    have hb : b = [] := by cases b with
      | nil => rfl
      | cons _ _ => cases h2
    subst hb
    refine Gd.ret (fun h => ?_)
    simp only [Bool.and_eq_true, decide_eq_true_eq] at h
    refine ⟨by omega, fun c hc => h3 c (by rw [h1] at hc; simpa using hc)⟩

/-! ### Check -/
structure CmdOk (c : Cmd) (f : Form) : Prop where
  find : m_console_find c.Verb = some (f, true)
  form : FormOk f
  verb : f.verb = c.Verb
  check : m_console_Check c = some 0
  nm : f.name = true → NameOk c.Name
  nn : f.name = false → c.Name = ⟨#[]⟩
  nz : f.n = false → c.N = 0
  nr : f.n = true → f.low_ ≤ c.N ∧ c.N ≤ f.high_
theorem check_gd (c : Cmd) (h : c.Name.size ≤ maxLen) : Gd (m_console_Check c) (fun k => k = 0 → ∃ f, CmdOk c f) := by
  obtain ⟨⟨f, b⟩, hf, hfo⟩ := find_gd c.Verb
  obtain ⟨nb, hn, hno⟩ := name_gd c.Name h
  have key : Gd (m_console_Check c) (fun k => k = 0 → b = true ∧ (f.name = true → nb = true) ∧ (f.name = false → c.Name = ⟨#[]⟩) ∧ (f.n = false → c.N = 0) ∧ (f.n = true → f.low_ ≤ c.N ∧ c.N ≤ f.high_)) := by
    unfold m_console_Check
    refine Gd.bind_eq hf (Gd.ite (fun _ => Gd.ret (fun h => by omega)) (fun h1 => ?_))
    simp only [Bool.not_eq_false'] at h1
    refine Gd.ite (fun h2 => ?_) (fun h2 => ?_)
    · simp only at h2
      refine Gd.bind_eq hn (Gd.ite (fun _ => Gd.ret (fun h => by omega)) (fun h3 => Gd.ite (fun _ => Gd.ret (fun h => by omega)) (fun h4 => Gd.ite (fun _ => Gd.ret (fun h => by omega)) (fun h5 => Gd.ret (fun _ => ⟨h1, fun _ => by simpa using h3, (fun h => by rw [h2] at h; cases h), fun h => ?_, fun h => ?_⟩)))))
      · simp only at h4; rw [h] at h4; simpa using h4
      · simp only at h5; rw [h] at h5; simp at h5; exact h5
    · simp only at h2
      refine Gd.ite (fun _ => Gd.ret (fun h => by omega)) (fun h4 => Gd.ite (fun _ => Gd.ret (fun h => by omega)) (fun h5 => Gd.ret (fun _ => ⟨h1, (fun h => by rw [h2] at h; cases h), fun _ => ?_, fun h => ?_, fun h => ?_⟩)))
      · simp only [Bool.or_eq_false_iff] at h4; simpa using h4.1
      · simp only [Bool.or_eq_false_iff] at h4; have := h4.2; rw [h] at this; simpa using this
      · simp only at h5; rw [h] at h5; simp at h5; exact h5
  obtain ⟨k, hk, hq⟩ := key
  refine ⟨k, hk, fun h0 => ?_⟩
  subst h0
  obtain ⟨q1, q2, q3, q4, q5⟩ := hq rfl
  subst q1
  exact ⟨f, hf, (hfo rfl).1, (hfo rfl).2, hk, fun h => hno (q2 h), q3, q4, q5⟩

/-! ### Print -/
def wordsOf (c : Cmd) (f : Form) : List (List UInt8) := bl c.Verb :: ((if f.name = true then [bl c.Name] else []) ++ (if f.n = true then [Lib.itoa c.N] else []))
def textOf (c : Cmd) (f : Form) : List UInt8 := bl c.Verb ++ ((if f.name = true then 32 :: bl c.Name else []) ++ (if f.n = true then 32 :: Lib.itoa c.N else []))
theorem CmdOk.range {c : Cmd} {f : Form} (h : CmdOk c f) : -100000000 < c.N ∧ c.N < 100000000 := by
  have h1 := h.form.lo; have h2 := h.form.hi
  cases hn : f.n with
  | false => have := h.nz hn; omega
  | true => have := h.nr hn; omega
theorem CmdOk.name8 {c : Cmd} {f : Form} (h : CmdOk c f) : c.Name.size ≤ 8 := by
  cases hn : f.name with
  | false => rw [h.nn hn]; show 0 ≤ 8; omega
  | true => exact (h.nm hn).1
theorem CmdOk.verb5 {c : Cmd} {f : Form} (h : CmdOk c f) : c.Verb.size ≤ 5 := by rw [← h.verb]; exact h.form.s1
theorem textOf_len {c : Cmd} {f : Form} (h : CmdOk c f) : (textOf c f).length ≤ 24 := by
  have h1 := h.verb5; have h2 := h.name8; have h3 := itoa_len h.range
  unfold textOf
  cases f.name <;> cases f.n <;> simp <;> omega
theorem textOf_words {c : Cmd} {f : Form} (h : CmdOk c f) : splitL 32 (textOf c f) = wordsOf c f := by
  have hv : (32 : UInt8) ∉ bl c.Verb := by rw [← h.verb]; exact h.form.sp
  have hi : (32 : UInt8) ∉ Lib.itoa c.N := fun hm => by have := itoa_chars _ _ hm; simp at this
  unfold textOf wordsOf
  cases hn : f.name with
  | false =>
    cases f.n with
    | false => simp [splitL_none hv]
    | true => simp [splitL_cons hv, splitL_none hi]
  | true =>
    have hm : (32 : UInt8) ∉ bl c.Name := (h.nm hn).not (by decide)
    cases f.n with
    | false => simp [splitL_cons hv, splitL_none hm]
    | true => simp [splitL_cons hv, splitL_cons hm, splitL_none hi]
theorem print_b2 {c : Cmd} {f : Form} {b : Bool} (hr : -100000000 < c.N ∧ c.N < 100000000) (s : ByteArray) (hs : s.size ≤ 100) :
    Gd (m_console_Print_b2 c (f, b) s) (fun r => r.2 = 0 ∧ bl r.1 = bl s ++ (if f.n = true then 32 :: Lib.itoa c.N else [])) := by
  have hl := itoa_len hr
  have hz : (itoaB c.N).size = (Lib.itoa c.N).length := (bl_len _).symm
  unfold m_console_Print_b2
  refine Gd.ite (fun h => Gd.nd ⟨by omega, by omega⟩ (Gd.nd ?_ (Gd.nd ?_ (Gd.ret ⟨rfl, ?_⟩)))) (fun h => Gd.ret ⟨rfl, ?_⟩)
  · rw [hz, show (⟨#[32]⟩ : ByteArray).size = 1 from rfl]; simp only [maxLen]; omega
  · rw [size_app, hz, show (⟨#[32]⟩ : ByteArray).size = 1 from rfl]; simp only [maxLen]; omega
  · simp only at h
    rw [bl_app, bl_app, h]; rfl
  · simp only at h
    rw [h]; simp
theorem print_gd (c : Cmd) (h1 : c.Verb.size ≤ maxLen) (h2 : c.Name.size ≤ maxLen) :
    Gd (m_console_Print c) (fun r => m_console_Check c = some r.2 ∧ (r.2 = 0 → ∃ f, CmdOk c f ∧ r.1 = ba (textOf c f))) := by
  obtain ⟨k, hk, hq⟩ := check_gd c h2
  unfold m_console_Print
  refine Gd.bind_eq hk (Gd.ite (fun h => Gd.ret ⟨hk, fun h0 => by simp at h; exact absurd h0 h⟩) (fun h => ?_))
  have h0 : k = 0 := by simpa using h
  obtain ⟨f, hf⟩ := hq h0
  subst h0
  have n8 := hf.name8; have v5 := hf.verb5
  refine Gd.bind_eq hf.find (Gd.ite (fun h3 => Gd.nd ?_ (Gd.nd ?_ ?_)) (fun h3 => ?_))
  · rw [show (⟨#[32]⟩ : ByteArray).size = 1 from rfl]; simp only [maxLen]; omega
  · rw [size_app, show (⟨#[32]⟩ : ByteArray).size = 1 from rfl]; simp only [maxLen]; omega
  · refine (print_b2 hf.range _ (by rw [size_app, size_app, show (⟨#[32]⟩ : ByteArray).size = 1 from rfl]; omega)).mono ?_
    rintro ⟨t, k'⟩ ⟨rfl, ht⟩
    refine ⟨hk, fun _ => ⟨f, hf, bl_inj ?_⟩⟩
    simp only at h3
    rw [ht, bl_app, bl_app, bl_ba, textOf, h3]; simp [bl]
  · refine (print_b2 hf.range _ (by omega)).mono ?_
    rintro ⟨t, k'⟩ ⟨rfl, ht⟩
    refine ⟨hk, fun _ => ⟨f, hf, bl_inj ?_⟩⟩
    simp only at h3
    rw [ht, bl_ba, textOf, h3]; simp

/-! ### Parse -/
theorem parse_b1_gd (v n : ByteArray) (k : Int) (hn : n.size ≤ maxLen) : Gd (m_console_Parse_b1 v n k) (fun r => (r.2 ≠ 0 → r.1 = noCmd) ∧ (r.2 = 0 → r.1 = ⟨v, n, k⟩ ∧ m_console_Check ⟨v, n, k⟩ = some 0)) := by
  obtain ⟨q, hq, _⟩ := check_gd ⟨v, n, k⟩ hn
  unfold m_console_Parse_b1
  refine Gd.bind_eq hq (Gd.ite (fun h => Gd.ret ⟨fun _ => rfl, fun h0 => ?_⟩) (fun h => Gd.ret ⟨fun h => absurd rfl h, fun _ => ⟨rfl, ?_⟩⟩))
  · simp at h; exact absurd h0 h
  · have : q = 0 := by simpa using h
    rw [hq, this]
theorem atoiB_range (s : ByteArray) : (atoiB s).2 = false → -9223372036854775808 ≤ (atoiB s).1 ∧ (atoiB s).1 ≤ 9223372036854775807 := by
  unfold atoiB
  cases h : Lib.atoiAll s.data.toList with
  | ok v => intro _; exact Lib.atoiAll_bounds h
  | range => intro h; cases h
  | _ => intro h; cases h
theorem map_bl_ba (l : List (List UInt8)) : (l.map ba).map bl = l := by
  rw [List.map_map]
  exact (List.map_congr_left (fun _ _ => rfl)).trans (List.map_id _)
def Parsed (L : List ByteArray) (f : Form) (r : Cmd × Int) : Prop :=
  (r.2 ≠ 0 → r.1 = noCmd) ∧ (r.2 = 0 → CmdOk r.1 f ∧ L.map bl = wordsOf r.1 f)
theorem parsed_of {L : List ByteArray} {f : Form} {v n : ByteArray} {k : Int} (hn : n.size ≤ maxLen) (hf : m_console_find v = some (f, true)) (hL : L.map bl = wordsOf ⟨v, n, k⟩ f) :
    Gd (m_console_Parse_b1 v n k) (Parsed L f) := by
  refine (parse_b1_gd v n k hn).mono ?_
  rintro ⟨d, e⟩ ⟨h1, h2⟩
  refine ⟨h1, fun h0 => ?_⟩
  obtain ⟨hd, hc⟩ := h2 h0
  simp only at hd h0; subst hd; subst h0
  obtain ⟨q, hq, hqq⟩ := check_gd ⟨v, n, k⟩ hn
  rw [hc] at hq; cases hq
  obtain ⟨g, hg⟩ := hqq rfl
  have := hg.find; rw [hf] at this; cases this
  exact ⟨hg, hL⟩
theorem parse_b2_gd {L : List ByteArray} {f : Form} {b : Bool} {v n : ByteArray} {z : Nat} {i : Int} (hi : i = (z : Int) + 1) (hz : z < 5) (hn : n.size ≤ maxLen) (hf : m_console_find v = some (f, true))
    (hL : f.n = true → ∃ w, L[z]? = some w ∧ w.size ≤ 8192 ∧ ∀ k, itoaB k = w → L.map bl = wordsOf ⟨v, n, k⟩ f) (hL0 : f.n = false → L.map bl = wordsOf ⟨v, n, 0⟩ f) :
    Gd (m_console_Parse_b2 L (f, b) i v n) (Parsed L f) := by
  subst hi
  unfold m_console_Parse_b2
  rw [show IntKind.i64.wrap ((z : Int) + 1 - 1) = (z : Int) by rw [wrap_id ⟨by omega, by omega⟩]; omega]
  refine Gd.ite (fun h => ?_) (fun h => parsed_of hn hf (hL0 h))
  obtain ⟨w, hw, hws, hwk⟩ := hL h
  refine Gd.ix (y := w) (by omega) (by simpa using hw) (Gd.nd (by omega) (Gd.ite (fun _ => Gd.ret ⟨fun _ => rfl, fun h => by omega⟩) (fun ha => Gd.nd (atoiB_range w ha) (Gd.ix (y := w) (by omega) (by simpa using hw) (Gd.ite (fun _ => Gd.ret ⟨fun _ => rfl, fun h => by omega⟩) (fun he => parsed_of hn hf (hwk _ (by simpa using he))))))))
theorem parse_gd (s : ByteArray) : Gd (m_console_Parse s) (fun r => (r.2 ≠ 0 → r.1 = noCmd) ∧ (r.2 = 0 → ∃ f, CmdOk r.1 f ∧ bl s = joinL 32 (wordsOf r.1 f))) := by
  unfold m_console_Parse
  refine Gd.ite (fun _ => Gd.ret ⟨fun _ => rfl, fun h => by omega⟩) (fun hs => ?_)
  have hs : s.size ≤ 8192 := by simp at hs; omega
  refine Gd.bind_eq (split_eq s 32 (by omega)) ?_
  have hjoin := join_split 32 (bl s)
  have hlen := splitL_len 32 (bl s)
  have hsz : ∀ w ∈ (splitL 32 (bl s)).map ba, w.size ≤ 8192 := fun w hw => by
    obtain ⟨x, hx, rfl⟩ := List.mem_map.1 hw
    rw [ba_size]
    have : ∀ (ws : List (List UInt8)), x ∈ ws → x.length ≤ (joinL 32 ws).length := by
      intro ws
      induction ws with
      | nil => intro h; cases h
      | cons a r ih =>
        intro h
        cases r with
        | nil => rw [List.mem_singleton] at h; subst h; exact Nat.le_refl _
        | cons b r =>
          rw [joinL, List.length_append, List.length_cons]
          rcases List.mem_cons.1 h with rfl | h
          · omega
          · have := ih h; omega
    have := this _ hx
    rw [hjoin, bl_len] at this; omega
  generalize hL : (splitL 32 (bl s)).map ba = L at hsz
  have hll : 1 ≤ L.length := by rw [← hL, List.length_map]; omega
  obtain ⟨v, hv⟩ : ∃ v, L[0]? = some v := ⟨_, List.getElem?_eq_getElem (by omega)⟩
  refine Gd.ix (y := v) (by omega) (by simpa using hv) ?_
  obtain ⟨⟨f, b⟩, hf, _⟩ := find_gd v
  refine Gd.bind_eq hf ?_
  suffices h : Gd _ (Parsed L f) by
    refine h.mono ?_
    rintro ⟨d, e⟩ ⟨h1, h2⟩
    refine ⟨h1, fun h0 => ⟨f, (h2 h0).1, ?_⟩⟩
    rw [← (h2 h0).2, ← hL, map_bl_ba, hjoin]
  have hit : ∀ k w, itoaB k = w → bl w = Lib.itoa k := fun k w h => by subst h; rfl
  have err : ∀ (n : Int) (p q : Option (Cmd × Int)), ((L.length : Int) = n → b = true → Gd q (Parsed L f)) → Gd (if ((!b) || (!decide ((L.length : Int) = n))) = true then some (noCmd, 5) else q) (Parsed L f) := fun n p q hq =>
    Gd.ite (fun _ => Gd.ret ⟨fun _ => rfl, fun h => by omega⟩) (fun h => by
      simp only [Bool.or_eq_false_iff, Bool.not_eq_false', decide_eq_true_eq] at h
      exact hq h.2 h.1)
  have w2 : IntKind.i64.wrap (1 + 1) = 2 := by decide
  have w3 : IntKind.i64.wrap (2 + 1) = 3 := by decide
  refine Gd.ite (fun hn => ?_) (fun hn => ?_)
  · simp only at hn
    unfold m_console_Parse_b4
    rw [w2, w3]
    refine Gd.ite (fun hm => ?_) (fun hm => ?_)
    · simp only at hm
      unfold m_console_Parse_b3
      refine err 3 none _ (fun h3 hb => ?_)
      subst hb
      obtain ⟨a0, a1, a2, rfl⟩ := len3 (show L.length = 3 by omega)
      obtain rfl : a0 = v := by simpa using hv
      refine Gd.ix (y := a0) (by omega) rfl (Gd.ite (fun _ => Gd.ix (y := a1) (by omega) rfl (parse_b2_gd (z := 2) rfl (by omega) (by have := hsz a1 (by simp); simp only [maxLen]; omega) hf (fun _ => ⟨a2, rfl, hsz a2 (by simp), fun k hk => ?_⟩) (fun h => by rw [hm] at h; cases h))) (fun h => by simp only at h; rw [hn] at h; cases h))
      simp [wordsOf, hn, hm, hit _ _ hk]
    · simp only at hm
      unfold m_console_Parse_b3
      refine err 2 none _ (fun h3 hb => ?_)
      subst hb
      obtain ⟨a0, a1, rfl⟩ := len2 (show L.length = 2 by omega)
      obtain rfl : a0 = v := by simpa using hv
      refine Gd.ix (y := a0) (by omega) rfl (Gd.ite (fun _ => Gd.ix (y := a1) (by omega) rfl (parse_b2_gd (z := 1) rfl (by omega) (by have := hsz a1 (by simp); simp only [maxLen]; omega) hf (fun h => by rw [hm] at h; cases h) (fun _ => ?_))) (fun h => by simp only at h; rw [hn] at h; cases h))
      simp [wordsOf, hn, hm]
  · simp only at hn
    unfold m_console_Parse_b4
    rw [w2]
    refine Gd.ite (fun hm => ?_) (fun hm => ?_)
    · simp only at hm
      unfold m_console_Parse_b3
      refine err 2 none _ (fun h3 hb => ?_)
      subst hb
      obtain ⟨a0, a1, rfl⟩ := len2 (show L.length = 2 by omega)
      obtain rfl : a0 = v := by simpa using hv
      refine Gd.ix (y := a0) (by omega) rfl (Gd.ite (fun h => by simp only at h; rw [hn] at h; cases h) (fun _ => parse_b2_gd (z := 1) rfl (by omega) (by show 0 ≤ maxLen; omega) hf (fun _ => ⟨a1, rfl, hsz a1 (by simp), fun k hk => ?_⟩) (fun h => by rw [hm] at h; cases h)))
      simp [wordsOf, hn, hm, hit _ _ hk]
    · simp only at hm
      unfold m_console_Parse_b3
      refine err 1 none _ (fun h3 hb => ?_)
      subst hb
      obtain ⟨a0, rfl⟩ := List.length_eq_one_iff.1 (show L.length = 1 by omega)
      obtain rfl : a0 = v := by simpa using hv
      refine Gd.ix (y := a0) (by omega) rfl (Gd.ite (fun h => by simp only at h; rw [hn] at h; cases h) (fun _ => parse_b2_gd (z := 0) rfl (by omega) (by show 0 ≤ maxLen; omega) hf (fun h => by rw [hm] at h; cases h) (fun _ => ?_)))
      simp [wordsOf, hn, hm]
end Go.Sim
