/-
  The console, in plain Lean: what was printed is parsed; what was parsed is printed.
-/
import Derived.Test.YtlcjellgoicajaaDoorBakP
namespace Go.Sim
open Go
set_option linter.unusedVariables false
set_option linter.unusedSimpArgs false
set_option linter.unusedSectionVars false
set_option linter.unnecessarySimpa false

theorem parse_b1_of {c : Cmd} {f : Form} (h : CmdOk c f) : m_console_Parse_b1 c.Verb c.Name c.N = some (c, 0) := by
  unfold m_console_Parse_b1
  rw [show (S_api_ConsoleCommand.mk c.Verb c.Name c.N) = c from rfl, h.check]
  rfl
theorem parse_b2_of {c : Cmd} {f : Form} (h : CmdOk c f) {L : List ByteArray} {z : Nat} {i : Int} {b : Bool} {n : ByteArray} (hi : i = (z : Int) + 1) (hz : z < 5) (hn : n = c.Name) (hL : f.n = true → L[z]? = some (itoaB c.N)) :
    Gd (m_console_Parse_b2 L (f, b) i c.Verb n) (fun r => r = (c, 0)) := by
  subst hi; subst hn
  have hl := itoa_len h.range
  have hr := h.range
  unfold m_console_Parse_b2
  rw [show IntKind.i64.wrap ((z : Int) + 1 - 1) = (z : Int) by rw [wrap_id ⟨by omega, by omega⟩]; omega]
  refine Gd.ite (fun hm => ?_) (fun hm => ?_)
  · have hw := hL hm
    refine Gd.ix (y := itoaB c.N) (by omega) (by simpa using hw) (Gd.nd (by rw [itoaB_ba, ba_size]; omega) ?_)
    rw [atoi_itoa hr]
    refine Gd.ite (fun h => by cases h) (fun _ => Gd.nd ⟨by simp only; omega, by simp only; omega⟩ (Gd.ix (y := itoaB c.N) (by omega) (by simpa using hw) (Gd.ite (fun h => by simp at h) (fun _ => Gd.eq.2 (parse_b1_of h)))))
  · have := h.nz hm
    refine Gd.eq.2 ?_
    have := parse_b1_of h
    rw [h.nz hm] at this; exact this
theorem parse_of {c : Cmd} {f : Form} (h : CmdOk c f) : m_console_Parse (ba (textOf c f)) = some (c, 0) := by
  have hl := textOf_len h
  refine Gd.eq.1 ?_
  unfold m_console_Parse
  refine Gd.ite (fun h => by simp [ba_size] at h; omega) (fun _ => ?_)
  refine Gd.bind_eq (split_eq _ 32 (by rw [ba_size]; omega)) ?_
  rw [bl_ba, textOf_words h]
  have w2 : IntKind.i64.wrap (1 + 1) = 2 := by decide
  have w3 : IntKind.i64.wrap (2 + 1) = 3 := by decide
  have hv : ba (bl c.Verb) = c.Verb := ba_bl _
  have hn' : ba (bl c.Name) = c.Name := ba_bl _
  have hi : ba (Lib.itoa c.N) = itoaB c.N := rfl
  have step : ∀ (L : List ByteArray) (n : Int) (q : Option (Cmd × Int)), (L.length : Int) = n → Gd q (fun r => r = (c, 0)) → Gd (if ((!true) || (!decide ((L.length : Int) = n))) = true then some (noCmd, 5) else q) (fun r => r = (c, 0)) := fun L n q hq hk =>
    Gd.ite (fun h => by simp at h; exact absurd hq h) (fun _ => hk)
  cases hn : f.name with
  | true =>
    cases hm : f.n with
    | true =>
      have e : (wordsOf c f).map ba = [c.Verb, c.Name, itoaB c.N] := by unfold wordsOf; rw [hn, hm]; simp [hv, hn', hi]
      rw [e]
      refine Gd.ix (y := c.Verb) (by omega) rfl (Gd.bind_eq h.find (Gd.ite (fun _ => ?_) (fun h => by simp only at h; rw [hn] at h; cases h)))
      unfold m_console_Parse_b4
      rw [w2, w3]
      refine Gd.ite (fun _ => ?_) (fun h => by simp only at h; rw [hm] at h; cases h)
      unfold m_console_Parse_b3
      refine step _ 3 _ rfl (Gd.ix (y := c.Verb) (by omega) rfl (Gd.ite (fun _ => Gd.ix (y := c.Name) (by omega) rfl (parse_b2_of h (z := 2) rfl (by omega) rfl (fun _ => rfl))) (fun h => by simp only at h; rw [hn] at h; cases h)))
    | false =>
      have e : (wordsOf c f).map ba = [c.Verb, c.Name] := by unfold wordsOf; rw [hn, hm]; simp [hv, hn', hi]
      rw [e]
      refine Gd.ix (y := c.Verb) (by omega) rfl (Gd.bind_eq h.find (Gd.ite (fun _ => ?_) (fun h => by simp only at h; rw [hn] at h; cases h)))
      unfold m_console_Parse_b4
      rw [w2, w3]
      refine Gd.ite (fun h => by simp only at h; rw [hm] at h; cases h) (fun _ => ?_)
      unfold m_console_Parse_b3
      refine step _ 2 _ rfl (Gd.ix (y := c.Verb) (by omega) rfl (Gd.ite (fun _ => Gd.ix (y := c.Name) (by omega) rfl (parse_b2_of h (z := 1) rfl (by omega) rfl (fun h => by rw [hm] at h; cases h))) (fun h => by simp only at h; rw [hn] at h; cases h)))
  | false =>
    have hz := h.nn hn
    cases hm : f.n with
    | true =>
      have e : (wordsOf c f).map ba = [c.Verb, itoaB c.N] := by unfold wordsOf; rw [hn, hm]; simp [hv, hn', hi]
      rw [e]
      refine Gd.ix (y := c.Verb) (by omega) rfl (Gd.bind_eq h.find (Gd.ite (fun h => by simp only at h; rw [hn] at h; cases h) (fun _ => ?_)))
      unfold m_console_Parse_b4
      rw [w2]
      refine Gd.ite (fun _ => ?_) (fun h => by simp only at h; rw [hm] at h; cases h)
      unfold m_console_Parse_b3
      refine step _ 2 _ rfl (Gd.ix (y := c.Verb) (by omega) rfl (Gd.ite (fun h => by simp only at h; rw [hn] at h; cases h) (fun _ => parse_b2_of h (z := 1) rfl (by omega) hz.symm (fun _ => rfl))))
    | false =>
      have e : (wordsOf c f).map ba = [c.Verb] := by unfold wordsOf; rw [hn, hm]; simp [hv, hn', hi]
      rw [e]
      refine Gd.ix (y := c.Verb) (by omega) rfl (Gd.bind_eq h.find (Gd.ite (fun h => by simp only at h; rw [hn] at h; cases h) (fun _ => ?_)))
      unfold m_console_Parse_b4
      refine Gd.ite (fun h => by simp only at h; rw [hm] at h; cases h) (fun _ => ?_)
      unfold m_console_Parse_b3
      refine step _ 1 _ rfl (Gd.ix (y := c.Verb) (by omega) rfl (Gd.ite (fun h => by simp only at h; rw [hn] at h; cases h) (fun _ => parse_b2_of h (z := 0) rfl (by omega) hz.symm (fun h => by rw [hm] at h; cases h))))
theorem find_load : m_console_find (⟨#[108, 111, 97, 100]⟩) = some (⟨⟨#[108, 111, 97, 100]⟩, true, true, 0, 100000⟩, true) := by kernel_rfl
theorem find_wait : m_console_find (⟨#[119, 97, 105, 116]⟩) = some (⟨⟨#[119, 97, 105, 116]⟩, false, true, 0, 3600⟩, true) := by kernel_rfl
theorem fact_eq : m_gridhallkeep4_consoleFact = some true := by
  have hc : m_console_Check ⟨⟨#[108, 111, 97, 100]⟩, ⟨#[76, 49]⟩, 20⟩ = some 0 := by kernel_rfl
  obtain ⟨k, hk, hq⟩ := check_gd ⟨⟨#[108, 111, 97, 100]⟩, ⟨#[76, 49]⟩, 20⟩ (by show 2 ≤ maxLen; decide)
  rw [hc] at hk; cases hk
  obtain ⟨f, hf⟩ := hq rfl
  have h1 := hf.find
  rw [find_load] at h1
  have hfe : f = ⟨⟨#[108, 111, 97, 100]⟩, true, true, 0, 100000⟩ := by cases h1; rfl
  subst hfe
  have hp := parse_of hf
  have h20 : Lib.itoa 20 = [50, 48] := by
    unfold Lib.itoa
    rw [if_neg (by omega), show (20 : Int).toNat = 20 from rfl, Lib.decDigits, dif_neg (by omega), Lib.decDigits_one (by omega)]
    rfl
  have ht : ba (textOf ⟨⟨#[108, 111, 97, 100]⟩, ⟨#[76, 49]⟩, 20⟩ ⟨⟨#[108, 111, 97, 100]⟩, true, true, 0, 100000⟩) = ⟨#[108, 111, 97, 100, 32, 76, 49, 32, 50, 48]⟩ := by
    unfold textOf
    rw [h20]; rfl
  unfold m_gridhallkeep4_consoleFact
  rw [← ht, hp]
  simp
theorem ConsoleBack_of (c : Cmd) (s : ByteArray) (h1 : c.Verb.size ≤ maxLen) (h2 : c.Name.size ≤ maxLen) : m_gridhallkeep4_ConsoleBack c s = some true := by
  refine Gd.eq.1 ?_
  obtain ⟨⟨t, k⟩, hp, hk, hq⟩ := print_gd c h1 h2
  have rest : Gd (m_gridhallkeep4_ConsoleBack_b1 c s (t, k)) (fun r => r = true) := by
    unfold m_gridhallkeep4_ConsoleBack_b1
    obtain ⟨⟨d, e⟩, hd, he, hd0⟩ := parse_gd s
    refine Gd.bind_eq hd (Gd.ite (fun h => ?_) (fun h => ?_))
    · have h : ¬ e = 0 := by simpa using h
      have hz : d = noCmd := he h
      subst hz
      refine Gd.bind_eq fact_eq (Gd.ite (fun _ => Gd.bind_eq hk (Gd.ite (fun _ => Gd.ret (by rfl)) (fun h => by simp at h))) (fun h => by cases h))
    · have h : e = 0 := by simpa using h
      obtain ⟨f, hf, hs⟩ := hd0 h
      have hv5 := hf.verb5; have hn8 := hf.name8
      obtain ⟨⟨t', k'⟩, hp', hk', hq'⟩ := print_gd d (by simp only [maxLen]; simp only at hv5; omega) (by simp only [maxLen]; simp only at hn8; omega)
      have hc := hf.check
      simp only at hc hk'
      rw [hc] at hk'; cases hk'
      obtain ⟨g, hg, ht'⟩ := hq' rfl
      have hfg : g = f := by
        have a := hg.find; have b := hf.find
        simp only at a b
        rw [a] at b; cases b; rfl
      subst hfg
      simp only at ht'
      have hst : t' = s := by
        rw [ht']
        refine bl_inj ?_
        rw [bl_ba, hs, ← textOf_words hg, join_split]
      subst hst
      refine Gd.bind_eq hp' (Gd.bind_eq fact_eq (Gd.ret (by simp)))
  unfold m_gridhallkeep4_ConsoleBack
  refine Gd.bind_eq hp (Gd.ite (fun h => ?_) (fun h => rest))
  have h : k = 0 := by simpa using h
  obtain ⟨f, hf, ht⟩ := hq h
  simp only at ht
  have hpp := parse_of hf
  rw [← ht] at hpp
  refine Gd.bind_eq hpp (Gd.ite (fun h => by simp at h) (fun _ => rest))
end Go.Sim
