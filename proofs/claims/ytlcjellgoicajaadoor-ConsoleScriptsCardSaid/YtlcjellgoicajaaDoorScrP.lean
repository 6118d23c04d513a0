/-
  Scripts, in plain Lean: the events of a script are its commands.
-/
import Derived.Test.YtlcjellgoicajaaDoorBakQ
namespace Go.Sim
open Go
set_option linter.unusedVariables false
set_option linter.unusedSimpArgs false
set_option linter.unusedSectionVars false
set_option linter.unnecessarySimpa false

abbrev Ev := S_api_Event
/-! ### Texts of lines -/
theorem split_join {c : UInt8} : ∀ {ws : List (List UInt8)}, ws ≠ [] → (∀ w ∈ ws, c ∉ w) → splitL c (joinL c ws) = ws
  | [], h, _ => absurd rfl h
  | [w], _, h => splitL_none (h w (by simp))
  | w :: v :: r, _, h => by
    rw [joinL, splitL_cons (h w (by simp)), split_join (ws := v :: r) (by simp) (fun x hx => h x (List.mem_cons_of_mem _ hx))]
def linesT (ls : List (List UInt8)) : List UInt8 := ls.flatMap fun l => l ++ [10]
theorem linesT_app (a : List (List UInt8)) (l : List UInt8) : linesT (a ++ [l]) = linesT a ++ (l ++ [10]) := by simp [linesT]
theorem linesT_join : ∀ {ls : List (List UInt8)}, ls ≠ [] → linesT ls = joinL 10 ls ++ [10]
  | [], h => absurd rfl h
  | [w], _ => by simp [linesT, joinL]
  | w :: v :: r, _ => by
    have := linesT_join (ls := v :: r) (by simp)
    rw [show linesT (w :: v :: r) = (w ++ [10]) ++ linesT (v :: r) from rfl, this, joinL]
    simp
theorem linesT_count {ls : List (List UInt8)} (h : ∀ w ∈ ls, (10 : UInt8) ∉ w) : (linesT ls).count 10 = ls.length := by
  induction ls with
  | nil => rfl
  | cons w r ih =>
    rw [show linesT (w :: r) = (w ++ [10]) ++ linesT r from rfl, List.count_append, List.count_append, List.count_eq_zero.2 (h w (by simp)), ih (fun x hx => h x (List.mem_cons_of_mem _ hx))]
    simp; omega
theorem suffix_eq (l : List UInt8) (c d : UInt8) (hl : l.length < 1000000) : m_internal_stringslite_HasSuffix (ba (l ++ [c])) (ba [d]) = some (decide (c = d)) := by
  unfold m_internal_stringslite_HasSuffix
  have h1 : (ba (l ++ [c])).size = l.length + 1 := by rw [ba_size]; simp
  have h2 : (ba [d]).size = 1 := rfl
  have w : IntKind.i64.wrap (((ba (l ++ [c])).size : Int) - ((ba [d]).size : Int)) = (l.length : Int) := by
    rw [h1, h2, wrap_id ⟨by omega, by omega⟩]; omega
  rw [if_pos (by rw [h1, h2]; simp; omega), w]
  unfold need
  rw [if_pos ⟨by omega, by rw [h1]; omega⟩]
  have : (ba (l ++ [c])).extract (l.length : Int).toNat (ba (l ++ [c])).size = ba [c] := by
    refine bl_inj ?_
    rw [bl_extract, h1, bl_ba, bl_ba, List.take_of_length_le (by simp)]
    simp
  rw [this]
  congr 1
  by_cases e : c = d
  · subst e; simp
  · rw [decide_eq_false e, decide_eq_false]
    intro h
    have := congrArg bl h
    rw [bl_ba, bl_ba] at this
    exact e (by simpa using this)
theorem trim_eq (l : List UInt8) (hl : l.length < 1000000) : m_strings_TrimSuffix (ba (l ++ [10])) (ba [10]) = some (ba l) := by
  unfold m_strings_TrimSuffix m_internal_stringslite_TrimSuffix
  rw [suffix_eq _ _ _ hl]
  have h1 : (ba (l ++ [10])).size = l.length + 1 := by rw [ba_size]; simp
  have w : IntKind.i64.wrap (((ba (l ++ [10])).size : Int) - ((ba [10]).size : Int)) = (l.length : Int) := by
    rw [h1, show (ba [10]).size = 1 from rfl, wrap_id ⟨by omega, by omega⟩]; omega
  simp only [Option.bind_some, decide_true, if_true]
  rw [w]
  unfold need
  rw [if_pos ⟨by omega, by rw [h1]; omega⟩]
  simp only [Option.bind_some, Option.some.injEq]
  refine bl_inj ?_
  rw [bl_extract, bl_ba, bl_ba]
  simp
theorem trim_ne (l : List UInt8) (c : UInt8) (h : c ≠ 10) (hl : l.length < 1000000) : m_strings_TrimSuffix (ba (l ++ [c])) (ba [10]) = some (ba (l ++ [c])) := by
  unfold m_strings_TrimSuffix m_internal_stringslite_TrimSuffix
  rw [suffix_eq _ _ _ hl, decide_eq_false h]
  rfl
theorem has_eq (l : List UInt8) (c : UInt8) (hl : l.length < 1000000) : m_strings_HasSuffix (ba (l ++ [c])) (ba [10]) = some (decide (c = 10)) := by
  unfold m_strings_HasSuffix
  rw [suffix_eq _ _ _ hl]; rfl

/-! ### What a script does -/
def stepE (z : Int × List Ev) (c : Cmd) : Int × List Ev :=
  if c.Verb = ⟨#[119, 97, 105, 116]⟩ then (z.1 + c.N, z.2) else if c.Verb = ⟨#[116, 101, 108, 108]⟩ then z else (z.1, z.2 ++ [⟨z.1, c.Verb, c.Name, c.N⟩])
def runE (z : Int × List Ev) (cs : List (Cmd × Form)) : Int × List Ev := cs.foldl (fun z p => stepE z p.1) z
theorem runE_app (z : Int × List Ev) (cs : List (Cmd × Form)) (p : Cmd × Form) : runE z (cs ++ [p]) = stepE (runE z cs) p.1 := by simp [runE, List.foldl_append]
def AllOk (cs : List (Cmd × Form)) : Prop := ∀ p ∈ cs, CmdOk p.1 p.2
theorem wait_range {c : Cmd} {f : Form} (h : CmdOk c f) (hw : c.Verb = ⟨#[119, 97, 105, 116]⟩) : 0 ≤ c.N ∧ c.N ≤ 3600 := by
  have h1 := h.find
  rw [hw, find_wait] at h1
  have hf : f = ⟨⟨#[119, 97, 105, 116]⟩, false, true, 0, 3600⟩ := by cases h1; rfl
  have := h.nr (by rw [hf])
  rw [hf] at this; exact this
theorem runE_bound : ∀ (cs : List (Cmd × Form)) (z : Int × List Ev), AllOk cs → z.1 ≤ (runE z cs).1 ∧ (runE z cs).1 ≤ z.1 + 3600 * cs.length ∧ (runE z cs).2.length ≤ z.2.length + cs.length
  | [], z, _ => ⟨Int.le_refl _, by simp [runE], by simp [runE]⟩
  | p :: cs, z, h => by
    obtain ⟨h1, h2, h3⟩ := runE_bound cs (stepE z p.1) (fun x hx => h x (List.mem_cons_of_mem _ hx))
    have hp := h p (by simp)
    have hs : z.1 ≤ (stepE z p.1).1 ∧ (stepE z p.1).1 ≤ z.1 + 3600 ∧ (stepE z p.1).2.length ≤ z.2.length + 1 := by
      unfold stepE
      by_cases hw : p.1.Verb = ⟨#[119, 97, 105, 116]⟩
      · rw [if_pos hw]
        have := wait_range hp hw
        exact ⟨by simp only; omega, by simp only; omega, by simp⟩
      · rw [if_neg hw]
        split
        · exact ⟨by omega, by omega, by omega⟩
        · exact ⟨by simp only; omega, by simp only; omega, by simp⟩
    rw [show runE z (p :: cs) = runE (stepE z p.1) cs from rfl]
    simp only [List.length_cons]
    exact ⟨by omega, by omega, by omega⟩
def lineOf (p : Cmd × Form) : List UInt8 := textOf p.1 p.2
theorem line10 {c : Cmd} {f : Form} (h : CmdOk c f) : (10 : UInt8) ∉ textOf c f := by
  have hv : (10 : UInt8) ∉ bl c.Verb := by rw [← h.verb]; exact h.form.nl
  have hi : (10 : UInt8) ∉ Lib.itoa c.N := fun hm => by have := itoa_chars _ _ hm; simp at this
  unfold textOf
  cases hn : f.name with
  | false => cases f.n <;> simp [hv, hi]
  | true =>
    have hm : (10 : UInt8) ∉ bl c.Name := (h.nm hn).not (by decide)
    cases f.n <;> simp [hv, hi, hm]
theorem lines_len : ∀ {cs : List (Cmd × Form)}, AllOk cs → (linesT (cs.map lineOf)).length ≤ 25 * cs.length
  | [], _ => by simp [linesT]
  | p :: cs, h => by
    have h1 := lines_len (cs := cs) (fun x hx => h x (List.mem_cons_of_mem _ hx))
    have h2 := textOf_len (h p (by simp))
    rw [List.map_cons, show linesT (lineOf p :: cs.map lineOf) = (lineOf p ++ [10]) ++ linesT (cs.map lineOf) from rfl]
    unfold lineOf at *
    simp only [List.length_append, List.length_cons, List.length_nil]
    omega
theorem lines10 {cs : List (Cmd × Form)} (h : AllOk cs) : ∀ w ∈ cs.map lineOf, (10 : UInt8) ∉ w := fun w hw => by
  obtain ⟨p, hp, rfl⟩ := List.mem_map.1 hw
  exact line10 (h p hp)
theorem script_of {t : Int} {cs : List (Cmd × Form)} (ht : 0 ≤ t ∧ t ≤ 1000) (h : AllOk cs) (hl : cs.length ≤ 10) :
    m_console_Script (ba (linesT (cs.map lineOf))) t = some ((runE (t, []) cs).2, 0, 0) := by
  have hlen := lines_len h
  refine Gd.eq.1 ?_
  unfold m_console_Script
  refine Gd.ite (fun hb => by simp [ba_size] at hb; omega) (fun _ => Gd.ite (fun hb => by simp at hb; omega) (fun _ => ?_))
  by_cases hne : cs = []
  · subst hne
    exact Gd.ite (fun _ => Gd.ret rfl) (fun h => by cases h)
  have hne' : cs.map lineOf ≠ [] := fun e => hne (by simpa using e)
  have ej := linesT_join hne'
  have hjl : (joinL 10 (cs.map lineOf)).length < 1000000 := by have := congrArg List.length ej; simp at this; omega
  refine Gd.ite (fun hb => ?_) (fun _ => ?_)
  · have := congrArg ByteArray.size (of_decide_eq_true hb)
    rw [ba_size, ej] at this
    simp at this
    exact absurd this (by show ¬ _ = 0; omega)
  rw [ej]
  refine Gd.bind_eq (trim_eq _ hjl) (Gd.bind_eq (split_eq _ 10 (by rw [ba_size]; omega)) (Gd.bind_eq (has_eq _ _ hjl) (Gd.ite (fun h => by simp at h) (fun _ => ?_))))
  rw [bl_ba, split_join hne' (lines10 h)]
  refine Gd.forI (fun k rest z => ∃ dn todo, cs = dn ++ todo ∧ rest = (todo.map lineOf).map ba ∧ z = runE (t, []) dn) (fun k y ys z nx hI hn => ?_) (fun k z hI => ?_) _ _ _ ⟨[], cs, rfl, rfl, rfl⟩
  · obtain ⟨dn, todo, e1, e2, rfl⟩ := hI
    cases todo with
    | nil => cases e2
    | cons p todo =>
      simp only [List.map_cons, List.cons.injEq] at e2
      obtain ⟨rfl, rfl⟩ := e2
      have hp : CmdOk p.1 p.2 := h p (by rw [e1]; simp)
      have hdn : AllOk dn := fun x hx => h x (by rw [e1]; simp [hx])
      have hdl : dn.length + 1 ≤ 10 := by have := congrArg List.length e1; simp at this; omega
      obtain ⟨b1, b2, b3⟩ := runE_bound dn (t, []) hdn
      simp only at b1 b2 b3
      have next : ∀ z', z' = stepE (runE (t, []) dn) p.1 → Gd (nx z') (fun r => r = ((runE (t, []) cs).2, 0, 0)) := fun z' hz =>
        hn _ ⟨dn ++ [p], todo, by rw [e1]; simp, rfl, by rw [hz, runE_app]⟩
      unfold m_console_Script_b3 m_console_Script_b4
      refine Gd.bind_eq (parse_of hp) (Gd.ite (fun h => by simp at h) (fun _ => Gd.ite (fun h1 => ?_) (fun h1 => Gd.ite (fun h2 => Gd.ite (fun h3 => ?_) (fun h3 => ?_)) (fun h2 => Gd.nd ?_ ?_))))
      · have h1 : p.1.Verb = ⟨#[116, 101, 108, 108]⟩ := of_decide_eq_true h1
        refine next _ ?_
        unfold stepE
        rw [if_neg (by rw [h1]; decide), if_pos h1]
      · have h2 : p.1.Verb = ⟨#[119, 97, 105, 116]⟩ := of_decide_eq_true h2
        have hr := wait_range hp h2
        rw [wrap_id ⟨by simp only; omega, by simp only; omega⟩] at h3
        simp at h3; omega
      · have h2 : p.1.Verb = ⟨#[119, 97, 105, 116]⟩ := of_decide_eq_true h2
        have hr := wait_range hp h2
        rw [wrap_id ⟨by simp only; omega, by simp only; omega⟩]
        refine next _ ?_
        unfold stepE
        rw [if_pos h2]
      · simp; simp at b3; omega
      · have h1 : ¬ p.1.Verb = ⟨#[116, 101, 108, 108]⟩ := of_decide_eq_false h1
        have h2 : ¬ p.1.Verb = ⟨#[119, 97, 105, 116]⟩ := of_decide_eq_false h2
        refine next _ ?_
        unfold stepE
        rw [if_neg h2, if_neg h1]
  · obtain ⟨dn, todo, e1, e2, rfl⟩ := hI
    have : todo = [] := by cases todo with
      | nil => rfl
      | cons _ _ => cases e2
    subst this
    rw [List.append_nil] at e1
    subst e1
    exact Gd.ret rfl
theorem script_open {t : Int} {cs : List (Cmd × Form)} (ht : 0 ≤ t ∧ t ≤ 1000) (h : AllOk cs) (hl : cs.length ≤ 10) :
    m_console_Script (ba (linesT (cs.map lineOf)) ++ ⟨#[116, 101, 108, 108]⟩) t = some ([], (cs.length : Int), 5) := by
  have hlen := lines_len h
  have e : ba (linesT (cs.map lineOf)) ++ ⟨#[116, 101, 108, 108]⟩ = ba ((linesT (cs.map lineOf) ++ [116, 101, 108]) ++ [108]) := by
    rw [show (⟨#[116, 101, 108, 108]⟩ : ByteArray) = ba [116, 101, 108, 108] from rfl, ba_app]
    simp
  have hll : (linesT (cs.map lineOf) ++ [116, 101, 108]).length < 1000000 := by simp; omega
  refine Gd.eq.1 ?_
  rw [e]
  unfold m_console_Script
  refine Gd.ite (fun hb => by simp [ba_size] at hb; omega) (fun _ => Gd.ite (fun hb => by simp at hb; omega) (fun _ => Gd.ite (fun hb => ?_) (fun _ => ?_)))
  · have := congrArg ByteArray.size (of_decide_eq_true hb)
    rw [ba_size] at this
    simp at this
    exact absurd this (by show ¬ _ = 0; omega)
  refine Gd.bind_eq (trim_ne _ _ (by decide) hll) (Gd.bind_eq (split_eq _ 10 (by rw [ba_size, List.length_append]; exact Nat.le_of_lt_succ (by simp only [List.length_cons, List.length_nil]; omega))) (Gd.bind_eq (has_eq _ _ hll) (Gd.ite (fun _ => Gd.ret ?_) (fun h => by simp at h))))
  rw [List.length_map, splitL_len, bl_ba, List.append_assoc, List.count_append, linesT_count (lines10 h)]
  rw [show List.count (10 : UInt8) ([116, 101, 108] ++ [108]) = 0 from rfl, List.length_map, wrap_id ⟨by omega, by omega⟩]
  have : (((cs.length + 0 + 1 : Nat) : Int) - 1) = (cs.length : Int) := by omega
  rw [this]
theorem equal_self (l : List Ev) : m_slices_Equal_api_Event_api_Event l l = some true := by
  refine Gd.eq.1 ?_
  unfold m_slices_Equal_api_Event_api_Event
  refine Gd.ite (fun h => by simp at h) (fun _ => Gd.forN (Q := fun x => x = true) (fun m i _ => m + i = l.length) (fun m i s nx hI hn => ?_) (fun i s _ => ⟨true, rfl, rfl⟩) _ _ _ (by show ((l.length : Int)).toNat + 0 = l.length; omega))
  unfold m_slices_Equal_api_Event_api_Event_b1
  refine Gd.idxN (show i < l.length by omega) (Gd.idxN (show i < l.length by omega) (Gd.ite (fun h => by simp at h) (fun _ => hn _ (by omega))))
theorem cut_gd (n : Int) : Gd (m_gridhallref4_Cut n 0 1000) (fun r => 0 ≤ r ∧ r ≤ 1000) := by
  have w1 : IntKind.i64.wrap (1000 - 0) = 1000 := by decide
  have w2 : IntKind.i64.wrap (1000 + 1) = 1001 := by decide
  unfold m_gridhallref4_Cut
  rw [w1, w2]
  have hm : -1001 < Int.tmod n 1001 ∧ Int.tmod n 1001 < 1001 :=
    ⟨by have := Int.lt_tmod_of_pos n (show (0 : Int) < 1001 by omega); omega, Int.tmod_lt_of_pos n (by omega)⟩
  refine Gd.nd (by omega) (Gd.ite (fun h1 => ?_) (fun h1 => ?_))
  · simp only [decide_eq_true_eq] at h1
    unfold m_gridhallref4_Cut_b1
    rw [wrap_id (n := Int.tmod n 1001 + 1001) ⟨by omega, by omega⟩, wrap_id ⟨by omega, by omega⟩]
    exact Gd.ret (by omega)
  · simp only [decide_eq_false_iff_not] at h1
    unfold m_gridhallref4_Cut_b1
    rw [wrap_id ⟨by omega, by omega⟩]
    exact Gd.ret (by omega)
theorem ConsoleScripts_of (l : List Cmd) (time : Int) (hz : ∀ c ∈ l, c.Verb.size ≤ maxLen ∧ c.Name.size ≤ maxLen) : m_gridhallkeep4_ConsoleScripts l time = some true := by
  refine Gd.eq.1 ?_
  unfold m_gridhallkeep4_ConsoleScripts
  refine Gd.bnd (cut_gd time) (fun t ht => Gd.nd ⟨by omega, by omega⟩ ?_)
  have hsl : (slc l 0 ((min (l.length : Int) 10 : Int).toNat)).length ≤ 10 := by simp [slc]; omega
  have hsm : ∀ c ∈ slc l 0 ((min (l.length : Int) 10 : Int).toNat), c.Verb.size ≤ maxLen ∧ c.Name.size ≤ maxLen := fun c hc => hz c (by
    unfold slc at hc
    exact List.mem_of_mem_drop (List.mem_of_mem_take hc))
  generalize slc l 0 ((min (l.length : Int) 10 : Int).toNat) = L at hsl hsm
  refine Gd.forI (fun k rest z => k + rest.length ≤ 10 ∧ (∀ c ∈ rest, c.Verb.size ≤ maxLen ∧ c.Name.size ≤ maxLen) ∧ ∃ cs, AllOk cs ∧ cs.length ≤ k ∧ z = (ba (linesT (cs.map lineOf)), runE (t, []) cs)) (fun k c rest z nx hI hn => ?_) (fun k z hI => ?_) _ _ _ ⟨by omega, hsm, [], (by intro p hp; cases hp), Nat.le_refl _, rfl⟩
  · obtain ⟨hk, hr, cs, hcs, hcl, rfl⟩ := hI
    simp only [List.length_cons] at hk
    obtain ⟨hv, hnm⟩ := hr c (by simp)
    obtain ⟨⟨tx, e⟩, hp, hke, hq⟩ := print_gd c hv hnm
    have hr' : ∀ c ∈ rest, c.Verb.size ≤ maxLen ∧ c.Name.size ≤ maxLen := fun x hx => hr x (List.mem_cons_of_mem _ hx)
    unfold m_gridhallkeep4_ConsoleScripts_b3 m_gridhallkeep4_ConsoleScripts_b4
    refine Gd.bind_eq hp (Gd.ite (fun _ => hn _ ⟨by omega, hr', cs, hcs, by omega, rfl⟩) (fun h0 => ?_))
    have h0 : e = 0 := by simpa using h0
    obtain ⟨f, hf, htx⟩ := hq h0
    simp only at htx
    have htl := textOf_len hf
    have hll := lines_len hcs
    obtain ⟨b1, b2, b3⟩ := runE_bound cs (t, []) hcs
    simp only at b1 b2 b3
    have hcs' : AllOk (cs ++ [(c, f)]) := fun x hx => by
      rcases List.mem_append.1 hx with hx | hx
      · exact hcs x hx
      · rw [List.mem_singleton] at hx; subst hx; exact hf
    have next : ∀ z', z' = (ba (linesT (cs.map lineOf)) ++ (tx ++ ⟨#[10]⟩), stepE (runE (t, []) cs) c) → Gd (nx z') (fun r => r = true) := fun z' hz => by
      refine hn _ ⟨by omega, hr', cs ++ [(c, f)], hcs', by simp; omega, ?_⟩
      rw [hz, runE_app, htx, show (⟨#[10]⟩ : ByteArray) = ba [10] from rfl, ba_app, ba_app, List.map_append, List.map_cons, List.map_nil, linesT_app]
      rfl
    have htz : tx.size = (textOf c f).length := by rw [htx, ba_size]
    refine Gd.nd ?_ (Gd.nd ?_ (Gd.ite (fun h2 => ?_) (fun h2 => Gd.ite (fun h1 => ?_) (fun h1 => Gd.nd ?_ ?_))))
    · rw [htz, show (⟨#[10]⟩ : ByteArray).size = 1 from rfl]; simp only [maxLen]; omega
    · rw [size_app, htz, ba_size, show (⟨#[10]⟩ : ByteArray).size = 1 from rfl]; simp only [maxLen]; omega
    · have h2 : c.Verb = ⟨#[119, 97, 105, 116]⟩ := of_decide_eq_true h2
      have hr := wait_range hf h2
      rw [wrap_id ⟨by simp only; omega, by simp only; omega⟩]
      refine next _ ?_
      unfold stepE
      rw [if_pos h2]
    · have h1 : c.Verb = ⟨#[116, 101, 108, 108]⟩ := of_decide_eq_true h1
      have h2 : ¬ c.Verb = ⟨#[119, 97, 105, 116]⟩ := of_decide_eq_false h2
      refine next _ ?_
      unfold stepE
      rw [if_neg h2, if_pos h1]
    · simp; simp at b3; omega
    · have h1 : ¬ c.Verb = ⟨#[116, 101, 108, 108]⟩ := of_decide_eq_false h1
      have h2 : ¬ c.Verb = ⟨#[119, 97, 105, 116]⟩ := of_decide_eq_false h2
      refine next _ ?_
      unfold stepE
      rw [if_neg h2, if_neg h1]
  · obtain ⟨hk, hr, cs, hcs, hcl, rfl⟩ := hI
    simp only [List.length_nil] at hk
    have hll := lines_len hcs
    refine Gd.bind_eq (script_of ht hcs (by omega)) (Gd.nd ?_ (Gd.bind_eq (script_open ht hcs (by omega)) (Gd.bind_eq fact_eq ?_)))
    · rw [ba_size, show (⟨#[116, 101, 108, 108]⟩ : ByteArray).size = 4 from rfl]; simp only [maxLen]; omega
    refine Gd.ite (fun _ => Gd.ite (fun _ => Gd.ite (fun _ => Gd.bind_eq (equal_self _) (Gd.ite (fun _ => Gd.ite (fun _ => Gd.bind_eq (count_eq _ 10) (Gd.ite (fun _ => Gd.ret rfl) (fun h => ?_))) (fun h => by cases h)) (fun h => by cases h))) (fun h => by cases h)) (fun h => by cases h)) (fun h => by cases h)
    rw [bl_ba, linesT_count (lines10 hcs), List.length_map] at h
    simp at h
end Go.Sim
