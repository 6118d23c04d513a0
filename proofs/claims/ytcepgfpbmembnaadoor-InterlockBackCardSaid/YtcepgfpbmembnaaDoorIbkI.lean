/-
  Rules that were printed are parsed; rules that were parsed are printed, and parsed again.
-/
import Derived.Test.YtcepgfpbmembnaaDoorIbkH
namespace Go.Sim
open Go
set_option linter.unusedVariables false
set_option linter.unusedSimpArgs false
set_option linter.unusedSectionVars false
set_option linter.unnecessarySimpa false
open Tr

theorem fac_eq : m_interlock_parser_factor = F FUEL := rfl
abbrev PR := (List Rule) × Int × Int
/-! ### A line that was printed -/
theorem or_whole {t : Tr} (h : t.Ok) (hz : t.sz ≤ 40) (hl : t.wds.length ≤ 100000) : m_interlock_parser_or m_interlock_parser_factor ⟨t.wds.map ba, [], false⟩ = some (fin t [] []) := by
  have := or_ok (fac_all t h).2.2 (n := FUEL) (rest := []) (ns := []) (by simp only [FUEL, List.length_nil]; omega) (by simp only [List.length_nil]; omega) (by simp only [List.length_nil]; omega) (fun r h => by cases h) (fun r h => by cases h)
  rw [List.append_nil] at this
  exact this
theorem wds_len : ∀ (t : Tr), t.wds.length + 2 ≤ 5 * t.sz
  | .alw | .nev | .opn _ | .cls _ => by simp [Tr.wds, Tr.sz]
  | .not a => by
    have h1 := wds_len a
    have : (par a.isAO a.wds).length ≤ a.wds.length + 2 := by unfold par; split <;> simp
    simp only [Tr.wds, Tr.sz, List.length_cons]; omega
  | .and a b => by
    have h1 := wds_len a; have h2 := wds_len b
    have e1 : (par a.isOr a.wds).length ≤ a.wds.length + 2 := by unfold par; split <;> simp
    have e2 : (par b.isAO b.wds).length ≤ b.wds.length + 2 := by unfold par; split <;> simp
    simp only [Tr.wds, Tr.sz, List.length_cons, List.length_append]; omega
  | .or a b => by
    have h1 := wds_len a; have h2 := wds_len b
    have e2 : (par b.isOr b.wds).length ≤ b.wds.length + 2 := by unfold par; split <;> simp
    simp only [Tr.wds, Tr.sz, List.length_cons, List.length_append]; omega
theorem line_ok {r : Rl} (h : r.Ok) {k : Nat} (hk : k < 24) {out : List Rule} (ho : out.length ≤ 1000) {nx : List Rule → Option PR} {Q : PR → Prop} (hn : Gd (nx (out ++ [r.rule])) Q) : Gd (m_interlock_Parse_b5 k (ba r.line) out nx) Q := by
  have hw : r.t.wds.length ≤ 100000 := by have := wds_len r.t; have := h.sz; omega
  have hp := r.t.pos
  have hsz := h.sz
  have hll := line_len h
  have hsp := split_eq (ba r.line) 32 (by rw [ba_size]; omega)
  rw [bl_ba, line_split h] at hsp
  have hfl : (r.t.flat 0).length = r.t.sz := flat_len _ _
  unfold m_interlock_Parse_b5
  refine Gd.bind_eq hsp ?_
  have e : r.wds.map ba = ba (kVerb r.c) :: ba (bl r.s) :: ba kWhen :: r.t.wds.map ba := rfl
  rw [e, ba_bl]
  cases hc : r.c with
  | true =>
    refine Gd.bind_eq (take_hit (ba kClose) _ _ _) (Gd.ite (fun _ => Gd.bind_eq (pname_ok h.nm _ _ _) (Gd.bind_eq (take_hit (ba kWhen) _ _ _) (Gd.ite (fun h => by cases h) (fun _ => ?_)))) (fun h => by cases h))
    unfold m_interlock_Parse_b7
    refine Gd.bind_eq (or_whole h.ok hsz hw) (Gd.ite (fun h => by simp [fin] at h) (fun _ => Gd.ite (fun h => ?_) (fun _ => Gd.nd (by simp; omega) ?_)))
    · simp [fin, hfl] at h; omega
    · have : r.rule = ⟨true, r.s, [] ++ r.t.flat 0⟩ := by unfold Rl.rule; rw [hc]; rfl
      rw [this] at hn
      exact hn
  | false =>
    refine Gd.bind_eq (take_miss (show ba (kVerb false) ≠ ba kClose by decide) _ _ _) (Gd.ite (fun h => by cases h) (fun _ => Gd.bind_eq (take_hit (ba kOpen) _ _ _) (Gd.ite (fun h => by cases h) (fun _ => Gd.bind_eq (pname_ok h.nm _ _ _) (Gd.bind_eq (take_hit (ba kWhen) _ _ _) (Gd.ite (fun h => by cases h) (fun _ => ?_)))))))
    unfold m_interlock_Parse_b6
    refine Gd.bind_eq (or_whole h.ok hsz hw) (Gd.ite (fun h => by simp [fin] at h) (fun _ => Gd.ite (fun h => ?_) (fun _ => Gd.nd (by simp; omega) ?_)))
    · simp [fin, hfl] at h; omega
    · have : r.rule = ⟨false, r.s, [] ++ r.t.flat 0⟩ := by unfold Rl.rule; rw [hc]; rfl
      rw [this] at hn
      exact hn
theorem parse_of {rs : List Rl} (h : ∀ r ∈ rs, r.Ok) (hl : rs.length ≤ 24) (hz : (linesT (rs.map Rl.line)).length ≤ 8192) : m_interlock_Parse (ba (linesT (rs.map Rl.line))) = some (rs.map Rl.rule, 0, 0) := by
  refine Gd.eq.1 ?_
  unfold m_interlock_Parse
  refine Gd.ite (fun hb => by simp [ba_size] at hb; omega) (fun _ => ?_)
  by_cases hne : rs = []
  · subst hne
    exact Gd.ite (fun _ => Gd.ret rfl) (fun h => by cases h)
  have hne' : rs.map Rl.line ≠ [] := fun e => hne (by simpa using e)
  have ej := linesT_join hne'
  have hjl : (joinL 10 (rs.map Rl.line)).length < 1000000 := by have := congrArg List.length ej; simp at this; omega
  refine Gd.ite (fun hb => ?_) (fun _ => ?_)
  · have := congrArg ByteArray.size (of_decide_eq_true hb)
    rw [ba_size, ej] at this
    simp at this
    exact absurd this (by show ¬ _ = 0; omega)
  rw [ej]
  refine Gd.bind_eq (trim_eq _ hjl) (Gd.bind_eq (split_eq _ 10 (by rw [ba_size]; omega)) (Gd.bind_eq (has_eq _ _ hjl) (Gd.ite (fun h => by simp at h) (fun _ => ?_))))
  rw [bl_ba, split_join hne' (fun w hw => by obtain ⟨r, hr, rfl⟩ := List.mem_map.1 hw; exact line10 (h r hr))]
  refine Gd.forI (fun k ys (z : List Rule) => ∃ dn qs : List Rl, rs = dn ++ qs ∧ k = dn.length ∧ ys = (qs.map Rl.line).map ba ∧ z = dn.map Rl.rule) (fun k y ys z nx hI hn => ?_) (fun k z hI => ?_) _ _ _ ⟨[], rs, rfl, rfl, rfl, rfl⟩
  · obtain ⟨dn, qs, e1, rfl, e2, rfl⟩ := hI
    cases qs with
    | nil => cases e2
    | cons r qs =>
      simp only [List.map_cons, List.cons.injEq] at e2
      obtain ⟨rfl, rfl⟩ := e2
      have hdl : dn.length < 24 := by have := congrArg List.length e1; simp at this; omega
      exact line_ok (h r (by rw [e1]; simp)) hdl (by simp; omega) (hn _ ⟨dn ++ [r], qs, by rw [e1]; simp, by simp, rfl, by simp⟩)
  · obtain ⟨dn, qs, e1, _, e2, rfl⟩ := hI
    have : qs = [] := by cases qs with
      | nil => rfl
      | cons _ _ => cases e2
    subst this
    rw [List.append_nil] at e1
    subst e1
    exact Gd.ret rfl

/-! ### A line that is read -/
theorem Wm_split (l : List UInt8) : Wm ((splitL 32 l).map ba) = l.length + 1 := by
  have key : ∀ ws : List Wd, ws ≠ [] → Wm (ws.map ba) = (joinL 32 ws).length + 1 := by
    intro ws
    induction ws with
    | nil => intro h; exact absurd rfl h
    | cons w r ih =>
      intro _
      rw [List.map_cons, Wm_cons, ba_size]
      cases r with
      | nil => simp [Wm, joinL]
      | cons v r =>
        rw [ih (by simp), joinL_cons (w := w) (b := v :: r) (by simp), List.length_append, List.length_cons]
        omega
  rw [key _ (fun e => by have := splitL_len 32 l; rw [e] at this; simp at this), join_split]
theorem wm_join {ws : List Wd} (h : ws ≠ []) : wm ws = (joinL 32 ws).length + 1 := by
  induction ws with
  | nil => exact absurd rfl h
  | cons w r ih =>
    rw [wm_cons]
    cases r with
    | nil => simp [wm, joinL]
    | cons v r =>
      rw [ih (by simp), joinL_cons (w := w) (b := v :: r) (by simp), List.length_append, List.length_cons]
      omega
theorem tail_snd {ws : List ByteArray} {c : Bool} (hs : ∀ w ∈ ws, w.size ≤ 10000) (hl : ws.length ≤ 10000) :
    Gd (m_interlock_parser_or m_interlock_parser_factor ⟨ws, [], c⟩) (fun r => r.2.bad = false → r.2.words.length = 0 → c = false ∧ ∃ t : Tr, t.Ok ∧ r.2.nodes = t.flat 0 ∧ wm t.wds ≤ Wm ws) := by
  rw [fac_eq]
  refine (or_snd (fac_snd FUEL) ⟨ws, [], c⟩ ⟨hs, by simp only [FUEL]; omega, by simp only [List.length_nil]; omega⟩).mono ?_
  rintro r ⟨src, h1, h2, h3⟩ hb h0
  obtain ⟨hc, t, t1, t2, t3, t4⟩ := h3 hb
  have : r.2.words = [] := List.eq_nil_of_length_eq_zero h0
  simp only at h1 t2
  rw [this, List.append_nil] at h1
  rw [h1]
  exact ⟨hc, t, t1, by rw [t2]; simp, t4⟩
theorem line_snd {line : ByteArray} (hz : line.size ≤ 8192) {k : Nat} {out : List Rule} (ho : out.length ≤ 1000) {nx : List Rule → Option PR} {Q : PR → Prop} (hrej : ∀ e, e ≠ 0 → Q ([], (k : Int), e))
    (hacc : ∀ r : Rl, r.Ok → k < 24 → r.line.length ≤ line.size → Gd (nx (out ++ [r.rule])) Q) : Gd (m_interlock_Parse_b5 k line out nx) Q := by
  have hsp := split_eq line 32 (by omega)
  have hW := Wm_split (bl line)
  rw [bl_len] at hW
  have hws : ∀ w ∈ (splitL 32 (bl line)).map ba, w.size ≤ 10000 := fun w hw => by
    have : ∀ (L : List ByteArray), w ∈ L → w.size + 1 ≤ Wm L := by
      intro L
      induction L with
      | nil => intro h; cases h
      | cons a r ih =>
        intro h
        rw [Wm_cons]
        rcases List.mem_cons.1 h with rfl | h
        · omega
        · have := ih h; omega
    have := this _ hw
    omega
  have hll : ((splitL 32 (bl line)).map ba).length ≤ 10000 := by
    have : ∀ (L : List ByteArray), L.length ≤ Wm L := by
      intro L
      induction L with
      | nil => exact Nat.le_refl _
      | cons a r ih => rw [Wm_cons, List.length_cons]; omega
    have := this ((splitL 32 (bl line)).map ba)
    omega
  unfold m_interlock_Parse_b5
  refine Gd.bind_eq hsp ?_
  generalize (splitL 32 (bl line)).map ba = L at hW hws hll
  -- the end, for either verb
  have fit : ∀ (c : Bool) (w : ByteArray) (t : Tr) (ws : List ByteArray), Nm w → t.Ok → wm t.wds ≤ Wm ws → L = ba (kVerb c) :: w :: ba kWhen :: ws → (Rl.mk c w t).line.length ≤ line.size := fun c w t ws h1 h2 h3 h4 => by
    have := wm_join (ws := (Rl.mk c w t).wds) (by simp [Rl.wds])
    have e : wm (Rl.mk c w t).wds = (kVerb c).length + 1 + ((bl w).length + 1 + (kWhen.length + 1 + wm t.wds)) := by
      unfold Rl.wds
      rw [wm_cons, wm_cons, wm_cons]
    rw [h4, Wm_cons, Wm_cons, Wm_cons, ba_size, ba_size] at hW
    have hb := bl_len w
    unfold Rl.line
    omega
  rcases take_cases L [] false (ba kClose) with ⟨L1, rfl, ht⟩ | ht
  · refine Gd.bind_eq ht (Gd.ite (fun _ => ?_) (fun h => by cases h))
    simp only [List.length_cons] at hll
    have endc : ∀ (w : ByteArray) (p : Ps) (ws : List ByteArray) (c : Bool), (∀ x ∈ ws, x.size ≤ 10000) → ws.length ≤ 10000 → (c = false → Nm w ∧ L1 = w :: ba kWhen :: ws) → Gd (m_interlock_Parse_b7 out nx k (w, p) ws [] c) Q := fun w p ws c h1 h2 h3 => by
      unfold m_interlock_Parse_b7
      refine Gd.bnd (tail_snd h1 h2) (fun r hr => Gd.ite (fun _ => Gd.ret (hrej 5 (by omega))) (fun hb => ?_))
      simp only [Bool.or_eq_false_iff, decide_eq_false_iff_not] at hb
      obtain ⟨hc, t, t1, t2, t3⟩ := hr hb.1 (by omega)
      obtain ⟨hw, hL⟩ := h3 hc
      refine Gd.ite (fun _ => Gd.ret (hrej 2 (by omega))) (fun h4 => ?_)
      simp only [Bool.or_eq_false_iff, decide_eq_false_iff_not] at h4
      rw [t2] at h4 ⊢
      rw [flat_len] at h4
      refine Gd.nd (by simp; omega) (hacc ⟨true, w, t⟩ ⟨hw, t1, by simp only; omega⟩ (by omega) (fit true w t ws hw t1 t3 (by rw [hL]; rfl)))
    rcases pname_cases L1 [] false (fun w hw => hws w (by simp [hw])) with ⟨w, L2, rfl, hw, hn⟩ | hn
    · refine Gd.bind_eq hn ?_
      simp only [List.length_cons] at hll
      rcases take_cases L2 [] false (ba kWhen) with ⟨L3, rfl, ht2⟩ | ht2
      · simp only [List.length_cons] at hll
        exact Gd.bind_eq ht2 (Gd.ite (fun h => by cases h) (fun _ => endc w _ L3 false (fun x hx => hws x (by simp [hx])) (by omega) (fun _ => ⟨hw, rfl⟩)))
      · exact Gd.bind_eq ht2 (Gd.ite (fun _ => endc w _ L2 true (fun x hx => hws x (by simp [hx])) (by omega) (fun h => by cases h)) (fun h => by cases h))
    · refine Gd.bind_eq hn ?_
      rcases take_cases L1 [] true (ba kWhen) with ⟨L3, rfl, ht2⟩ | ht2
      · simp only [List.length_cons] at hll
        exact Gd.bind_eq ht2 (Gd.ite (fun h => by cases h) (fun _ => endc _ _ L3 true (fun x hx => hws x (by simp [hx])) (by omega) (fun h => by cases h)))
      · exact Gd.bind_eq ht2 (Gd.ite (fun _ => endc _ _ L1 true (fun x hx => hws x (by simp [hx])) (by omega) (fun h => by cases h)) (fun h => by cases h))
  refine Gd.bind_eq ht (Gd.ite (fun h => by cases h) (fun _ => ?_))
  rcases take_cases L [] false (ba kOpen) with ⟨L1, rfl, ht⟩ | ht
  · refine Gd.bind_eq ht (Gd.ite (fun h => by cases h) (fun _ => ?_))
    simp only [List.length_cons] at hll
    have endc : ∀ (w : ByteArray) (p : Ps) (ws : List ByteArray) (c : Bool), (∀ x ∈ ws, x.size ≤ 10000) → ws.length ≤ 10000 → (c = false → Nm w ∧ L1 = w :: ba kWhen :: ws) → Gd (m_interlock_Parse_b6 out nx k (w, p) ws [] c) Q := fun w p ws c h1 h2 h3 => by
      unfold m_interlock_Parse_b6
      refine Gd.bnd (tail_snd h1 h2) (fun r hr => Gd.ite (fun _ => Gd.ret (hrej 5 (by omega))) (fun hb => ?_))
      simp only [Bool.or_eq_false_iff, decide_eq_false_iff_not] at hb
      obtain ⟨hc, t, t1, t2, t3⟩ := hr hb.1 (by omega)
      obtain ⟨hw, hL⟩ := h3 hc
      refine Gd.ite (fun _ => Gd.ret (hrej 2 (by omega))) (fun h4 => ?_)
      simp only [Bool.or_eq_false_iff, decide_eq_false_iff_not] at h4
      rw [t2] at h4 ⊢
      rw [flat_len] at h4
      refine Gd.nd (by simp; omega) (hacc ⟨false, w, t⟩ ⟨hw, t1, by simp only; omega⟩ (by omega) (fit false w t ws hw t1 t3 (by rw [hL]; rfl)))
    rcases pname_cases L1 [] false (fun w hw => hws w (by simp [hw])) with ⟨w, L2, rfl, hw, hn⟩ | hn
    · refine Gd.bind_eq hn ?_
      simp only [List.length_cons] at hll
      rcases take_cases L2 [] false (ba kWhen) with ⟨L3, rfl, ht2⟩ | ht2
      · simp only [List.length_cons] at hll
        exact Gd.bind_eq ht2 (Gd.ite (fun h => by cases h) (fun _ => endc w _ L3 false (fun x hx => hws x (by simp [hx])) (by omega) (fun _ => ⟨hw, rfl⟩)))
      · exact Gd.bind_eq ht2 (Gd.ite (fun _ => endc w _ L2 true (fun x hx => hws x (by simp [hx])) (by omega) (fun h => by cases h)) (fun h => by cases h))
    · refine Gd.bind_eq hn ?_
      rcases take_cases L1 [] true (ba kWhen) with ⟨L3, rfl, ht2⟩ | ht2
      · simp only [List.length_cons] at hll
        exact Gd.bind_eq ht2 (Gd.ite (fun h => by cases h) (fun _ => endc _ _ L3 true (fun x hx => hws x (by simp [hx])) (by omega) (fun h => by cases h)))
      · exact Gd.bind_eq ht2 (Gd.ite (fun _ => endc _ _ L1 true (fun x hx => hws x (by simp [hx])) (by omega) (fun h => by cases h)) (fun h => by cases h))
  exact Gd.bind_eq ht (Gd.ite (fun _ => Gd.ret (hrej 5 (by omega))) (fun h => by cases h))
theorem has_gd (s : ByteArray) (hs : s.size ≤ 8192) (hne : s ≠ ⟨#[]⟩) : ∃ b, m_strings_HasSuffix s (ba [10]) = some b ∧ (b = true → ∃ a, bl s = a ++ [10]) ∧ (b = false → m_strings_TrimSuffix s (ba [10]) = some s) := by
  rcases List.eq_nil_or_concat (bl s) with h | ⟨a, c, h⟩
  · exact absurd (bl_inj (a := s) (b := ⟨#[]⟩) (by rw [h])) hne
  · have h' : bl s = a ++ [c] := by simpa using h
    have e : s = ba (a ++ [c]) := bl_inj (by rw [h', bl_ba])
    have hl : a.length < 1000000 := by have := congrArg List.length h'; rw [bl_len] at this; simp at this; omega
    refine ⟨decide (c = 10), by rw [e]; exact has_eq a c hl, fun hb => ?_, fun hb => ?_⟩
    · have : c = 10 := by simpa using hb
      exact ⟨a, by rw [h', this]⟩
    · have : c ≠ 10 := by simpa using hb
      rw [e]; exact trim_ne a c this hl
theorem parse_gd (s : ByteArray) : Gd (m_interlock_Parse s) (fun r => (r.2.2 ≠ 0 → r.1 = []) ∧ (r.2.2 = 0 → ∃ rs : List Rl, (∀ r ∈ rs, r.Ok) ∧ rs.length ≤ 24 ∧ r.1 = rs.map Rl.rule ∧ (linesT (rs.map Rl.line)).length ≤ s.size ∧ s.size ≤ 8192)) := by
  unfold m_interlock_Parse
  refine Gd.ite (fun _ => Gd.ret ⟨fun _ => rfl, fun h => absurd h (by decide)⟩) (fun hs => ?_)
  have hs : s.size ≤ 8192 := by simp at hs; omega
  refine Gd.ite (fun h => Gd.ret ⟨fun _ => rfl, fun _ => ⟨[], by simp, by simp, rfl, by simp [linesT], hs⟩⟩) (fun h0 => ?_)
  have h0 : s ≠ ⟨#[]⟩ := by simpa using h0
  obtain ⟨b, hb, hb1, hb2⟩ := has_gd s hs h0
  cases b with
  | false => exact Gd.bind_eq (hb2 rfl) (Gd.bind_eq (split_eq s 10 (by omega)) (Gd.bind_eq hb (Gd.ite (fun _ => Gd.ret ⟨fun _ => rfl, fun h => absurd h (show ¬ (5 : Int) = 0 by decide)⟩) (fun h => by cases h))))
  | true =>
    obtain ⟨a, ha⟩ := hb1 rfl
    have hal : a.length + 1 = s.size := by have := congrArg List.length ha; rw [bl_len] at this; simp at this; omega
    have e : s = ba (a ++ [10]) := bl_inj (by rw [ha, bl_ba])
    have htr : m_strings_TrimSuffix s (ba [10]) = some (ba a) := by rw [e]; exact trim_eq a (by omega)
    refine Gd.bind_eq htr (Gd.bind_eq (split_eq (ba a) 10 (by rw [ba_size]; omega)) (Gd.bind_eq hb (Gd.ite (fun h => by cases h) (fun _ => ?_))))
    rw [bl_ba]
    have hne : splitL 10 a ≠ [] := fun e => by have := splitL_len 10 a; rw [e] at this; simp at this
    have htot : (linesT (splitL 10 a)).length = s.size := by rw [linesT_join hne, join_split]; simp; omega
    refine Gd.forI (fun k ys (z : List Rule) => ∃ (dn qs : List Wd) (rs : List Rl), splitL 10 a = dn ++ qs ∧ ys = qs.map ba ∧ rs.length = k ∧ rs.length ≤ 24 ∧ (∀ r ∈ rs, r.Ok) ∧ z = rs.map Rl.rule ∧ (linesT (rs.map Rl.line)).length ≤ (linesT dn).length) (fun k y ys z nx hI hn => ?_) (fun k z hI => ?_) _ _ _ ⟨[], splitL 10 a, [], rfl, rfl, rfl, by simp, by simp, rfl, by simp [linesT]⟩
    · obtain ⟨dn, qs, rs, e1, e2, rfl, e4, e5, rfl, e7⟩ := hI
      cases qs with
      | nil => cases e2
      | cons q qs =>
        simp only [List.map_cons, List.cons.injEq] at e2
        obtain ⟨rfl, rfl⟩ := e2
        have hq : q.length ≤ 8192 := by
          have : (linesT (dn ++ q :: qs)).length = s.size := by rw [← e1]; exact htot
          simp [linesT] at this
          omega
        refine line_snd (by rw [ba_size]; exact hq) (by simp; omega) (fun e he => ⟨fun _ => rfl, fun h => absurd h he⟩) (fun r hr hk hrl => hn _ ⟨dn ++ [q], qs, rs ++ [r], by rw [e1]; simp, rfl, by simp, by simp; omega, fun x hx => ?_, by simp, ?_⟩)
        · rcases List.mem_append.1 hx with hx | hx
          · exact e5 x hx
          · rw [List.mem_singleton] at hx; subst hx; exact hr
        · rw [List.map_append, List.map_cons, List.map_nil, linesT_app, linesT_app]
          rw [ba_size] at hrl
          simp only [List.length_append, List.length_cons, List.length_nil]
          omega
    · obtain ⟨dn, qs, rs, e1, e2, _, e4, e5, rfl, e7⟩ := hI
      have : qs = [] := by cases qs with
        | nil => rfl
        | cons _ _ => cases e2
      subst this
      rw [List.append_nil] at e1
      rw [← e1, htot] at e7
      exact Gd.ret ⟨fun h => absurd rfl h, fun _ => ⟨rs, e5, e4, rfl, e7, hs⟩⟩

/-! ### The law -/
theorem nodes_self (l : List Node) : m_slices_Equal_api_InterlockNode_api_InterlockNode l l = some true := by
  refine Gd.eq.1 ?_
  unfold m_slices_Equal_api_InterlockNode_api_InterlockNode
  refine Gd.ite (fun h => by simp at h) (fun _ => Gd.forN (Q := fun x => x = true) (fun m i _ => m + i = l.length) (fun m i s nx hI hn => ?_) (fun i s _ => ⟨true, rfl, rfl⟩) _ _ _ (by show ((l.length : Int)).toNat + 0 = l.length; omega))
  unfold m_slices_Equal_api_InterlockNode_api_InterlockNode_b1
  refine Gd.idxN (show i < l.length by omega) (Gd.idxN (show i < l.length by omega) (Gd.ite (fun h => by simp at h) (fun _ => hn _ (by omega))))
theorem same_self (l : List Rule) : m_gridhallkeep4_sameRules l l = some true := by
  refine Gd.eq.1 ?_
  unfold m_gridhallkeep4_sameRules m_slices_EqualFunc_api_InterlockRule_api_InterlockRule_api_InterlockRule_api_InterlockRule__gridhallkeep4_sameRules_1
  refine Gd.bnd (P := fun x => x = true) (Gd.ite (fun h => by simp at h) (fun _ => Gd.forI (Q := fun x => x = true) (fun k ys _ => ys = l.drop k) (fun k y ys s nx hI hn => ?_) (fun i s _ => ⟨true, rfl, rfl⟩) _ _ _ (by simp))) (fun a h => Gd.ret h)
  obtain ⟨hy, hys⟩ := drop_cons hI
  unfold m_slices_EqualFunc_api_InterlockRule_api_InterlockRule_api_InterlockRule_api_InterlockRule__gridhallkeep4_sameRules_1_b1
  have hs : m_gridhallkeep4_sameRules_1 y y = some true := by
    refine Gd.eq.1 ?_
    unfold m_gridhallkeep4_sameRules_1
    exact Gd.ite (fun _ => Gd.ite (fun _ => Gd.bind_eq (nodes_self y.Cond) (Gd.ret rfl)) (fun h => by simp at h)) (fun h => by simp at h)
  exact Gd.ix (by omega) (by simpa using hy) (Gd.bind_eq hs (Gd.ite (fun h => by cases h) (fun _ => hn _ hys)))
theorem InterlockBack_of (hfact : m_gridhallkeep4_interlockFact = some true) (l : List Rule) (s : ByteArray) (hl : ∀ r ∈ l, RuleSz r) : m_gridhallkeep4_InterlockBack l s = some true := by
  refine Gd.eq.1 ?_
  obtain ⟨⟨u, k⟩, hp, e, he, hq⟩ := print_gd l hl
  have hk : k = 0 ∨ k = 2 ∨ k = e := by
    rcases hq with ⟨_, h⟩ | ⟨_, rs, _, _, _, ⟨h, _⟩ | ⟨h, _⟩⟩ <;> simp only [Prod.mk.injEq] at h <;> omega
  have rest : Gd (m_gridhallkeep4_InterlockBack_b1 l s (u, k)) (fun r => r = true) := by
    obtain ⟨⟨m, i, f⟩, hd, hd1, hd2⟩ := parse_gd s
    unfold m_gridhallkeep4_InterlockBack_b1
    refine Gd.bind_eq hd (Gd.ite (fun h => ?_) (fun h => ?_))
    · have h : f ≠ 0 := by simpa using h
      have hm : m = [] := hd1 h
      subst hm
      refine Gd.bind_eq hfact (Gd.ite (fun _ => Gd.ite (fun _ => Gd.ite (fun _ => Gd.ret rfl) (fun k0 => Gd.ite (fun _ => Gd.ret rfl) (fun k2 => Gd.bind_eq he (Gd.ret ?_)))) (fun h => by simp at h)) (fun h => by cases h))
      have k0 : ¬ k = 0 := by simpa using k0
      have k2 : ¬ k = 2 := by simpa using k2
      have : k = e := by
        rcases hk with h | h | h
        · exact absurd h k0
        · exact absurd h k2
        · exact h
      simp [this]
    · have h : f = 0 := by simpa using h
      obtain ⟨rs, q1, q2, q3, q4, q5⟩ := hd2 h
      simp only at q3
      subst q3
      have hlen : (linesT (rs.map Rl.line)).length ≤ 8192 := by omega
      -- the print is that of rs itself
      have hprint : m_interlock_Print (rs.map Rl.rule) = some (ba (linesT (rs.map Rl.line)), 0) := by
        refine Gd.eq.1 ?_
        unfold m_interlock_Print
        refine Gd.bind_eq (check_ok q1 q2) (Gd.ite (fun h => by simp at h) (fun _ => ?_))
        refine Gd.forI (fun k ys (z : ByteArray) => ∃ dn qs : List Rl, rs = dn ++ qs ∧ ys = qs.map Rl.rule ∧ z = ba (linesT (dn.map Rl.line))) ?_ ?_ _ 0 _ ⟨[], rs, rfl, rfl, rfl⟩
        · rintro k y ys z nx ⟨dn, qs, e1, e2, rfl⟩ hnx
          cases qs with
          | nil => cases e2
          | cons r qs =>
            simp only [List.map_cons, List.cons.injEq] at e2
            obtain ⟨rfl, rfl⟩ := e2
            have hr := q1 r (by rw [e1]; simp)
            exact print_line hr (by
              have := lines_len (rs := dn) (fun x hx => q1 x (by rw [e1]; simp [hx]))
              have hdl : dn.length ≤ 24 := by have := congrArg List.length e1; simp at this; omega
              omega) (hnx _ ⟨dn ++ [r], qs, by rw [e1]; simp, rfl, by rw [List.map_append, List.map_cons, List.map_nil, linesT_app]⟩)
        · rintro k z ⟨dn, qs, e1, e2, rfl⟩
          have : qs = [] := by cases qs with
            | nil => rfl
            | cons _ _ => cases e2
          subst this
          rw [List.append_nil] at e1
          subst e1
          exact Gd.ite (fun h => by simp [ba_size] at h; omega) (fun h => Gd.ret rfl)
      refine Gd.bind_eq hprint (Gd.bind_eq (parse_of q1 q2 hlen) (Gd.bind_eq hfact (Gd.ite (fun _ => Gd.ite (fun _ => Gd.ite (fun _ => Gd.ite (fun _ => Gd.bind_eq (same_self _) (Gd.ret rfl)) (fun h => ?_)) (fun h => by simp at h)) (fun h => by simp at h)) (fun h => by cases h))))
      simp [ba_size] at h; omega
  unfold m_gridhallkeep4_InterlockBack
  refine Gd.bind_eq hp (Gd.ite (fun h => ?_) (fun h => rest))
  have h : k = 0 := by simpa using h
  rcases hq with ⟨h1, h2⟩ | ⟨_, rs, q1, q2, rfl, ⟨q3, q4⟩ | ⟨q3, _⟩⟩
  · have := (Prod.mk.inj h2).2; omega
  · have hu := (Prod.mk.inj q3).1
    subst hu
    exact Gd.bind_eq (parse_of q1 q2 q4) (Gd.ite (fun _ => Gd.ite (fun _ => Gd.bind_eq (same_self _) (Gd.ite (fun h => by cases h) (fun _ => rest))) (fun h => by simp at h)) (fun h => by simp at h))
  · have := (Prod.mk.inj q3).2; omega
end Go.Sim
