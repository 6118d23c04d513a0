/-
  Rules: their texts, printed and parsed.
-/
import Derived.Test.YtcepgfpbmembnaaDoorIbkG
import Derived.KernelRfl
namespace Go.Sim
open Go
set_option linter.unusedVariables false
set_option linter.unusedSimpArgs false
set_option linter.unusedSectionVars false
set_option linter.unnecessarySimpa false
open Tr

structure Rl where
  c : Bool
  s : ByteArray
  t : Tr
def Rl.rule (r : Rl) : Rule := ⟨r.c, r.s, r.t.flat 0⟩
structure Rl.Ok (r : Rl) : Prop where
  nm : Nm r.s
  ok : r.t.Ok
  sz : r.t.sz ≤ 40
def kVerb (c : Bool) : Wd := if c = true then kClose else kOpen
def Rl.wds (r : Rl) : List Wd := kVerb r.c :: bl r.s :: kWhen :: r.t.wds
def Rl.line (r : Rl) : List UInt8 := joinL 32 r.wds
def RuleSz (r : Rule) : Prop := r.Switch.size ≤ maxLen ∧ ∀ x ∈ r.Cond, x.Name.size ≤ maxLen

/-! ### Check -/
theorem check_gd (l : List Rule) (hl : ∀ r ∈ l, RuleSz r) : Gd (m_interlock_Check l) (fun e => e = 0 → ∃ rs : List Rl, (∀ r ∈ rs, r.Ok) ∧ rs.length ≤ 24 ∧ l = rs.map Rl.rule) := by
  unfold m_interlock_Check
  refine Gd.ite (fun h => Gd.ret (by omega)) (fun h => ?_)
  simp only [decide_eq_false_iff_not] at h
  refine Gd.forI (fun k ys _ => ∃ rs : List Rl, (∀ r ∈ rs, r.Ok) ∧ l = rs.map Rl.rule ++ ys) ?_ ?_ l 0 () ⟨[], by simp, by simp⟩
  · rintro k y ys _ nx ⟨rs, h1, h2⟩ hnx
    have hy := hl y (by rw [h2]; simp)
    obtain ⟨b, hb⟩ := name_some y.Switch hy.1
    unfold m_interlock_Check_b1
    refine Gd.bind_eq hb (Gd.ite (fun _ => Gd.ret (by omega)) (fun hbt => Gd.bnd (cond_tree y.Cond hy.2) (fun e he => Gd.ite (fun h => Gd.ret (fun h0 => by simp at h; exact absurd h0 h)) (fun h0 => ?_))))
    have h0 : e = 0 := by simpa using h0
    have hbt : b = true := by simpa using hbt
    obtain ⟨t, t1, t2, t3⟩ := he h0
    rw [hbt] at hb
    refine hnx () ⟨rs ++ [⟨y.Close, y.Switch, t⟩], fun r hr => ?_, ?_⟩
    · rcases List.mem_append.1 hr with hr | hr
      · exact h1 r hr
      · rw [List.mem_singleton] at hr; subst hr; exact ⟨hb, t1, t3⟩
    · rw [h2]
      cases y with
      | mk c s cond =>
        simp only at t2
        subst t2
        simp [Rl.rule]
  · rintro k _ ⟨rs, h1, h2⟩
    rw [List.append_nil] at h2
    exact Gd.ret fun _ => ⟨rs, h1, by have := congrArg List.length h2; simp at this; omega, h2⟩
theorem check_ok {rs : List Rl} (h : ∀ r ∈ rs, r.Ok) (hl : rs.length ≤ 24) : m_interlock_Check (rs.map Rl.rule) = some 0 := by
  refine Gd.eq.1 ?_
  unfold m_interlock_Check
  refine Gd.ite (fun h => by simp at h; omega) (fun _ => ?_)
  refine Gd.forI (Q := fun x => x = 0) (fun k ys _ => ∃ qs : List Rl, (∀ r ∈ qs, r.Ok) ∧ ys = qs.map Rl.rule) ?_ (fun k _ _ => Gd.ret rfl) _ 0 () ⟨rs, h, rfl⟩
  rintro k y ys _ nx ⟨qs, h1, h2⟩ hnx
  cases qs with
  | nil => cases h2
  | cons r qs =>
    simp only [List.map_cons, List.cons.injEq] at h2
    obtain ⟨rfl, rfl⟩ := h2
    have hr := h1 r (by simp)
    unfold m_interlock_Check_b1
    exact Gd.bind_eq (show m_netmodel_Name r.s = some true from hr.nm) (Gd.ite (fun h => by cases h) (fun _ => Gd.bind_eq (cond_flat hr.ok hr.sz) (Gd.ite (fun h => by simp at h) (fun _ => hnx () ⟨qs, fun q hq => h1 q (List.mem_cons_of_mem _ hq), rfl⟩))))

/-! ### Lines -/
theorem line_eq (r : Rl) : r.line = kVerb r.c ++ 32 :: (bl r.s ++ 32 :: (kWhen ++ 32 :: joinL 32 r.t.wds)) := by
  unfold Rl.line Rl.wds
  rw [joinL_cons (by simp), joinL_cons (by simp), joinL_cons (wds_ne r.t)]
theorem verb_len (c : Bool) : (kVerb c).length ≤ 5 := by cases c <;> decide
theorem line_len {r : Rl} (h : r.Ok) : r.line.length ≤ 830 := by
  have h1 := verb_len r.c
  have h2 := (nm_facts h.nm).2.1
  have h3 := txt_len r.t h.ok
  have h4 := h.sz
  rw [← bl_len] at h2
  have h5 : kWhen.length = 4 := rfl
  rw [line_eq]
  simp only [List.length_append, List.length_cons]
  omega
theorem lines_len : ∀ {rs : List Rl}, (∀ r ∈ rs, r.Ok) → (linesT (rs.map Rl.line)).length ≤ 831 * rs.length
  | [], _ => by simp [linesT]
  | r :: rs, h => by
    have h1 := lines_len (rs := rs) (fun x hx => h x (List.mem_cons_of_mem _ hx))
    have h2 := line_len (h r (by simp))
    rw [List.map_cons, show linesT (r.line :: rs.map Rl.line) = (r.line ++ [10]) ++ linesT (rs.map Rl.line) from rfl]
    simp only [List.length_append, List.length_cons, List.length_nil]
    omega
def Clean (w : Wd) : Prop := (32 : UInt8) ∉ w ∧ (10 : UInt8) ∉ w
theorem nm_clean {s : ByteArray} (h : Nm s) : Clean (bl s) := by
  have := (nm_facts h).2.2.1
  exact ⟨fun hm => by have := this _ hm; simp at this, fun hm => by have := this _ hm; simp at this⟩
theorem par_clean {b : Bool} {ws : List Wd} (h : ∀ w ∈ ws, Clean w) : ∀ w ∈ par b ws, Clean w := by
  unfold par
  split
  · intro w hw
    rcases List.mem_cons.1 hw with rfl | hw
    · exact ⟨by decide, by decide⟩
    · rcases List.mem_append.1 hw with hw | hw
      · exact h w hw
      · rw [List.mem_singleton] at hw; subst hw; exact ⟨by decide, by decide⟩
  · exact h
theorem wds_clean : ∀ (t : Tr), t.Ok → ∀ w ∈ t.wds, Clean w
  | .alw, _ => by intro w hw; rw [Tr.wds, List.mem_singleton] at hw; subst hw; exact ⟨by decide, by decide⟩
  | .nev, _ => by intro w hw; rw [Tr.wds, List.mem_singleton] at hw; subst hw; exact ⟨by decide, by decide⟩
  | .opn s, h => by
    intro w hw
    rcases List.mem_cons.1 hw with rfl | hw
    · exact ⟨by decide, by decide⟩
    · rw [List.mem_singleton] at hw; subst hw; exact nm_clean h
  | .cls s, h => by
    intro w hw
    rcases List.mem_cons.1 hw with rfl | hw
    · exact ⟨by decide, by decide⟩
    · rw [List.mem_singleton] at hw; subst hw; exact nm_clean h
  | .not a, h => by
    intro w hw
    rcases List.mem_cons.1 hw with rfl | hw
    · exact ⟨by decide, by decide⟩
    · exact par_clean (wds_clean a h) w hw
  | .and a b, h => by
    intro w hw
    rcases List.mem_append.1 hw with hw | hw
    · exact par_clean (wds_clean a h.1) w hw
    · rcases List.mem_cons.1 hw with rfl | hw
      · exact ⟨by decide, by decide⟩
      · exact par_clean (wds_clean b h.2) w hw
  | .or a b, h => by
    intro w hw
    rcases List.mem_append.1 hw with hw | hw
    · exact wds_clean a h.1 w hw
    · rcases List.mem_cons.1 hw with rfl | hw
      · exact ⟨by decide, by decide⟩
      · exact par_clean (wds_clean b h.2) w hw
theorem rl_clean {r : Rl} (h : r.Ok) : ∀ w ∈ r.wds, Clean w := by
  intro w hw
  rcases List.mem_cons.1 hw with rfl | hw
  · cases r.c <;> exact ⟨by decide, by decide⟩
  rcases List.mem_cons.1 hw with rfl | hw
  · exact nm_clean h.nm
  rcases List.mem_cons.1 hw with rfl | hw
  · exact ⟨by decide, by decide⟩
  · exact wds_clean r.t h.ok w hw
theorem mem_joinL {c x : UInt8} : ∀ {ws : List Wd}, x ∈ joinL c ws → x = c ∨ ∃ w ∈ ws, x ∈ w
  | [], h => by cases h
  | [w], h => .inr ⟨w, by simp, h⟩
  | w :: v :: r, h => by
    rw [joinL] at h
    rcases List.mem_append.1 h with h | h
    · exact .inr ⟨w, by simp, h⟩
    · rcases List.mem_cons.1 h with h | h
      · exact .inl h
      · rcases mem_joinL (ws := v :: r) h with h | ⟨u, hu, hx⟩
        · exact .inl h
        · exact .inr ⟨u, List.mem_cons_of_mem _ hu, hx⟩
theorem line10 {r : Rl} (h : r.Ok) : (10 : UInt8) ∉ r.line := fun hm => by
  rcases mem_joinL hm with h' | ⟨w, hw, hx⟩
  · exact absurd h' (by decide)
  · exact (rl_clean h w hw).2 hx
theorem line_split {r : Rl} (h : r.Ok) : splitL 32 r.line = r.wds := split_join (by simp [Rl.wds]) (fun w hw => (rl_clean h w hw).1)

/-! ### Print -/
theorem print_line {r : Rl} (hr : r.Ok) {dn : List UInt8} (hd : dn.length ≤ 100000) {nx : ByteArray → Option (ByteArray × Int)} {k : Nat} {Q : ByteArray × Int → Prop} (hn : Gd (nx (ba (dn ++ (r.line ++ [10])))) Q) : Gd (m_interlock_Print_b3 k r.rule (ba dn) nx) Q := by
  have n8 := (nm_facts hr.nm).2.1
  have htl := txt_len r.t hr.ok
  have hsz := hr.sz
  have htx : m_interlock_text r.rule.Cond (IntKind.i64.wrap ((r.rule.Cond.length : Int) - 1)) = some (ba (joinL 32 r.t.wds)) := by
    have hp := r.t.pos
    have hfl : r.rule.Cond.length = r.t.sz := flat_len r.t 0
    rw [hfl, wrap_id (by omega)]
    exact text_eq FUEL r.t (r.t.flat 0) 0 _ (by simp only [FUEL]; omega) hr.ok hsz (fun i x hx => by rw [Nat.zero_add]; exact hx) (by omega)
  have fin : ∀ (v : ByteArray), v = ba (kVerb r.c ++ [32]) → Gd (m_interlock_Print_b4 (ba dn) nx r.rule v) Q := fun v hv => by
    have hvl : v.size ≤ 6 := by rw [hv, ba_size, List.length_append]; have := verb_len r.c; simp; omega
    have z1 : (⟨#[32, 119, 104, 101, 110, 32]⟩ : ByteArray).size = 6 := rfl
    have z2 : (⟨#[10]⟩ : ByteArray).size = 1 := rfl
    have hsw : r.rule.Switch.size ≤ 8 := n8
    have hfin : ba dn ++ ((((v ++ r.rule.Switch) ++ ⟨#[32, 119, 104, 101, 110, 32]⟩) ++ ba (joinL 32 r.t.wds)) ++ ⟨#[10]⟩) = ba (dn ++ (r.line ++ [10])) := by
      refine bl_inj ?_
      rw [bl_app, bl_app, bl_app, bl_app, bl_app, bl_ba, bl_ba, bl_ba, hv, bl_ba, line_eq]
      show _ ++ (((kVerb r.c ++ [32] ++ bl r.s) ++ [32, 119, 104, 101, 110, 32]) ++ joinL 32 r.t.wds ++ [10]) = _
      simp [kWhen]
    unfold m_interlock_Print_b4
    refine Gd.nd ?_ (Gd.nd ?_ (Gd.bind_eq htx (Gd.nd ?_ (Gd.nd ?_ (Gd.nd ?_ ?_)))))
    · simp only [maxLen]; omega
    · simp only [size_app, z1, maxLen]; omega
    · simp only [size_app, z1, ba_size, maxLen]; omega
    · simp only [size_app, z1, z2, ba_size, maxLen]; omega
    · simp only [size_app, z1, z2, ba_size, maxLen]; omega
    · rw [hfin]; exact hn
  unfold m_interlock_Print_b3
  exact Gd.ite (fun hc => fin _ (by have hc : r.c = true := hc; rw [hc]; rfl)) (fun hc => fin _ (by have hc : r.c = false := hc; rw [hc]; rfl))
theorem print_gd (l : List Rule) (hl : ∀ r ∈ l, RuleSz r) : Gd (m_interlock_Print l) (fun r => ∃ e, m_interlock_Check l = some e ∧ (e ≠ 0 ∧ r = (⟨#[]⟩, e) ∨ e = 0 ∧ ∃ rs : List Rl, (∀ r ∈ rs, r.Ok) ∧ rs.length ≤ 24 ∧ l = rs.map Rl.rule ∧
      (r = (ba (linesT (rs.map Rl.line)), 0) ∧ (linesT (rs.map Rl.line)).length ≤ 8192 ∨ r = (⟨#[]⟩, 2) ∧ 8192 < (linesT (rs.map Rl.line)).length))) := by
  obtain ⟨e, he, hq⟩ := check_gd l hl
  unfold m_interlock_Print
  refine Gd.bind_eq he (Gd.ite (fun h => Gd.ret ⟨e, he, .inl ⟨by simpa using h, rfl⟩⟩) (fun h => ?_))
  have h0 : e = 0 := by simpa using h
  obtain ⟨rs, h1, h2, rfl⟩ := hq h0
  refine Gd.forI (fun k ys (z : ByteArray) => ∃ dn qs : List Rl, rs = dn ++ qs ∧ ys = qs.map Rl.rule ∧ z = ba (linesT (dn.map Rl.line))) ?_ ?_ _ 0 _ ⟨[], rs, rfl, rfl, rfl⟩
  · rintro k y ys z nx ⟨dn, qs, e1, e2, rfl⟩ hnx
    cases qs with
    | nil => cases e2
    | cons r qs =>
      simp only [List.map_cons, List.cons.injEq] at e2
      obtain ⟨rfl, rfl⟩ := e2
      have hr := h1 r (by rw [e1]; simp)
      have hdn : ∀ x ∈ dn, x.Ok := fun x hx => h1 x (by rw [e1]; simp [hx])
      have hll := lines_len hdn
      have hdl : dn.length ≤ 24 := by have := congrArg List.length e1; simp at this; omega
      exact print_line hr (by omega) (hnx _ ⟨dn ++ [r], qs, by rw [e1]; simp, rfl, by rw [List.map_append, List.map_cons, List.map_nil, linesT_app]⟩)
  · rintro k z ⟨dn, qs, e1, e2, rfl⟩
    have : qs = [] := by cases qs with
      | nil => rfl
      | cons _ _ => cases e2
    subst this
    rw [List.append_nil] at e1
    subst e1
    refine Gd.ite (fun h => Gd.ret ⟨e, he, .inr ⟨h0, rs, h1, h2, rfl, .inr ⟨rfl, ?_⟩⟩⟩) (fun h => Gd.ret ⟨e, he, .inr ⟨h0, rs, h1, h2, rfl, .inl ⟨rfl, ?_⟩⟩⟩)
    · simp [ba_size] at h; omega
    · simp [ba_size] at h; omega
end Go.Sim
