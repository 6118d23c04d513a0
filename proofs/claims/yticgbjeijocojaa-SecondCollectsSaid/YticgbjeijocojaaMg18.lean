/-
  The pool: a worker's turn, wherever it stands.
  The pool: the starter's turn; THE RUN: on whatever tape the starter comes behind its Wait, all results stored, all others only leaving.
-/
import Derived.Test.YticgbjeijocojaaMg17
set_option linter.unusedVariables false
set_option linter.unusedSimpArgs false
section
set_option linter.unusedVariables false
set_option linter.unusedSimpArgs false
namespace Go.Sim
open Go Go.Conc
open Go.ConcN (CT Apart RelBy sumTo upd sumTo_upd sumTo_congr sumTo_upd_out upd_ne upd_same WD CTag Vc cnt pend isOpen isW3 isFin OpenSt AllQuit WgLive Deaf_still deafBehind_idle others_uncounted bk_cell bk_dis bk_rd bk_rw bk_sem Vc_upd le_sumTo)
open Go.ConcR (stA smA rd wr KK WgAt Bk g_of_ofEvents bk_of_mute ofEvent_loc_mark)

section
variable {P : Program} {p : PD P}

theorem wd_upd (T : Nat → WTag) (i : Nat) (t : WTag) : (fun a => (upd T i t a).wd) = upd (fun a => (T a).wd) i t.wd := by
  funext a
  by_cases h : a = i
  · subst h; rw [upd_same, upd_same]
  · rw [upd_ne _ _ h, upd_ne _ _ h]
theorem wd_same (T : Nat → WTag) (i : Nat) (t : WTag) (h : t.wd = (T i).wd) : (fun a => (upd T i t a).wd) = fun a => (T a).wd := by
  funext a
  by_cases e : a = i
  · subst e; rw [upd_same]; exact h
  · rw [upd_ne _ _ e]
theorem cnt_wd (t : WTag) : cnt t.wd = if 5 ≤ t.stage then 1 else 0 := rfl
theorem Mode.retag' {j : Nat} {D : Nat → WD} {tag tag' : MTag} {st sm : Int} (h : ConcN.Mode j D (p.toC tag) st sm) (e : tag' = tag ∨ (tag = .blk ∧ tag' = .w3)) : ConcN.Mode j D (p.toC tag') st sm := by
  rcases e with rfl | ⟨rfl, rfl⟩
  · exact h
  · exact h.retag (.inr ⟨rfl, rfl⟩)
theorem early_stage {t : WTag} (h : t.early = true) : t.stage = 7 := by cases t <;> first | rfl | cases h
theorem work_stage {t : WTag} {m : Nat} (h : t = .work m) : t.stage = 7 := by subst h; rfl

/-- A STEP OF THE LIBRARY's BOOKKEEPING, by a worker behind its release. -/
theorem book_step (G : p.Geo) (L : p.Laws) {t0 : Trace} {n : Nat} {gs : Array Goroutine} {w0 w w' : World} {sl0 sl : Option (Nat × Nat)} {t : Trace} {j : Nat} {T : Nat → WTag} {X : Nat → Wk P} {B q : Nat → Nat} {tag : MTag} {st sm : Int}
    (hat : At P p.m0 n (crowd gs w0 sl0) t) (hgr : Grew P p.m0 n w) (I : p.Inv t0 gs w t j T X B q tag st sm) {i : Nat} (hi : i < j)
    (hst : stepT P (crowd gs w0 sl0) = runT P (crowd gs w sl) (p.b0 + i)) {g g' : Goroutine} {es : Array Event} (hg : gs[p.b0 + i]? = some g) (hgo : stepG P false g w = .go g' w' es)
    (h6 : (T i).stage ≤ 6) (hAs : Aside p.Wg w w') {st' sm' : Int} (hwg : WgAt p.ty p.Wg w' st' sm') (hbk : ∀ e ∈ es, Bk p.Wg e)
    (hd : ∀ jx e, es[jx]? = some e → (MemAct.ofEvent e).touch? = none ∨ 0 < deafBehind (T i).deaf (es.extract 0 jx))
    {t' : WTag} (h6' : t'.stage ≤ 6) (hws : WS p (p.b0 + i) (B i) (X (i + 1)) w' t' g') (hdeaf : deafBehind (T i).deaf es = t'.deaf)
    {D : Nat → WD} (hD : D = fun a => (T a).wd) (hmode : ∀ tag', (tag' = tag ∨ (tag = .blk ∧ tag' = .w3)) → (mayWake P g = true → g'.status = .running → tag' ≠ .blk) → ConcN.Mode j (upd D i t'.wd) (p.toC tag') st' sm')
    (hlt : (t'.rank < (T i).rank ∧ t'.stage ≤ (T i).stage) ∨ (t'.rank = (T i).rank ∧ t'.stage = (T i).stage ∧ t'.fuel < (T i).fuel)) :
    p.Fwd t0 n (p.mu j T X q tag) := by
  have hC := hAs.block p.C G.hCW
  subst hD
  have hcn : t'.stage ≤ (T i).stage → cnt t'.wd ≤ cnt (T i).wd := fun h => by rw [cnt_wd, cnt_wd]; split <;> split <;> omega
  have hdk : Deaf t (p.b0 + i) = (T i).deaf := I.deafW i hi
  refine worker_step (B' := B i) (x' := X (i + 1)) (t' := t') (st' := st') (sm' := sm') G L hat hgr I hi hst hg hgo (Turn.aside hAs (.inl rfl) (fun _ => ⟨_, _, hwg⟩) _ _) (hAs.block _ G.hChW) hwg ?_ (bk_W G hbk) (bk_P G (.inr (by omega)) (by rw [hAs.size]; have := I.lowS; have := G.hW; omega) hbk)
    (Nat.le_refl _) (by rw [hAs.size]; exact (I.low i).2) hws hdeaf (fun hc => ?_) (fun e => ?_) (fun m e => ?_) (fun idx _ e => ?_) (fun idx _ => ConcN.cell_of_block hC idx) (fun _ => ?_) (fun tag' ht hw => by rw [wd_upd]; exact hmode tag' ht hw) (fun e => Acqs_app (I.acq e) fun i' r hi' hr => ?_) ?_
  · obtain ⟨cs, h1, h2⟩ := I.pay
    exact ⟨cs, hC.trans h1, h2⟩
  · have := early_stage (I.early hc i hi); omega
  · subst e; exact absurd h6' (by simp [WTag.stage])
  · have := work_stage e; omega
  · have := work_stage e; omega
  · obtain ⟨r, hr⟩ := I.rel i hi h6
    exact ⟨r, hr.book hdk _ _ hbk hd⟩
  · by_cases e' : i' = i
    · subst e'; exact hr.book hdk _ _ hbk hd
    · exact hr.appOther g_of_ofEvents (by omega)
  · rcases hlt with ⟨h1, h2⟩ | ⟨h1, h2, h3⟩
    · exact .inl ⟨h1, hcn h2⟩
    · exact .inr ⟨h1, by rw [cnt_wd, cnt_wd, h2], .inr ⟨rfl, h3⟩⟩

/-- An idle step of a slow walk. -/
theorem slow_idle (G : p.Geo) (L : p.Laws) {t0 : Trace} {n : Nat} {gs : Array Goroutine} {w0 w w' : World} {sl0 sl : Option (Nat × Nat)} {t : Trace} {j : Nat} {T : Nat → WTag} {X : Nat → Wk P} {B q : Nat → Nat} {tag : MTag} {st sm : Int}
    (hat : At P p.m0 n (crowd gs w0 sl0) t) (hgr : Grew P p.m0 n w) (I : p.Inv t0 gs w t j T X B q tag st sm) {i : Nat} (hi : i < j)
    (hst : stepT P (crowd gs w0 sl0) = runT P (crowd gs w sl) (p.b0 + i)) {g g' : Goroutine} {es : Array Event} (hg : gs[p.b0 + i]? = some g) (hgo : stepG P false g w = .go g' w' es)
    (h6 : (T i).stage ≤ 6) (hD : Go.ConcR.DC0 w w' es) {t' s : WTag} (hsl : t'.slow = some s) (hgs : Goes P false (Oth (p.cW (p.b0 + i) p.Low)) Go.ConcR.DC0 (p.S (p.b0 + i) s) t'.fuel g' w') (hwd : t'.wd = (T i).wd) (hrk : t'.rank = (T i).rank) (hfu : t'.fuel < (T i).fuel) :
    p.Fwd t0 n (p.mu j T X q tag) := by
  obtain ⟨rfl, rfl⟩ := hD
  have hst' : t'.stage = (T i).stage := congrArg WD.stage hwd
  refine book_step G L hat hgr I hi hst hg hgo h6 (.refl _ _) I.wg (by simp) (by simp) (t' := t') (by omega) (.slow hsl hgs) (by rw [show t'.deaf = (T i).deaf from congrArg WD.deaf hwd]; rfl) rfl (fun tag' ht _ => ?_) (.inr ⟨hrk, hst', hfu⟩)
  rw [← wd_upd, wd_same T i t' hwd]
  exact Mode.retag' I.mode ht

theorem upd_wd_ne {D : Nat → WD} {i a : Nat} (x : WD) (h : a ≠ i) : upd D i x a = D a := upd_ne D x h

/-- ████ A SLOW WORKER's TURN. ████ -/
theorem slow_turn (G : p.Geo) (L : p.Laws) {t0 : Trace} {n : Nat} {gs : Array Goroutine} {w0 w : World} {sl0 sl : Option (Nat × Nat)} {t : Trace} {j : Nat} {T : Nat → WTag} {X : Nat → Wk P} {B q : Nat → Nat} {tag : MTag} {st sm : Int}
    (hat : At P p.m0 n (crowd gs w0 sl0) t) (hgr : Grew P p.m0 n w) (I : p.Inv t0 gs w t j T X B q tag st sm) {i : Nat} (hi : i < j)
    (hst : stepT P (crowd gs w0 sl0) = runT P (crowd gs w sl) (p.b0 + i)) {g : Goroutine} (hg : gs[p.b0 + i]? = some g) {s : WTag} (hsl : (T i).slow = some s)
    (hgs : Goes P false (Oth (p.cW (p.b0 + i) p.Low)) Go.ConcR.DC0 (p.S (p.b0 + i) s) (T i).fuel g w) : p.Fwd t0 n (p.mu j T X q tag) := by
  have hjW := I.jW
  have hW2 := G.W2
  obtain ⟨D, hD0⟩ : ∃ D, D = fun a => (T a).wd := ⟨_, rfl⟩
  have hVj := ConcN.Vc_le j D
  have hmode : ConcN.Mode j D (p.toC tag) st sm := by rw [hD0]; exact I.mode
  have hwg := I.wg
  have bk2 : ∀ e ∈ #[rd (stA p.Wg), wr (stA p.Wg)], Bk p.Wg e := bk_rw
  have df2 : ∀ jx e, (#[rd (stA p.Wg), wr (stA p.Wg)] : Array Event)[jx]? = some e → (MemAct.ofEvent e).touch? = none ∨ 0 < deafBehind 1 ((#[rd (stA p.Wg), wr (stA p.Wg)] : Array Event).extract 0 jx) := by
    intro jx e he
    match jx, he with
    | 0, _ => exact .inr (by simp [deafBehind])
    | 1, _ => exact .inr (by simp [deafBehind, rd])
    | jx + 2, he => simp at he
  generalize hti : T i = ti at hsl hgs
  have hstg : (T i).stage = ti.stage := by rw [hti]
  have hDi : D i = ti.wd := by rw [hD0]; simp only [hti]
  have stW : (D i).stage = ti.stage := by rw [hDi]; rfl
  cases ti with
  | recv => cases hsl
  | park => cases hsl
  | wok => cases hsl
  | work m => cases hsl
  | r0 => cases hsl
  | quit q d => cases hsl
  | k1 m =>
    cases hsl
    rcases Goes.cases hgs with hstop | ⟨m', hm, hstep⟩
    · obtain ⟨g', hgo, m₂, hk⟩ := L.k1 _ g w (hstop w (Oth.refl w))
      refine book_step G L hat hgr I hi hst hg hgo (by rw [hti]; simp [WTag.stage, WTag.rank, WTag.wd, cnt]) (.refl _ _) hwg bk_dis (by intro jx e he; exact .inl (by have := Array.mem_of_getElem? he; simp at this; subst this; rfl)) (t' := .d1 m₂) (by simp [WTag.stage]) (.slow rfl hk) (by rw [hti]; rfl) hD0 (fun tag' ht _ => ?_) (.inl ⟨by rw [hti]; simp [WTag.stage, WTag.rank, WTag.wd, cnt], by rw [hti]; simp [WTag.stage, WTag.rank, WTag.wd, cnt]⟩)
      exact Mode.retag' (p := p) (hmode.counted (i := i) hi (by rw [stW]; simp [WTag.stage]) (.inr rfl) _ _) ht
    · obtain ⟨g', w', es, hgo, hD, hg'⟩ := hstep w (Oth.refl w)
      exact slow_idle (t' := .k1 m') (s := .k1 0) G L hat hgr I hi hst hg hgo (by rw [hti]; simp [WTag.stage, WTag.rank, WTag.wd, cnt]) hD rfl hg' (by rw [hti]; rfl) (by rw [hti]; rfl) (by rw [hti]; simp only [WTag.fuel] at hm ⊢; omega)
  | d1 m =>
    cases hsl
    rcases Goes.cases hgs with hstop | ⟨m', hm, hstep⟩
    · have hall := L.d1 _ g w (hstop w (Oth.refl w))
      have hc1 : cnt (D i) = 1 := by rw [hDi]; rfl
      have hV1 : 1 ≤ Vc j D := by have := le_sumTo (f := fun x => cnt (D x)) hi; simp only [Vc]; omega
      have hq0 : ∀ q, cnt (WTag.quit q 1).wd = 0 := fun _ => rfl
      have opq : ∀ q, OpenSt j D → OpenSt j (upd D i (WTag.quit q 1).wd) := fun q h a ha => by
        by_cases e : a = i
        · subst e; rw [upd_same]; simp [WTag.wd, WTag.stage]
        · rw [upd_wd_ne _ e]; exact h a ha
      have hvq : ∀ q, Vc j (upd D i (WTag.quit q 1).wd) + 1 = Vc j D := fun q => by
        have := Vc_upd D (WTag.quit q 1).wd hi; have := hq0 q; omega
      generalize hst0 : st = st0 at *
      generalize hctag : p.toC tag = ctag at hmode
      cases hmode with
      | @opn ctag h1 h2 h3 =>
        obtain ⟨v, hv⟩ : ∃ v, Vc j D + pend ctag = v + 1 := ⟨Vc j D + pend ctag - 1, by omega⟩
        have hp := I.ok
        have hvj : v < 2147483647 := by
          have hpd : j + pend (p.toC tag) ≤ p.W := by
            have := I.ok
            cases tag <;> simp only [PD.ok, PD.toC, pend] at this ⊢ <;> (try simp) <;> omega
          rw [hctag] at hpd
          omega
        rw [hv] at hwg
        have hw1 : WgAt p.ty p.Wg w (((v : Nat) + 1) * KK + ((0 : Nat) : Int)) 0 := by simpa using hwg
        obtain ⟨g', hgo, _, hq⟩ := hall v 0 (by omega) hvj hw1
        obtain ⟨q, hq⟩ := hq (by omega)
        have hv' : Vc j (upd D i (WTag.quit q 1).wd) + pend ctag = v := by have := hvq q; omega
        refine book_step G L hat hgr I hi hst hg hgo (by rw [hti]; simp [WTag.stage, WTag.rank, WTag.wd, cnt]) (aside_setCell w (stA p.Wg) _) (hwg.setSt _) bk2 (by rw [hti]; exact df2) (t' := .quit q 1) (by simp [WTag.stage]) (.quit hq) (by rw [hti]; rfl) hD0 (fun tag' ht _ => ?_) (.inl ⟨by rw [hti]; simp [WTag.stage, WTag.rank, WTag.wd, cnt], by rw [hti]; simp [WTag.stage, WTag.rank, WTag.wd, cnt]⟩)
        have e : ((v : Nat) : Int) * KK + ((0 : Nat) : Int) = ((Vc j (upd D i (WTag.quit q 1).wd) + pend ctag : Nat) : Int) * KK := by rw [hv']; simp
        rw [e]
        refine Mode.retag' (p := p) (tag := tag) ?_ ht
        rw [hctag]
        exact .opn h1 (opq q h2) (fun vs ev => by have := h3 vs ev; have := hvq q; omega)
      | @reg ctag h1 h2 h3 =>
        obtain ⟨v, hv⟩ : ∃ v, Vc j D = v + 1 := ⟨Vc j D - 1, by omega⟩
        have hvj : v < 2147483647 := by omega
        have hwg' := hwg
        rw [hv] at hwg
        have hw1 : WgAt p.ty p.Wg w (((v : Nat) + 1) * KK + ((1 : Nat) : Int)) 0 := by simpa using hwg
        obtain ⟨g', hgo, hl, hq⟩ := hall v 1 (by omega) hvj hw1
        by_cases hv0 : v = 0
        · subst hv0
          obtain ⟨m₂, hk⟩ := hl ⟨rfl, rfl⟩
          refine book_step G L hat hgr I hi hst hg hgo (by rw [hti]; simp [WTag.stage, WTag.rank, WTag.wd, cnt]) (aside_setCell w (stA p.Wg) _) (hwg.setSt _) bk2 (by rw [hti]; exact df2) (t' := .d2 m₂) (by simp [WTag.stage]) (.slow rfl hk) (by rw [hti]; rfl) hD0 (fun tag' ht _ => ?_) (.inl ⟨by rw [hti]; simp [WTag.stage, WTag.rank, WTag.wd, cnt], by rw [hti]; simp [WTag.stage, WTag.rank, WTag.wd, cnt]⟩)
          have hoth : ∀ a, a < j → a ≠ i → (D a).stage = 1 := fun a ha e => by
            have c0 := others_uncounted hi hv hc1 a ha e
            have := h2 a ha
            simp only [cnt] at c0
            split at c0 <;> omega
          refine Mode.retag' (p := p) (tag := tag) ?_ ht
          rw [hctag]
          have := ConcN.Mode.last (j := j) (D := upd D i (WTag.d2 m₂).wd) (tag := ctag) i h1 hi (by rw [upd_same]; simp [WTag.wd, WTag.stage]) (fun a ha e => by rw [upd_wd_ne _ e]; exact hoth a ha e)
          rw [upd_same] at this
          simpa [WTag.wd, WTag.stage] using this
        · obtain ⟨q, hq⟩ := hq (by omega)
          have hv' : Vc j (upd D i (WTag.quit q 1).wd) = v := by have := hvq q; omega
          refine book_step G L hat hgr I hi hst hg hgo (by rw [hti]; simp [WTag.stage, WTag.rank, WTag.wd, cnt]) (aside_setCell w (stA p.Wg) _) (hwg.setSt _) bk2 (by rw [hti]; exact df2) (t' := .quit q 1) (by simp [WTag.stage]) (.quit hq) (by rw [hti]; rfl) hD0 (fun tag' ht _ => ?_) (.inl ⟨by rw [hti]; simp [WTag.stage, WTag.rank, WTag.wd, cnt], by rw [hti]; simp [WTag.stage, WTag.rank, WTag.wd, cnt]⟩)
          have e : ((v : Nat) : Int) * KK + ((1 : Nat) : Int) = ((Vc j (upd D i (WTag.quit q 1).wd) : Nat) : Int) * KK + 1 := by rw [hv']; simp
          rw [e]
          refine Mode.retag' (p := p) (tag := tag) ?_ ht
          rw [hctag]
          exact .reg h1 (opq q h2) (by omega)
      | last Lx _ h2 h3 h4 =>
        by_cases e : i = Lx
        · subst e; rw [stW] at h3; simp [WTag.stage] at h3
        · have := h4 i hi e; rw [stW] at this; simp [WTag.stage] at this
      | sema h2 => have := h2 i hi; rw [stW] at this; simp [WTag.stage] at this
      | fin _ h2 => have := h2 i hi; rw [stW] at this; simp [WTag.stage] at this
    · obtain ⟨g', w', es, hgo, hD, hg'⟩ := hstep w (Oth.refl w)
      exact slow_idle (t' := .d1 m') (s := .d1 0) G L hat hgr I hi hst hg hgo (by rw [hti]; simp [WTag.stage, WTag.rank, WTag.wd, cnt]) hD rfl hg' (by rw [hti]; rfl) (by rw [hti]; rfl) (by rw [hti]; simp only [WTag.fuel] at hm ⊢; omega)
  | d2 m =>
    cases hsl
    rcases Goes.cases hgs with hstop | ⟨m', hm, hstep⟩
    · obtain ⟨hW3, hoth, hs1, hs2⟩ := hmode.isLast hi (by rw [stW]; simp [WTag.stage])
      rw [stW] at hs1
      obtain ⟨g', hgo, m₂, hk⟩ := L.d2 _ g w (hstop w (Oth.refl w)) (by rw [hs1, hs2] at hwg; simpa [WTag.stage] using hwg)
      refine book_step G L hat hgr I hi hst hg hgo (by rw [hti]; simp [WTag.stage, WTag.rank, WTag.wd, cnt]) (.refl _ _) hwg bk_rd (by rw [hti]; intro jx e he; match jx, he with | 0, _ => exact .inr (by simp [deafBehind, WTag.deaf]) | jx + 1, he => simp at he) (t' := .d3 m₂) (by simp [WTag.stage]) (.slow rfl hk) (by rw [hti]; rfl) hD0 (fun tag' ht _ => ?_) (.inl ⟨by rw [hti]; simp [WTag.stage, WTag.rank, WTag.wd, cnt], by rw [hti]; simp [WTag.stage, WTag.rank, WTag.wd, cnt]⟩)
      refine Mode.retag' (p := p) (tag := tag) ?_ ht
      have := ConcN.Mode.last (j := j) (D := upd D i (WTag.d3 m₂).wd) (tag := p.toC tag) i hW3 hi (by rw [upd_same]; simp [WTag.wd, WTag.stage]) (fun a ha e => by rw [upd_wd_ne _ e]; exact hoth a ha e)
      rw [upd_same] at this
      rw [hs1, hs2]
      simpa [WTag.wd, WTag.stage] using this
    · obtain ⟨g', w', es, hgo, hD, hg'⟩ := hstep w (Oth.refl w)
      exact slow_idle (t' := .d2 m') (s := .d2 0) G L hat hgr I hi hst hg hgo (by rw [hti]; simp [WTag.stage, WTag.rank, WTag.wd, cnt]) hD rfl hg' (by rw [hti]; rfl) (by rw [hti]; rfl) (by rw [hti]; simp only [WTag.fuel] at hm ⊢; omega)
  | d3 m =>
    cases hsl
    rcases Goes.cases hgs with hstop | ⟨m', hm, hstep⟩
    · obtain ⟨hW3, hoth, hs1, hs2⟩ := hmode.isLast hi (by rw [stW]; simp [WTag.stage])
      rw [stW] at hs1
      obtain ⟨g', hgo, m₂, hk⟩ := L.d3 _ g w (hstop w (Oth.refl w)) (by rw [hs1, hs2] at hwg; simpa [WTag.stage] using hwg)
      refine book_step G L hat hgr I hi hst hg hgo (by rw [hti]; simp [WTag.stage, WTag.rank, WTag.wd, cnt]) (aside_setCell w (stA p.Wg) _) (hwg.setSt 0) (by intro e he; simp at he; subst he; exact bk_cell _ _ rfl) (by rw [hti]; intro jx e he; match jx, he with | 0, _ => exact .inr (by simp [deafBehind, WTag.deaf]) | jx + 1, he => simp at he) (t' := .d4 m₂) (by simp [WTag.stage]) (.slow rfl hk) (by rw [hti]; rfl) hD0 (fun tag' ht _ => ?_) (.inl ⟨by rw [hti]; simp [WTag.stage, WTag.rank, WTag.wd, cnt], by rw [hti]; simp [WTag.stage, WTag.rank, WTag.wd, cnt]⟩)
      refine Mode.retag' (p := p) (tag := tag) ?_ ht
      have := ConcN.Mode.last (j := j) (D := upd D i (WTag.d4 m₂).wd) (tag := p.toC tag) i hW3 hi (by rw [upd_same]; simp [WTag.wd, WTag.stage]) (fun a ha e => by rw [upd_wd_ne _ e]; exact hoth a ha e)
      rw [upd_same] at this
      rw [hs2]
      simpa [WTag.wd, WTag.stage] using this
    · obtain ⟨g', w', es, hgo, hD, hg'⟩ := hstep w (Oth.refl w)
      exact slow_idle (t' := .d3 m') (s := .d3 0) G L hat hgr I hi hst hg hgo (by rw [hti]; simp [WTag.stage, WTag.rank, WTag.wd, cnt]) hD rfl hg' (by rw [hti]; rfl) (by rw [hti]; rfl) (by rw [hti]; simp only [WTag.fuel] at hm ⊢; omega)
  | d4 m =>
    cases hsl
    rcases Goes.cases hgs with hstop | ⟨m', hm, hstep⟩
    · obtain ⟨hW3, hoth, hs1, hs2⟩ := hmode.isLast hi (by rw [stW]; simp [WTag.stage])
      rw [stW] at hs1
      obtain ⟨hmw, hx⟩ := L.d4 _ g w (hstop w (Oth.refl w))
      obtain ⟨g', hgo, q, hq⟩ := hx (by rw [hs1, hs2] at hwg; simpa [WTag.stage] using hwg)
      have hrun' : g'.status = .running := by
        cases q with
        | zero => exact absurd hq.2 (by decide)
        | succ q => exact hq.elim (fun x => absurd x.2 (by decide)) (fun x => x.1)
      refine book_step G L hat hgr I hi hst hg hgo (by rw [hti]; simp [WTag.stage, WTag.rank, WTag.wd, cnt]) (aside_setCell w (smA p.Wg) _) (hwg.setSm 1) bk_sem (by
        rw [hti]; intro jx e he
        match jx, he with
        | 0, he => simp [semEvents] at he; subst he; exact .inl rfl
        | 1, _ => exact .inr (by simp [deafBehind, semEvents, WTag.deaf])
        | 2, _ => exact .inr (by simp [deafBehind, semEvents, WTag.deaf])
        | 3, he => simp [semEvents] at he; subst he; exact .inl rfl
        | jx + 4, he => simp [semEvents] at he) (t' := .quit q 1) (by simp [WTag.stage]) (.quit hq) (by rw [hti]; simp [deafBehind, semEvents, WTag.deaf]) hD0 (fun tag' ht hw => ?_) (.inl ⟨by rw [hti]; simp [WTag.stage, WTag.rank, WTag.wd, cnt], by rw [hti]; simp [WTag.stage, WTag.rank, WTag.wd, cnt]⟩)
      have hnb := hw hmw hrun'
      have e3 : tag' = .w3 := by
        rcases ht with rfl | ⟨_, rfl⟩
        · cases tag' <;> first | rfl | exact hW3.elim | exact absurd rfl hnb
        · rfl
      subst e3
      rw [hs1]
      exact .sema fun a ha => by
        by_cases e : a = i
        · subst e; rw [upd_same]; rfl
        · rw [upd_wd_ne _ e]; exact hoth a ha e
    · obtain ⟨g', w', es, hgo, hD, hg'⟩ := hstep w (Oth.refl w)
      exact slow_idle (t' := .d4 m') (s := .d4 0) G L hat hgr I hi hst hg hgo (by rw [hti]; simp [WTag.stage, WTag.rank, WTag.wd, cnt]) hD rfl hg' (by rw [hti]; rfl) (by rw [hti]; rfl) (by rw [hti]; simp only [WTag.fuel] at hm ⊢; omega)

/-- ████ A LEAVING WORKER's TURN. ████ -/
theorem quit_turn (G : p.Geo) (L : p.Laws) {t0 : Trace} {n : Nat} {gs : Array Goroutine} {w0 w : World} {sl0 sl : Option (Nat × Nat)} {t : Trace} {j : Nat} {T : Nat → WTag} {X : Nat → Wk P} {B q : Nat → Nat} {tag : MTag} {st sm : Int}
    (hat : At P p.m0 n (crowd gs w0 sl0) t) (hgr : Grew P p.m0 n w) (I : p.Inv t0 gs w t j T X B q tag st sm) {i : Nat} (hi : i < j)
    (hst : stepT P (crowd gs w0 sl0) = runT P (crowd gs w sl) (p.b0 + i)) {g : Goroutine} (hg : gs[p.b0 + i]? = some g) (hrn : g.status = .running) {k d : Nat} (hti : T i = .quit k d) (hq : QuitsD P k d g) : p.Fwd t0 n (p.mu j T X q tag) := by
  cases k with
  | zero => rw [hq.1] at hrn; cases hrn
  | succ k =>
    rcases hq with ⟨hf, _⟩ | ⟨_, g', es, hmute, hstep, hq'⟩
    · rw [hf] at hrn; cases hrn
    · have hbk : ∀ e ∈ es, Bk p.Wg e := fun e he => bk_of_mute (hmute e he)
      refine book_step G L hat hgr I hi hst hg (hstep w) (by rw [hti]; simp [WTag.stage, WTag.rank, WTag.wd, cnt]) (.refl _ _) I.wg hbk (fun jx e he => .inl (touch_mute (hmute e (Array.mem_of_getElem? he)))) (t' := .quit k (deafBehind d es)) (by simp [WTag.stage]) (.quit hq') (by rw [hti]; rfl) rfl (fun tag' ht _ => ?_)
        (.inr ⟨by rw [hti]; rfl, by rw [hti]; rfl, by rw [hti]; simp [WTag.fuel]⟩)
      refine Mode.retag' (p := p) (tag := tag) ?_ ht
      have := I.mode.same (i := i) 0 (deafBehind d es)
      have e : ((fun a => (T a).wd) i).stage = 1 := by simp only [hti]; rfl
      rw [e] at this
      exact this

theorem pay_set {w : World} {m : Nat} (v : Value) (hm : m < p.n) (h : p.Pay w) : p.Pay (w.setCell ⟨p.C, m, none⟩ v) ∧ (w.setCell ⟨p.C, m, none⟩ v).cell? ⟨p.C, m, none⟩ = some v ∧ ∀ idx, idx ≠ m → (w.setCell ⟨p.C, m, none⟩ v).cell? ⟨p.C, idx, none⟩ = w.cell? ⟨p.C, idx, none⟩ := by
  obtain ⟨cs, h1, h2⟩ := h
  have e : (w.setCell ⟨p.C, m, none⟩ v).heap[p.C]? = some (.cells (cs.setIfInBounds m v) p.ety) := by
    rw [setCell_eq_setRow w p.C m _ p.ety _ _ h1, setRow_heap w p.C _ _ p.ety _ h1]
  refine ⟨⟨_, e, by simp [h2]⟩, ?_, fun idx hne => ?_⟩
  · simp [World.cell?, e, h2, hm]
  · simp [World.cell?, e, h1, Array.getElem?_setIfInBounds_ne (Ne.symm hne)]

/-- ████ A WORKER's TURN. ████ -/
theorem worker_turn (G : p.Geo) (L : p.Laws) {t0 : Trace} {n : Nat} {gs : Array Goroutine} {w0 w : World} {sl0 sl : Option (Nat × Nat)} {t : Trace} {j : Nat} {T : Nat → WTag} {X : Nat → Wk P} {B q : Nat → Nat} {tag : MTag} {st sm : Int}
    (hat : At P p.m0 n (crowd gs w0 sl0) t) (hgr : Grew P p.m0 n w) (I : p.Inv t0 gs w t j T X B q tag st sm) {i : Nat} (hi : i < j) (hwho : whoM P (crowd gs w0 sl0) = some (p.b0 + i))
    (hst : stepT P (crowd gs w0 sl0) = runT P (crowd gs w sl) (p.b0 + i)) {g : Goroutine} (hg : gs[p.b0 + i]? = some g) (hrn : g.status = .running) : p.Fwd t0 n (p.mu j T X q tag) := by
  have hb := G.b1
  have hi0 : (p.b0 + i == 0) = false := by simp; omega
  have hlow := I.lowS
  have hjW := I.jW
  obtain ⟨g1, hg1, hs⟩ := I.wk i hi
  obtain rfl : g = g1 := by rw [hg] at hg1; exact Option.some.inj hg1
  have notfin : ∀ {t : WTag}, T i = t → t.stage ≠ 1 → tag ≠ .fin := fun ht h e => by
    have := I.mode.not_ret hi (by simp only [ht]; exact h)
    subst e
    exact this rfl
  generalize hti : T i = ti at hs
  cases hs with
  | quit hq => exact quit_turn G L hat hgr I hi hst hg hrn hti hq
  | slow hsl h => exact slow_turn G L hat hgr I hi hst hg (by rw [hti]; exact hsl) (by rw [hti]; exact h)
  | park hs h => cases hrn
  | wok hs h =>
    rename_i g0
    have hcl : tag.closed = true := by
      cases hc : tag.closed with
      | true => rfl
      | false => have := I.early hc i hi; rw [hti] at this; cases this
    exact closed_step G L hat hgr I hi hst hg (.inr hti) (h.stop hs) ((stepG_tries false _ w).trans (stepG_same rfl rfl rfl w)) hcl (notfin hti (by simp [WTag.stage]))
  | on ht h =>
    by_cases hx : (X (i + 1)).atStop
    · have hS := h.stop hx
      cases ti with
      | park => cases ht
      | wok => cases ht
      | quit q d => cases ht
      | k1 m => cases ht
      | d1 m => cases ht
      | d2 m => cases ht
      | d3 m => cases ht
      | d4 m => cases ht
      | recv =>
        cases hcl : tag.closed with
        | true => exact closed_step G L hat hgr I hi hst hg (.inl hti) hS rfl hcl (notfin hti (by simp [WTag.stage]))
        | false =>
          by_cases hspk : ∃ m, tag = .spk m
          · obtain ⟨m, rfl⟩ := hspk
            exact meet2_step G L hat hgr I hi hst hg hti hx h
          · exact park_step G L hat hgr I hi hst hg hti hx h hcl fun m e => hspk ⟨m, e⟩
      | r0 =>
        obtain ⟨g', hgo, m₂, hk⟩ := L.r0 _ g w hS
        have hd : Deaf t (p.b0 + i) = 0 := by rw [I.deafW i hi, hti]; rfl
        have okW : ∀ op ∈ MemOp.ofEvents (p.b0 + i) g.frame.fn g.frame.place #[ConcR.mk (.releaseMerge (stA p.Wg))], op = { g := p.b0 + i, fn := g.frame.fn, pos := g.frame.place, act := .mark (.releaseMerge (stA p.Wg)) } := by
          intro op hop
          obtain ⟨e, he, rfl⟩ := Conc.mem_ofEvents hop
          simp at he; subst he; rfl
        refine worker_step (B' := B i) (x' := X (i + 1)) (t' := .k1 m₂) (st' := st) (sm' := sm) G L hat hgr I hi hst hg hgo (Turn.mute _ _ _) rfl I.wg I.pay (fun op hop => by rw [okW op hop]; exact ⟨rfl, fun x hx => by cases hx⟩) (fun op hop => by rw [okW op hop]; exact okP_mute rfl (show p.Wg < w.heap.size by have := G.hW; omega) (by simp) (by simp))
          (Nat.le_refl _) (I.low i).2 (.slow rfl hk) (by rw [hti]; rfl) (fun hc => by have := I.early hc i hi; rw [hti] at this; cases this) (by simp) (by simp) (fun idx _ e => by rw [hti] at e; cases e) (fun _ _ => rfl) (fun _ => ⟨_, RelBy.new hd _ _⟩) (fun tag' htg _ => ?_) (fun e => absurd e (notfin hti (by simp [WTag.stage]))) (.inl ⟨by rw [hti]; simp [WTag.stage, WTag.rank, WTag.wd, cnt], by rw [hti]; simp [WTag.stage, WTag.rank, WTag.wd, cnt]⟩)
        rw [wd_upd]
        exact Mode.retag' (p := p) (I.mode.counted (i := i) hi (by simp only [hti]; simp [WTag.wd, WTag.stage]) (.inl rfl) _ _) htg
      | work m =>
        obtain ⟨hgets, hmn⟩ := I.gets i m hi hti
        obtain ⟨v, g', hgo, hbase, hk⟩ := L.work i m g w hS hmn I.pay
        obtain ⟨hpay', hcv, hco⟩ := pay_set (p := p) v hmn I.pay
        have hA := aside_setCell w ⟨p.C, m, none⟩ v
        have hsz : (w.setCell ⟨p.C, m, none⟩ v).heap.size = w.heap.size := hA.size
        generalize hw' : w.setCell ⟨p.C, m, none⟩ v = w' at *
        have okW : ∀ op ∈ MemOp.ofEvents (p.b0 + i) g.frame.fn g.frame.place #[⟨.cell ⟨p.C, m, none⟩, true, false⟩], op = { g := p.b0 + i, fn := g.frame.fn, pos := g.frame.place, act := .access ⟨.cell ⟨p.C, m, none⟩, true, false⟩ } := by
          intro op hop
          obtain ⟨e, he, rfl⟩ := Conc.mem_ofEvents hop
          simp at he; subst he; rfl
        refine worker_step (B' := w'.heap.size) (x' := ⟨p.cW (p.b0 + i) w'.heap.size, p.S (p.b0 + i) .recv, g', w'⟩) (t' := .recv) (st' := st) (sm' := sm) G L hat hgr I hi hst hg hgo (Turn.aside hA (.inr (.inr rfl)) (live_of_block (hA.block _ (Ne.symm G.hCW))) _ _) (hA.block _ (Ne.symm G.hCCh)) (I.wg.of_block (hA.block _ (Ne.symm G.hCW))) hpay'
          (fun op hop => ?_) (fun op hop => ?_) (by rw [hsz]; exact (I.low i).2) (Nat.le_refl _) (.on rfl (On.start (hk _ (by rw [hsz]; exact hlow)))) (by rw [hti]; rfl) (fun _ => rfl) (by simp) (by simp) (fun idx hidx e => .inr ?_) (fun idx hne => hco idx fun e => hne (by rw [hti, e])) (fun h => absurd h (by decide)) (fun tag' htg _ => ?_) (fun e => absurd e (notfin hti (by simp [WTag.stage]))) (.inl ⟨by rw [hti]; simp [WTag.stage, WTag.rank, WTag.wd, cnt], by rw [hti]; simp [WTag.stage, WTag.rank, WTag.wd, cnt]⟩)
        · rw [okW op hop]
          refine ⟨rfl, fun x hx => ?_⟩
          simp [MemAct.touch?] at hx
          subst hx
          exact .inr (.inl ⟨by omega, _, rfl, .inr ⟨rfl, hgets⟩⟩)
        · rw [okW op hop]
          refine ⟨⟨fun x hx => ?_, fun x hx hk => ?_, fun _ h1 => absurd h1 (by simp)⟩, ?_, by simp, by simp⟩
          · simp [MemAct.touch?] at hx; subst hx; rfl
          · simp [MemAct.touch?] at hx; subst hx; cases hk
          · show p.C < w'.heap.size
            have := G.hC; omega
        · rw [hti] at e
          cases e
          exact ⟨i, v, w', by omega, hbase, by rw [upd_same]; exact Nat.le_refl _, by omega, hcv, fun _ _ _ => rfl⟩
        · rw [wd_same T i .recv (by rw [hti]; rfl)]
          exact Mode.retag' I.mode htg
    · -- an idle step
      obtain ⟨_, g', w', es, hgo, hf, hn⟩ := h.go (fun _ _ _ x => x) hx
      have hrun := runT_crowd_go (P := P) (sl := sl) (i := p.b0 + i) hg (by rw [hi0]; exact hgo)
      have hat' := hat.succ (hst.trans hrun)
      have hmk : ∀ b, w.heap.size ≤ b → b < w'.heap.size → Mk P p.m0 (p.b0 + i) b := fun b h1 h2 => ⟨n, _, _, hgr.birth hat hat' h1 h2, hat, hwho⟩
      obtain ⟨hD, x', hlt, hon⟩ := hn fun b h1 h2 => ⟨hmk b h1 h2, Nat.le_trans (I.low i).2 h1⟩
      obtain ⟨hT, hbl⟩ := turn_walkW G hD (I.low i).1 hlow hmk
      obtain ⟨o1, o2, o3⟩ := ev1_W (r := p.sent tag) (fn := g.frame.fn) (pos := g.frame.place) G (by omega) (I.low i).1 hD.evs hD.noext
      have hst7 : ti.stage = 7 := by cases ti <;> first | rfl | cases ht
      have hC := hbl p.C G.hC
      refine worker_step (B' := B i) (x' := x') (t' := ti) (st' := st) (sm' := sm) G L hat hgr I hi hst hg hgo hT (hbl _ G.hCh) (I.wg.of_block (hbl _ G.hW)) ?_ o1 o2 (Nat.le_refl _) (Nat.le_trans (I.low i).2 hT.size) (.on ht hon) (by rw [hti]; exact deafBehind_idle o3 _) (fun hc => hti ▸ I.early hc i hi) (by rintro rfl; cases ht) (fun m e => by rw [hti]; exact e)
        (fun idx _ e => .inl (by rw [← hti]; exact e)) (fun idx _ => ConcN.cell_of_block hC idx) (fun h6 => by omega) (fun tag' htg _ => ?_) (fun e => absurd e (notfin hti (by omega))) (.inr ⟨by rw [hti], by rw [hti], .inl hlt⟩)
      · obtain ⟨cs, h1, h2⟩ := I.pay
        exact ⟨cs, hC.trans h1, h2⟩
      · rw [wd_same T i ti (by rw [hti])]
        exact Mode.retag' I.mode htg
end
end Go.Sim
end

section
set_option linter.unusedVariables false
set_option linter.unusedSimpArgs false
namespace Go.Sim
open Go Go.Conc
open Go.ConcN (CT Apart RelBy sumTo upd sumTo_upd sumTo_congr sumTo_le upd_ne upd_same WD CTag Vc cnt pend isOpen isW3 isFin OpenSt AllQuit WgLive deafBehind_idle bk_cell bk_dis bk_en bk_rd bk_rw bk_sem allQuit_of)
open Go.ConcR (stA smA rd wr KK WgAt Bk g_of_ofEvents ofEvent_mk)

section
variable {P : Program} {p : PD P}

/-- A STEP OF THE LIBRARY's BOOKKEEPING, by the starter. -/
theorem mbook_step (G : p.Geo) (L : p.Laws) {t0 : Trace} {n : Nat} {gs : Array Goroutine} {w0 w w' : World} {sl0 sl : Option (Nat × Nat)} {t : Trace} {j : Nat} {T : Nat → WTag} {X : Nat → Wk P} {B q : Nat → Nat} {tag : MTag} {st sm : Int}
    (hat : At P p.m0 n (crowd gs w0 sl0) t) (hgr : Grew P p.m0 n w) (I : p.Inv t0 gs w t j T X B q tag st sm)
    (hst : stepT P (crowd gs w0 sl0) = runT P (crowd gs w sl) 0) {a a' : Goroutine} {es : Array Event} (ha : gs[0]? = some a) (hgo : stepG P true a w = .go a' w' es)
    (hAs : Aside p.Wg w w') {st' sm' : Int} (hwg : WgAt p.ty p.Wg w' st' sm') (hbk : ∀ e ∈ es, Bk p.Wg e)
    {tag' : MTag} {x' : Wk P} (hms : MS p x' w' tag' a') (hdeaf : deafBehind tag.deaf es = tag'.deaf) (hcl : tag'.closed = tag.closed) (hsent : p.sent tag' = p.sent tag) (hok : p.ok j tag') (hspk : ∀ i, tag' ≠ .spk i)
    {D : Nat → WD} (hD : D = fun a => (T a).wd) (hmode : ConcN.Mode j D (p.toC tag') st' sm') (hfin : tag' ≠ .fin)
    (hlt : p.phi (Vc j D) tag' < p.phi (Vc j D) tag ∨ (p.phi (Vc j D) tag' = p.phi (Vc j D) tag ∧ x' = X 0 ∧ PD.bit tag' < PD.bit tag)) :
    p.Fwd t0 n (p.mu j T X q tag) := by
  subst hD
  exact main_step G L hat hgr I hst ha hgo (Turn.aside hAs (.inl rfl) (fun _ => ⟨_, _, hwg⟩) _ _) (hAs.block _ G.hChW) (hAs.block _ G.hCW) hwg (bk_M G hbk) (bk_P G (.inl rfl) (by rw [hAs.size]; have := I.lowS; have := G.hW; omega) hbk) hms hdeaf hcl hsent hok hspk hmode (fun e => absurd e hfin)
    (hlt.imp id fun ⟨h1, h2, h3⟩ => ⟨h1, .inr ⟨h2, h3⟩⟩)

/-- ████ THE STARTER's TURN. ████ -/
theorem main_turn (G : p.Geo) (L : p.Laws) {t0 : Trace} {n : Nat} {gs : Array Goroutine} {w0 w : World} {sl0 sl : Option (Nat × Nat)} {t : Trace} {j : Nat} {T : Nat → WTag} {X : Nat → Wk P} {B q : Nat → Nat} {tag : MTag} {st sm : Int}
    (hat : At P p.m0 n (crowd gs w0 sl0) t) (hgr : Grew P p.m0 n w) (I : p.Inv t0 gs w t j T X B q tag st sm) (hwho : whoM P (crowd gs w0 sl0) = some 0)
    (hst : stepT P (crowd gs w0 sl0) = runT P (crowd gs w sl) 0) {a : Goroutine} (ha : gs[0]? = some a) (hrn : a.status = .running) (hnd : ¬ (tag = .fin ∧ (X 0).atStop)) : p.Fwd t0 n (p.mu j T X q tag) := by
  have hb := G.b1
  have hlow := I.lowS
  have hjW := I.jW
  have hW2 := G.W2
  obtain ⟨D, hD0⟩ : ∃ D, D = fun a => (T a).wd := ⟨_, rfl⟩
  have hVj := ConcN.Vc_le j D
  have hmode : ConcN.Mode j D (p.toC tag) st sm := by rw [hD0]; exact I.mode
  have hwg := I.wg
  obtain ⟨a1, ha1, hs⟩ := I.main
  obtain rfl : a = a1 := by rw [ha] at ha1; exact Option.some.inj ha1
  have hok := I.ok
  cases hs with
  | spk hs h => cases hrn
  | blk hs h => cases hrn
  | on ht h =>
    by_cases hx : (X 0).atStop
    · have hM := h.stop hx
      cases tag with
      | spk i => cases ht
      | blk => cases ht
      | fin => exact absurd ⟨rfl, hx⟩ hnd
      | skd i =>
        obtain ⟨a', hgo, hk⟩ := L.skd i a w hM
        exact mbook_step G L hat hgr I hst ha hgo (.refl _ _) hwg bk_dis (tag' := .a1 i) (.on rfl (On.start hk)) rfl rfl rfl hok (by simp) hD0 (hmode.reopen trivial trivial rfl (by simp [PD.toC])) (by simp) (.inl (by simp only [PD.phi]; omega))
      | a1 i =>
        obtain ⟨ho, hs1, hs2, _⟩ := hmode.open_inv trivial
        have hjl : j < p.W := hok.2
        obtain ⟨a', hgo, hk⟩ := L.a1 i a w hM (Vc j D) (by omega) (by rw [hs1, hs2] at hwg; simpa [PD.toC, pend] using hwg)
        refine mbook_step G L hat hgr I hst ha hgo (aside_setCell w (stA p.Wg) _) (hwg.setSt _) bk_rw (tag' := .ske i) (.on rfl (On.start hk)) rfl rfl rfl hok (by simp) hD0 ?_ (by simp) (.inl (by simp only [PD.phi]; omega))
        have e : (((Vc j D : Nat) : Int) + 1) * KK = ((Vc j D + pend (p.toC (.ske i)) : Nat) : Int) * KK := by simp [PD.toC, pend]
        rw [e, hs2]
        exact .opn trivial ho (by simp [PD.toC])
      | ske i =>
        obtain ⟨a', hgo, hk⟩ := L.ske i a w hM
        exact mbook_step G L hat hgr I hst ha hgo (.refl _ _) hwg bk_en (tag' := .sgo i) (.on rfl (On.start hk)) rfl rfl rfl hok (by simp) hD0 (hmode.reopen trivial trivial rfl (by simp [PD.toC])) (by simp) (.inl (by simp only [PD.phi]; omega))
      | sgo i => exact spawn_step G L hat hgr I hst ha hM
      | snd m =>
        by_cases hp : ∃ i, i < j ∧ T i = .park
        · obtain ⟨i, hi, hti⟩ := hp
          exact meet1_step G L hat hgr I hst ha hx h hi hti
        · exact wait_step G L hat hgr I hst ha hx h fun i hi e => hp ⟨i, hi, e⟩
      | cls => exact close_step G L hat hgr I hst ha hM
      | kd =>
        obtain ⟨a', hgo, hk⟩ := L.kd a w hM
        exact mbook_step G L hat hgr I hst ha hgo (.refl _ _) hwg bk_dis (tag' := .w1) (.on rfl (On.start hk)) rfl rfl rfl hok (by simp) hD0 (hmode.reopen trivial trivial rfl (by simp [PD.toC])) (by simp) (.inl (by simp only [PD.phi]; omega))
      | w1 =>
        obtain ⟨ho, hs1, hs2, _⟩ := hmode.open_inv trivial
        obtain ⟨a', hgo, h0, hne⟩ := L.w1 a w hM (Vc j D) (by omega) (by rw [hs1, hs2] at hwg; simpa [PD.toC, pend] using hwg)
        by_cases hv : Vc j D = 0
        · refine mbook_step G L hat hgr I hst ha hgo (.refl _ _) hwg bk_rd (tag' := .ke) (.on rfl (On.start (h0 hv))) rfl rfl rfl hok (by simp) hD0 ?_ (by simp) (.inl (by simp only [PD.phi]; omega))
          rw [hs1, hs2, hv]
          exact (by simpa [PD.toC, pend] using ConcN.Mode.fin (D := D) (tag := .ke) trivial (allQuit_of ho hv))
        · exact mbook_step G L hat hgr I hst ha hgo (.refl _ _) hwg bk_rd (tag' := .w2 (Vc j D)) (.on rfl (On.start (hne hv))) rfl rfl rfl hok (by simp) hD0 (hmode.reopen trivial trivial rfl (fun vs e => by simp [PD.toC] at e; omega)) (by simp) (.inl (by simp only [PD.phi]; omega))
      | w2 vs =>
        obtain ⟨ho, hs1, hs2, hw2⟩ := hmode.open_inv trivial
        obtain ⟨hle, h1⟩ := hw2 vs rfl
        obtain ⟨hhit, hmiss⟩ := L.w2 vs a w hM (Vc j D) (by omega) (by rw [hs1, hs2] at hwg; simpa [PD.toC, pend] using hwg)
        by_cases e : Vc j D = vs
        · obtain ⟨a', hgo, hk⟩ := hhit e
          refine mbook_step G L hat hgr I hst ha hgo (aside_setCell w (stA p.Wg) _) (hwg.setSt _) bk_rw (tag' := .w3) (.on rfl (On.start hk)) rfl rfl rfl hok (by simp) hD0 ?_ (by simp) (.inl (by simp only [PD.phi]; omega))
          rw [hs2]
          exact .reg trivial ho (by omega)
        · obtain ⟨a', hgo, hk⟩ := hmiss e
          exact mbook_step G L hat hgr I hst ha hgo (.refl _ _) hwg bk_rd (tag' := .w1) (.on rfl (On.start hk)) rfl rfl rfl hok (by simp) hD0 (hmode.reopen trivial trivial rfl (by simp [PD.toC])) (by simp) (.inl (by simp only [PD.phi]; omega))
      | w3 =>
        obtain ⟨hoff, hblk, htake⟩ := L.w3 a w hM
        have block : sm = 0 → ConcN.Mode j D .blk st sm → p.Fwd t0 n (p.mu j T X q .w3) := fun e hm => by
          subst e
          exact mbook_step G L hat hgr I hst ha (hblk ⟨_, hwg⟩) (.refl _ _) hwg (by simp) (tag' := .blk) (x' := X 0) (.blk hx h) rfl rfl rfl hok (by simp) hD0 hm (by simp) (.inr ⟨rfl, rfl, by simp [PD.bit]⟩)
        generalize hct : p.toC MTag.w3 = ct at hmode
        cases hmode with
        | opn h1 _ _ => subst hct; exact h1.elim
        | reg h1 h2 h3 => exact block rfl (.reg trivial h2 h3)
        | last Lx h1 h2 h3 h4 => exact block rfl (.last Lx trivial h2 h3 h4)
        | sema h2 =>
          obtain ⟨a', hgo, hk⟩ := htake hwg
          exact mbook_step G L hat hgr I hst ha hgo (aside_setCell w (smA p.Wg) _) (hwg.setSm 0) bk_sem (tag' := .w4) (.on rfl (On.start hk)) (by simp [deafBehind, semEvents, MTag.deaf]) rfl rfl hok (by simp) hD0 (.fin trivial h2) (by simp) (.inl (by simp only [PD.phi]; omega))
        | fin h1 _ => subst hct; exact h1.elim
      | w4 =>
        obtain ⟨hq, hs1, hs2⟩ := hmode.fin_inv trivial
        obtain ⟨a', hgo, hk⟩ := L.w4 a w hM (by rw [hs1, hs2] at hwg; exact hwg)
        exact mbook_step G L hat hgr I hst ha hgo (.refl _ _) hwg bk_rd (tag' := .ke) (.on rfl (On.start hk)) rfl rfl rfl hok (by simp) hD0 (by rw [hs1, hs2]; exact .fin trivial hq) (by simp) (.inl (by simp only [PD.phi]; omega))
      | ke =>
        obtain ⟨hq, hs1, hs2⟩ := hmode.fin_inv trivial
        obtain ⟨a', hgo, hk⟩ := L.ke a w hM
        exact mbook_step G L hat hgr I hst ha hgo (.refl _ _) hwg bk_en (tag' := .acq) (.on rfl (On.start hk)) rfl rfl rfl hok (by simp) hD0 (by rw [hs1, hs2]; exact .fin trivial hq) (by simp) (.inl (by simp only [PD.phi]; omega))
      | acq =>
        obtain ⟨hq, hs1, hs2⟩ := hmode.fin_inv trivial
        obtain ⟨a', hgo, hk⟩ := L.acq a w hM
        have hop : ∀ op ∈ MemOp.ofEvents 0 a.frame.fn a.frame.place #[ConcR.mk (.acquire (stA p.Wg))], op = { g := 0, fn := a.frame.fn, pos := a.frame.place, act := .mark (.acquire (stA p.Wg)) } := by
          intro op hop
          obtain ⟨e, he, rfl⟩ := Conc.mem_ofEvents hop
          simp at he; subst he; rfl
        refine main_step G L hat hgr I hst ha hgo (Turn.mute _ _ _) rfl rfl hwg (fun op h => by rw [hop op h]; exact ⟨rfl, fun x hx => by cases hx⟩) (fun op h => by rw [hop op h]; exact okP_mute rfl (show p.Wg < w.heap.size by have := G.hW; omega) (by simp) (by simp)) (tag' := .fin) (.on rfl (On.start hk)) rfl rfl rfl hok (by simp)
          (by rw [← hD0, hs1, hs2]; exact .fin trivial hq) (fun _ => ?_) (.inl (by simp only [PD.phi]; omega))
        have e1 : MemOp.ofEvents 0 a.frame.fn a.frame.place #[ConcR.mk (.acquire (stA p.Wg))] = #[{ g := 0, fn := a.frame.fn, pos := a.frame.place, act := .mark (.acquire (stA p.Wg)) }] := by rw [ofEvents_eq]; simp [ofEvent_mk]
        have hy : (t ++ #[({ g := 0, fn := a.frame.fn, pos := a.frame.place, act := .mark (.acquire (stA p.Wg)) } : MemOp)])[t.size]? = some { g := 0, fn := a.frame.fn, pos := a.frame.place, act := .mark (.acquire (stA p.Wg)) } := by simp
        refine ⟨t.size, by rw [e1, act?_of hy], by rw [e1]; simp [Trace.g?], by rw [e1]; exact ⟨0, by simp [Trace.g?], by rw [deaf_old (Nat.le_refl _)]; exact I.deaf0⟩, fun i hi => ?_⟩
        obtain ⟨r, hr⟩ := I.rel i hi (by have := hq i hi; rw [hD0] at this; have e : (T i).stage = 1 := this; omega)
        exact ⟨r, hr.appOther g_of_ofEvents (by omega), lt_of_act? hr.act⟩
    · -- an idle step
      obtain ⟨_, a', w', es, hgo, hf, hn⟩ := h.go (fun _ _ _ x => x) hx
      have hrun := runT_crowd_go (P := P) (sl := sl) (i := 0) ha hgo
      have hat' := hat.succ (hst.trans hrun)
      have hbirth : ∀ b, w.heap.size ≤ b → b < w'.heap.size → Birth P p.m0 n b := fun b h1 h2 => hgr.birth hat hat' h1 h2
      have hmk : ∀ b, w.heap.size ≤ b → b < w'.heap.size → Mk P p.m0 0 b := fun b h1 h2 => ⟨n, _, _, hbirth b h1 h2, hat, hwho⟩
      have hgp : ∀ b, w.heap.size ≤ b → b < w'.heap.size → ¬ Gp P p.m0 b := by
        rintro b h1 h2 ⟨n', m', t', a2, hb', ha', _, h0', hr'⟩
        obtain rfl := (hbirth b h1 h2).uniq hb'
        obtain ⟨rfl, _⟩ := hat.fun ha'
        obtain rfl : a = a2 := by
          have : gs[0]? = some a2 := h0'
          rw [ha] at this; exact Option.some.inj this
        rcases hf with hf | hf
        · rw [hf] at hr'; cases hr'
        · omega
      obtain ⟨hD, x', hlt, hon⟩ := hn fun b h1 h2 => ⟨hmk b h1 h2, Nat.le_trans hlow h1, hgp b h1 h2⟩
      obtain ⟨hT, hbl⟩ := turn_walkM G hD hlow hmk
      obtain ⟨o1, o2, o3⟩ := ev1_M (j := gs.size - 1) (r := p.sent tag) (fn := a.frame.fn) (pos := a.frame.place) G hD.evs hD.noext
      exact main_step G L hat hgr I hst ha hgo hT (hbl _ G.hCh) (hbl _ G.hC) (hwg.of_block (hbl _ G.hW)) o1 o2 (.on ht hon) (deafBehind_idle o3 _) rfl rfl hok (by rintro i rfl; cases ht) I.mode (fun e => Acqs_app (I.acq e) fun i r hi hr => hr.appOther g_of_ofEvents (by omega)) (.inr ⟨rfl, .inl hlt⟩)

theorem WS.run (L : p.Laws) {k B : Nat} {x : Wk P} {w : World} {t : WTag} {g : Goroutine} (h : WS p k B x w t g) (h1 : t ≠ .park) (h2 : t.stage ≠ 1) : g.status = .running := by
  cases h with
  | on ht h => exact h.running (fun _ _ _ x => x) (L.srun _ _)
  | park hs h => exact absurd rfl h1
  | wok hs h => rfl
  | slow ht h => exact Goes.running (fun _ _ x => L.srun _ _ _ _ x) w (Oth.refl w) h
  | quit h => exact absurd rfl h2
theorem WS.awake (L : p.Laws) {k B : Nat} {x : Wk P} {w : World} {t : WTag} {g : Goroutine} (h : WS p k B x w t g) : Go.Conc.awake g := by
  by_cases h1 : t = .park
  · subst h1
    cases h with
    | on ht _ => cases ht
    | slow ht _ => cases ht
    | park hs h => exact awake_of (.inr (.inl rfl))
  · by_cases h2 : t.stage = 1
    · cases h with
      | quit h => exact awake_of (h.status.elim .inl fun x => .inr (.inr x))
      | on ht h => exact awake_of (.inl (h.running (fun _ _ _ x => x) (L.srun _ _)))
      | park hs h => exact absurd rfl h1
      | wok hs h => exact awake_of (.inl rfl)
      | slow ht h => exact awake_of (.inl (Goes.running (fun _ _ x => L.srun _ _ _ _ x) w (Oth.refl w) h))
    · exact awake_of (.inl (h.run L h1 h2))

/-- Somebody can run. -/
theorem some_runs (G : p.Geo) (L : p.Laws) {t0 : Trace} {gs : Array Goroutine} {w : World} {t : Trace} {j : Nat} {T : Nat → WTag} {X : Nat → Wk P} {B q : Nat → Nat} {tag : MTag} {st sm : Int} (I : p.Inv t0 gs w t j T X B q tag st sm) :
    ∃ (i : Nat) (g : Goroutine), gs[i]? = some g ∧ g.status = .running := by
  have worker : ∀ i, i < j → T i ≠ .park → (T i).stage ≠ 1 → ∃ (i : Nat) (g : Goroutine), gs[i]? = some g ∧ g.status = .running := fun i hi h1 h2 => by
    obtain ⟨g, hg, hs⟩ := I.wk i hi
    exact ⟨_, g, hg, hs.run L h1 h2⟩
  obtain ⟨a, ha, hm⟩ := I.main
  cases hm with
  | on ht h => exact ⟨0, a, ha, h.running (fun _ _ _ x => x) (L.mrun _)⟩
  | @spk i g hs h =>
    have hj : j = p.W := I.ok.1
    have := G.W1
    have hnp := I.nopark (.inr ⟨i, rfl⟩) 0 (by omega)
    have he := early_stage (I.early rfl 0 (by omega))
    exact worker 0 (by omega) hnp (by omega)
  | blk hs h =>
    have hnp : ∀ i, i < j → T i ≠ .park := I.nopark (.inl rfl)
    obtain ⟨D, hD0⟩ : ∃ D, D = fun a => (T a).wd := ⟨_, rfl⟩
    have hmode : ConcN.Mode j D (p.toC .blk) st sm := by rw [hD0]; exact I.mode
    have hst : ∀ i, (D i).stage = (T i).stage := fun i => by rw [hD0]; rfl
    generalize hct : p.toC MTag.blk = ct at hmode
    cases hmode with
    | opn h1 _ _ => subst hct; exact h1.elim
    | reg h1 h2 h3 =>
      by_cases hex : ∃ i, i < j ∧ (D i).stage ≠ 1
      · obtain ⟨i, hi, hne⟩ := hex
        rw [hst] at hne
        exact worker i hi (hnp i hi) hne
      · have : Vc j D ≤ 0 * j := sumTo_le fun i hi => by
          have : (D i).stage = 1 := Classical.byContradiction fun e => hex ⟨i, hi, e⟩
          simp [cnt, this]
        omega
    | last Lx h1 h2 h3 h4 => exact worker Lx h2 (hnp Lx h2) (by rw [← hst]; omega)
    | sema h2 => cases hct
    | fin h1 _ => subst hct; exact h1.elim

/-- ████ THE RUN. ████ -/
theorem pool_run (G : p.Geo) (L : p.Laws) {t0 : Trace} : ∀ (μ : Mu P) (n : Nat), p.Good t0 n μ →
    ∃ n' gs w sl t j T X B q st sm, n ≤ n' ∧ At P p.m0 n' (crowd gs w sl) t ∧ Grew P p.m0 n' w ∧ p.Inv t0 gs w t j T X B q .fin st sm ∧ (X 0).atStop := by
  intro μ
  induction μ using (muLt_wf (P := P) (p.W + 1)).induction with
  | _ μ ih =>
    rintro n ⟨gs, w, sl, t, j, T, X, B, q, tag, st, sm, hat, hgr, I, rfl⟩
    by_cases hnd : tag = .fin ∧ (X 0).atStop
    · obtain ⟨rfl, hx⟩ := hnd
      exact ⟨n, gs, w, sl, t, j, T, X, B, q, st, sm, Nat.le_refl _, hat, hgr, I, hx⟩
    have haw : ∀ x ∈ gs, awake x := by
      intro x hx
      obtain ⟨i, hi⟩ := Array.getElem?_of_mem hx
      rcases I.who hi with ⟨_, hm⟩ | ⟨k, d, _, _, hq⟩ | ⟨i', _, _, hs⟩
      · cases hm with
        | on ht h => exact awake_of (.inl (h.running (fun _ _ _ x => x) (L.mrun _)))
        | spk hs h => exact awake_of (.inr (.inl rfl))
        | blk hs h => exact awake_of (.inr (.inl rfl))
      · exact awake_of (hq.status.elim .inl fun x => .inr (.inr x))
      · exact hs.awake L
    obtain ⟨i, g, d, sl', hg, hrn, hwho, hst⟩ := crowd_move (P := P) (w := w) (sl := sl) haw (some_runs G L I)
    have I1 := I.at d
    have hgr1 : Grew P p.m0 n (w.at d) := hgr
    have hfwd : p.Fwd t0 n (p.mu j T X q tag) := by
      rcases I1.who hg with ⟨rfl, _⟩ | ⟨k, dd, h0, hb, _⟩ | ⟨i', hi', rfl, _⟩
      · exact main_turn G L hat hgr1 I1 hwho hst hg hrn hnd
      · exact old_step G L hat hgr1 I1 h0 hb hst hg hrn
      · exact worker_turn G L hat hgr1 I1 hi' hwho hst hg hrn
    obtain ⟨μ', hlt, hgood⟩ := hfwd
    obtain ⟨n', rest⟩ := ih μ' hlt (n + 1) hgood
    obtain ⟨gs', w', sl'', t', j', T', X', B', q', st', sm', h1, h2⟩ := rest
    exact ⟨n', gs', w', sl'', t', j', T', X', B', q', st', sm', Nat.le_of_succ_le h1, h2⟩

/-- ████ THE POOL: FROM A FRAME TO A FRAME. ████ -/
theorem pool_ends (G : p.Geo) (L : p.Laws) {Z : Nat → Prop} (hZ : ¬ Z p.Ch) {n : Nat} {gs : Array Goroutine} {w : World} {sl : Option (Nat × Nat)} {t : Trace} {q : Nat → Nat} {a : Goroutine}
    (f : Fr P p.m0 Z n gs w sl t q a) (hsz : gs.size = p.b0) (hlow : p.Low ≤ w.heap.size) (hwg : WgAt p.ty p.Wg w 0 0) (hch : w.heap[p.Ch]? = some (.chan 0 #[] false 0 0 false)) (hpay : p.Pay w) (hk : Walks p.cM (p.M (.skd 0)) a w) :
    Comes0 P p.m0 (fun _ => True) n fun a' w' => p.M .fin a' w' ∧ p.Pay w' ∧ p.Low ≤ w'.heap.size ∧ ∃ B, (∀ k, B k ≤ w'.heap.size) ∧ ∀ i, i < p.n → p.Kept B i w' := by
  have hb := G.b1
  have hops : ∀ op ∈ t, OpF P p.m0 Z p.b0 op := fun op hop => by rw [← hsz]; exact f.ops op hop
  have good : p.Good t n (p.mu 0 (fun _ => .recv) (fun _ => ⟨p.cM, p.M (.skd 0), a, w⟩) q (.skd 0)) := by
    refine ⟨gs, w, sl, t, 0, fun _ => .recv, fun _ => ⟨p.cM, p.M (.skd 0), a, w⟩, fun _ => p.Low, q, .skd 0, 0, 0, f.at_, f.grew, ?_, rfl⟩
    refine ⟨by rw [hsz]; rfl, ⟨a, f.h0, .on rfl (On.start hk)⟩, fun l g hl hlb hg => f.lv.old l g hl hg, fun i hi => absurd hi (Nat.not_lt_zero i), fun i hi => absurd hi (Nat.not_lt_zero i), f.past.hears, f.lv.above, ?_, hwg, ?_, fun i hi => absurd hi (Nat.not_lt_zero i), (by intro e; cases e), hpay, hch, ⟨rfl, G.W1⟩,
      fun _ => ⟨Nat.le_refl _, hlow⟩, fun _ i hi => absurd hi (Nat.not_lt_zero i), fun _ i hi => absurd hi (Nat.not_lt_zero i), fun i hi => absurd hi (Nat.not_lt_zero i), fun k m hk => absurd hk (Nat.not_lt_zero k)⟩
    · rw [hsz]
      exact pt_begin f.past hops hZ hb
    · have := ConcN.Mode.opn (j := 0) (D := fun i => ((fun _ => WTag.recv : Nat → WTag) i).wd) (tag := p.toC (.skd 0)) trivial (fun i hi => absurd hi (Nat.not_lt_zero i)) (by simp [PD.toC])
      simpa [PD.toC, pend, Vc, sumTo] using this
  obtain ⟨n', gs', w', sl', t', j, T, X, B, q', st, sm, hn, hat, hgr, I, hx⟩ := pool_run G L _ n good
  obtain ⟨a', ha', hm⟩ := I.main
  have hM : p.M .fin a' w' := by
    cases hm with
    | on ht h => exact h.stop hx
  obtain ⟨hq, _, _⟩ := I.mode.fin_inv trivial
  have hquit : ∀ i, i < j → ∃ k d, T i = .quit k d := fun i hi => by
    have h1 : (T i).stage = 1 := hq i hi
    generalize T i = x at h1
    cases x <;> first | exact ⟨_, _, rfl⟩ | (simp [WTag.stage] at h1)
  refine ⟨n', gs', w', sl', t', fun l => if l < p.b0 then q' l else (T (l - p.b0)).fuel, a', hn, ⟨hat, ha', ⟨fun l g hl hg => ?_, I.above⟩, ?_, hgr, ?_⟩, hM, I.pay, I.lowS, B, fun k => (I.low k).2, fun i hi => ?_⟩
  · rcases I.who hg with ⟨e, _⟩ | ⟨k, d, _, hb', _⟩ | ⟨i, hi, rfl, hs⟩
    · omega
    · simp only [hb', if_true]
      exact I.old l g hl hb' hg
    · have : ¬ p.b0 + i < p.b0 := by omega
      simp only [this, if_false, Nat.add_sub_cancel_left]
      obtain ⟨k, d, e⟩ := hquit i hi
      rw [I.deafW i hi]
      rw [e] at hs ⊢
      cases hs with
      | on ht _ => cases ht
      | slow ht _ => cases ht
      | quit h => exact h
  · obtain ⟨qq, h1, h2, h3, h4⟩ := I.acq rfl
    obtain ⟨v, hv, _⟩ := I.pt.ext
    refine I.pt.past (f.past.mono ?_) I.deaf0 (fun i g hgi hge => ?_) h1 h2 h3 hb
    · have := hgr n _ _ hn f.at_
      exact this
    · obtain ⟨op, ho, hog⟩ := Option.map_eq_some_iff.1 hgi
      have hlt := I.pt.ct.gs i op ho
      have : g < p.b0 + j := by rw [← hog]; have := I.size; omega
      obtain ⟨r, hr, hrq⟩ := h4 (g - p.b0) (by omega)
      rw [show p.b0 + (g - p.b0) = g by omega] at hr
      exact ⟨r, hr, hrq⟩
  · exact I.pt.opF (Z := fun _ => True) hops (by have := I.size; omega) hb fun _ _ _ _ _ _ => trivial
  · rcases I.res i hi with ⟨k, hk, e⟩ | h
    · obtain ⟨k', d, e'⟩ := hquit k hk
      rw [e'] at e; cases e
    · exact h
end
end Go.Sim
end
