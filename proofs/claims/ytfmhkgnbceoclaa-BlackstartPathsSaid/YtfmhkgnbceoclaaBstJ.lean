/-
  A plan, in plain Lean: each step is taken, and what it closes is needed.
-/
import Derived.Test.YtfmhkgnbceoclaaBstI
namespace Go.Sim
open Go
set_option linter.unusedVariables false
set_option linter.unusedSimpArgs false
set_option linter.unusedSectionVars false
set_option linter.unnecessarySimpa false

theorem nm_at {n : Net} {k : Int} (h : k.toNat < (opens n).length) : (oNm n).getD k.toNat ⟨#[]⟩ = (opens n)[k.toNat].Name := by
  unfold oNm
  rw [List.getD_eq_getElem?_getD, List.getElem?_eq_getElem (by simpa using h), List.getElem_map]; rfl
theorem way_bnd {n : Net} {pl : List Int} {a b : Int} {ks : List Int} {d : Int → Int} (h : Way (oEd n pl) a b ks d) {k : Int} (hk : k ∈ ks) : 0 ≤ k ∧ k.toNat < (opens n).length := by
  have := h.walk.bnd hk
  unfold oEd at this
  simpa using this
theorem way_dev {n : Net} (hv : NetV n) {pl : List Int} {a b : Int} {ks : List Int} {d : Int → Int} (h : Way (oEd n pl) a b ks d) : DevOk n (nmOf n ks) := by
  refine ⟨?_, fun x hx => ?_⟩
  · have hnd := oNm_nodup hv
    unfold nmOf List.Nodup
    rw [List.pairwise_map, List.pairwise_iff_getElem]
    intro i j hi hj hij e
    have bi := (way_bnd h (List.getElem_mem hi)).2
    have bj := (way_bnd h (List.getElem_mem hj)).2
    rw [nm_at bi, nm_at bj] at e
    have hpw := List.pairwise_iff_getElem.1 hnd
    have bi' : (ks[i]).toNat < (oNm n).length := by unfold oNm; simpa using bi
    have bj' : (ks[j]).toNat < (oNm n).length := by unfold oNm; simpa using bj
    have gi : (oNm n)[(ks[i]).toNat] = (opens n)[(ks[i]).toNat].Name := List.getElem_map ..
    have gj : (oNm n)[(ks[j]).toNat] = (opens n)[(ks[j]).toNat].Name := List.getElem_map ..
    rcases Nat.lt_trichotomy (ks[i]).toNat (ks[j]).toNat with h2 | h2 | h2
    · exact hpw _ _ bi' bj' h2 (by rw [gi, gj]; exact e)
    · have := h.walk.inj hi hj h2; omega
    · exact hpw _ _ bj' bi' h2 (by rw [gi, gj]; exact e.symm)
  · unfold nmOf at hx
    obtain ⟨k, hk, rfl⟩ := List.mem_map.1 hx
    have bk := (way_bnd h hk).2
    rw [nm_at bk]
    obtain ⟨h1, h2⟩ := List.mem_filter.1 (List.getElem_mem bk)
    exact ⟨_, h1, rfl, h2⟩
/-- The edges of the switches that are named. -/
def nmEd (n : Net) (D : List BA) : List Ed := ((opens n).filter (fun s => decide (s.Name ∈ D))).map (sEd n)
theorem nmEd_ok {n : Net} (h : NetV n) (D : List BA) : EdOk n.Nodes.length (nmEd n D) := fun e he => by
  obtain ⟨s, hs, rfl⟩ := List.mem_map.1 he
  exact sEd_ok h (List.mem_filter.1 (List.mem_filter.1 hs).1).1
theorem joins_nm {n : Net} {D : List BA} {e : Ed} : e ∈ joins (cl n D) ↔ e ∈ joins n ++ nmEd n D := by
  rw [mem_joins, List.mem_append, mem_joins0]
  unfold nmEd
  constructor
  · rintro (h | ⟨s, hs, ho | ho, rfl⟩)
    · exact .inl (.inl h)
    · exact .inl (.inr ⟨s, hs, ho, rfl⟩)
    · cases e : s.Open with
      | false => exact .inl (.inr ⟨s, hs, e, rfl⟩)
      | true => exact .inr (List.mem_map.2 ⟨s, List.mem_filter.2 ⟨List.mem_filter.2 ⟨hs, e⟩, decide_eq_true ho⟩, rfl⟩)
  · rintro ((h | ⟨s, hs, ho, rfl⟩) | h)
    · exact .inl h
    · exact .inr ⟨s, hs, .inl ho, rfl⟩
    · obtain ⟨s, hs, rfl⟩ := List.mem_map.1 h
      obtain ⟨h1, h2⟩ := List.mem_filter.1 hs
      exact .inr ⟨s, (List.mem_filter.1 h1).1, .inr (of_decide_eq_true h2), rfl⟩
/-- Who is joined when switches are closed, by places. -/
theorem joined_iff {n : Net} (hv : NetV n) {pl : List Int} (hp : Pl n pl) (D : List BA) {i j : Int} (i0 : 0 ≤ i) (iN : i < n.Nodes.length) (j0 : 0 ≤ j) (jN : j < n.Nodes.length) :
    Conn (joins (cl n D)) i j ↔ Conn ((nmEd n D).map (qEd pl)) (lb pl i) (lb pl j) := by
  rw [quot hp.iff (joins_ok hv) (nmEd_ok hv D) i0 iN j0 jN]
  exact ⟨fun h => h.mono (fun e he => joins_nm.1 he), fun h => h.mono (fun e he => joins_nm.2 he)⟩
theorem way_joins {n : Net} (hv : NetV n) {pl : List Int} (hp : Pl n pl) {i j : Int} (i0 : 0 ≤ i) (iN : i < n.Nodes.length) (j0 : 0 ≤ j) (jN : j < n.Nodes.length) {ks : List Int} {d : Int → Int} (h : Way (oEd n pl) (lb pl i) (lb pl j) ks d) :
    Conn (joins (cl n (nmOf n ks))) i j := by
  rw [joined_iff hv hp _ i0 iN j0 jN]
  refine h.walk.conn (fun k hk e he => ?_)
  have bk := (way_bnd h hk).2
  unfold oEd at he
  rw [List.getElem?_map, List.getElem?_eq_getElem bk] at he
  obtain rfl := Option.some.inj he
  refine List.mem_map.2 ⟨sEd n (opens n)[k.toNat], List.mem_map.2 ⟨(opens n)[k.toNat], List.mem_filter.2 ⟨List.getElem_mem bk, decide_eq_true ?_⟩, rfl⟩, rfl⟩
  rw [← nm_at bk]
  exact List.mem_map.2 ⟨k, hk, rfl⟩
theorem close_sem {m : Net} (hv : NetV m) {y : BA} (hy : y ∈ m.Switches.map (·.Name)) : m_blackstart_closeSwitch m y = some (cl m [y]) := by
  obtain ⟨q, hq, e, hqn⟩ := swI_mem hy
  rw [← Gd.eq]
  unfold m_blackstart_closeSwitch
  rw [swI_same]
  refine Gd.bind_eq e (Gd.idxN hq (Gd.ret ?_))
  rw [Int.toNat_natCast, set_shut (sw_nodup hv) hq, hqn]
  rfl
theorem name_ne {x : BA} (h : m_netmodel_Name x = some true) : x ≠ ⟨#[]⟩ := fun e => by
  subst e
  have : m_netmodel_Name ⟨#[]⟩ = some false := by kernel_rfl
  rw [this] at h; cases h
/-- The best so far. -/
def Best (m : Net) (R : List BA) (s : BA × List BA) : Prop := s.1 ∈ m.Gens.map (·.Name) ∧ s.1 ∉ R ∧ DevOk m s.2 ∧ ∃ x ∈ R, Jn m s.2 x s.1
def Zero (s : BA × List BA) : Prop := s.1 ≠ ⟨#[]⟩ ∧ s.2 = []
structure Scan (m : Net) (R : List BA) (gs : List S_api_Gen) (s : BA × List BA) : Prop where
  best : (s.1 = ⟨#[]⟩ ∧ s.2 = []) ∨ Best m R s
  near : ∀ g ∈ gs, g.Name ∉ R → ∀ x ∈ R, Jn m [] x g.Name → Zero s
theorem pick_gd {m : Net} (hv : NetV m) {pl : List Int} (hp : Pl m pl) {R : List BA} (hR : ∀ x ∈ R, x ∈ m.Gens.map (·.Name)) {A : Type} {Q : A → Prop}
    {K : BA × List BA → Option A} (body : Nat → S_api_Gen → BA × List BA → (BA × List BA → Option A) → Option A)
    (hbody : ∀ k y s nx, body k y s nx = (m_slices_Contains_string_string R y.Name).bind fun r8545 => if r8545 then nx s else (forI (fun k y' s' n => (m_blackstart_gen m y').bind fun r8721 => idx m.Gens r8721 fun y8723 => (m_blackstart_path m y8723.Node y.Node).bind fun r8727 => if r8727.2 && ((decide (s'.1 = (⟨#[]⟩))) || (decide ((r8727.1.length : Int) < (s'.2.length : Int)))) then n (y.Name, r8727.1) else n s') (fun s' => nx s') 0 R s))
    (hK : ∀ s, Scan m R m.Gens s → Gd (K s) Q) : Gd (forI body K 0 m.Gens (⟨#[]⟩, [])) Q := by
  have j0 : ∀ x y, Jn m [] x y ↔ Conn (joins m) (gat m x) (gat m y) := fun x y => by unfold Jn; rw [cl_nil]
  refine Gd.seen (Scan m R) ?_ hK _ ⟨.inl ⟨rfl, rfl⟩, by simp⟩
  rintro i g s nx pre hpre hs hnx
  have hg := (pre_lt hpre).2.1
  have hgm : g.Name ∈ m.Gens.map (·.Name) := List.mem_map.2 ⟨g, hg, rfl⟩
  have hgn := hv.vg g hg
  rw [hbody]
  refine Gd.bnd (ncontains_gd R g.Name) (fun b hb => Gd.ite (fun h => hnx _ ⟨hs.best, fun q hq hqn => ?_⟩) (fun h => ?_))
  · rcases List.mem_append.1 hq with hq | hq
    · exact hs.near q hq hqn
    · simp at hq; subst hq; exact absurd (hb.1 h) hqn
  · have hgR : g.Name ∉ R := fun hm => by rw [hb.2 hm] at h; cases h
    refine Gd.seen (fun seen s => Scan m R pre s ∧ ∀ x ∈ seen, Jn m [] x g.Name → Zero s) ?_ (fun s hs => hnx s ⟨hs.1.best, fun q hq hqn => ?_⟩) _ ⟨hs, by simp⟩
    · rintro i x s n seen hseen ⟨h1, h2⟩ hn
      have hx := (pre_lt hseen).2.1
      obtain ⟨k, hk, e, hkn⟩ := gen_mem (hR x hx)
      have hkg := List.getElem_mem hk
      have hkv := hv.vg _ hkg
      have ex : gat m x = pos m m.Gens[k].Node := by rw [← hkn]; exact gat_eq hv hkg
      have eg : gat m g.Name = pos m g.Node := gat_eq hv hg
      obtain ⟨x0, xN⟩ := gat_rng hv (hR x hx)
      obtain ⟨g0, gN⟩ := gat_rng hv hgm
      rw [ex] at x0 xN
      rw [eg] at g0 gN
      have hiff := hp.iff _ _ x0 xN g0 gN
      refine Gd.bind_eq e (Gd.idxN hk (Gd.bnd (bpath_gd hv hp hkv.2.1 hgn.2.1) (fun r hr => ?_)))
      have jx : Jn m [] x g.Name → lb pl (pos m m.Gens[k].Node) = lb pl (pos m g.Node) := fun hj => by
        rw [j0, ex, eg] at hj
        exact hiff.2 hj
      rcases hr with ⟨rfl, hno⟩ | ⟨hr2, ks, d, hw, hr1⟩
      · refine Gd.ite (fun h => by simp at h) (fun _ => hn _ ⟨h1, fun z hz hj => ?_⟩)
        rcases List.mem_append.1 hz with hz | hz
        · exact h2 z hz hj
        · simp at hz; subst hz
          have hno : ¬ Conn (oEd m pl) (lb pl (pos m m.Gens[k].Node)) (lb pl (pos m g.Node)) := hno
          exfalso
          rw [jx hj] at hno
          exact hno .refl
      · have hz : Jn m [] x g.Name → r.1 = [] := fun hj => by
          have e1 := hw.dl
          rw [jx hj, hw.d0] at e1
          have : ks = [] := List.eq_nil_of_length_eq_zero (by omega)
          rw [hr1, this]; rfl
        refine Gd.ite (fun hc => hn _ ?_) (fun hc => hn _ ⟨h1, fun z hz2 hj => ?_⟩)
        · rw [hr2, Bool.true_and, Bool.or_eq_true, decide_eq_true_eq, decide_eq_true_eq] at hc
          have hnz : ¬ Zero s := fun ⟨z1, z2⟩ => by
            rcases hc with hc | hc
            · exact z1 hc
            · rw [z2] at hc; simp at hc; omega
          refine ⟨⟨.inr ⟨hgm, hgR, ?_, x, hx, ?_⟩, fun q hq hqn z hz2 hj => absurd (h1.near q hq hqn z hz2 hj) hnz⟩, fun z hz2 hj => ?_⟩
          · show DevOk m r.1
            rw [hr1]; exact way_dev hv hw
          · show Jn m r.1 x g.Name
            unfold Jn
            rw [hr1, ex, eg]
            exact way_joins hv hp x0 xN g0 gN hw
          · rcases List.mem_append.1 hz2 with hz2 | hz2
            · exact absurd (h2 z hz2 hj) hnz
            · simp at hz2; subst hz2
              exact ⟨name_ne hgn.1, hz hj⟩
        · rcases List.mem_append.1 hz2 with hz2 | hz2
          · exact h2 z hz2 hj
          · simp at hz2; subst hz2
            have hr0 := hz hj
            rw [hr2, hr0, Bool.true_and, Bool.or_eq_false_iff, decide_eq_false_iff_not, decide_eq_false_iff_not] at hc
            refine ⟨hc.1, ?_⟩
            have := hc.2
            exact List.eq_nil_of_length_eq_zero (by simp only [List.length_nil] at this; omega)
    · intro x hx hj
      rcases List.mem_append.1 hq with hq | hq
      · exact hs.1.near q hq hqn x hx hj
      · simp at hq; subst hq
        exact hs.2 x hx hj
/-- A plan. -/
structure Planned (n : Net) (src : List BA) (steps : List S_api_BlackstartStep) : Prop where
  each : ∀ pre y post, steps = pre ++ y :: post → Acc n (src ++ gensOf pre) (devsOf pre) y ∧ (y.Devices ≠ [] → ∀ x ∈ src ++ gensOf pre, ¬ Jn n (devsOf pre) x y.Gen)
  nd : (src ++ gensOf steps).Nodup
  mem : ∀ x ∈ src ++ gensOf steps, x ∈ n.Gens.map (·.Name)
theorem Planned.len {n : Net} {src : List BA} {steps : List S_api_BlackstartStep} (h : Planned n src steps) : src.length + steps.length ≤ n.Gens.length := by
  have := nodup_le _ _ h.nd h.mem
  simp [gensOf] at this
  exact this
theorem Planned.snoc {n : Net} {src : List BA} {steps : List S_api_BlackstartStep} (h : Planned n src steps) {s : S_api_BlackstartStep} (hs : Acc n (src ++ gensOf steps) (devsOf steps) s) (hn : s.Devices ≠ [] → ∀ x ∈ src ++ gensOf steps, ¬ Jn n (devsOf steps) x s.Gen) : Planned n src (steps ++ [s]) := by
  have e : src ++ gensOf (steps ++ [s]) = (src ++ gensOf steps) ++ [s.Gen] := by simp [gensOf]
  refine ⟨fun pre y post hl => ?_, ?_, ?_⟩
  · rcases List.eq_nil_or_concat post with rfl | ⟨post', z, rfl⟩
    · have := List.append_inj' hl rfl
      obtain ⟨rfl, h2⟩ := this
      obtain rfl : s = y := by simpa using h2
      exact ⟨hs, hn⟩
    · have hl2 : steps ++ [s] = (pre ++ y :: post') ++ [z] := by rw [hl]; simp
      obtain ⟨h1, _⟩ := List.append_inj' hl2 rfl
      exact h.each pre y post' h1
  · rw [e, List.nodup_append]
    exact ⟨h.nd, by simp, fun a ha b hb => by simp at hb; subst hb; exact fun e => hs.1.new (e ▸ ha)⟩
  · rw [e]
    intro x hx
    rcases List.mem_append.1 hx with hx | hx
    · exact h.mem x hx
    · simp at hx; subst hx; exact hs.1.gen
theorem plan_gd {n : Net} (hz : NetSz n) (src : List BA) : Gd (m_blackstart_Plan n src) (fun r => (r.2 ≠ 0 ∧ r.1 = []) ∨ (r.2 = 0 ∧ NetV n ∧ Planned n src r.1 ∧ src.length + r.1.length = n.Gens.length)) := by
  unfold m_blackstart_Plan
  refine Gd.bnd (bcheck_sound n src hz) (fun e he => Gd.ite (fun h => Gd.ret (.inl ⟨by simpa using h, rfl⟩)) (fun h => ?_))
  obtain ⟨hv, hnd, hin⟩ := he (by simpa using h)
  have g1 := hv.l1; have g2 := hv.l2; have g3 := hv.l3; have g4 := hv.l4; have g5 := hv.l5; have g6 := hv.l6
  have hsl : src.length ≤ 10 := by
    have := nodup_le src (n.Gens.map (·.Name)) hnd hin
    simp only [List.length_map] at *
    omega
  have hcopy : m_netmodel_Copy n = some n := by
    rw [← Gd.eq]
    unfold m_netmodel_Copy
    exact Gd.nd (by omega) (Gd.nd (by omega) (Gd.nd (by omega) (Gd.nd (by omega) (Gd.nd (by omega) (Gd.nd (by omega) (Gd.ret rfl))))))
  refine Gd.bind_eq hcopy (Gd.nd (by omega) ?_)
  have hP0 : Planned n src [] := ⟨fun pre y post hl => by simp at hl, by simpa using hnd, by simpa using hin⟩
  refine Gd.loopF (fun s => ∃ steps, s = (src ++ gensOf steps, steps, (cl n (devsOf steps)).Nodes, (cl n (devsOf steps)).Switches, (cl n (devsOf steps)).Branches, (cl n (devsOf steps)).Gens, (cl n (devsOf steps)).Loads, (cl n (devsOf steps)).Stores) ∧ Planned n src steps) (fun s => n.Gens.length - s.1.length) ?_ FUEL _ ⟨[], ?_, hP0⟩ (by unfold FUEL; simp only; omega)
  · rintro s nx ⟨steps, rfl, hP⟩ hnx
    have hvm := hv.cl (devsOf steps)
    have hzm := hz.cl (devsOf steps)
    obtain ⟨pl, hp⟩ := places_sem hvm (hvm.ok hzm)
    have hlen := hP.len
    have hRl : (src ++ gensOf steps).length = src.length + steps.length := by simp [gensOf]
    unfold m_blackstart_Plan_b148 m_blackstart_Plan_b89
    refine Gd.ite (fun hlt => ?_) (fun hge => Gd.ret (.inr ⟨rfl, hv, hP, ?_⟩))
    · simp only at hlt
      have hlt2 : (src ++ gensOf steps).length < n.Gens.length := by
        have h3 := of_decide_eq_true hlt
        have h4 : (((src ++ gensOf steps).length : Nat) : Int) < ((n.Gens.length : Nat) : Int) := h3
        omega
      refine pick_gd hvm hp (R := src ++ gensOf steps) (fun x hx => hP.mem x hx) _ (fun k y s nx => rfl) (fun s hs => ?_)
      refine Gd.ite (fun _ => Gd.ret (.inl ⟨by simp, rfl⟩)) (fun hne => ?_)
      have hne : s.1 ≠ ⟨#[]⟩ := by simpa using hne
      rcases hs.best with ⟨e, _⟩ | ⟨b1, b2, b3, x, hx, hj⟩
      · exact absurd e hne
      have hj2 : Jn n (devsOf steps ++ s.2) x s.1 := by unfold Jn at hj ⊢; rw [cl_cl] at hj; exact hj
      have hacc : Acc n (src ++ gensOf steps) (devsOf steps) ⟨s.1, s.2⟩ := ⟨⟨b1, b2, b3⟩, x, hx, hj2⟩
      have hP2 := hP.snoc hacc (fun hdn z hz2 hjz => by
        obtain ⟨g, hg, hgn⟩ := List.mem_map.1 b1
        have : Zero s := hs.near g hg (by rw [hgn]; exact b2) z hz2 (by
          unfold Jn at hjz ⊢
          rw [cl_cl, List.append_nil, hgn]
          exact hjz)
        exact hdn this.2)
      refine Gd.seen (fun pre t => t = ((cl n (devsOf steps ++ pre)).Nodes, (cl n (devsOf steps ++ pre)).Switches, (cl n (devsOf steps ++ pre)).Branches, (cl n (devsOf steps ++ pre)).Gens, (cl n (devsOf steps ++ pre)).Loads, (cl n (devsOf steps ++ pre)).Stores)) ?_ ?_ _ (by rw [List.append_nil])
      · rintro i y t n2 pre hpre rfl hn2
        have hy := (pre_lt hpre).2.1
        obtain ⟨t, ht, rfl, _⟩ := b3.op y hy
        have hmem : t.Name ∈ (cl n (devsOf steps ++ pre)).Switches.map (·.Name) := by
          rw [cl_names, ← cl_names n (devsOf steps)]
          exact List.mem_map.2 ⟨t, ht, rfl⟩
        unfold m_blackstart_Plan_b177
        refine Gd.bind_eq (close_sem (m := cl n (devsOf steps ++ pre)) (hv.cl _) hmem) (hn2 _ ?_)
        rw [cl_cl, List.append_assoc]
      · rintro t rfl
        have hdv : devsOf (steps ++ [⟨s.1, s.2⟩]) = devsOf steps ++ s.2 := by simp [devsOf]
        have hgv : src ++ gensOf (steps ++ [⟨s.1, s.2⟩]) = src ++ gensOf steps ++ [s.1] := by simp [gensOf]
        refine Gd.nd (by simp only [List.length_append, List.length_singleton] at *; omega) (Gd.nd (by simp only [List.length_append, List.length_singleton] at *; omega) (hnx _ ⟨steps ++ [⟨s.1, s.2⟩], ?_, hP2⟩ ?_))
        · rw [hdv, hgv]
        · show n.Gens.length - (src ++ gensOf steps ++ [s.1]).length < n.Gens.length - (src ++ gensOf steps).length
          rw [List.length_append (bs := [s.1]), List.length_singleton]
          omega
    · have h3 := of_decide_eq_false hge
      have h4 : ¬ (((src ++ gensOf steps).length : Nat) : Int) < ((n.Gens.length : Nat) : Int) := h3
      show src.length + steps.length = n.Gens.length
      omega
  · show _ = (src ++ [], [], (cl n []).Nodes, (cl n []).Switches, (cl n []).Branches, (cl n []).Gens, (cl n []).Loads, (cl n []).Stores)
    rw [cl_nil, List.append_nil]
end Go.Sim
