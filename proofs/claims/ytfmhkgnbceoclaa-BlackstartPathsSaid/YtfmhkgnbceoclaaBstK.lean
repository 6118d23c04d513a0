/-
  A plan is verified, and each generator that it starts ends where a source is; a step that closes nothing, where devices were named, joins nothing: the laws of the models.
-/
import Derived.Test.YtfmhkgnbceoclaaBstJ
namespace Go.Sim
open Go
set_option linter.unusedVariables false
set_option linter.unusedSimpArgs false
set_option linter.unusedSectionVars false
set_option linter.unnecessarySimpa false

theorem blackstartFact_true : m_gridhallkeep4_blackstartFact = some true := by kernel_rfl
theorem node_ok {n : Net} (h : NetV n) {s : BA} (hs : s ∈ n.Nodes) : m_netmodel_Node n s = some ((pos n s : Int), 0) := by
  rw [← Gd.eq]
  unfold m_netmodel_Node
  exact Gd.bind_eq (check_comp n h) (Gd.ite (fun h => by simp at h) (fun _ => Gd.bind_eq (pos_eq hs).1 (Gd.ite (fun h => by simp at h; omega) (fun _ => Gd.ret rfl))))
theorem icut0 (n m : Int) (h0 : 0 ≤ m) (h1 : m ≤ 1000) : Gd (m_gridhallref4_Cut n 0 m) (fun r => 0 ≤ r ∧ r ≤ m) := by
  have e : IntKind.i64.wrap ((IntKind.i64.wrap (m - 0)) + 1) = m + 1 := by rw [wrap_id (n := m - 0) (by omega), wrap_id (by omega)]; omega
  have h1 : Int.tmod n (m + 1) < m + 1 := Int.tmod_lt_of_pos n (by omega)
  have h2 : -(m + 1) < Int.tmod n (m + 1) := by
    have := Int.tmod_lt_of_pos (-n) (show (0 : Int) < m + 1 by omega)
    rw [Int.neg_tmod] at this; omega
  unfold m_gridhallref4_Cut m_gridhallref4_Cut_b1
  rw [e]
  refine Gd.nd (by omega) (Gd.ite (fun h => ?_) (fun h => ?_))
  · simp at h
    rw [wrap_id (n := Int.tmod n (m + 1) + (m + 1)) (by omega), wrap_id (by omega)]
    exact Gd.ret ⟨by omega, by omega⟩
  · simp at h
    rw [wrap_id (by omega)]
    exact Gd.ret ⟨by omega, by omega⟩
theorem bcut_gd {n : Net} (hz : NetSz n) : Gd (m_gridhallkeep4_cut n) NetSz := by
  have hs : ∀ {α : Type} (l : List α) (k : Nat), ∀ x ∈ slc l 0 k, x ∈ l := fun l k x hx => by
    unfold slc at hx
    rw [List.drop_zero] at hx
    exact List.mem_of_mem_take hx
  unfold m_gridhallkeep4_cut
  exact Gd.nd (by omega) (Gd.nd (by omega) (Gd.ret ⟨hz.nd, hz.sw, hz.br, fun x hx => hz.gn x (hs _ _ x hx), fun x hx => hz.ld x (hs _ _ x hx), hz.st⟩))
theorem Jn.mono {n : Net} {D D' : List BA} (h : ∀ x ∈ D, x ∈ D') {x y : BA} (hj : Jn n D x y) : Jn n D' x y := joins_mono h hj
/-- What was started is joined to a source. -/
theorem Planned.src {n : Net} {src : List BA} {steps : List S_api_BlackstartStep} (h : Planned n src steps) : ∀ (k : Nat) pre y post, pre.length ≤ k → steps = pre ++ y :: post → ∃ x ∈ src, Jn n (devsOf steps) x y.Gen := by
  intro k
  induction k with
  | zero =>
    intro pre y post hk hl
    obtain rfl := List.eq_nil_of_length_eq_zero (Nat.le_zero.1 hk)
    obtain ⟨⟨_, x, hx, hj⟩, _⟩ := h.each _ y post hl
    refine ⟨x, by simpa [gensOf] using hx, hj.mono (fun z hz => ?_)⟩
    rw [hl]
    simp [devsOf] at hz ⊢
    exact .inl hz
  | succ k ih =>
    intro pre y post hk hl
    obtain ⟨⟨_, x, hx, hj⟩, _⟩ := h.each pre y post hl
    have hj2 : Jn n (devsOf steps) x y.Gen := hj.mono (fun z hz => by
      rw [hl]
      simp only [devsOf, List.flatMap_append, List.flatMap_cons, List.mem_append] at hz ⊢
      rcases hz with hz | hz
      · exact .inl hz
      · exact .inr (.inl hz))
    rcases List.mem_append.1 hx with hx | hx
    · exact ⟨x, hx, hj2⟩
    · obtain ⟨y', hy', rfl⟩ := List.mem_map.1 hx
      obtain ⟨pre', post', rfl⟩ := List.append_of_mem hy'
      obtain ⟨z, hz, hjz⟩ := ih pre' y' (post' ++ y :: post) (by simp at hk; omega) (by rw [hl]; simp)
      exact ⟨z, hz, hjz.trans hj2⟩
theorem place_gd {n : Net} (hv : NetV n) {pl : List Int} (hl : pl.length = n.Nodes.length) {x : BA} (hx : x ∈ n.Gens.map (·.Name)) : m_gridhallkeep4_BlackstartPlans_1 x n pl = some (lb pl (gat n x)) := by
  have g1 := hv.l1
  rw [← Gd.eq]
  unfold m_gridhallkeep4_BlackstartPlans_1
  refine Gd.seen (Q := fun r => r = lb pl (gat n x)) (fun pre (_ : Unit) => ∀ g ∈ pre, g.Name ≠ x) ?_ (fun _ hs => ?_) _ (by simp)
  · rintro i g _ nx pre hpre hno hnx
    have hg := (pre_lt hpre).2.1
    have hgv := hv.vg g hg
    obtain ⟨_, hpl⟩ := pos_eq hgv.2.1
    have hpl2 : pos n g.Node < pl.length := by omega
    have hw : IntKind.i64.wrap ((pl.length : Int) - 1) = (pl.length : Int) - 1 := wrap_id ⟨by omega, by omega⟩
    unfold m_gridhallkeep4_BlackstartPlans_1_b1
    refine Gd.ite (fun h => Gd.bind_eq (node_ok hv hgv.2.1) ?_) (fun h => hnx _ (fun q hq => ?_))
    · have h : g.Name = x := by simpa using h
      rw [hw, show min (pos n g.Node : Int) ((pl.length : Int) - 1) = (pos n g.Node : Int) by omega]
      refine Gd.idxN hpl2 (Gd.ret ?_)
      rw [← h, gat_eq hv hg, lb_at hpl2]
    · rcases List.mem_append.1 hq with hq | hq
      · exact hno q hq
      · simp at hq; subst hq; simpa using h
  · obtain ⟨g, hg, e⟩ := List.mem_map.1 hx
    exact absurd e (hs g hg)
theorem BlackstartPlans_true (n : Net) (src : List BA) (hz0 : NetSz n) : m_gridhallkeep4_BlackstartPlans n src = some true := by
  rw [← Gd.eq]
  unfold m_gridhallkeep4_BlackstartPlans
  refine Gd.bnd (bcut_gd hz0) (fun m hz => Gd.bnd (plan_gd hz src) (fun r hr => ?_))
  rcases hr with ⟨hr, hr1⟩ | ⟨hr, hv, hP, hlen⟩
  · refine Gd.ite (fun _ => Gd.bind_eq blackstartFact_true (Gd.ret ?_)) (fun h => absurd (by simpa using h) hr)
    rw [hr1]; rfl
  · have g4 := hv.l4
    have hver := verify_gd hv hz (List.nodup_append.1 hP.nd).1 (fun x hx => hP.mem x (List.mem_append_left _ hx)) (steps := r.1) (by omega) (Nat.le_refl _)
      (fun pre y post hl _ => (hP.each pre y post hl).1) (fun pre y post hl hk => by rw [hl] at hk; simp at hk)
    refine Gd.ite (fun h => by simp [hr] at h) (fun _ => Gd.bnd hver (fun v hv2 => ?_))
    obtain rfl := hv2.2 rfl
    have hw : IntKind.i64.wrap ((r.1.length : Int) + (src.length : Int)) = (r.1.length : Int) + (src.length : Int) := wrap_id ⟨by omega, by omega⟩
    rw [hw]
    refine Gd.ite (fun h => ?_) (fun _ => ?_)
    · simp at h
      omega
    obtain ⟨pl, hp⟩ := places_sem (hv.cl (devsOf r.1)) ((hv.cl (devsOf r.1)).ok (hz.cl (devsOf r.1)))
    have hpl : pl.length = m.Nodes.length := hp.len
    refine Gd.bind_eq hp.run (Gd.ite (fun h => by simp [hpl] at h) (fun _ => ?_))
    refine Gd.seenI (Q := fun x => x = true) (fun pre (_ : Unit) => True) ?_ (fun _ _ => Gd.bind_eq blackstartFact_true (Gd.ret rfl)) _ trivial
    rintro y _ nx pre post hl _ hnx
    obtain ⟨x, hx, hj⟩ := hP.src pre.length pre y post (Nat.le_refl _) hl
    have hyg := (hP.each pre y post hl).1.1.gen
    obtain ⟨y0, yN⟩ := gat_rng hv hyg
    unfold m_gridhallkeep4_BlackstartPlans_b1
    refine Gd.bnd (P := fun b => b = true) ?_ (fun b hb => Gd.ite (fun h => by simp [hb] at h) (fun _ => hnx _ trivial))
    unfold m_slices_ContainsFunc_string_string__gridhallkeep4_BlackstartPlans_2
    refine Gd.bnd (P := fun k => 0 ≤ k) ?_ (fun k hk => Gd.ret (by simpa using hk))
    unfold m_slices_IndexFunc_string_string__gridhallkeep4_BlackstartPlans_2
    refine Gd.forN (fun j i _ => i + j = src.length ∧ ∀ z ∈ src.take i, z ≠ x) ?_ ?_ (src.length : Int).toNat 0 () ⟨by omega, by simp⟩
    · rintro j i _ nx2 ⟨hi, hno⟩ hnx2
      have hlt : i < src.length := by omega
      have hsm := hP.mem _ (List.mem_append_left _ (List.getElem_mem hlt))
      unfold m_slices_IndexFunc_string_string__gridhallkeep4_BlackstartPlans_2_b1
      refine Gd.idxN hlt (Gd.bnd (P := fun b => b = decide (lb pl (gat m src[i]) = lb pl (gat m y.Gen))) ?_ (fun b hb => ?_))
      · unfold m_gridhallkeep4_BlackstartPlans_2
        exact Gd.bind_eq (place_gd hv hpl hsm) (Gd.bind_eq (place_gd hv hpl hyg) (Gd.ret rfl))
      · refine Gd.ite (fun _ => Gd.ret (by show (0 : Int) ≤ (i : Int); omega)) (fun h => hnx2 () ⟨by omega, fun z hz => ?_⟩)
        rw [List.take_succ_eq_append_getElem hlt, List.mem_append, List.mem_singleton] at hz
        rcases hz with hz | rfl
        · exact hno z hz
        · intro e
          rw [hb, e] at h
          obtain ⟨x0, xN⟩ := gat_rng hv (hP.mem x (List.mem_append_left _ hx))
          exact of_decide_eq_false h ((hp.iff _ _ x0 xN y0 yN).2 hj)
    · rintro i _ ⟨hi, hno⟩
      rw [List.take_of_length_le (by omega)] at hno
      exact absurd rfl (hno x hx)
theorem split_lt {α : Type} {P T pre post : List α} {z y : α} (h : P ++ z :: T = pre ++ y :: post) (hl : pre.length < P.length) : ∃ post', P = pre ++ y :: post' := by
  have h1 := congrArg (List.take P.length) h
  rw [List.take_left' rfl] at h1
  rw [List.take_append, List.take_of_length_le (by omega)] at h1
  obtain ⟨j, hj⟩ : ∃ j, P.length - pre.length = j + 1 := ⟨P.length - pre.length - 1, by omega⟩
  rw [hj, List.take_succ_cons] at h1
  exact ⟨_, h1⟩
theorem BlackstartLess_true (n : Net) (src : List BA) (k : Int) (hz0 : NetSz n) : m_gridhallkeep4_BlackstartLess n src k = some true := by
  rw [← Gd.eq]
  unfold m_gridhallkeep4_BlackstartLess
  refine Gd.bnd (bcut_gd hz0) (fun m hz => Gd.bnd (plan_gd hz src) (fun r hr => Gd.ite (fun _ => Gd.bind_eq blackstartFact_true (Gd.ret rfl)) (fun h => ?_)))
  rw [Bool.or_eq_false_iff] at h
  rcases hr with ⟨hr, _⟩ | ⟨hr, hv, hP, hlen⟩
  · exact absurd (by simpa using h.1) hr
  have hne : r.1.length ≠ 0 := by simpa using h.2
  have g4 := hv.l4
  have hw : IntKind.i64.wrap ((r.1.length : Int) - 1) = (r.1.length : Int) - 1 := wrap_id ⟨by omega, by omega⟩
  rw [hw]
  refine Gd.bnd (icut0 k _ (by omega) (by omega)) (fun q ⟨q0, q1⟩ => ?_)
  obtain ⟨q, rfl⟩ : ∃ p : Nat, q = p := ⟨q.toNat, by omega⟩
  have hq : q < r.1.length := by omega
  refine Gd.idxN hq (Gd.ite (fun _ => Gd.bind_eq blackstartFact_true (Gd.ret rfl)) (fun hd => Gd.idxN hq ?_))
  have hd : r.1[q].Devices ≠ [] := fun e => by simp [e] at hd
  have hsplit : r.1 = r.1.take q ++ r.1[q] :: r.1.drop (q + 1) := by
    rw [← List.drop_eq_getElem_cons hq, List.take_append_drop]
  have hpl : (r.1.take q).length = q := by simp; omega
  have hset : ∀ z, r.1.set q z = r.1.take q ++ z :: r.1.drop (q + 1) := fun z => List.set_eq_take_append_cons_drop .. |>.trans (by rw [if_pos hq])
  obtain ⟨hac, hnj⟩ := hP.each _ _ _ hsplit
  rw [Int.toNat_natCast, hset]
  have hver := verify_gd hv hz (List.nodup_append.1 hP.nd).1 (fun x hx => hP.mem x (List.mem_append_left _ hx)) (steps := r.1.take q ++ (⟨r.1[q].Gen, []⟩ : S_api_BlackstartStep) :: r.1.drop (q + 1)) (K := q)
      (by rw [← hset]; simp; omega) (by rw [← hset]; simp; omega) (fun pre y post hl hk => ?_) (fun pre y post hl hk => ?_)
  · refine Gd.bnd hver (fun v hv2 => Gd.bind_eq blackstartFact_true (Gd.ret ?_))
    rw [hv2.1 (by rw [← hset]; simp; omega)]
    simp
  · obtain ⟨post', e⟩ := split_lt hl (by omega)
    exact (hP.each pre y (post' ++ r.1[q] :: r.1.drop (q + 1)) (hsplit.trans (by rw [e, List.append_assoc, List.cons_append]))).1
  · obtain ⟨rfl, h2⟩ := List.append_inj hl (by omega)
    obtain ⟨rfl, _⟩ : (⟨r.1[q].Gen, []⟩ : S_api_BlackstartStep) = y ∧ _ := by simpa using h2
    refine ⟨⟨hac.1.gen, hac.1.new, ⟨by simp, by simp⟩⟩, fun x hx => ?_⟩
    rw [List.append_nil]
    exact hnj hd x hx
end Go.Sim
