/-
  A path joins the two nodes that it is between, is as long both ways, and needs each of its switches: the law of the model.
-/
import Derived.Test.YtfmhkgnbceoclaaBstK
namespace Go.Sim
open Go
set_option linter.unusedVariables false
set_option linter.unusedSimpArgs false
set_option linter.unusedSectionVars false
set_option linter.unnecessarySimpa false

theorem Walk.far {l : List Ed} {d e : Int → Int} {u w : Int} {ks : List Int} (h : Walk l d u ks w) (hcl : ∀ u v, Adj l u v → 0 ≤ e u → 0 ≤ e v ∧ e v ≤ e u + 1) (h0 : 0 ≤ e u) : 0 ≤ e w ∧ e w ≤ e u + ks.length := by
  induction h with
  | nil => exact ⟨h0, by simp⟩
  | @snoc ks v w k f hw k0 hk hh hd ih =>
    have := hcl v w ⟨f, List.mem_of_getElem? hk, hh⟩ ih.1
    rw [List.length_append, List.length_singleton]
    omega
theorem way_len {l : List Ed} {a b : Int} {k1 k2 : List Int} {d1 d2 : Int → Int} (h1 : Way l a b k1 d1) (h2 : Way l b a k2 d2) : k2.length ≤ k1.length := by
  have := h1.walk.far h2.cl (by rw [h2.d0]; exact Int.le_refl 0)
  rw [h2.d0, h2.dl] at this
  omega
theorem pos_at {n : Net} (h : NetV n) {p : Nat} (hp : p < n.Nodes.length) : pos n n.Nodes[p] = p := by
  have hnd := h.nd
  unfold names at hnd
  have n1 := (List.nodup_append.1 (List.nodup_append.1 (List.nodup_append.1 (List.nodup_append.1 (List.nodup_append.1 hnd).1).1).1).1).1
  obtain ⟨k, hk, hl, e⟩ := nindex_mem (List.getElem_mem hp)
  unfold pos
  rw [hk]
  show (k : Int).toNat = p
  rw [Int.toNat_natCast]
  have hpw := List.pairwise_iff_getElem.1 n1
  rcases Nat.lt_trichotomy k p with h | h | h
  · exact absurd e (hpw k p hl hp h)
  · exact h
  · exact absurd e.symm (hpw p k hp hl h)
theorem set_sem {m : Net} (hv : NetV m) {y : BA} (hy : y ∈ m.Switches.map (·.Name)) : m_netmodel_Set m y false = some (cl m [y], 0) := by
  have g1 := hv.l1; have g2 := hv.l2; have g3 := hv.l3; have g4 := hv.l4; have g5 := hv.l5; have g6 := hv.l6
  have hcopy : m_netmodel_Copy m = some m := by
    rw [← Gd.eq]
    unfold m_netmodel_Copy
    exact Gd.nd (by omega) (Gd.nd (by omega) (Gd.nd (by omega) (Gd.nd (by omega) (Gd.nd (by omega) (Gd.nd (by omega) (Gd.ret rfl))))))
  obtain ⟨q, hq, e, hqn⟩ := swI_mem hy
  have hnd := hv.nd
  unfold names at hnd
  have n2 := (List.nodup_append.1 (List.nodup_append.1 (List.nodup_append.1 (List.nodup_append.1 hnd).1).1).1).1
  have hno : y ∉ m.Nodes := fun hm => (List.nodup_append.1 n2).2.2 _ hm _ hy rfl
  have hfind : m_netmodel_find m y = some (⟨#[115, 119, 105, 116, 99, 104]⟩, (q : Int)) := by
    rw [← Gd.eq]
    unfold m_netmodel_find
    refine Gd.bnd (nindex_gd _ _) (fun r hr => ?_)
    rcases hr with ⟨rfl, _⟩ | ⟨k, hk, rfl, e⟩
    · refine Gd.ite (fun h => by simp at h) (fun _ => ?_)
      rw [swI_same2]
      exact Gd.bind_eq e (Gd.ite (fun _ => Gd.ret rfl) (fun h => by simp at h))
    · exact absurd (e ▸ List.getElem_mem hk) hno
  have hFind : m_netmodel_Find m y = some (⟨#[115, 119, 105, 116, 99, 104]⟩, (q : Int), 0) := by
    rw [← Gd.eq]
    unfold m_netmodel_Find
    exact Gd.bind_eq (check_comp m hv) (Gd.ite (fun h => by simp at h) (fun _ => Gd.bind_eq hfind (Gd.ite (fun h => by simp at h; omega) (fun _ => Gd.ret rfl))))
  have k3 : decide ((⟨#[115, 119, 105, 116, 99, 104]⟩ : ByteArray) = ⟨#[115, 119, 105, 116, 99, 104]⟩) = true := by decide
  rw [← Gd.eq]
  unfold m_netmodel_Set
  refine Gd.bind_eq hFind (Gd.ite (fun h => by simp at h) (fun _ => Gd.ite (fun h => by simp [k3] at h) (fun _ => Gd.bind_eq hcopy (Gd.idxN hq (Gd.ret ?_)))))
  rw [Int.toNat_natCast, set_shut (sw_nodup hv) hq, hqn]
  rfl
theorem paths1_gd {n : Net} (hv : NetV n) (hz : NetSz n) {D : List BA} (hD : ∀ x ∈ D, x ∈ n.Switches.map (·.Name)) {p q : Nat} (hp : p < n.Nodes.length) (hq : q < n.Nodes.length) :
    Gd (m_gridhallkeep4_BlackstartPaths_1 D n (p : Int) (q : Int)) (fun b => b = true ↔ Conn (joins (cl n D)) (p : Int) (q : Int)) := by
  unfold m_gridhallkeep4_BlackstartPaths_1
  refine Gd.seen (fun pre t => t = ((cl n pre).Nodes, (cl n pre).Switches, (cl n pre).Branches, (cl n pre).Gens, (cl n pre).Loads, (cl n pre).Stores)) ?_ ?_ _ (by rw [cl_nil])
  · rintro i y t n2 pre hpre rfl hn2
    have hmem : y ∈ (cl n pre).Switches.map (·.Name) := by
      rw [cl_names]; exact hD y (pre_lt hpre).2.1
    unfold m_gridhallkeep4_BlackstartPaths_1_b1
    refine Gd.bind_eq (set_sem (m := cl n pre) (hv.cl _) hmem) (hn2 _ ?_)
    rw [cl_cl]
  · rintro t rfl
    obtain ⟨pl, hpl⟩ := places_sem (hv.cl D) ((hv.cl D).ok (hz.cl D))
    have hlen : pl.length = n.Nodes.length := hpl.len
    have hiff := hpl.iff (p : Int) (q : Int) (by omega) (by show (p : Int) < (n.Nodes.length : Int); omega) (by omega) (by show (q : Int) < (n.Nodes.length : Int); omega)
    have hp2 : p < pl.length := by omega
    have hq2 : q < pl.length := by omega
    refine Gd.bind_eq hpl.run (Gd.ite (fun _ => Gd.ite (fun _ => Gd.idxN hp2 (Gd.idxN hq2 (Gd.ret ?_))) (fun h => by simp [hlen] at h)) (fun h => by simp at h))
    rw [decide_eq_true_eq, ← hiff, lb_at (by omega), lb_at (by omega)]
theorem Path_gd {n : Net} (h : NetV n) {pl : List Int} (hp : Pl n pl) {a b : BA} (ha : a ∈ n.Nodes) (hb : b ∈ n.Nodes) :
    Gd (m_blackstart_Path n a b) (fun r => (r = ([], 8) ∧ ¬ Conn (oEd n pl) (lb pl (pos n a)) (lb pl (pos n b))) ∨ (r.2 = 0 ∧ ∃ ks d, Way (oEd n pl) (lb pl (pos n a)) (lb pl (pos n b)) ks d ∧ r.1 = nmOf n ks)) := by
  unfold m_blackstart_Path
  refine Gd.bind_eq (check_comp n h) (Gd.ite (fun h => by simp at h) (fun _ => ?_))
  refine Gd.forN (fun m i _ => i + m = 2) ?_ ?_ (2 : Int).toNat 0 () rfl
  · rintro m i _ nx hi hnx
    have hlt : i < [a, b].length := by simp; omega
    have hmem : ([a, b])[i] ∈ n.Nodes := by
      have := List.getElem_mem hlt
      simp only [List.mem_cons, List.not_mem_nil, or_false] at this
      rcases this with e | e <;> rw [e] <;> assumption
    unfold m_blackstart_Path_b1
    refine Gd.idxN hlt (Gd.bnd (ncontains_gd n.Nodes _) (fun c hc => Gd.ite (fun h => ?_) (fun _ => hnx () (by omega))))
    rw [hc.2 hmem] at h; cases h
  · rintro i _ _
    refine Gd.bnd (bpath_gd h hp ha hb) (fun r hr => ?_)
    rcases hr with ⟨rfl, hno⟩ | ⟨hr, hw⟩
    · exact Gd.ite (fun _ => Gd.ret (.inl ⟨rfl, hno⟩)) (fun h => by simp at h)
    · exact Gd.ite (fun h => by simp [hr] at h) (fun _ => Gd.ret (.inr ⟨rfl, hw⟩))
theorem mem_cut {α : Type} {D : List α} {k : Nat} {x : α} (h : x ∈ D.take k ++ D.drop (k + 1)) : ∃ (i : Nat) (hi : i < D.length), i ≠ k ∧ D[i] = x := by
  rcases List.mem_append.1 h with h | h
  · obtain ⟨i, hi, e⟩ := List.mem_iff_getElem.1 h
    rw [List.getElem_take] at e
    simp only [List.length_take] at hi
    exact ⟨i, by omega, by omega, e⟩
  · obtain ⟨i, hi, e⟩ := List.mem_iff_getElem.1 h
    rw [List.getElem_drop] at e
    simp only [List.length_drop] at hi
    exact ⟨k + 1 + i, by omega, by omega, e⟩
/-- Without one of its switches the path joins nothing. -/
theorem way_cut {n : Net} (hv : NetV n) {pl : List Int} (hp : Pl n pl) {i j : Int} (i0 : 0 ≤ i) (iN : i < n.Nodes.length) (j0 : 0 ≤ j) (jN : j < n.Nodes.length) {ks : List Int} {d : Int → Int} (h : Way (oEd n pl) (lb pl i) (lb pl j) ks d) {k : Nat} (hk : k < ks.length) :
    ¬ Conn (joins (cl n ((nmOf n ks).take k ++ (nmOf n ks).drop (k + 1)))) i j := by
  rw [joined_iff hv hp _ i0 iN j0 jN]
  have hlev := h.walk.lev.2
  have hdl := h.dl
  have hd0 := h.d0
  have key : ∀ w, Conn ((nmEd n ((nmOf n ks).take k ++ (nmOf n ks).drop (k + 1))).map (qEd pl)) (lb pl i) w → d (lb pl i) - k ≤ d w := by
    intro w hc
    induction hc with
    | refl => omega
    | snoc _ ha ih =>
      obtain ⟨f, hf, hh⟩ := ha
      obtain ⟨g, hg, rfl⟩ := List.mem_map.1 hf
      obtain ⟨s, hs, rfl⟩ := List.mem_map.1 hg
      obtain ⟨hso, hsn⟩ := List.mem_filter.1 hs
      obtain ⟨t, ht, htk, e⟩ := mem_cut (of_decide_eq_true hsn)
      have ht2 : t < ks.length := by unfold nmOf at ht; simpa using ht
      have bt := (way_bnd h (List.getElem_mem ht2)).2
      have e2 : (nmOf n ks)[t] = (oNm n).getD (ks[t]).toNat ⟨#[]⟩ := List.getElem_map ..
      rw [e2, nm_at bt] at e
      have es : (opens n)[(ks[t]).toNat] = s := map_inj (f := fun s : S_api_Switch => s.Name) (oNm_nodup hv) (List.getElem_mem bt) hso e
      obtain ⟨_, f2, hf2, hdn⟩ := hlev t ht2
      unfold oEd at hf2
      rw [List.getElem?_map, List.getElem?_eq_getElem bt, es] at hf2
      obtain rfl := Option.some.inj hf2
      unfold Dn at hdn
      rcases hh with ⟨x, y⟩ | ⟨x, y⟩
      · rw [x, y] at hdn
        omega
      · rw [x, y] at hdn
        omega
  intro hc
  have := key _ hc
  omega
theorem BlackstartPaths_true (n : Net) (i j : Int) (hz : NetSz n) : m_gridhallkeep4_BlackstartPaths n i j = some true := by
  rw [← Gd.eq]
  unfold m_gridhallkeep4_BlackstartPaths
  refine Gd.bnd (check_sound n hz) (fun e he => Gd.ite (fun _ => Gd.bind_eq blackstartFact_true (Gd.ret rfl)) (fun h => ?_))
  rw [Bool.or_eq_false_iff] at h
  have hv := he (by simpa using h.1)
  have hne : n.Nodes.length ≠ 0 := by simpa using h.2
  have g1 := hv.l1
  obtain ⟨pl, hp⟩ := places_sem hv (hv.ok hz)
  have hw : IntKind.i64.wrap ((n.Nodes.length : Int) - 1) = (n.Nodes.length : Int) - 1 := wrap_id ⟨by omega, by omega⟩
  rw [hw]
  refine Gd.bnd (icut0 i _ (by omega) (by omega)) (fun p ⟨p0, p1⟩ => ?_)
  obtain ⟨p, rfl⟩ : ∃ t : Nat, p = t := ⟨p.toNat, by omega⟩
  refine Gd.bnd (icut0 j _ (by omega) (by omega)) (fun q ⟨q0, q1⟩ => ?_)
  obtain ⟨q, rfl⟩ : ∃ t : Nat, q = t := ⟨q.toNat, by omega⟩
  have hpN : p < n.Nodes.length := by omega
  have hqN : q < n.Nodes.length := by omega
  have hpm := List.getElem_mem hpN
  have hqm := List.getElem_mem hqN
  have h12 := Path_gd hv hp hpm hqm
  have h21 := Path_gd hv hp hqm hpm
  rw [pos_at hv hpN, pos_at hv hqN] at h12 h21
  refine Gd.idxN hpN (Gd.idxN hqN (Gd.bnd h12 (fun r hr => Gd.idxN hqN (Gd.idxN hpN (Gd.bnd h21 (fun t ht => ?_))))))
  rcases hr with ⟨rfl, hno⟩ | ⟨hr, ks, d, hwy, hr1⟩
  · rcases ht with ⟨rfl, _⟩ | ⟨_, ks, d, hwy, _⟩
    · exact Gd.ite (fun _ => Gd.bind_eq blackstartFact_true (Gd.ret (by simp))) (fun h => by simp at h)
    · exact absurd (hwy.walk.conn (fun k hk e he => List.mem_of_getElem? he)).symm hno
  · rcases ht with ⟨rfl, hno⟩ | ⟨ht, ks', d', hwy', ht1⟩
    · exact absurd (hwy.walk.conn (fun k hk e he => List.mem_of_getElem? he)).symm hno
    · have hl1 : r.1.length = ks.length := by rw [hr1]; simp [nmOf]
      have hl2 : t.1.length = ks'.length := by rw [ht1]; simp [nmOf]
      have a1 := way_len hwy hwy'
      have a2 := way_len hwy' hwy
      have hD : ∀ x ∈ nmOf n ks, x ∈ n.Switches.map (·.Name) := fun x hx => by
        obtain ⟨s, hs, e, _⟩ := (way_dev hv hwy).op x hx
        exact List.mem_map.2 ⟨s, hs, e⟩
      have hkl : ks.length ≤ 32 := by
        have := (way_dev hv hwy).len hv
        simpa [nmOf] using this
      refine Gd.ite (fun h => by simp [hr] at h) (fun _ => Gd.ite (fun h => ?_) (fun _ => ?_))
      · rw [Bool.or_eq_true] at h
        rcases h with h | h
        · simp [ht] at h
        · simp at h; omega
      · rw [hr1]
        have hnl : (nmOf n ks).length = ks.length := by simp [nmOf]
        refine Gd.forN (Q := fun x => x = true) (fun m k (_ : Unit) => k + m = (nmOf n ks).length) ?_ ?_ ((nmOf n ks).length : Int).toNat 0 () (by omega)
        · rintro m k _ nx hk hnx
          have hk2 : k < ks.length := by omega
          have hwk : IntKind.i64.wrap ((k : Int) + 1) = ((k + 1 : Nat) : Int) := by rw [wrap_id ⟨by omega, by omega⟩]; omega
          unfold m_gridhallkeep4_BlackstartPaths_b1
          rw [hr1, hwk]
          refine Gd.nd (by omega) (Gd.nd ⟨by omega, by omega, by omega⟩ ?_)
          rw [Int.toNat_natCast, Int.toNat_natCast]
          refine Gd.bnd (paths1_gd hv hz (D := (nmOf n ks).take k ++ (nmOf n ks).drop (k + 1)) (fun x hx => ?_) hpN hqN) (fun b hb => Gd.ite (fun h => ?_) (fun _ => hnx () (by omega)))
          · exact hD x ((cut_sub (nmOf n ks) k).subset hx)
          · exact absurd (hb.1 h) (way_cut hv hp (by omega) (by omega) (by omega) (by omega) hwy hk2)
        · rintro k _ _
          refine Gd.bind_eq blackstartFact_true (Gd.ite (fun _ => Gd.bnd (paths1_gd hv hz hD hpN hqN) (fun b hb => Gd.ret ?_)) (fun h => by cases h))
          exact hb.2 (way_joins hv hp (by omega) (by omega) (by omega) (by omega) hwy)
end Go.Sim
