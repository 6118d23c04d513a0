/-
  Islands with and without a branch, in plain Lean.
-/
import Derived.Test.YtfmhkgnbceoclaaBstD
namespace Go.Sim
open Go
set_option linter.unusedVariables false
set_option linter.unusedSimpArgs false
set_option linter.unusedSectionVars false
set_option linter.unnecessarySimpa false

/-! ### Counting components -/
theorem reps {N : Nat} {l : List Ed} {r : List Int} {c : Nat} (h : Comp N l r c) : ∃ f : Nat → Int, ∀ a : Nat, a < c → 0 ≤ f a ∧ f a < N ∧ lb r (f a) = a :=
  Classical.axiomOfChoice (r := fun (a : Nat) (u : Int) => a < c → 0 ≤ u ∧ u < N ∧ lb r u = a) (fun a => by
    by_cases e : a < c
    · obtain ⟨u, h1, h2, h3⟩ := h.cov a (by omega) (by omega)
      exact ⟨u, fun _ => ⟨h1, h2, h3⟩⟩
    · exact ⟨0, fun h => absurd h e⟩)
theorem image_nodup {N : Nat} {l l' : List Ed} {r r' : List Int} {c c' : Nat} (h : Comp N l r c) (h' : Comp N l' r' c') (hs : ∀ u v, Conn l' u v → Conn l u v) {f : Nat → Int} (hf : ∀ a : Nat, a < c → 0 ≤ f a ∧ f a < N ∧ lb r (f a) = a) :
    ((List.range c).map (fun a => (lb r' (f a)).toNat)).Nodup := by
  unfold List.Nodup
  rw [List.pairwise_map]
  refine List.Pairwise.imp_of_mem ?_ (List.nodup_range (n := c))
  intro a b ha hb hab e
  rw [List.mem_range] at ha hb
  obtain ⟨a1, a2, a3⟩ := hf a ha
  obtain ⟨b1, b2, b3⟩ := hf b hb
  have p1 := (h'.all _ a1 a2).1
  have p2 := (h'.all _ b1 b2).1
  have e2 : lb r' (f a) = lb r' (f b) := by omega
  have := (h.iff _ _ a1 a2 b1 b2).2 (hs _ _ ((h'.iff _ _ a1 a2 b1 b2).1 e2))
  rw [a3, b3] at this
  exact hab (by omega)
theorem comp_le {N : Nat} {l l' : List Ed} {r r' : List Int} {c c' : Nat} (h : Comp N l r c) (h' : Comp N l' r' c') (hs : ∀ u v, Conn l' u v → Conn l u v) : c ≤ c' := by
  obtain ⟨f, hf⟩ := reps h
  have := nodup_le _ (List.range c') (image_nodup h h' hs hf) (fun x hx => by
    obtain ⟨a, ha, rfl⟩ := List.mem_map.1 hx
    rw [List.mem_range] at ha ⊢
    obtain ⟨a1, a2, _⟩ := hf a ha
    have := h'.all _ a1 a2
    omega)
  simpa using this
theorem comp_lt {N : Nat} {l l' : List Ed} {r r' : List Int} {c c' : Nat} (h : Comp N l r c) (h' : Comp N l' r' c') (hs : ∀ u v, Conn l' u v → Conn l u v) {u v : Int} (u0 : 0 ≤ u) (uN : u < N) (v0 : 0 ≤ v) (vN : v < N)
    (huv : Conn l u v) (hne : lb r' u ≠ lb r' v) : c < c' := by
  obtain ⟨f, hf⟩ := reps h
  have hin : ∀ x : Int, 0 ≤ x → x < N → (lb r' x).toNat ∈ (List.range c).map (fun a => (lb r' (f a)).toNat) → lb r' x = lb r' (f (lb r x).toNat) := fun x x0 xN hx => by
    obtain ⟨a, ha, e⟩ := List.mem_map.1 hx
    rw [List.mem_range] at ha
    obtain ⟨a1, a2, a3⟩ := hf a ha
    have p1 := (h'.all _ a1 a2).1
    have p2 := (h'.all _ x0 xN).1
    have e2 : lb r' (f a) = lb r' x := by have e : (lb r' (f a)).toNat = (lb r' x).toNat := e; omega
    have := (h.iff _ _ a1 a2 x0 xN).2 (hs _ _ ((h'.iff _ _ a1 a2 x0 xN).1 e2))
    rw [a3] at this
    rw [← this, Int.toNat_natCast]
    exact e2.symm
  have hex : ∃ w : Nat, w < c' ∧ w ∉ (List.range c).map (fun a => (lb r' (f a)).toNat) := by
    have b1 := h'.all u u0 uN
    have b2 := h'.all v v0 vN
    by_cases e1 : (lb r' u).toNat ∈ (List.range c).map (fun a => (lb r' (f a)).toNat)
    · by_cases e2 : (lb r' v).toNat ∈ (List.range c).map (fun a => (lb r' (f a)).toNat)
      · have q1 := hin u u0 uN e1
        have q2 := hin v v0 vN e2
        have q3 := (h.iff u v u0 uN v0 vN).2 huv
        rw [q3] at q1
        exact absurd (q1.trans q2.symm) hne
      · exact ⟨_, by omega, e2⟩
    · exact ⟨_, by omega, e1⟩
  obtain ⟨w, hw, hno⟩ := hex
  have := nodup_le (w :: (List.range c).map (fun a => (lb r' (f a)).toNat)) (List.range c') (List.nodup_cons.2 ⟨hno, image_nodup h h' hs hf⟩) (fun x hx => by
    rcases List.mem_cons.1 hx with rfl | hx
    · exact List.mem_range.2 hw
    · obtain ⟨a, ha, rfl⟩ := List.mem_map.1 hx
      rw [List.mem_range] at ha ⊢
      obtain ⟨a1, a2, _⟩ := hf a ha
      have := h'.all _ a1 a2
      omega)
  simp at this
  omega
/-- An edge is taken away: there are more components just if its ends are apart then. -/
theorem comp_cut {N : Nat} {l : List Ed} {r r' : List Int} {c c' q : Nat} (hl : EdOk N l) (hq : q < l.length) (h : Comp N l r c) (h' : Comp N (l.take q ++ l.drop (q + 1)) r' c') : c < c' ↔ lb r' l[q].a0 ≠ lb r' l[q].a1 := by
  obtain ⟨e1, e2, e3, e4⟩ := hl _ (List.getElem_mem hq)
  have hsub : ∀ u v, Conn (l.take q ++ l.drop (q + 1)) u v → Conn l u v := fun u v hc => by
    induction hc with
    | refl => exact .refl
    | snoc _ ha ih =>
      obtain ⟨e, he, hh⟩ := ha
      exact .snoc ih ⟨e, (cut_sub l q).subset he, hh⟩
  constructor
  · intro hlt heq
    have hc' := (h'.iff _ _ e1 e2 e3 e4).1 heq
    have hback : ∀ u v, Conn l u v → Conn (l.take q ++ l.drop (q + 1)) u v := fun u v hc => by
      induction hc with
      | refl => exact .refl
      | snoc _ ha ih =>
        obtain ⟨e, he, hh⟩ := ha
        rw [← List.take_append_drop q l, List.drop_eq_getElem_cons hq, List.mem_append, List.mem_cons] at he
        rcases he with he | rfl | he
        · exact .snoc ih ⟨e, List.mem_append_left _ he, hh⟩
        · rcases hh with ⟨x, y⟩ | ⟨x, y⟩
          · rw [← y]; rw [← x] at ih; exact ih.trans hc'
          · rw [← y]; rw [← x] at ih; exact ih.trans hc'.symm
        · exact .snoc ih ⟨e, List.mem_append_right _ he, hh⟩
    have := comp_le h' h hback
    omega
  · intro hne
    exact comp_lt h h' hsub e1 e2 e3 e4 (.snoc .refl ⟨l[q], List.getElem_mem hq, .inl ⟨rfl, rfl⟩⟩) hne

/-! ### The topology of a network -/
theorem comps_comp (N : Nat) (hN : N ≤ 24) (l : List Ed) (hl : EdOk N l) (hll : l.length ≤ 64) : Gd (m_graph_Components N l) (fun r => r.2 = 0 ∧ ∃ many : Nat, Comp N l r.1 many) := by
  unfold m_graph_Components
  refine Gd.bind_eq (gcheck_ok N hN l hl hll) (Gd.ite (fun h => by simp at h) (fun _ => Gd.bnd (parts_comp N hN l hl hll) (fun r hr => Gd.ret ⟨rfl, hr⟩)))
/-- The greatest number and one. -/
theorem most_eq (N : Nat) (hN : N ≤ 24) (l : List Int) (hl : InN N l) : ∃ m : Nat, m ≤ N ∧ InN m l ∧ (∀ c : Nat, InN c l → m ≤ c) ∧
    ∀ {R : Type} (body : Nat → Int → Int → (Int → Option R) → Option R) (hb : ∀ k y n nx, body k y n nx = nx (max n (IntKind.i64.wrap (y + 1)))) (K : Int → Option R), forI body K 0 l 0 = K (m : Int) := by
  have key : ∀ (ys pre : List Int) (m : Nat), l = pre ++ ys → m ≤ N → InN m pre → (∀ c : Nat, InN c pre → m ≤ c) → ∃ m2 : Nat, m2 ≤ N ∧ InN m2 l ∧ (∀ c : Nat, InN c l → m2 ≤ c) ∧
      ∀ {R : Type} (body : Nat → Int → Int → (Int → Option R) → Option R) (hb : ∀ k y n nx, body k y n nx = nx (max n (IntKind.i64.wrap (y + 1)))) (K : Int → Option R) (i : Nat), forI body K i ys (m : Int) = K (m2 : Int) := by
    intro ys
    induction ys with
    | nil =>
      intro pre m e hm hp hmin
      rw [List.append_nil] at e; subst e
      exact ⟨m, hm, hp, hmin, fun _ _ _ _ => rfl⟩
    | cons y ys ih =>
      intro pre m e hm hp hmin
      have hy := hl y (by rw [e]; exact List.mem_append_right _ (List.mem_cons_self ..))
      have hw : IntKind.i64.wrap (y + 1) = y + 1 := wrap_id ⟨by omega, by omega⟩
      have hmx : max (m : Int) (y + 1) = ((max m (y + 1).toNat : Nat) : Int) := by omega
      obtain ⟨m2, h1, h2, h3, h4⟩ := ih (pre ++ [y]) (max m (y + 1).toNat) (by rw [e]; simp) (by omega) (fun a ha => by
        rcases List.mem_append.1 ha with ha | ha
        · have := hp a ha; omega
        · simp at ha; subst ha; omega) (fun c hc => by
          have c1 := hmin c (fun a ha => hc a (List.mem_append_left _ ha))
          have c2 := hc y (List.mem_append_right _ (List.mem_singleton_self _))
          omega)
      refine ⟨m2, h1, h2, h3, fun {R} body hb K i => ?_⟩
      show body i y (m : Int) (fun s => forI body K (i + 1) ys s) = _
      rw [hb, hw, hmx]
      exact h4 body hb K (i + 1)
  obtain ⟨m2, h1, h2, h3, h4⟩ := key l [] 0 rfl (by omega) (by intro a ha; simp at ha) (fun c _ => by omega)
  exact ⟨m2, h1, h2, h3, fun {R} body hb K => h4 body hb K 0⟩

/-- Where a node is. -/
def pos (n : Net) (s : BA) : Nat := ((m_slices_Index_string_string n.Nodes s).getD 0).toNat
theorem pos_eq {n : Net} {s : BA} (h : s ∈ n.Nodes) : m_slices_Index_string_string n.Nodes s = some (pos n s : Int) ∧ pos n s < n.Nodes.length := by
  obtain ⟨k, hk, hl, _⟩ := nindex_mem h
  unfold pos
  rw [hk]
  exact ⟨rfl, hl⟩
def bEd (n : Net) (bus : List Int) (b : S_api_Branch) : Ed := ⟨bus.getD (pos n b.From) 0, bus.getD (pos n b.To) 0⟩
theorem bEd_ok {n : Net} (hn : NetOk n) {bus : List Int} {m : Nat} (hbl : bus.length = n.Nodes.length) (hm : InN m bus) : EdOk m (n.Branches.map (bEd n bus)) := fun e he => by
  obtain ⟨b, hb, rfl⟩ := List.mem_map.1 he
  obtain ⟨h1, h2⟩ := hn.br b hb
  have p1 := (pos_eq h1).2
  have p2 := (pos_eq h2).2
  have q : ∀ k, k < bus.length → 0 ≤ bus.getD k 0 ∧ bus.getD k 0 < m := fun k hk => by
    rw [List.getD_eq_getElem?_getD, List.getElem?_eq_getElem hk]
    exact hm _ (List.getElem_mem hk)
  exact ⟨(q _ (by omega)).1, (q _ (by omega)).2, (q _ (by omega)).1, (q _ (by omega)).2⟩
theorem get_sem {n : Net} (hn : NetOk n) {bus : List Int} (hbus : m_station_Buses n = some bus) (hbl : bus.length = n.Nodes.length) {m : Nat} (hm24 : m ≤ 24) (hm : InN m bus)
    (hmost : ∀ {R : Type} (body : Nat → Int → Int → (Int → Option R) → Option R) (hb : ∀ k y n nx, body k y n nx = nx (max n (IntKind.i64.wrap (y + 1)))) (K : Int → Option R), forI body K 0 bus 0 = K (m : Int)) :
    Gd (m_topology_Get n) (fun t => t.Bus = bus ∧ ∃ c : Nat, Comp m (n.Branches.map (bEd n bus)) t.Island c) := by
  have l3 := hn.l3
  unfold m_topology_Get
  refine Gd.bind_eq hbus ?_
  rw [hmost _ (fun k y n nx => by unfold m_topology_Get_b1; rfl)]
  refine Gd.seen (fun pre out => out = pre.map (bEd n bus)) ?_ ?_ _ rfl
  · rintro i y out nn pre hpre rfl hnx
    obtain ⟨hpl, hyl, _⟩ := pre_lt hpre
    obtain ⟨h1, h2⟩ := hn.br y hyl
    obtain ⟨p1, p2⟩ := pos_eq h1
    obtain ⟨q1, q2⟩ := pos_eq h2
    have g : ∀ k (hk : k < bus.length), bus[k] = bus.getD k 0 := fun k hk => by
      rw [List.getD_eq_getElem?_getD, List.getElem?_eq_getElem hk]; rfl
    unfold m_topology_Get_b2
    refine Gd.bind_eq p1 (Gd.idxN (by omega) (Gd.bind_eq q1 (Gd.idxN (by omega) (Gd.nd ?_ (hnx _ ?_)))))
    · simp only [List.length_map, List.length_singleton]; omega
    · rw [List.map_append, g _ (by omega), g _ (by omega)]; rfl
  · rintro out rfl
    exact Gd.bnd (comps_comp m hm24 _ (bEd_ok hn hbl hm) (by simp; omega)) (fun r ⟨_, hr⟩ => Gd.ret ⟨rfl, hr⟩)
end Go.Sim
