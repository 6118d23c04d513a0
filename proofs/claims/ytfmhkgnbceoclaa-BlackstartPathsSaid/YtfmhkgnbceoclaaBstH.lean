/-
  A path of switches between two nodes, in plain Lean; switches that are closed.
-/
import Derived.Test.YtfmhkgnbceoclaaBstG
namespace Go.Sim
open Go
set_option linter.unusedVariables false
set_option linter.unusedSimpArgs false
set_option linter.unusedSectionVars false
set_option linter.unnecessarySimpa false

instance memDec (x : BA) (D : List BA) : Decidable (x ∈ D) :=
  decidable_of_iff (D.any (fun y => decide (y = x)) = true) ⟨fun h => by
    obtain ⟨y, hy, e⟩ := List.any_eq_true.1 h
    rw [← of_decide_eq_true e]; exact hy, fun h => List.any_eq_true.2 ⟨x, h, decide_eq_true rfl⟩⟩

/-! ### Walks -/
def Dn (d : Int → Int) (e : Ed) (m : Int) : Prop := (d e.a0 = m + 1 ∧ d e.a1 = m) ∨ (d e.a1 = m + 1 ∧ d e.a0 = m)
theorem Walk.lev {l : List Ed} {d : Int → Int} {u w : Int} {ks : List Int} (h : Walk l d u ks w) : d w = d u - ks.length ∧ ∀ (i : Nat) (hi : i < ks.length), 0 ≤ ks[i] ∧ ∃ e, l[(ks[i]).toNat]? = some e ∧ Dn d e (d u - 1 - i) := by
  induction h with
  | nil => exact ⟨by simp, fun i hi => by simp at hi⟩
  | @snoc ks v w k e hw k0 hk hh hd ih =>
    obtain ⟨h1, h2⟩ := ih
    refine ⟨by rw [List.length_append, List.length_singleton]; omega, fun i hi => ?_⟩
    rw [List.length_append, List.length_singleton] at hi
    by_cases e2 : i < ks.length
    · rw [List.getElem_append_left e2]; exact h2 i e2
    · obtain rfl : i = ks.length := by omega
      rw [List.getElem_concat_length rfl]
      refine ⟨k0, e, hk, ?_⟩
      rcases hh with ⟨rfl, rfl⟩ | ⟨rfl, rfl⟩
      · exact .inl ⟨by omega, by omega⟩
      · exact .inr ⟨by omega, by omega⟩
theorem Walk.bnd {l : List Ed} {d : Int → Int} {u w : Int} {ks : List Int} (h : Walk l d u ks w) {k : Int} (hk : k ∈ ks) : 0 ≤ k ∧ k.toNat < l.length := by
  obtain ⟨i, hi, rfl⟩ := List.mem_iff_getElem.1 hk
  obtain ⟨a, e, he, _⟩ := h.lev.2 i hi
  exact ⟨a, (List.getElem?_eq_some_iff.1 he).1⟩
theorem Walk.conn {l F : List Ed} {d : Int → Int} {u w : Int} {ks : List Int} (h : Walk l d u ks w) (hF : ∀ k ∈ ks, ∀ e, l[k.toNat]? = some e → e ∈ F) : Conn F u w := by
  induction h with
  | nil => exact .refl
  | @snoc ks v w k e hw k0 hk hh hd ih =>
    exact (ih (fun k' hk' => hF k' (List.mem_append_left _ hk'))).snoc ⟨e, hF k (List.mem_append_right _ (List.mem_singleton_self _)) e hk, hh⟩
theorem Walk.inj {l : List Ed} {d : Int → Int} {u w : Int} {ks : List Int} (h : Walk l d u ks w) {i j : Nat} (hi : i < ks.length) (hj : j < ks.length) (e : (ks[i]).toNat = (ks[j]).toNat) : i = j := by
  obtain ⟨_, e1, h1, d1⟩ := h.lev.2 i hi
  obtain ⟨_, e2, h2, d2⟩ := h.lev.2 j hj
  rw [e, h2] at h1
  obtain rfl := Option.some.inj h1
  unfold Dn at d1 d2
  omega

theorem Walk.nd {l : List Ed} {d : Int → Int} {u w : Int} {ks : List Int} (h : Walk l d u ks w) : (ks.map (·.toNat)).Nodup := by
  rw [List.nodup_iff_pairwise_ne, List.pairwise_iff_getElem]
  intro i j hi hj hij e
  rw [List.getElem_map, List.getElem_map] at e
  have := h.inj (by simpa using hi) (by simpa using hj) e
  omega
theorem Walk.len {l : List Ed} {d : Int → Int} {u w : Int} {ks : List Int} (h : Walk l d u ks w) : ks.length ≤ l.length := by
  have := nodup_le (ks.map (·.toNat)) (List.range l.length) h.nd (fun x hx => by
    obtain ⟨k, hk, rfl⟩ := List.mem_map.1 hx
    exact List.mem_range.2 (h.bnd hk).2)
  simpa using this

/-! ### Switches that are closed -/
def shutS (D : List BA) (s : S_api_Switch) : S_api_Switch := if s.Name ∈ D then ⟨s.Name, s.A, s.B_, s.Breaker, false⟩ else s
def cl (n : Net) (D : List BA) : Net := ⟨n.Nodes, n.Switches.map (shutS D), n.Branches, n.Gens, n.Loads, n.Stores⟩
theorem shutS_name (D : List BA) (s : S_api_Switch) : (shutS D s).Name = s.Name := by unfold shutS; split <;> rfl
theorem shutS_A (D : List BA) (s : S_api_Switch) : (shutS D s).A = s.A := by unfold shutS; split <;> rfl
theorem shutS_B (D : List BA) (s : S_api_Switch) : (shutS D s).B_ = s.B_ := by unfold shutS; split <;> rfl
theorem shutS_open (D : List BA) (s : S_api_Switch) : (shutS D s).Open = (s.Open && !decide (s.Name ∈ D)) := by
  unfold shutS
  by_cases h : s.Name ∈ D <;> simp [h]
theorem cl_nil (n : Net) : cl n [] = n := by
  have : n.Switches.map (shutS []) = n.Switches := by
    conv => rhs; rw [← List.map_id n.Switches]
    exact List.map_congr_left (fun s _ => by simp [shutS])
  unfold cl; rw [this]
theorem cl_cl (n : Net) (D D' : List BA) : cl (cl n D) D' = cl n (D ++ D') := by
  unfold cl
  simp only [List.map_map]
  congr 1
  refine List.map_congr_left (fun s _ => ?_)
  unfold Function.comp
  show shutS D' (shutS D s) = shutS (D ++ D') s
  unfold shutS
  by_cases h1 : s.Name ∈ D <;> by_cases h2 : s.Name ∈ D' <;> simp [h1, h2]
theorem cl_names (n : Net) (D : List BA) : (cl n D).Switches.map (·.Name) = n.Switches.map (·.Name) := by
  unfold cl
  simp only [List.map_map]
  exact List.map_congr_left (fun s _ => shutS_name D s)
theorem NetV.cl {n : Net} (h : NetV n) (D : List BA) : NetV (Sim.cl n D) := by
  refine ⟨h.l1, by have := h.l2; unfold Sim.cl; simp only [List.length_map]; exact this, h.l3, h.l4, h.l5, h.l6, ?_, h.vn, fun x hx => ?_, h.vb, h.vg, h.vl, h.vt⟩
  · have := h.nd
    unfold names at this ⊢
    rw [cl_names]
    exact this
  · obtain ⟨s, hs, rfl⟩ := List.mem_map.1 hx
    rw [shutS_name, shutS_A, shutS_B]
    exact h.vs s hs
theorem NetSz.cl {n : Net} (h : NetSz n) (D : List BA) : NetSz (Sim.cl n D) :=
  ⟨h.nd, fun x hx => by
    obtain ⟨s, hs, rfl⟩ := List.mem_map.1 hx
    rw [shutS_name]; exact h.sw s hs, h.br, h.gn, h.ld, h.st⟩
theorem mem_joins {n : Net} {D : List BA} {e : Ed} : e ∈ joins (cl n D) ↔ e ∈ brs n ∨ ∃ s ∈ n.Switches, (s.Open = false ∨ s.Name ∈ D) ∧ e = sEd n s := by
  have hsd : ∀ s : S_api_Switch, sEd (cl n D) (shutS D s) = sEd n s := fun s => by
    unfold sEd; rw [shutS_A, shutS_B]; rfl
  unfold joins shut
  rw [List.mem_append]
  constructor
  · rintro (h | h)
    · obtain ⟨t, ht, rfl⟩ := List.mem_map.1 h
      obtain ⟨ht, ho⟩ := List.mem_filter.1 ht
      obtain ⟨s, hs, rfl⟩ := List.mem_map.1 ht
      refine .inr ⟨s, hs, ?_, hsd s⟩
      rw [shutS_open] at ho
      by_cases h2 : s.Name ∈ D
      · exact .inr h2
      · simp [h2] at ho; exact .inl ho
    · exact .inl h
  · rintro (h | ⟨s, hs, ho, rfl⟩)
    · exact .inr h
    · refine .inl (List.mem_map.2 ⟨shutS D s, List.mem_filter.2 ⟨List.mem_map.2 ⟨s, hs, rfl⟩, ?_⟩, hsd s⟩)
      rw [shutS_open]
      rcases ho with ho | ho <;> simp [ho]
theorem mem_joins0 {n : Net} {e : Ed} : e ∈ joins n ↔ e ∈ brs n ∨ ∃ s ∈ n.Switches, s.Open = false ∧ e = sEd n s := by
  have := mem_joins (n := n) (D := []) (e := e)
  rw [cl_nil] at this
  simpa using this
theorem joins_mono {n : Net} {D D' : List BA} (h : ∀ x ∈ D, x ∈ D') {u v : Int} (hc : Conn (joins (cl n D)) u v) : Conn (joins (cl n D')) u v :=
  hc.mono (fun e he => by
    rw [mem_joins] at he ⊢
    rcases he with he | ⟨s, hs, ho, rfl⟩
    · exact .inl he
    · exact .inr ⟨s, hs, ho.imp id (h _), rfl⟩)
theorem sw_nodup {n : Net} (h : NetV n) : (n.Switches.map (·.Name)).Nodup := by
  have hnd := h.nd
  unfold names at hnd
  exact (List.nodup_append.1 (List.nodup_append.1 (List.nodup_append.1 (List.nodup_append.1 (List.nodup_append.1 hnd).1).1).1).1).2.1
theorem gn_nodup {n : Net} (h : NetV n) : (n.Gens.map (·.Name)).Nodup := by
  have hnd := h.nd
  unfold names at hnd
  exact (List.nodup_append.1 (List.nodup_append.1 (List.nodup_append.1 hnd).1).1).2.1
theorem map_inj {α : Type} {f : α → BA} {l : List α} (h : (l.map f).Nodup) {x y : α} (hx : x ∈ l) (hy : y ∈ l) (e : f x = f y) : x = y := by
  obtain ⟨i, hi, rfl⟩ := List.mem_iff_getElem.1 hx
  obtain ⟨j, hj, rfl⟩ := List.mem_iff_getElem.1 hy
  have hpw := List.pairwise_iff_getElem.1 h
  have hi' : i < (l.map f).length := by simpa using hi
  have hj' : j < (l.map f).length := by simpa using hj
  rcases Nat.lt_trichotomy i j with h | h | h
  · exact absurd (by simpa using e) (hpw i j hi' hj' h)
  · subst h; rfl
  · exact absurd (by simpa using e.symm) (hpw j i hj' hi' h)
/-- A switch is closed where it lies. -/
theorem set_shut {l : List S_api_Switch} (hnd : (l.map (·.Name)).Nodup) {k : Nat} (hk : k < l.length) : l.set k ⟨l[k].Name, l[k].A, l[k].B_, l[k].Breaker, false⟩ = l.map (shutS [l[k].Name]) := by
  refine List.ext_getElem (by simp) (fun i h1 h2 => ?_)
  have hi : i < l.length := by simpa using h2
  rw [List.getElem_set, List.getElem_map]
  unfold shutS
  by_cases e : k = i
  · subst e; simp
  · rw [if_neg e, if_neg (fun hm => e ?_)]
    have he : l[i].Name = l[k].Name := by simpa using hm
    have hpw := List.pairwise_iff_getElem.1 hnd
    have hi' : i < (l.map (·.Name)).length := by simpa using hi
    have hk' : k < (l.map (·.Name)).length := by simpa using hk
    rcases Nat.lt_trichotomy k i with h | h | h
    · exact absurd (by simpa using he.symm) (hpw k i hk' hi' h)
    · exact h
    · exact absurd (by simpa using he) (hpw i k hi' hk' h)

/-! ### The path of switches -/
def opens (n : Net) : List S_api_Switch := n.Switches.filter (·.Open)
def oEd (n : Net) (pl : List Int) : List Ed := (opens n).map (fun s => qEd pl (sEd n s))
def oNm (n : Net) : List BA := (opens n).map (·.Name)
/-- Devices that can be closed. -/
structure DevOk (n : Net) (D : List BA) : Prop where
  nd : D.Nodup
  op : ∀ x ∈ D, ∃ s ∈ n.Switches, s.Name = x ∧ s.Open = true
theorem oNm_nodup {n : Net} (h : NetV n) : (oNm n).Nodup :=
  ((List.filter_sublist (l := n.Switches) (p := fun s : S_api_Switch => s.Open)).map (fun s : S_api_Switch => s.Name)).nodup (sw_nodup h)
theorem opens_len {n : Net} (h : NetV n) : (opens n).length ≤ 32 := Nat.le_trans (List.length_filter_le ..) h.l2
theorem oEd_ok {n : Net} (h : NetV n) {pl : List Int} (hp : Pl n pl) : EdOk n.Nodes.length (oEd n pl) := fun e he => by
  obtain ⟨s, hs, rfl⟩ := List.mem_map.1 he
  obtain ⟨a, b, c, d⟩ := sEd_ok h (List.mem_filter.1 hs).1
  have p := hp.rng _ a b
  have q := hp.rng _ c d
  exact ⟨p.1, p.2, q.1, q.2⟩
/-- What a path is named. -/
def nmOf (n : Net) (ks : List Int) : List BA := ks.map (fun k => (oNm n).getD k.toNat ⟨#[]⟩)
theorem bpath1 {n : Net} (h : NetV n) {pl : List Int} (hp : Pl n pl) {s : BA} (hs : s ∈ n.Nodes) : m_blackstart_path_1 s pl n = some (lb pl (pos n s)) := by
  rw [← Gd.eq]
  unfold m_blackstart_path_1
  obtain ⟨e, hl⟩ := pos_eq hs
  have hl2 : pos n s < pl.length := by rw [hp.len]; exact hl
  refine Gd.bind_eq e (Gd.idxN hl2 (Gd.ret ?_))
  rw [lb_at hl2]
theorem bpath_gd {n : Net} (h : NetV n) {pl : List Int} (hp : Pl n pl) {a b : BA} (ha : a ∈ n.Nodes) (hb : b ∈ n.Nodes) :
    Gd (m_blackstart_path n a b) (fun r => (r = ([], false) ∧ ¬ Conn (oEd n pl) (lb pl (pos n a)) (lb pl (pos n b))) ∨ (r.2 = true ∧ ∃ ks d, Way (oEd n pl) (lb pl (pos n a)) (lb pl (pos n b)) ks d ∧ r.1 = nmOf n ks)) := by
  have l1 := h.l1
  have l2 := h.l2
  have hol := opens_len h
  have qa := hp.rng (pos n a) (by omega) (by have := (pos_eq ha).2; omega)
  have qb := hp.rng (pos n b) (by omega) (by have := (pos_eq hb).2; omega)
  unfold m_blackstart_path
  refine Gd.bind_eq hp.run ?_
  refine Gd.seen (fun pre (s : List Ed × List BA) => s.1 = (pre.filter (·.Open)).map (fun s => qEd pl (sEd n s)) ∧ s.2 = (pre.filter (·.Open)).map (·.Name)) ?_ ?_ _ ⟨rfl, rfl⟩
  · rintro i y ⟨x1, x2⟩ nx pre hpre ⟨h1, h2⟩ hnx
    simp only at h1 h2
    subst h1; subst h2
    obtain ⟨hpl, hyl, _⟩ := pre_lt hpre
    obtain ⟨_, hA, hB, _⟩ := h.vs y hyl
    have hfl : (pre.filter (·.Open)).length ≤ pre.length := List.length_filter_le ..
    unfold m_blackstart_path_b3 m_blackstart_path_b4
    refine Gd.ite (fun ho => ?_) (fun ho => hnx _ ⟨by simp [List.filter_append, ho], by simp [List.filter_append, ho]⟩)
    refine Gd.bind_eq (bpath1 h hp hA) (Gd.bind_eq (bpath1 h hp hB) (Gd.nd (by simp; omega) (Gd.nd (by simp; omega) (hnx _ ⟨?_, ?_⟩))))
    · simp [List.filter_append, ho]; rfl
    · simp [List.filter_append, ho]
  · rintro ⟨x1, x2⟩ ⟨h1, h2⟩
    have h1 : x1 = oEd n pl := h1
    have h2 : x2 = oNm n := h2
    subst h1; subst h2
    refine Gd.bind_eq (bpath1 h hp ha) (Gd.bind_eq (bpath1 h hp hb) (Gd.bnd (gPath_gd n.Nodes.length l1 (oEd n pl) (oEd_ok h hp) (by unfold oEd; simp; omega) _ _ qa.1 qa.2 qb.1 qb.2) (fun r hr => ?_)))
    rcases hr with ⟨hr, hno⟩ | ⟨hr, d, hw⟩
    · exact Gd.ite (fun _ => Gd.ret (.inl ⟨rfl, hno⟩)) (fun h => by simp [hr] at h)
    · refine Gd.ite (fun h => by simp [hr] at h) (fun _ => ?_)
      have hrl : r.1.length ≤ 32 := Nat.le_trans hw.walk.len (by unfold oEd; simpa using hol)
      refine Gd.seen (fun pre out => out = nmOf n pre) ?_ (fun s hs => Gd.ret (.inr ⟨rfl, r.1, d, hw, hs⟩)) _ rfl
      rintro i k out nn pre hpre rfl hnx
      obtain ⟨hpl, hkl, _⟩ := pre_lt hpre
      obtain ⟨k0, kl⟩ := hw.walk.bnd hkl
      have kl2 : k.toNat < (oNm n).length := by unfold oEd at kl; unfold oNm; simpa using kl
      unfold m_blackstart_path_b5
      refine Gd.ix k0 (List.getElem?_eq_getElem kl2) (Gd.nd ?_ (hnx _ ?_))
      · unfold nmOf; simp only [List.length_map, List.length_singleton]; omega
      · unfold nmOf
        rw [List.map_append, List.map_singleton, List.getD_eq_getElem?_getD, List.getElem?_eq_getElem kl2]; rfl
end Go.Sim
