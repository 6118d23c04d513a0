/-
  Which nodes are in one place, in plain Lean: those that closed switches and branches join.
-/
import Derived.Test.YtfmhkgnbceoclaaBstE
namespace Go.Sim
open Go
set_option linter.unusedVariables false
set_option linter.unusedSimpArgs false
set_option linter.unusedSectionVars false
set_option linter.unnecessarySimpa false

theorem Adj.mono {l l' : List Ed} (h : ∀ e ∈ l, e ∈ l') {u v : Int} (ha : Adj l u v) : Adj l' u v := by
  obtain ⟨e, he, hh⟩ := ha
  exact ⟨e, h e he, hh⟩
theorem Conn.mono {l l' : List Ed} (h : ∀ e ∈ l, e ∈ l') {u v : Int} (hc : Conn l u v) : Conn l' u v := by
  induction hc with
  | refl => exact .refl
  | snoc _ ha ih => exact .snoc ih (ha.mono h)
/-- An edge between the classes. -/
def qEd (r : List Int) (e : Ed) : Ed := ⟨lb r e.a0, lb r e.a1⟩
theorem EdOk.adj {N : Nat} {l : List Ed} (h : EdOk N l) {u v : Int} (ha : Adj l u v) : 0 ≤ u ∧ u < N ∧ 0 ≤ v ∧ v < N := by
  obtain ⟨e, he, ⟨rfl, rfl⟩ | ⟨rfl, rfl⟩⟩ := ha
  · exact h e he
  · obtain ⟨a, b, c, d⟩ := h e he
    exact ⟨c, d, a, b⟩
/-- Classes of nodes, joined by more edges. -/
theorem quot {N : Nat} {E F : List Ed} {r : List Int} (h : ∀ u v : Int, 0 ≤ u → u < N → 0 ≤ v → v < N → (lb r u = lb r v ↔ Conn E u v)) (hE : EdOk N E) (hF : EdOk N F) {i j : Int} (i0 : 0 ≤ i) (iN : i < N) (j0 : 0 ≤ j) (jN : j < N) :
    Conn (F.map (qEd r)) (lb r i) (lb r j) ↔ Conn (E ++ F) i j := by
  constructor
  · have key : ∀ w, Conn (F.map (qEd r)) (lb r i) w → ∀ j, 0 ≤ j → j < (N : Int) → w = lb r j → Conn (E ++ F) i j := by
      intro w hc
      induction hc with
      | refl => exact fun j j0 jN e => ((h i j i0 iN j0 jN).1 e).mono (fun e he => List.mem_append_left _ he)
      | snoc _ ha ih =>
        intro j j0 jN e
        obtain ⟨d, hd, hh⟩ := ha
        obtain ⟨f, hf, rfl⟩ := List.mem_map.1 hd
        obtain ⟨f0, f1, f2, f3⟩ := hF f hf
        have up : ∀ {u v}, Conn E u v → Conn (E ++ F) u v := fun hc => hc.mono (fun e he => List.mem_append_left _ he)
        rcases hh with ⟨x, y⟩ | ⟨x, y⟩
        · have h1 := ih f.a0 f0 f1 x.symm
          exact (h1.snoc ⟨f, List.mem_append_right _ hf, .inl ⟨rfl, rfl⟩⟩).trans (up ((h f.a1 j f2 f3 j0 jN).1 (y.trans e)))
        · have h1 := ih f.a1 f2 f3 x.symm
          exact (h1.snoc ⟨f, List.mem_append_right _ hf, .inr ⟨rfl, rfl⟩⟩).trans (up ((h f.a0 j f0 f1 j0 jN).1 (y.trans e)))
    exact fun hc => key _ hc j j0 jN rfl
  · intro hc
    clear jN j0
    induction hc with
    | refl => exact .refl
    | snoc _ ha ih =>
      obtain ⟨e, he, hh⟩ := ha
      rcases List.mem_append.1 he with he | he
      · obtain ⟨a, b, c, d⟩ := hE.adj ⟨e, he, hh⟩
        have : lb r _ = lb r _ := (h _ _ a b c d).2 (.snoc .refl ⟨e, he, hh⟩)
        rw [← this]; exact ih
      · refine ih.snoc ⟨qEd r e, List.mem_map.2 ⟨e, he, rfl⟩, ?_⟩
        rcases hh with ⟨rfl, rfl⟩ | ⟨rfl, rfl⟩
        · exact .inl ⟨rfl, rfl⟩
        · exact .inr ⟨rfl, rfl⟩

/-- The edge of a switch, and of a branch. -/
def sEd (n : Net) (s : S_api_Switch) : Ed := ⟨(pos n s.A : Int), (pos n s.B_ : Int)⟩
def rEd (n : Net) (b : S_api_Branch) : Ed := ⟨(pos n b.From : Int), (pos n b.To : Int)⟩
def shut (n : Net) : List Ed := (n.Switches.filter (fun s => !s.Open)).map (sEd n)
def brs (n : Net) : List Ed := n.Branches.map (rEd n)
/-- What joins nodes. -/
def joins (n : Net) : List Ed := shut n ++ brs n
theorem sEd_ok {n : Net} (h : NetV n) {s : S_api_Switch} (hs : s ∈ n.Switches) : 0 ≤ (sEd n s).a0 ∧ (sEd n s).a0 < n.Nodes.length ∧ 0 ≤ (sEd n s).a1 ∧ (sEd n s).a1 < n.Nodes.length := by
  obtain ⟨_, a, b, _⟩ := h.vs s hs
  have p := (pos_eq a).2
  have q := (pos_eq b).2
  exact ⟨by show (0 : Int) ≤ (pos n s.A : Int); omega, by show (pos n s.A : Int) < _; omega, by show (0 : Int) ≤ (pos n s.B_ : Int); omega, by show (pos n s.B_ : Int) < _; omega⟩
theorem shut_ok {n : Net} (h : NetV n) : EdOk n.Nodes.length (shut n) := fun e he => by
  obtain ⟨s, hs, rfl⟩ := List.mem_map.1 he
  exact sEd_ok h (List.mem_filter.1 hs).1
theorem brs_ok {n : Net} (h : NetV n) : EdOk n.Nodes.length (brs n) := fun e he => by
  obtain ⟨b, hb, rfl⟩ := List.mem_map.1 he
  obtain ⟨_, a, c, _⟩ := h.vb b hb
  have p := (pos_eq a).2
  have q := (pos_eq c).2
  exact ⟨by show (0 : Int) ≤ (pos n b.From : Int); omega, by show (pos n b.From : Int) < _; omega, by show (0 : Int) ≤ (pos n b.To : Int); omega, by show (pos n b.To : Int) < _; omega⟩
theorem EdOk.app {N : Nat} {l l' : List Ed} (h : EdOk N l) (h' : EdOk N l') : EdOk N (l ++ l') := fun e he => by
  rcases List.mem_append.1 he with he | he
  · exact h e he
  · exact h' e he
theorem joins_ok {n : Net} (h : NetV n) : EdOk n.Nodes.length (joins n) := (shut_ok h).app (brs_ok h)
theorem edges_sem {n : Net} (h : NetV n) : Gd (m_station_edges n false) (fun r => r.1 = shut n) := by
  have l2 := h.l2
  unfold m_station_edges
  refine Gd.seen (fun pre s => s.1 = (pre.filter (fun s => !s.Open)).map (sEd n) ∧ s.2.length ≤ pre.length) ?_ (fun s hs => Gd.ret hs.1) _ ⟨rfl, by simp⟩
  rintro i y ⟨a, b⟩ nx pre hpre ⟨ha, hb⟩ hnx
  simp only at ha hb
  subst ha
  obtain ⟨hpl, hyl, _⟩ := pre_lt hpre
  obtain ⟨_, h1, h2, _⟩ := h.vs y hyl
  have hfl : (pre.filter (fun s => !s.Open)).length ≤ pre.length := List.length_filter_le ..
  unfold m_station_edges_b3 m_station_edges_b4
  refine Gd.ite (fun ho => ?_) (fun ho => hnx _ ⟨?_, by simp only [List.length_append]; omega⟩)
  · have ho : y.Open = false := by simpa using ho
    refine Gd.bind_eq (pos_eq h1).1 (Gd.bind_eq (pos_eq h2).1 (Gd.nd (by simp; omega) (Gd.nd (by simp; omega) (hnx _ ⟨?_, by simp; omega⟩))))
    simp [List.filter_append, ho]; rfl
  · have ho : y.Open = true := by simpa using ho
    simp [List.filter_append, ho]
theorem shut_len {n : Net} (h : NetV n) : (shut n).length ≤ 32 := by
  have := h.l2
  have : (n.Switches.filter (fun s => !s.Open)).length ≤ n.Switches.length := List.length_filter_le ..
  unfold shut
  simp only [List.length_map]; omega
/-- The places of a network: two nodes have one place just if they are joined. -/
structure Pl (n : Net) (pl : List Int) : Prop where
  run : m_islands_Places n = some (pl, 0)
  len : pl.length = n.Nodes.length
  rng : ∀ u : Int, 0 ≤ u → u < n.Nodes.length → 0 ≤ lb pl u ∧ lb pl u < n.Nodes.length
  iff : ∀ u v : Int, 0 ≤ u → u < n.Nodes.length → 0 ≤ v → v < n.Nodes.length → (lb pl u = lb pl v ↔ Conn (joins n) u v)
theorem places_sem {n : Net} (h : NetV n) (hn : NetOk n) : ∃ pl, Pl n pl := by
  have g1 := h.l1
  obtain ⟨e, he, hes⟩ := edges_sem h
  obtain ⟨rc, hrc, hrc0, many, hB⟩ := comps_comp n.Nodes.length h.l1 (shut n) (shut_ok h) (by have := shut_len h; omega)
  have hbus : m_station_Buses n = some rc.1 := by
    rw [← Gd.eq]
    unfold m_station_Buses
    refine Gd.bind_eq he ?_
    rw [hes]
    exact Gd.bind_eq hrc (Gd.ret rfl)
  generalize rc.1 = bus at hB hbus
  have hbl := hB.len
  have hmN := hB.mN
  have hlb : ∀ k (hk : k < bus.length), bus[k] = lb bus (k : Int) := fun k hk => (lb_at hk).symm
  have hbin : InN n.Nodes.length bus := fun a ha => by
    obtain ⟨k, hk, rfl⟩ := List.mem_iff_getElem.1 ha
    rw [hlb k hk]
    have := hB.all (k : Int) (by omega) (by omega)
    omega
  obtain ⟨m, hm1, hmin, _, hmost⟩ := most_eq n.Nodes.length h.l1 bus hbin
  have hm24 : m ≤ 24 := by omega
  obtain ⟨t, ht, htb, c, hc⟩ := get_sem hn hbus hbl hm24 hmin hmost
  obtain ⟨tb, isl⟩ := t
  simp only at htb hc
  subst htb
  have hlbm : ∀ u : Int, 0 ≤ u → u < n.Nodes.length → 0 ≤ lb tb u ∧ lb tb u < m := fun u u0 uN => by
    rw [lb_ati u0 (by omega)]
    exact hmin _ (List.getElem_mem _)
  have hq : n.Branches.map (bEd n tb) = (brs n).map (qEd tb) := by
    unfold brs
    rw [List.map_map]
    refine List.map_congr_left (fun b hb => ?_)
    obtain ⟨_, a, c, _⟩ := h.vb b hb
    have p := (pos_eq a).2
    have q := (pos_eq c).2
    have g : ∀ k, k < tb.length → tb.getD k 0 = lb tb (k : Int) := fun k hk => by
      rw [List.getD_eq_getElem?_getD, List.getElem?_eq_getElem hk, lb_at hk]; rfl
    unfold bEd rEd Function.comp qEd
    simp only
    rw [g _ (by omega), g _ (by omega)]
  rw [hq] at hc
  have hlen : (tb.map (lb isl)).length = n.Nodes.length := by simp [hbl]
  have hpl : ∀ u : Int, 0 ≤ u → u < n.Nodes.length → lb (tb.map (lb isl)) u = lb isl (lb tb u) := fun u u0 uN => by
    rw [lb_ati u0 (by omega), List.getElem_map, ← lb_ati u0 (by omega)]
  refine ⟨tb.map (lb isl), ?_, hlen, fun u u0 uN => ?_, fun u v u0 uN v0 vN => ?_⟩
  · rw [← Gd.eq]
    unfold m_islands_Places
    refine Gd.bind_eq (check_comp n h) (Gd.ite (fun h => by simp at h) (fun _ => Gd.bind_eq ht ?_))
    refine Gd.seen (fun pre out => out = pre.map (lb isl)) ?_ (fun s hs => by subst hs; exact Gd.ret rfl) _ rfl
    rintro i y out nn pre hpre rfl hnx
    obtain ⟨hpl, hyl, _⟩ := pre_lt hpre
    have hy := hmin y hyl
    have hyi : y.toNat < isl.length := by have := hc.len; omega
    have hpl : pre.length < tb.length := hpl
    unfold m_islands_Places_b1
    refine Gd.ix hy.1 (List.getElem?_eq_getElem hyi) (Gd.nd ?_ (hnx _ ?_))
    · simp only [List.length_map, List.length_singleton]; omega
    · rw [List.map_append, ← lb_ati hy.1 hyi]; rfl
  · rw [hpl u u0 uN]
    obtain ⟨a, b⟩ := hlbm u u0 uN
    have := hc.all _ a b
    have := hc.mN
    omega
  · rw [hpl u u0 uN, hpl v v0 vN]
    obtain ⟨a, b⟩ := hlbm u u0 uN
    obtain ⟨a', b'⟩ := hlbm v v0 vN
    rw [hc.iff _ _ a b a' b']
    exact quot hB.iff (shut_ok h) (brs_ok h) u0 uN v0 vN
end Go.Sim
