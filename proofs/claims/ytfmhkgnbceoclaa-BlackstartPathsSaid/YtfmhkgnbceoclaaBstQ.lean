/-
  The parts of a graph, buses and islands, in plain Lean: how many there are, and that each has its number.
-/
import Derived.Test.YtfmhkgnbceoclaaBstP
namespace Go.Sim
open Go
set_option linter.unusedVariables false
set_option linter.unusedSimpArgs false
set_option linter.unusedSectionVars false
set_option linter.unnecessarySimpa false

/-- Edges between the first N nodes. -/
def EdOk (N : Nat) (l : List S_A2_Int) : Prop := ∀ e ∈ l, 0 ≤ e.a0 ∧ e.a0 < N ∧ 0 ≤ e.a1 ∧ e.a1 < N
/-- Parts that were numbered so far: below many, or not yet. -/
structure PtOk (N : Nat) (many : Int) (out : List Int) : Prop where
  len : out.length = N
  rng : ∀ v ∈ out, -1 ≤ v ∧ v < many
def InN (N : Nat) (l : List Int) : Prop := ∀ a ∈ l, 0 ≤ a ∧ a < (N : Int)
def negs (out : List Int) : Nat := out.countP (fun v => decide (v < 0))

theorem PtOk.set {N : Nat} {many : Int} {out : List Int} (h : PtOk N many out) {v : Int} (hv : 0 ≤ v ∧ v < many) (i : Nat) : PtOk N many (out.set i v) :=
  ⟨by simp [h.len], fun x hx => by
    rcases List.mem_or_eq_of_mem_set hx with hx | rfl
    · exact h.rng x hx
    · omega⟩
theorem negs_set {out : List Int} {i : Nat} (hi : i < out.length) (hn : out[i] < 0) {v : Int} (hv : 0 ≤ v) : negs (out.set i v) + 1 = negs out := by
  unfold negs
  rw [List.countP_set hi]
  have h1 : decide (out[i] < 0) = true := decide_eq_true hn
  have h2 : decide (v < 0) = false := decide_eq_false (by omega)
  rw [h1, h2]
  have hpos : 0 < out.countP (fun v => decide (v < 0)) := List.countP_pos_iff.2 ⟨_, List.getElem_mem hi, h1⟩
  simp
  omega
/-- What has a number keeps one. -/
def Keeps (a b : List Int) : Prop := ∀ (i : Nat) (v : Int), a[i]? = some v → 0 ≤ v → ∃ w, b[i]? = some w ∧ 0 ≤ w
theorem Keeps.refl (a : List Int) : Keeps a a := fun i v h h0 => ⟨v, h, h0⟩
theorem Keeps.set {a b : List Int} (h : Keeps a b) (i : Nat) {v : Int} (hv : 0 ≤ v) : Keeps a (b.set i v) := by
  intro j w hj hw
  obtain ⟨u, hu, hu0⟩ := h j w hj hw
  by_cases e : i = j
  · subst e
    exact ⟨v, by simp [(List.getElem?_eq_some_iff.1 hu).1], hv⟩
  · exact ⟨u, by rw [List.getElem?_set_ne e]; exact hu, hu0⟩

theorem parts_gd (N : Nat) (hN : N ≤ 24) (l : List S_A2_Int) (hl : EdOk N l) (hll : l.length ≤ 64) (wo : Int) : Gd (m_graph_parts N l wo) (fun r => r.length = N ∧ ∀ v ∈ r, 0 ≤ v ∧ v < N) := by
  unfold m_graph_parts
  refine Gd.nd ⟨rfl, by omega, by omega⟩ (Gd.nd (by omega) ?_)
  rw [repL_one]
  refine Gd.forN (fun m i s => i + m = N ∧ 0 ≤ s.2 ∧ s.2 ≤ (i : Int) ∧ PtOk N s.2 s.1 ∧ ∀ (j : Nat) (v : Int), j < i → s.1[j]? = some v → 0 ≤ v) ?_ ?_ (N : Int).toNat 0 (List.replicate N (-1), 0) ⟨by omega, by simp, by simp, ⟨by simp, by simp⟩, by simp⟩
  · rintro m i ⟨out, many⟩ nx ⟨hi, h0, hmi, hp, hk⟩ hn
    simp only at h0 hmi hp hk
    have hilt : i < out.length := by rw [hp.len]; omega
    unfold m_graph_parts_b55
    refine Gd.idxN hilt (Gd.ite (fun h => ?_) (fun h => ?_))
    · have hge : 0 ≤ out[i] := by simpa using h
      unfold m_graph_parts_b69
      refine hn _ ⟨by omega, h0, by show many ≤ ((i + 1 : Nat) : Int); omega, hp, fun j v hj hv => ?_⟩
      by_cases e : j = i
      · subst e
        rw [List.getElem?_eq_getElem hilt] at hv
        cases hv; exact hge
      · exact hk j v (by omega) hv
    · have hneg : out[i] < 0 := by simpa using h
      refine Gd.idxN hilt ?_
      rw [Int.toNat_natCast]
      have hw : IntKind.i64.wrap (many + 1) = many + 1 := wrap_id ⟨by omega, by omega⟩
      have hp1 : PtOk N (many + 1) out := ⟨hp.len, fun v hv => by have := hp.rng v hv; omega⟩
      have hbase0 : 2 * negs (out.set i many) + [(i : Int)].length ≤ 2 * N + 1 := by
        have hc : negs (out.set i many) ≤ N := by unfold negs; rw [← hp.len, ← List.length_set (as := out) (i := i) (a := many)]; exact List.countP_le_length
        simp only [List.length_singleton]; omega
      refine Gd.loopF (fun (s : List Int × List Int) => PtOk N (many + 1) s.1 ∧ Keeps (out.set i many) s.1 ∧ InN N s.2 ∧ 2 * negs s.1 + s.2.length ≤ 2 * N + 1) (fun s => 2 * negs s.1 + s.2.length) ?_ FUEL _ ⟨hp1.set ⟨h0, by omega⟩ i, Keeps.refl _, by intro a ha; simp at ha; omega, hbase0⟩ ?_
      · rintro ⟨o, todo⟩ nx2 ⟨hq, hkp, htd, htot⟩ hn2
        simp only at hq hkp htd htot
        unfold m_graph_parts_b78
        refine Gd.ite (fun hne => ?_) (fun _ => ?_)
        · have hne : 0 < todo.length := by
            have : (0 : Int) < ((todo.length : Nat) : Int) := by simpa using hne
            omega
          obtain ⟨at_, ts, rfl⟩ : ∃ a ts, todo = a :: ts := by
            cases todo with
            | nil => simp at hne
            | cons a ts => exact ⟨a, ts, rfl⟩
          refine Gd.ix (y := at_) (by decide) rfl (Gd.nd ⟨by omega, by simp only [List.length_cons]; omega⟩ ?_)
          have hat := htd at_ (List.mem_cons_self ..)
          have hsl : slc (at_ :: ts) (1 : Int).toNat (at_ :: ts).length = ts := by
            unfold slc
            rw [show (1 : Int).toNat = 1 from rfl, List.drop_succ_cons, List.drop_zero, List.take_of_length_le (by simp)]
          rw [hsl]
          simp only [List.length_cons] at htot
          have push : ∀ (b : List Int) (td : List Int) (q : Int) (nn : (List Int × List Int) → Option (List Int)), 0 ≤ q → q < N → PtOk N (many + 1) b → Keeps (out.set i many) b → InN N td → 2 * negs b + td.length ≤ 2 * negs o + ts.length →
              (∀ s', (PtOk N (many + 1) s'.1 ∧ Keeps (out.set i many) s'.1 ∧ InN N s'.2 ∧ 2 * negs s'.1 + s'.2.length ≤ 2 * negs o + ts.length) → Gd (nn s') (fun r => r.length = N ∧ ∀ v ∈ r, 0 ≤ v ∧ v < N)) →
              Gd (Sim.idx b q fun y7689 => if decide (y7689 < 0) then (Sim.idx b q fun y7694 => need ((td.length + ([q]).length) * 8 ≤ 140737488355328) (m_graph_parts_b82 nn (b.set (q : Int).toNat many) (td ++ ([q])))) else (m_graph_parts_b82 nn b td)) (fun r => r.length = N ∧ ∀ v ∈ r, 0 ≤ v ∧ v < N) := by
            intro b td q nn q0 qN hb hkb htd2 hms hnn
            have hql : q.toNat < b.length := by rw [hb.len]; omega
            have hget : b[q.toNat]? = some b[q.toNat] := List.getElem?_eq_getElem hql
            unfold m_graph_parts_b82
            refine Gd.ix q0 hget (Gd.ite (fun h => Gd.ix q0 hget (Gd.nd ?_ (hnn _ ⟨hb.set ⟨h0, by omega⟩ _, hkb.set _ h0, ?_, ?_⟩))) (fun h => hnn _ ⟨hb, hkb, htd2, hms⟩))
            · have h1 : b[q.toNat] < 0 := by simpa using h
              have hc : negs o ≤ N := by unfold negs; rw [← hq.len]; exact List.countP_le_length
              simp
              omega
            · intro a ha
              rcases List.mem_append.1 ha with ha | ha
              · exact htd2 a ha
              · simp at ha; omega
            · have h1 : b[q.toNat] < 0 := by simpa using h
              have := negs_set hql h1 h0
              simp
              omega
          have hc : negs o ≤ N := by unfold negs; rw [← hq.len]; exact List.countP_le_length
          · refine Gd.forAll (fun _ => True) (fun (s : List Int × List Int) => PtOk N (many + 1) s.1 ∧ Keeps (out.set i many) s.1 ∧ InN N s.2 ∧ 2 * negs s.1 + s.2.length ≤ 2 * negs o + ts.length) ?_ ?_ _ ⟨hq, hkp, (fun a ha => htd a (List.mem_cons_of_mem _ ha) : InN N ts), Nat.le_refl (2 * negs o + ts.length)⟩
            · rintro k e ⟨b, td⟩ nn he ⟨hb, hkb, htd2, hms⟩ hnn
              simp only at hb hkb htd2 hms
              obtain ⟨e1, e2, e3, e4⟩ := hl e he
              have hw1 : IntKind.i64.wrap (e.a0 + e.a1) = e.a0 + e.a1 := wrap_id ⟨by omega, by omega⟩
              have hw2 : IntKind.i64.wrap (e.a0 + e.a1 - at_) = e.a0 + e.a1 - at_ := wrap_id ⟨by omega, by omega⟩
              unfold m_graph_parts_b81
              rw [hw1, hw2]
              refine Gd.ite (fun _ => hnn trivial _ ⟨hb, hkb, htd2, hms⟩) (fun _ => Gd.ite (fun h => ?_) (fun _ => Gd.ite (fun _ => hnn trivial _ ⟨hb, hkb, htd2, hms⟩) (fun h => ?_)))
              · have h : e.a0 = at_ := by simpa using h
                exact push b td _ nn (by omega) (by omega) hb hkb htd2 hms (fun s' hs' => hnn trivial s' hs')
              · have h : e.a1 = at_ := by simpa using h
                exact push b td _ nn (by omega) (by omega) hb hkb htd2 hms (fun s' hs' => hnn trivial s' hs')
            · rintro _ ⟨b, td⟩ ⟨hb, hkb, htd2, hms⟩
              simp only at hb hkb htd2 hms
              exact hn2 _ ⟨hb, hkb, htd2, by show 2 * negs b + td.length ≤ 2 * N + 1; omega⟩ (by simp only [List.length_cons]; omega)
        · unfold m_graph_parts_b69
          rw [hw]
          refine hn _ ⟨by omega, by show (0 : Int) ≤ many + 1; omega, by show many + 1 ≤ ((i + 1 : Nat) : Int); omega, hq, fun j v hj hv => ?_⟩
          have hjl : j < out.length := by omega
          have hbase : ∃ w, (out.set i many)[j]? = some w ∧ 0 ≤ w := by
            by_cases e : i = j
            · subst e; exact ⟨many, by simp [hilt], h0⟩
            · exact ⟨out[j], by rw [List.getElem?_set_ne e]; exact List.getElem?_eq_getElem hjl, hk j _ (by omega) (List.getElem?_eq_getElem hjl)⟩
          obtain ⟨w, hw1, hw0⟩ := hbase
          obtain ⟨u, hu, hu0⟩ := hkp j w hw1 hw0
          simp only at hv
          rw [hu] at hv; cases hv; exact hu0
      · refine Nat.lt_of_le_of_lt hbase0 ?_
        unfold FUEL; omega
  · rintro i ⟨out, many⟩ ⟨hi, h0, hmi, hp, hk⟩
    simp only at h0 hmi hp hk
    refine Gd.ret ⟨hp.len, fun v hv => ?_⟩
    obtain ⟨j, hj, hje⟩ := List.mem_iff_getElem.1 hv
    have hj : j < out.length := hj
    have h1 := hp.rng v hv
    have h2 := hk j v (by have := hp.len; omega) (by rw [List.getElem?_eq_getElem hj]; exact congrArg some hje)
    omega

theorem gcheck_ok (N : Nat) (hN : N ≤ 24) (l : List S_A2_Int) (hl : EdOk N l) (hll : l.length ≤ 64) : m_graph_Check N l = some 0 := by
  rw [← Gd.eq]
  unfold m_graph_Check
  refine Gd.ite (fun h => ?_) (fun _ => Gd.forAll (Q := fun x => x = 0) (fun _ => True) (fun _ => True) ?_ (fun _ _ _ => Gd.ret rfl) _ trivial)
  · simp at h; omega
  · intro i e s n he _ hn
    obtain ⟨e1, e2, e3, e4⟩ := hl e he
    unfold m_graph_Check_b1
    exact Gd.ite (fun h => by simp at h; omega) (fun _ => Gd.ite (fun h => by simp at h; omega) (fun _ => Gd.ite (fun h => by simp at h; omega) (fun _ => Gd.ite (fun h => by simp at h; omega) (fun _ => hn trivial _ trivial))))
theorem comps_gd (N : Nat) (hN : N ≤ 24) (l : List S_A2_Int) (hl : EdOk N l) (hll : l.length ≤ 64) : Gd (m_graph_Components N l) (fun r => r.1.length = N ∧ InN N r.1) := by
  unfold m_graph_Components
  refine Gd.bind_eq (gcheck_ok N hN l hl hll) (Gd.ite (fun h => by simp at h) (fun _ => Gd.bnd (parts_gd N hN l hl hll (-1)) (fun r hr => Gd.ret hr)))

theorem edges_gd (n : Net) (hn : NetOk n) (o : Bool) : Gd (m_station_edges n o) (fun r => r.1.length ≤ 32 ∧ EdOk n.Nodes.length r.1) := by
  unfold m_station_edges
  refine Gd.forI (fun i ys s => i + ys.length = n.Switches.length ∧ (∀ y ∈ ys, y ∈ n.Switches) ∧ s.1.length ≤ i ∧ s.2.length ≤ i ∧ EdOk n.Nodes.length s.1) ?_ ?_ _ _ _ ⟨by simp, fun _ h => h, by simp, by simp, by intro e he; simp at he⟩
  · rintro i y ys ⟨a, b⟩ nx ⟨hi, hm, ha, hb, he⟩ hnx
    simp only [List.length_cons] at hi ha hb he
    have h2 := hn.l2
    have hys : ∀ z ∈ ys, z ∈ n.Switches := fun z hz => hm z (List.mem_cons_of_mem _ hz)
    unfold m_station_edges_b3 m_station_edges_b4
    refine Gd.ite (fun _ => ?_) (fun _ => hnx _ ⟨by omega, hys, by simp only; omega, by simp only; omega, he⟩)
    obtain ⟨h1, h2'⟩ := hn.sw y (hm y (List.mem_cons_self ..))
    obtain ⟨p, hp, hpl, _⟩ := nindex_mem h1
    obtain ⟨q, hq, hql, _⟩ := nindex_mem h2'
    refine Gd.bind_eq hp (Gd.bind_eq hq (Gd.nd (by simp; omega) (Gd.nd (by simp; omega) (hnx _ ⟨by omega, hys, by simp; omega, by simp; omega, ?_⟩))))
    intro e hme
    rcases List.mem_append.1 hme with hme | hme
    · exact he e hme
    · simp at hme; subst hme
      exact ⟨by simp only; omega, by simp only; omega, by simp only; omega, by simp only; omega⟩
  · rintro i ⟨a, b⟩ ⟨hi, hm, ha, hb, he⟩
    have h2 := hn.l2
    simp only [List.length_nil] at hi ha
    exact Gd.ret ⟨by simp only; omega, he⟩
theorem buses_gd (n : Net) (hn : NetOk n) : Gd (m_station_Buses n) (fun r => r.length = n.Nodes.length ∧ InN n.Nodes.length r) := by
  unfold m_station_Buses
  refine Gd.bnd (edges_gd n hn false) (fun r hr => ?_)
  have h1 := hn.l1
  exact Gd.bnd (comps_gd n.Nodes.length hn.l1 r.1 hr.2 (by omega)) (fun r hr => Gd.ret hr)

/-- What is known of a topology. -/
structure TopOk (n : Net) (t : S_api_Topology) : Prop where
  bl : t.Bus.length = n.Nodes.length
  bi : InN t.Island.length t.Bus
  ii : InN t.Island.length t.Island
  il : t.Island.length ≤ 24
theorem most_gd {R : Type} {Q : R → Prop} (N : Nat) (hN : N ≤ 24) (body : Nat → Int → Int → (Int → Option R) → Option R) (hb : ∀ k y n nx, body k y n nx = nx (max n (IntKind.i64.wrap (y + 1)))) (K : Int → Option R) (l : List Int) (hl : InN N l)
    (hk : ∀ m : Nat, m ≤ N → InN m l → Gd (K (m : Int)) Q) : Gd (forI body K 0 l 0) Q := by
  have key : ∀ (ys pre : List Int) (i m : Nat), l = pre ++ ys → m ≤ N → InN m pre → Gd (forI body K i ys (m : Int)) Q := by
    intro ys
    induction ys with
    | nil => intro pre i m e hm hp; rw [List.append_nil] at e; subst e; exact hk m hm hp
    | cons y ys ih =>
      intro pre i m e hm hp
      have hy := hl y (by rw [e]; exact List.mem_append_right _ (List.mem_cons_self ..))
      show Gd (body i y (m : Int) (fun s => forI body K (i + 1) ys s)) Q
      rw [hb, wrap_id ⟨by omega, by omega⟩]
      have hmx : max (m : Int) (y + 1) = ((max m (y + 1).toNat : Nat) : Int) := by omega
      rw [hmx]
      refine ih (pre ++ [y]) (i + 1) _ (by rw [e]; simp) (by omega) (fun a ha => ?_)
      rcases List.mem_append.1 ha with ha | ha
      · have := hp a ha; omega
      · simp at ha; subst ha; omega
  have := key l [] 0 0 rfl (by omega) (by intro a ha; simp at ha)
  exact this
theorem get_gd (n : Net) (hn : NetOk n) : Gd (m_topology_Get n) (TopOk n) := by
  unfold m_topology_Get
  refine Gd.bnd (buses_gd n hn) (fun bus hbus => ?_)
  have h1 := hn.l1
  refine most_gd n.Nodes.length hn.l1 _ (fun k y n nx => by unfold m_topology_Get_b1; rfl) _ bus hbus.2 (fun m hm hbm => ?_)
  refine Gd.forI (fun i ys s => i + ys.length = n.Branches.length ∧ (∀ y ∈ ys, y ∈ n.Branches) ∧ s.length ≤ i ∧ EdOk m s) ?_ ?_ _ _ _ ⟨by simp, fun _ h => h, by simp, by intro e he; simp at he⟩
  · rintro i y ys a nx ⟨hi, hmm, ha, he⟩ hnx
    simp only [List.length_cons] at hi
    have h3 := hn.l3
    have hys : ∀ z ∈ ys, z ∈ n.Branches := fun z hz => hmm z (List.mem_cons_of_mem _ hz)
    unfold m_topology_Get_b2
    obtain ⟨h1, h2'⟩ := hn.br y (hmm y (List.mem_cons_self ..))
    obtain ⟨p, hp, hpl, _⟩ := nindex_mem h1
    obtain ⟨q, hq, hql, _⟩ := nindex_mem h2'
    have hpb : p < bus.length := by omega
    have hqb : q < bus.length := by omega
    refine Gd.bind_eq hp (Gd.idxN hpb (Gd.bind_eq hq (Gd.idxN hqb (Gd.nd (by simp; omega) (hnx _ ⟨by omega, hys, by simp; omega, ?_⟩)))))
    intro e hme
    rcases List.mem_append.1 hme with hme | hme
    · exact he e hme
    · simp at hme; subst hme
      have b1 := hbm bus[p] (List.getElem_mem _)
      have b2 := hbm bus[q] (List.getElem_mem _)
      exact ⟨b1.1, b1.2, b2.1, b2.2⟩
  · rintro i a ⟨hi, hmm, ha, he⟩
    have h3 := hn.l3
    simp only [List.length_nil] at hi
    refine Gd.bnd (comps_gd m (by omega) a he (by omega)) (fun r hr => Gd.ret ⟨hbus.1, ?_, ?_, ?_⟩)
    · rw [hr.1]; exact hbm
    · rw [hr.1]; exact hr.2
    · simp only [hr.1]; omega
end Go.Sim
