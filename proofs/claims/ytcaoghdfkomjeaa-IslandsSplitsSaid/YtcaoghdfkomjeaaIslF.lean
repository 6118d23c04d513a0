/-
  An island falls apart without a branch just if its ends are in different islands then: the law of the model.
-/
import Derived.Test.YtcaoghdfkomjeaaIslE
import Derived.Test.YtcaoghdfkomjeaaIslS
namespace Go.Sim
open Go
set_option linter.unusedVariables false
set_option linter.unusedSimpArgs false
set_option linter.unusedSectionVars false
set_option linter.unnecessarySimpa false

theorem fsw_none (l : List S_api_Switch) (p : BA) (h : p ∉ l.map (·.Name)) : m_slices_IndexFunc_api_Switch_api_Switch__netmodel_find_1 l p = some (-1) := by
  rw [← Gd.eq]
  unfold m_slices_IndexFunc_api_Switch_api_Switch__netmodel_find_1
  refine Gd.forN (Q := fun z => z = -1) (fun m i (_ : Unit) => i + m = l.length) ?_ (fun _ _ _ => Gd.ret rfl) (l.length : Int).toNat 0 () (by omega)
  intro m i _ nx hi hnx
  have hlt : i < l.length := by omega
  unfold m_slices_IndexFunc_api_Switch_api_Switch__netmodel_find_1_b1 m_netmodel_find_1
  refine Gd.idxN hlt (Gd.ite (fun he => ?_) (fun _ => hnx () (by omega)))
  exact absurd (List.mem_map.2 ⟨l[i], List.getElem_mem hlt, by simpa using he⟩) h
theorem fbr_at (l : List S_api_Branch) (hnd : (l.map (·.Name)).Nodup) (q : Nat) (hq : q < l.length) : m_slices_IndexFunc_api_Branch_api_Branch__netmodel_find_2 l l[q].Name = some (q : Int) := by
  rw [← Gd.eq]
  unfold m_slices_IndexFunc_api_Branch_api_Branch__netmodel_find_2
  have inj : ∀ i (hi : i < l.length), l[i].Name = l[q].Name → i = q := fun i hi e => by
    have hpw := List.pairwise_iff_getElem.1 hnd
    have hi' : i < (l.map (·.Name)).length := by simpa using hi
    have hq' : q < (l.map (·.Name)).length := by simpa using hq
    rcases Nat.lt_trichotomy i q with h | h | h
    · exact absurd (by simpa using e) (hpw i q hi' hq' h)
    · exact h
    · exact absurd (by simpa using e.symm) (hpw q i hq' hi' h)
  refine Gd.forN (Q := fun z => z = (q : Int)) (fun m i (_ : Unit) => i + m = l.length ∧ i ≤ q) ?_ ?_ (l.length : Int).toNat 0 () ⟨by omega, by omega⟩
  · intro m i _ nx ⟨hi, hiq⟩ hnx
    have hlt : i < l.length := by omega
    unfold m_slices_IndexFunc_api_Branch_api_Branch__netmodel_find_2_b1 m_netmodel_find_2
    refine Gd.idxN hlt (Gd.ite (fun he => Gd.ret ?_) (fun he => hnx () ⟨by omega, ?_⟩))
    · rw [inj i hlt (by simpa using he)]
    · have : i ≠ q := fun e => by subst e; simp at he
      omega
  · intro i _ ⟨hi, hiq⟩
    omega

theorem find_branch {n : Net} (h : NetV n) {q : Nat} (hq : q < n.Branches.length) : m_netmodel_find n n.Branches[q].Name = some (⟨#[98, 114, 97, 110, 99, 104]⟩, (q : Int)) := by
  have hnd := h.nd
  unfold names at hnd
  have n3 := (List.nodup_append.1 (List.nodup_append.1 (List.nodup_append.1 hnd).1).1).1
  have hmem : n.Branches[q].Name ∈ n.Branches.map (·.Name) := List.mem_map.2 ⟨_, List.getElem_mem hq, rfl⟩
  obtain ⟨nA, nB, nC⟩ := List.nodup_append.1 n3
  have hno1 : n.Branches[q].Name ∉ n.Nodes := fun hm => nC _ (List.mem_append_left _ hm) _ hmem rfl
  have hno2 : n.Branches[q].Name ∉ n.Switches.map (·.Name) := fun hm => nC _ (List.mem_append_right _ hm) _ hmem rfl
  rw [← Gd.eq]
  unfold m_netmodel_find
  refine Gd.bnd (nindex_gd _ _) (fun r hr => ?_)
  rcases hr with ⟨rfl, _⟩ | ⟨k, hk, rfl, e⟩
  · refine Gd.ite (fun h => by simp at h) (fun _ => Gd.bind_eq (fsw_none _ _ hno2) (Gd.ite (fun h => by simp at h) (fun _ => Gd.bind_eq (fbr_at _ nB q hq) (Gd.ite (fun _ => Gd.ret rfl) (fun h => by simp at h)))))
  · exact absurd (e ▸ List.getElem_mem hk) hno1
theorem Find_branch {n : Net} (h : NetV n) {q : Nat} (hq : q < n.Branches.length) : m_netmodel_Find n n.Branches[q].Name = some (⟨#[98, 114, 97, 110, 99, 104]⟩, (q : Int), 0) := by
  rw [← Gd.eq]
  unfold m_netmodel_Find
  exact Gd.bind_eq (check_comp n h) (Gd.ite (fun h => by simp at h) (fun _ => Gd.bind_eq (find_branch h hq) (Gd.ite (fun h => by simp at h; omega) (fun _ => Gd.ret rfl))))
theorem without_branch {n : Net} (h : NetV n) {q : Nat} (hq : q < n.Branches.length) : m_netmodel_Without n n.Branches[q].Name = some (cutB n q, 0) := by
  have g1 := h.l1; have g2 := h.l2; have g3 := h.l3; have g4 := h.l4; have g5 := h.l5; have g6 := h.l6
  have hw : IntKind.i64.wrap ((q : Int) + 1) = ((q + 1 : Nat) : Int) := by rw [wrap_id ⟨by omega, by omega⟩]; omega
  have hcopy : m_netmodel_Copy n = some n := by
    rw [← Gd.eq]
    unfold m_netmodel_Copy
    exact Gd.nd (by omega) (Gd.nd (by omega) (Gd.nd (by omega) (Gd.nd (by omega) (Gd.nd (by omega) (Gd.nd (by omega) (Gd.ret rfl))))))
  have k1 : decide ((⟨#[98, 114, 97, 110, 99, 104]⟩ : ByteArray) = ⟨#[110, 111, 100, 101]⟩) = false := by decide
  have k2 : decide ((⟨#[98, 114, 97, 110, 99, 104]⟩ : ByteArray) = ⟨#[115, 119, 105, 116, 99, 104]⟩) = false := by decide
  rw [← Gd.eq]
  unfold m_netmodel_Without m_netmodel_Without_b1
  refine Gd.bind_eq (Find_branch h hq) (Gd.ite (fun h => by simp at h) (fun _ => Gd.ite (fun h => by rw [k1] at h; cases h) (fun _ => Gd.bind_eq hcopy (Gd.ite (fun h => by rw [k2] at h; cases h) (fun _ => Gd.ite (fun _ => ?_) (fun h => by simp at h))))))
  rw [hw]
  refine Gd.nd ⟨show (0 : Int) ≤ (q : Int) by omega, show (q : Int) < ((q + 1 : Nat) : Int) by omega, by omega⟩ (Gd.ret ?_)
  rw [Int.toNat_natCast, Int.toNat_natCast]
  rfl
theorem node_ok {n : Net} (h : NetV n) {s : BA} (hs : s ∈ n.Nodes) : m_netmodel_Node n s = some ((pos n s : Int), 0) := by
  rw [← Gd.eq]
  unfold m_netmodel_Node
  exact Gd.bind_eq (check_comp n h) (Gd.ite (fun h => by simp at h) (fun _ => Gd.bind_eq (pos_eq hs).1 (Gd.ite (fun h => by simp at h; omega) (fun _ => Gd.ret rfl))))
theorem buses_cut (n : Net) (q : Nat) : m_station_Buses (cutB n q) = m_station_Buses n := rfl
theorem places_sem {n : Net} (h : NetV n) {bus isl : List Int} {m c : Nat} {l : List Ed} (hbl : bus.length = n.Nodes.length) (hm : InN m bus) (ht : m_topology_Get n = some ⟨bus, isl⟩) (hc : Comp m l isl c) :
    m_islands_Places n = some (bus.map (lb isl), 0) := by
  have g1 := h.l1
  rw [← Gd.eq]
  unfold m_islands_Places
  refine Gd.bind_eq (check_comp n h) (Gd.ite (fun h => by simp at h) (fun _ => Gd.bind_eq ht ?_))
  refine Gd.seen (fun pre out => out = pre.map (lb isl)) ?_ (fun s hs => by subst hs; exact Gd.ret rfl) _ rfl
  rintro i y out nn pre hpre rfl hnx
  obtain ⟨hpl, hyl, _⟩ := pre_lt hpre
  have hy := hm y hyl
  have hyi : y.toNat < isl.length := by have := hc.len; omega
  have hpl : pre.length < bus.length := hpl
  unfold m_islands_Places_b1
  refine Gd.ix hy.1 (List.getElem?_eq_getElem hyi) (Gd.nd ?_ (hnx _ ?_))
  · simp only [List.length_map, List.length_singleton]; omega
  · rw [List.map_append, ← lb_ati hy.1 hyi]; rfl
theorem icut0 (n m : Int) (h0 : 0 ≤ m) (h1 : m ≤ 1000) : Gd (m_gridhallref4_Cut n 0 m) (fun r => 0 ≤ r ∧ r ≤ m) := by
  have e : IntKind.i64.wrap ((IntKind.i64.wrap (m - 0)) + 1) = m + 1 := by rw [wrap_id (n := m - 0) (by omega), wrap_id (by omega)]; omega
  have h1 : Int.tmod n (m + 1) < m + 1 := Int.tmod_lt_of_pos n (by omega)
  have h2 : -(m + 1) < Int.tmod n (m + 1) := by
    have := Int.tmod_lt_of_pos (-n) (show (0 : Int) < m + 1 by omega)
    rw [Int.neg_tmod] at this; omega
  unfold m_gridhallref4_Cut m_gridhallref4_Cut_b1
  rw [e]
  refine Gd.nd (by omega) (Gd.ite (fun h => ?_) (fun h => ?_))
  · simp at h
    rw [wrap_id (n := Int.tmod n (m + 1) + (m + 1)) (by omega), wrap_id (by omega)]
    exact Gd.ret ⟨by omega, by omega⟩
  · simp at h
    rw [wrap_id (by omega)]
    exact Gd.ret ⟨by omega, by omega⟩

theorem IslandsSplits_true (n : Net) (k : Int) (hz : NetSz n) : m_gridhallkeep4_IslandsSplits n k = some true := by
  rw [← Gd.eq]
  unfold m_gridhallkeep4_IslandsSplits
  refine Gd.bnd (check_sound n hz) (fun e he => Gd.ite (fun _ => Gd.bind_eq islandsFact_true (Gd.ret rfl)) (fun h => ?_))
  simp only [Bool.or_eq_false_iff, Bool.not_eq_false', decide_eq_true_eq, decide_eq_false_iff_not] at h
  have hv := he h.1
  have hn := hv.ok hz
  have g1 := hv.l1; have g3 := hv.l3
  have hw : IntKind.i64.wrap ((n.Branches.length : Int) - 1) = (n.Branches.length : Int) - 1 := wrap_id ⟨by omega, by omega⟩
  rw [hw]
  refine Gd.bnd (icut0 k _ (by omega) (by omega)) (fun r ⟨r0, r1⟩ => ?_)
  obtain ⟨q, rfl⟩ : ∃ q : Nat, r = q := ⟨r.toNat, by omega⟩
  have hq : q < n.Branches.length := by omega
  refine Gd.idxN hq ?_
  have hbm := List.getElem_mem hq
  obtain ⟨_, hfr, hto, _, _⟩ := hv.vb _ hbm
  -- the cut network
  have hv' := hv.cut q
  have hn' := hv'.ok (hz.cut q)
  -- buses and islands
  obtain ⟨bus, hbus, hbl, hbin⟩ := buses_gd n hn
  obtain ⟨m, hmN, hmin, _, hmost⟩ := most_eq n.Nodes.length hn.l1 bus hbin
  have hm24 : m ≤ 24 := by omega
  obtain ⟨t, ht, htb, c, hc⟩ := get_sem hn hbus hbl hm24 hmin hmost
  obtain ⟨t', ht', htb', c', hc'⟩ := get_sem hn' (by rw [buses_cut]; exact hbus) hbl hm24 hmin hmost
  obtain ⟨tb, isl⟩ := t
  obtain ⟨tb', isl'⟩ := t'
  simp only at htb htb' hc hc'
  rw [htb] at ht
  rw [htb'] at ht'
  have hN := number_sem hm24 ht hc
  have hN' := number_sem hm24 ht' hc'
  have hwo := without_branch hv hq
  have k3 : decide ((⟨#[98, 114, 97, 110, 99, 104]⟩ : ByteArray) = ⟨#[98, 114, 97, 110, 99, 104]⟩) = true := by decide
  have hsp : m_islands_Splits n n.Branches[q].Name = some (decide ((c : Int) < (c' : Int)), 0) := by
    rw [← Gd.eq]
    unfold m_islands_Splits
    exact Gd.bind_eq (Find_branch hv hq) (Gd.ite (fun h => by simp at h) (fun _ => Gd.ite (fun h => by simp [k3] at h) (fun _ => Gd.bind_eq hwo (Gd.bind_eq hN' (Gd.bind_eq hN (Gd.ret rfl))))))
  have hpl := places_sem hv' hbl hmin ht' hc'
  have hE : EdOk m (n.Branches.map (bEd n bus)) := bEd_ok hn hbl hmin
  have hqE : q < (n.Branches.map (bEd n bus)).length := by simpa using hq
  have hcutE : (cutB n q).Branches.map (bEd (cutB n q) bus) = (n.Branches.map (bEd n bus)).take q ++ (n.Branches.map (bEd n bus)).drop (q + 1) := by
    show (n.Branches.take q ++ n.Branches.drop (q + 1)).map (bEd n bus) = _
    rw [List.map_append, List.map_take, List.map_drop]
  rw [hcutE] at hc'
  have hmain := comp_cut hE hqE hc hc'
  rw [List.getElem_map] at hmain
  obtain ⟨_, pf⟩ := pos_eq hfr
  obtain ⟨_, pt⟩ := pos_eq hto
  refine Gd.bind_eq hsp (Gd.bind_eq hwo (Gd.bind_eq hpl (Gd.bind_eq (node_ok hv hfr) (Gd.bind_eq (node_ok hv hto) (Gd.ite (fun h => ?_) (fun _ => Gd.bind_eq islandsFact_true (Gd.ite (fun _ => ?_) (fun h => by cases h))))))))
  · simp [hbl] at h
    omega
  · have i1 : pos n n.Branches[q].From < (bus.map (lb isl')).length := by simp; omega
    have i2 : pos n n.Branches[q].To < (bus.map (lb isl')).length := by simp; omega
    refine Gd.idxN i1 (Gd.idxN i2 (Gd.ret ?_))
    rw [List.getElem_map, List.getElem_map]
    have e1 : (bEd n bus n.Branches[q]).a0 = bus[pos n n.Branches[q].From]'(by simpa using i1) := by
      unfold bEd; simp only; rw [List.getD_eq_getElem?_getD, List.getElem?_eq_getElem (by simpa using i1)]; rfl
    have e2 : (bEd n bus n.Branches[q]).a1 = bus[pos n n.Branches[q].To]'(by simpa using i2) := by
      unfold bEd; simp only; rw [List.getD_eq_getElem?_getD, List.getElem?_eq_getElem (by simpa using i2)]; rfl
    rw [e1, e2] at hmain
    have hcc : ((c : Int) < (c' : Int)) ↔ c < c' := by omega
    simp only [hcc, decide_eq_true_eq]
    by_cases hlt : c < c'
    · simp [hlt, hmain.1 hlt]
    · have : ¬ (lb isl' (bus[pos n n.Branches[q].From]'(by simpa using i1)) ≠ lb isl' (bus[pos n n.Branches[q].To]'(by simpa using i2))) := fun h => hlt (hmain.2 h)
      simp only [ne_eq, Decidable.not_not] at this
      simp [hlt, this]
end Go.Sim
