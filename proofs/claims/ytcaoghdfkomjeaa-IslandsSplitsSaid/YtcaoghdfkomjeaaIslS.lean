/-
  Shares and lacks of islands, in plain Lean: the laws of the models.
-/
import Derived.Test.YtcaoghdfkomjeaaIslR
namespace Go.Sim
open Go
set_option linter.unusedVariables false
set_option linter.unusedSimpArgs false
set_option linter.unusedSectionVars false
set_option linter.unnecessarySimpa false

theorem islandsFact_true : m_gridhallkeep4_islandsFact = some true := by kernel_rfl

/-- A network is refused by all alike, or it is valid, and balances and shares are known. -/
theorem net_cases (n : Net) (hz : NetSz n) :
    (∃ e, e ≠ 0 ∧ m_netmodel_Check n = some e ∧ m_islands_Share n = some ([], e) ∧ m_islands_Of n = some ([], e)) ∨
    (∃ r x, NetOk n ∧ m_netmodel_Check n = some 0 ∧ m_islands_Of n = some (r, 0) ∧ m_islands_Share n = some x ∧ ShOk n r x ∧ r.length ≤ 24 ∧ tot S_api_IslandsSum.Demand r = tot S_api_Load.Demand n.Loads ∧
      ∀ s ∈ r, 0 ≤ s.Demand ∧ s.Least ≤ s.Most ∧ 0 ≤ s.Most ∧ s.Most ≤ 1000000) := by
  obtain ⟨e, he, hok⟩ := check_gd n hz
  by_cases h0 : e = 0
  · subst h0
    right
    have hn := hok rfl
    obtain ⟨t, N, pl, hp⟩ := plc_ex n hn
    obtain ⟨r, hr, h1, h2, h3⟩ := sums_gd hp
    obtain ⟨x, hx, hs⟩ := share_gd hp he hr
    refine ⟨r, x, hn, he, ?_, hx, hs, by rw [h1]; exact hp.n24, h2, ?_⟩
    · rw [← Gd.eq]
      unfold m_islands_Of
      exact Gd.bind_eq he (Gd.ite (fun h => by simp at h) (fun _ => Gd.bind_eq hr (Gd.ret rfl)))
    · intro s hsr
      obtain ⟨k, hk, rfl⟩ := List.mem_iff_getElem.1 hsr
      obtain ⟨q1, q2, q3⟩ := h3 k hk
      have a1 := acc_nn (f := S_api_Gen.Most) (p := fun g : S_api_Gen => pl g.Node) (k := k) (l := n.Gens) (fun g hg => by have := hn.gn g hg; omega)
      have a2 := acc_le (f := S_api_Gen.Most) (p := fun g : S_api_Gen => pl g.Node) (k := k) (B := 100000) (by omega) (l := n.Gens) (fun g hg => (hn.gn g hg).2.2.2)
      have := hn.l4
      exact ⟨q1, q2, by omega, by omega⟩
  · left
    refine ⟨e, h0, he, ?_, ?_⟩
    · rw [← Gd.eq]
      unfold m_islands_Share
      exact Gd.bind_eq he (Gd.ite (fun _ => Gd.ret rfl) (fun h => absurd (by simpa using h) h0))
    · rw [← Gd.eq]
      unfold m_islands_Of
      exact Gd.bind_eq he (Gd.ite (fun _ => Gd.ret rfl) (fun h => absurd (by simpa using h) h0))

theorem IslandsShares_true (n : Net) (hz : NetSz n) : m_gridhallkeep4_IslandsShares n = some true := by
  rw [← Gd.eq]
  unfold m_gridhallkeep4_IslandsShares
  rcases net_cases n hz with ⟨e, h0, _, hs, ho⟩ | ⟨r, x, hn, _, ho, hs, hsh, hrl, htot, hr⟩
  · refine Gd.bind_eq hs (Gd.bind_eq ho (Gd.ite (fun _ => ?_) (fun h => absurd (by simpa using h) h0)))
    exact Gd.bind_eq islandsFact_true (Gd.ret (by simp))
  · refine Gd.bind_eq hs (Gd.bind_eq ho ?_)
    rcases hsh.er with hx | ⟨hx, hx1⟩
    · have hlen := hsh.len hx
      have heach := hsh.each hx
      have hall := hsh.all hx
      have l4 := hn.l4
      have l5 := hn.l5
      have gD : ∀ l ∈ n.Loads, 0 ≤ l.Demand ∧ l.Demand ≤ 100000 := fun l hl => by have := hn.ld l hl; omega
      have hD1 := tot_le (f := S_api_Load.Demand) (B := 100000) (l := n.Loads) (fun g hg => (gD g hg).2)
      have hD0 := tot_nn (f := S_api_Load.Demand) (l := n.Loads) (fun g hg => (gD g hg).1)
      refine Gd.ite (fun h => by simp [hx] at h) (fun _ => Gd.ite (fun h => by simp [hlen] at h) (fun _ => ?_))
      have xnn : ∀ v ∈ x.1, 0 ≤ id v := fun v hv => by
        obtain ⟨k, hk, rfl⟩ := List.mem_iff_getElem.1 hv
        exact (heach k hk (by omega)).1
      refine Gd.forI (fun i ys s => i + ys.length = n.Gens.length ∧ ys = n.Gens.drop i ∧ s = tot id (x.1.take i)) ?_ ?_ _ _ _ ⟨by simp, by simp, rfl⟩
      · rintro i y ys s nx ⟨hi, hys, rfl⟩ hnx
        simp only [List.length_cons] at hi
        have hlt : i < n.Gens.length := by omega
        have hlx : i < x.1.length := by omega
        rw [List.drop_eq_getElem_cons hlt] at hys
        obtain ⟨rfl, rfl⟩ := List.cons.inj hys
        obtain ⟨e1, e2, e3⟩ := heach i hlx hlt
        have htk : tot id (x.1.take (i + 1)) = tot id (x.1.take i) + x.1[i] := by
          rw [List.take_succ_eq_append_getElem hlx, tot_app]; simp only [tot, id]; omega
        have ht0 := tot_nn (f := id) (l := x.1.take i) (fun v hv => xnn v (List.mem_of_mem_take hv))
        have ht1 := tot_le (f := id) (B := 100000) (l := x.1.take i) (fun v hv => by
          obtain ⟨k, hk, rfl⟩ := List.mem_iff_getElem.1 (List.mem_of_mem_take hv)
          exact (heach k hk (by omega)).2.1)
        have htl : (x.1.take i).length ≤ 10 := by simp; omega
        have hw : IntKind.i64.wrap (tot id (x.1.take i) + x.1[i]) = tot id (x.1.take (i + 1)) := by rw [htk]; exact wrap_id ⟨by omega, by omega⟩
        have fin : Gd (nx (IntKind.i64.wrap (tot id (x.1.take i) + x.1[i]))) (fun z => z = true) := hnx _ ⟨by omega, rfl, hw⟩
        unfold m_gridhallkeep4_IslandsShares_b1
        refine Gd.idxN hlx (Gd.ite (fun _ => Gd.idxN hlx fin) (fun hne => Gd.idxN hlx (Gd.ite (fun h => ?_) (fun _ => Gd.idxN hlx (Gd.ite (fun h => ?_) (fun _ => Gd.idxN hlx fin))))))
        · have hne : x.1[i] ≠ 0 := by simpa using hne
          have h : x.1[i] < n.Gens[i].Least := by simpa using h
          omega
        · have hne : x.1[i] ≠ 0 := by simpa using hne
          have h : n.Gens[i].Most < x.1[i] := by simpa using h
          omega
      rintro i s ⟨hi, _, rfl⟩
      simp only [List.length_nil] at hi
      rw [List.take_of_length_le (by omega), hall]
      refine Gd.forI (fun i ys s => (∀ y ∈ ys, y ∈ r) ∧ 0 ≤ s ∧ s + tot S_api_IslandsSum.Demand ys = tot S_api_IslandsSum.Demand r) ?_ ?_ _ _ _ ⟨fun _ h => h, Int.le_refl _, Int.zero_add _⟩
      · rintro i y ys s nx ⟨hm, hs0, hst⟩ hnx
        have hy := hr y (hm y (List.mem_cons_self ..))
        have ht0 := tot_nn (f := S_api_IslandsSum.Demand) (l := ys) (fun z hz => (hr z (hm z (List.mem_cons_of_mem _ hz))).1)
        simp only [tot] at hst
        unfold m_gridhallkeep4_IslandsShares_b2
        refine Gd.ite (fun h => ?_) (fun _ => hnx _ ⟨fun z hz => hm z (List.mem_cons_of_mem _ hz), ?_, ?_⟩)
        · have h : y.Most < y.Least := by simpa using h
          omega
        · rw [wrap_id ⟨by omega, by omega⟩]; omega
        · rw [wrap_id ⟨by omega, by omega⟩]; omega
      rintro i s ⟨_, _, hst⟩
      simp only [tot] at hst
      have hs : s = tot S_api_Load.Demand n.Loads := by omega
      subst hs
      have loop : ∀ (K : Int → Option Bool) (body : Nat → S_api_Load → Int → (Int → Option Bool) → Option Bool), (∀ k y s nx, body k y s nx = nx (IntKind.i64.wrap (s - y.Demand))) → Gd (K 0) (fun z => z = true) →
          Gd (Sim.forI body K 0 n.Loads (tot S_api_Load.Demand n.Loads)) (fun z => z = true) := by
        intro K body hb hK
        refine Gd.forI (fun i ys s => (∀ y ∈ ys, y ∈ n.Loads) ∧ s = tot S_api_Load.Demand ys ∧ s ≤ 2000000) ?_ ?_ _ _ _ ⟨fun _ h => h, rfl, by omega⟩
        · rintro i y ys s nx ⟨hm, rfl, hb2⟩ hnx
          have hy := gD y (hm y (List.mem_cons_self ..))
          have ht0 := tot_nn (f := S_api_Load.Demand) (l := ys) (fun z hz => (gD z (hm z (List.mem_cons_of_mem _ hz))).1)
          simp only [tot] at hb2
          rw [hb]
          simp only [tot]
          have e : IntKind.i64.wrap (y.Demand + tot S_api_Load.Demand ys - y.Demand) = tot S_api_Load.Demand ys := by rw [wrap_id ⟨by omega, by omega⟩]; omega
          exact hnx _ ⟨fun z hz => hm z (List.mem_cons_of_mem _ hz), e, by rw [e]; omega⟩
        · rintro i s ⟨_, rfl, _⟩
          exact hK
      refine loop _ _ (fun _ _ _ _ => by unfold m_gridhallkeep4_IslandsShares_b3; rfl) ?_
      refine loop _ _ (fun _ _ _ _ => by unfold m_gridhallkeep4_IslandsShares_b4; rfl) ?_
      exact Gd.bind_eq islandsFact_true (Gd.ret (by simp))
    · refine Gd.ite (fun _ => ?_) (fun h => by simp [hx] at h)
      exact Gd.bind_eq islandsFact_true (Gd.ret (by simp [hx, hx1]))

theorem lack_eq {n : Net} {r : List S_api_IslandsSum} (ho : m_islands_Of n = some (r, 0)) (hl : r.length ≤ 24) : m_islands_Lack n = some (r.map (fun s => max 0 (IntKind.i64.wrap (s.Demand - s.Most))), 0) := by
  rw [← Gd.eq]
  unfold m_islands_Lack
  refine Gd.bind_eq ho (Gd.ite (fun h => by simp at h) (fun _ => ?_))
  refine Gd.forI (fun i ys s => i + ys.length = r.length ∧ ys = r.drop i ∧ s = (r.take i).map (fun s => max 0 (IntKind.i64.wrap (s.Demand - s.Most)))) ?_ ?_ _ _ _ ⟨by simp, by simp, by simp⟩
  · rintro i y ys s nx ⟨hi, hys, rfl⟩ hnx
    simp only [List.length_cons] at hi
    have hlt : i < r.length := by omega
    rw [List.drop_eq_getElem_cons hlt] at hys
    obtain ⟨rfl, rfl⟩ := List.cons.inj hys
    unfold m_islands_Lack_b1
    refine Gd.nd (by simp; omega) (hnx _ ⟨by omega, rfl, ?_⟩)
    rw [List.take_succ_eq_append_getElem hlt, List.map_append]; rfl
  · rintro i s ⟨hi, _, rfl⟩
    rw [List.take_of_length_le (by simp at hi; omega)]
    exact Gd.ret rfl

theorem IslandsLacks_true (n : Net) (hz : NetSz n) : m_gridhallkeep4_IslandsLacks n = some true := by
  rw [← Gd.eq]
  unfold m_gridhallkeep4_IslandsLacks
  rcases net_cases n hz with ⟨e, h0, _, hs, ho⟩ | ⟨r, x, hn, _, ho, hs, hsh, hrl, htot, hr⟩
  · have hl : m_islands_Lack n = some ([], e) := by
      rw [← Gd.eq]
      unfold m_islands_Lack
      exact Gd.bind_eq ho (Gd.ite (fun _ => Gd.ret rfl) (fun h => absurd (by simpa using h) h0))
    refine Gd.bind_eq hl (Gd.bind_eq hs (Gd.bind_eq ho (Gd.ite (fun _ => ?_) (fun h => absurd (by simpa using h) h0))))
    exact Gd.bind_eq islandsFact_true (Gd.ret (by simp))
  · refine Gd.bind_eq (lack_eq ho hrl) (Gd.bind_eq hs (Gd.bind_eq ho (Gd.ite (fun h => by simp at h) (fun _ => Gd.ite (fun h => by simp at h) (fun _ => ?_)))))
    generalize hL : r.map (fun s : S_api_IslandsSum => max 0 (IntKind.i64.wrap (s.Demand - s.Most))) = L
    have hLl : L.length = r.length := by rw [← hL]; simp
    refine Gd.forI (Q := fun z => z = true) (fun i ys (_ : Unit) => i + ys.length = L.length ∧ ys = L.drop i) ?_ (fun i s _ => Gd.bind_eq islandsFact_true (Gd.ret rfl)) _ _ _ ⟨Nat.zero_add _, rfl⟩
    rintro i y ys s nx ⟨hi, hys⟩ hnx
    simp only [List.length_cons] at hi
    have hlt : i < L.length := by omega
    have hlr : i < r.length := by omega
    rw [List.drop_eq_getElem_cons hlt] at hys
    obtain ⟨rfl, rfl⟩ := List.cons.inj hys
    have hLi : L[i] = max 0 (IntKind.i64.wrap (r[i].Demand - r[i].Most)) := by simp only [← hL, List.getElem_map]
    unfold m_gridhallkeep4_IslandsLacks_b1
    refine Gd.idxN hlr (Gd.idxN hlr (Gd.ite (fun h => ?_) (fun _ => hnx _ ⟨by omega, rfl⟩)))
    exfalso
    obtain ⟨r1, r2, r3, r4⟩ := hr r[i] (List.getElem_mem _)
    have hd := tot_one (f := S_api_IslandsSum.Demand) (l := r) (x := r[i]) (fun z hz => (hr z hz).1) (List.getElem_mem _)
    have l5 := hn.l5
    have hD1 := tot_le (f := S_api_Load.Demand) (B := 100000) (l := n.Loads) (fun g hg => (hn.ld g hg).2.2)
    have hw : IntKind.i64.wrap (r[i].Demand - r[i].Most) = r[i].Demand - r[i].Most := wrap_id ⟨by omega, by omega⟩
    simp only [hw] at hLi h
    simp only [hLi, decide_true, Bool.not_true, Bool.false_or, Bool.and_eq_true, decide_eq_true_eq, Bool.not_eq_true', decide_eq_false_iff_not] at h
    exact h.2 (hsh.lack ⟨i, hlr, by omega⟩)
end Go.Sim
