/-
  The shortest path between two nodes of a graph, in plain Lean.
-/
import Derived.Test.YtfmhkgnbceoclaaBstF
namespace Go.Sim
open Go
set_option linter.unusedVariables false
set_option linter.unusedSimpArgs false
set_option linter.unusedSectionVars false
set_option linter.unnecessarySimpa false

/-- Nodes with a distance to the last one, so far. -/
structure Far (N : Nat) (l : List Ed) (to : Int) (far : List Int) : Prop where
  len : far.length = N
  top : ∀ u, lb far u + negs far < N
  at0 : lb far to = 0
  only : ∀ u, lb far u = 0 → u = to
  down : ∀ u, 0 < lb far u → ∃ v, Adj l u v ∧ lb far v = lb far u - 1
theorem Far.put {N : Nat} {l : List Ed} {to : Int} {far : List Int} (h : Far N l to far) {a q : Int} (ha : 0 ≤ lb far a) (hadj : Adj l q a) (q0 : 0 ≤ q) (qN : q < N) (hq : lb far q < 0) : Far N l to (far.set q.toNat (lb far a + 1)) := by
  have hql : q.toNat < far.length := by rw [h.len]; omega
  have hs := lb_set (o := far) q0 hql (lb far a + 1)
  have hneg := negs_set (v := lb far a + 1) hql (by rw [← lb_ati q0 hql]; exact hq) (by omega)
  have haq : a ≠ q := fun e => by subst e; omega
  refine ⟨by rw [List.length_set]; exact h.len, fun u => ?_, ?_, fun u hu => ?_, fun u hu => ?_⟩
  · rw [hs]
    have h1 := h.top a
    have h2 := h.top u
    split <;> omega
  · have h1 := h.at0
    rw [hs, if_neg (fun e => by subst e; omega)]; exact h1
  · rw [hs] at hu
    by_cases e : u = q
    · rw [if_pos e] at hu; omega
    · rw [if_neg e] at hu; exact h.only u hu
  · rw [hs] at hu
    by_cases e : u = q
    · subst e
      exact ⟨a, hadj, by rw [hs, hs, if_pos rfl, if_neg haq]; omega⟩
    · rw [if_neg e] at hu
      obtain ⟨v, h1, h2⟩ := h.down u hu
      refine ⟨v, h1, ?_⟩
      rw [hs, hs, if_neg e, if_neg (fun e2 => by subst e2; omega)]; exact h2
/-- A walk downwards. -/
inductive Walk (l : List Ed) (d : Int → Int) (u : Int) : List Int → Int → Prop
  | nil : Walk l d u [] u
  | snoc {ks : List Int} {v w k : Int} {e : Ed} : Walk l d u ks v → 0 ≤ k → l[k.toNat]? = some e → ((e.a0 = v ∧ e.a1 = w) ∨ (e.a1 = v ∧ e.a0 = w)) → d w = d v - 1 → Walk l d u (ks ++ [k]) w
/-- A shortest path. -/
structure Way (l : List Ed) (fr to : Int) (out : List Int) (d : Int → Int) : Prop where
  walk : Walk l d fr out to
  d0 : d to = 0
  dl : d fr = out.length
  cl : ∀ u v, Adj l u v → 0 ≤ d u → 0 ≤ d v ∧ d v ≤ d u + 1
theorem gall_gd (l : List Ed) (hl : l.length ≤ 64) : Gd (m_graph_all l) (fun r => (∀ k : Nat, k < l.length → (k : Int) ∈ r) ∧ ∀ k ∈ r, 0 ≤ k ∧ k < (l.length : Int)) := by
  unfold m_graph_all
  refine Gd.nd ⟨by omega, by omega⟩ ?_
  have hlen : (List.replicate ((l.length : Int) : Int).toNat (0 : Int)).length = l.length := by simp
  refine Gd.forN (fun m i (s : List Int) => i + m = l.length ∧ s.length = l.length ∧ (∀ j : Nat, j < i → s[j]? = some (j : Int)) ∧ ∀ k ∈ s, k = 0 ∨ (0 ≤ k ∧ k < (l.length : Int))) ?_ ?_ _ 0 _ ⟨by rw [hlen]; omega, hlen, fun j hj => by omega, fun k hk => .inl (List.eq_of_mem_replicate hk)⟩
  · rintro m i s nx ⟨hi, hs, hj, hk⟩ hnx
    unfold m_graph_all_b1
    have hilt : i < s.length := by omega
    refine Gd.idxN hilt (hnx _ ⟨by omega, by simp [hs], fun j hj2 => ?_, fun k hk2 => ?_⟩)
    · rw [Int.toNat_natCast]
      by_cases e : j = i
      · subst e; rw [List.getElem?_set_self hilt]
      · rw [List.getElem?_set_ne (fun e2 => e e2.symm)]; exact hj j (by omega)
    · rcases List.mem_or_eq_of_mem_set hk2 with h | rfl
      · exact hk k h
      · exact .inr ⟨by omega, by omega⟩
  · rintro i s ⟨hi, hs, hj, hk⟩
    refine Gd.ret ⟨fun k hk2 => List.mem_of_getElem? (hj k (by omega)), fun k hk2 => ?_⟩
    rcases hk k hk2 with rfl | h
    · have : 0 < s.length := List.length_pos_of_mem hk2
      omega
    · exact h
theorem gpath_gd (N : Nat) (hN : N ≤ 24) (l : List Ed) (hl : EdOk N l) (hll : l.length ≤ 64) (es : List Int) (he1 : ∀ k : Nat, k < l.length → (k : Int) ∈ es) (he2 : ∀ k ∈ es, 0 ≤ k ∧ k < (l.length : Int)) (fr to : Int) (f0 : 0 ≤ fr) (fN : fr < N) (t0 : 0 ≤ to) (tN : to < N) :
    Gd (m_graph_path N l es fr to) (fun r => (r = ([], false) ∧ ¬ Conn l fr to) ∨ (r.2 = true ∧ ∃ d, Way l fr to r.1 d)) := by
  unfold m_graph_path
  rw [repL_one]
  have htl : to.toNat < (List.replicate N (-1 : Int)).length := by simp; omega
  have hrep : ∀ u, lb (List.replicate N (-1)) u = -1 := fun u => by
    unfold lb
    split
    · by_cases e : u.toNat < N
      · rw [List.getElem?_eq_getElem (by simpa using e)]; simp
      · rw [List.getElem?_eq_none (by simpa using e)]; rfl
    · rfl
  refine Gd.nd ⟨rfl, by omega, by omega⟩ (Gd.ix t0 (List.getElem?_eq_getElem htl) ?_)
  have hs0 := lb_set (o := List.replicate N (-1 : Int)) t0 htl 0
  have hneg0 := negs_set (out := List.replicate N (-1 : Int)) (v := 0) htl (by simp) (by omega)
  have hnN : ∀ o : List Int, o.length = N → negs o ≤ N := fun o ho => by unfold negs; rw [← ho]; exact List.countP_le_length
  have hn0 := hnN (List.replicate N (-1 : Int)) (by simp)
  have hfar0 : Far N l to ((List.replicate N (-1 : Int)).set to.toNat 0) := by
    refine ⟨by simp, fun u => ?_, by rw [hs0, if_pos rfl], fun u hu => ?_, fun u hu => ?_⟩
    · rw [hs0, hrep]; split <;> omega
    · rw [hs0, hrep] at hu
      by_cases e : u = to
      · exact e
      · rw [if_neg e] at hu; omega
    · rw [hs0, hrep] at hu
      split at hu <;> omega
  refine Gd.loopF (fun (s : List Int × List Int) => Far N l to s.1 ∧ (∀ a ∈ s.2, 0 ≤ lb s.1 a) ∧ s.2.Pairwise (fun a b => lb s.1 a ≤ lb s.1 b) ∧ (∀ h t, s.2 = h :: t → ∀ u, lb s.1 u ≤ lb s.1 h + 1) ∧
      (∀ u, 0 ≤ lb s.1 u → u ∉ s.2 → ∀ v, Adj l u v → 0 ≤ lb s.1 v ∧ lb s.1 v ≤ lb s.1 u + 1) ∧ 2 * negs s.1 + s.2.length ≤ 2 * N + 1)
    (fun s => 2 * negs s.1 + s.2.length) ?_ FUEL _ ⟨hfar0, fun a ha => ?_, by simp, fun h t e u => ?_, fun u hu hno => ?_, ?_⟩ ?_
  · rintro ⟨o, todo⟩ nx ⟨hf, hlab, hsrt, hnear, hfin, hcnt⟩ hnx
    simp only at hf hlab hsrt hnear hfin hcnt
    have hol := hf.len
    unfold m_graph_path_b9
    refine Gd.ite (fun hne => ?_) (fun hze => ?_)
    · obtain ⟨at_, ts, rfl⟩ : ∃ a ts, todo = a :: ts := by
        cases todo with
        | nil => simp at hne
        | cons a ts => exact ⟨a, ts, rfl⟩
      simp only [List.length_cons] at hcnt
      refine Gd.ix (y := at_) (by decide) rfl (Gd.nd ⟨by omega, by simp only [List.length_cons]; omega⟩ ?_)
      have hat := hlab at_ (List.mem_cons_self ..)
      obtain ⟨at0, atN⟩ := lb_in hat
      have hsl : slc (at_ :: ts) (1 : Int).toNat (at_ :: ts).length = ts := by
        unfold slc
        rw [show (1 : Int).toNat = 1 from rfl, List.drop_succ_cons, List.drop_zero, List.take_of_length_le (by simp)]
      rw [hsl]
      have hnear := hnear at_ ts rfl
      rw [List.pairwise_cons] at hsrt
      generalize hD : lb o at_ = D at hnear hat
      have hDN : D < N := by have := hf.top at_; omega
      let J : List Int → List Int × List Int → Prop := fun pre s => Far N l to s.1 ∧ lb s.1 at_ = D ∧ (∀ a ∈ s.2, D ≤ lb s.1 a) ∧ s.2.Pairwise (fun a b => lb s.1 a ≤ lb s.1 b) ∧ (∀ u, lb s.1 u ≤ D + 1) ∧
        (∀ u, 0 ≤ lb s.1 u → u ∉ s.2 → u ≠ at_ → ∀ v, Adj l u v → 0 ≤ lb s.1 v ∧ lb s.1 v ≤ lb s.1 u + 1) ∧
        (∀ k ∈ pre, ∀ e, l[k.toNat]? = some e → (e.a0 = at_ → 0 ≤ lb s.1 e.a1) ∧ (e.a1 = at_ → 0 ≤ lb s.1 e.a0)) ∧ 2 * negs s.1 + s.2.length ≤ 2 * negs o + ts.length
      have push : ∀ (pre : List Int) (k : Int) (e : Ed) (b td : List Int) (q : Int) (nn : List Int × List Int → Option (List Int × Bool)), l[k.toNat]? = some e → J pre (b, td) → Adj l q at_ → 0 ≤ q → q < N → ((e.a0 = at_ ∧ e.a1 = q) ∨ (e.a1 = at_ ∧ e.a0 = q)) →
          (∀ s', J (pre ++ [k]) s' → Gd (nn s') (fun r => (r = ([], false) ∧ ¬ Conn l fr to) ∨ (r.2 = true ∧ ∃ d, Way l fr to r.1 d))) →
          Gd (Sim.idx b q fun y1531 => if decide (y1531 < 0) then (Sim.idx b at_ fun y1536 => Sim.idx b q fun y1540 => need ((td.length + ([q] : List Int).length) * 8 ≤ 140737488355328) (m_graph_path_b13 nn (b.set (q : Int).toNat (IntKind.i64.wrap (y1536 + 1))) (td ++ ([q] : List Int)))) else (m_graph_path_b13 nn b td)) (fun r => (r = ([], false) ∧ ¬ Conn l fr to) ∨ (r.2 = true ∧ ∃ d, Way l fr to r.1 d)) := by
        intro pre k e b td q nn hk ⟨j1, j2, j3, j4, j5, j6, j7, j8⟩ hadj q0 qN hends hnn
        simp only at j1 j2 j3 j4 j5 j6 j7 j8
        have hbl := j1.len
        have hql : q.toNat < b.length := by omega
        have hatl : at_.toNat < b.length := by omega
        have hget : b[q.toNat]? = some b[q.toNat] := List.getElem?_eq_getElem hql
        have hlq : lb b q = b[q.toNat] := lb_ati q0 hql
        have hla : b[at_.toNat] = D := by rw [← lb_ati at0 hatl]; exact j2
        have hno := hnN o hol
        unfold m_graph_path_b13
        refine Gd.ix q0 hget (Gd.ite (fun h => Gd.ix at0 (List.getElem?_eq_getElem hatl) (Gd.ix q0 hget (Gd.nd ?_ (hnn _ ?_)))) (fun h => hnn _ ⟨j1, j2, j3, j4, j5, j6, fun d hd f hf2 => ?_, j8⟩))
        · simp; omega
        · have h1 : b[q.toNat] < 0 := by simpa using h
          have hlt : lb b q < 0 := by omega
          have hw : IntKind.i64.wrap (b[at_.toNat] + 1) = lb b at_ + 1 := by rw [hla, j2]; exact wrap_id ⟨by omega, by omega⟩
          rw [hw]
          have hset := lb_set (o := b) q0 hql (lb b at_ + 1)
          have hne : at_ ≠ q := fun e => by subst e; omega
          have hqtd : q ∉ td := fun hm => by have := j3 q hm; omega
          have up : ∀ {u : Int}, 0 ≤ lb b u → lb (b.set q.toNat (lb b at_ + 1)) u = lb b u := fun {u} hu => by rw [hset, if_neg (fun e => by subst e; omega)]
          have hqs : lb (b.set q.toNat (lb b at_ + 1)) q = D + 1 := by rw [hset, if_pos rfl, j2]
          have hte : ∀ a ∈ td, lb (b.set q.toNat (lb b at_ + 1)) a = lb b a := fun a ha => up (by have := j3 a ha; omega)
          refine ⟨j1.put (by omega) hadj q0 qN hlt, by rw [up (by omega)]; exact j2, fun a ha => ?_, ?_, fun u => ?_, fun u hu hnu hua v hv => ?_, fun d hd f hf2 => ?_, ?_⟩
          · rcases List.mem_append.1 ha with ha | ha
            · show D ≤ lb (b.set q.toNat (lb b at_ + 1)) a
              rw [hte a ha]; exact j3 a ha
            · simp at ha; subst ha
              show D ≤ lb (b.set _ (lb b at_ + 1)) _
              rw [hqs]; omega
          · show (td ++ [q]).Pairwise _
            rw [List.pairwise_append]
            refine ⟨?_, by simp, fun a ha c hc => ?_⟩
            · refine List.Pairwise.imp_of_mem ?_ j4
              intro a c ha hc hac
              show lb (b.set q.toNat (lb b at_ + 1)) a ≤ lb (b.set q.toNat (lb b at_ + 1)) c
              rw [hte a ha, hte c hc]; exact hac
            · simp at hc; subst hc
              show lb (b.set _ (lb b at_ + 1)) a ≤ lb (b.set _ (lb b at_ + 1)) _
              rw [hqs, hte a ha]; exact j5 a
          · show lb (b.set q.toNat (lb b at_ + 1)) u ≤ _
            rw [hset]
            have := j5 u
            split <;> omega
          · simp only at hu hnu ⊢
            have e2 : u ≠ q := fun e => by subst e; exact hnu (List.mem_append_right _ (List.mem_singleton_self _))
            rw [hset, if_neg e2] at hu
            obtain ⟨z1, z2⟩ := j6 u hu (fun hm => hnu (List.mem_append_left _ hm)) hua v hv
            rw [up z1, up hu]
            exact ⟨z1, z2⟩
          · simp only
            have up0 : ∀ {u : Int}, 0 ≤ lb b u → 0 ≤ lb (b.set q.toNat (lb b at_ + 1)) u := fun {u} hu => by rw [up hu]; exact hu
            rcases List.mem_append.1 hd with hd | hd
            · obtain ⟨x1, x2⟩ := j7 d hd f hf2
              exact ⟨fun hh => up0 (x1 hh), fun hh => up0 (x2 hh)⟩
            · simp at hd; subst hd
              rw [hk] at hf2
              obtain rfl := Option.some.inj hf2
              have hat2 : 0 ≤ lb (b.set q.toNat (lb b at_ + 1)) at_ := up0 (by omega)
              have hq2 : 0 ≤ lb (b.set q.toNat (lb b at_ + 1)) q := by omega
              rcases hends with ⟨x1, x2⟩ | ⟨x1, x2⟩
              · exact ⟨fun _ => by rw [x2]; exact hq2, fun _ => by rw [x1]; exact hat2⟩
              · exact ⟨fun _ => by rw [x1]; exact hat2, fun _ => by rw [x2]; exact hq2⟩
          · have := negs_set (v := lb b at_ + 1) hql h1 (by omega)
            simp only [List.length_append, List.length_singleton]
            omega
        · have h1 : 0 ≤ b[q.toNat] := by simpa using h
          rcases List.mem_append.1 hd with hd | hd
          · exact j7 d hd f hf2
          · simp at hd; subst hd
            rw [hk] at hf2
            obtain rfl := Option.some.inj hf2
            rcases hends with ⟨x1, x2⟩ | ⟨x1, x2⟩
            · exact ⟨fun _ => by rw [x2]; simp only; omega, fun _ => by rw [x1]; simp only; omega⟩
            · exact ⟨fun _ => by rw [x1]; simp only; omega, fun _ => by rw [x2]; simp only; omega⟩
      refine Gd.seen J ?_ ?_ _ ⟨hf, hD, fun a ha => ?_, hsrt.2, hnear, fun u hu hnu hua v hv => hfin u hu (fun hm => (List.mem_cons.1 hm).elim hua hnu) v hv, by simp, Nat.le_refl _⟩
      · rintro i k ⟨b, td⟩ nn pre hpre hJ hnn
        obtain ⟨_, hkes, _⟩ := pre_lt hpre
        obtain ⟨k0, kl⟩ := he2 k hkes
        have hkl : k.toNat < l.length := by omega
        have hke := List.getElem?_eq_getElem hkl
        have hel := List.getElem_mem hkl
        generalize l[k.toNat] = e at hke hel
        obtain ⟨e1, e2, e3, e4⟩ := hl e hel
        have hw1 : IntKind.i64.wrap (e.a0 + e.a1) = e.a0 + e.a1 := wrap_id ⟨by omega, by omega⟩
        have hw2 : IntKind.i64.wrap (e.a0 + e.a1 - at_) = e.a0 + e.a1 - at_ := wrap_id ⟨by omega, by omega⟩
        unfold m_graph_path_b12
        refine Gd.ix k0 hke ?_
        rw [hw1, hw2]
        refine Gd.ite (fun h => ?_) (fun h => Gd.ite (fun h2 => ?_) (fun h2 => ?_))
        · have h : e.a0 = at_ := by simpa using h
          have hq : e.a0 + e.a1 - at_ = e.a1 := by omega
          rw [hq]
          exact push pre k e b td _ nn hke hJ ⟨e, hel, .inr ⟨rfl, h⟩⟩ e3 e4 (.inl ⟨h, rfl⟩) hnn
        · have h2 : e.a1 = at_ := by simpa using h2
          have hq : e.a0 + e.a1 - at_ = e.a0 := by omega
          rw [hq]
          exact push pre k e b td _ nn hke hJ ⟨e, hel, .inl ⟨rfl, h2⟩⟩ e1 e2 (.inr ⟨h2, rfl⟩) hnn
        · have h1 : e.a0 ≠ at_ := by simpa using h
          have h2 : e.a1 ≠ at_ := by simpa using h2
          obtain ⟨j1, j2, j3, j4, j5, j6, j7, j8⟩ := hJ
          unfold m_graph_path_b13
          refine hnn _ ⟨j1, j2, j3, j4, j5, j6, fun d hd f hf2 => ?_, j8⟩
          rcases List.mem_append.1 hd with hd | hd
          · exact j7 d hd f hf2
          · simp at hd; subst hd
            rw [hke] at hf2
            obtain rfl := Option.some.inj hf2
            exact ⟨fun hh => absurd hh h1, fun hh => absurd hh h2⟩
      · rintro ⟨b, td⟩ ⟨j1, j2, j3, j4, j5, j6, j7, j8⟩
        simp only at j1 j2 j3 j4 j5 j6 j7 j8
        refine hnx _ ⟨j1, fun a ha => by have := j3 a ha; show 0 ≤ lb b a; omega, j4, fun h t e u => ?_, fun u hu hnu v hv => ?_, by show 2 * negs b + td.length ≤ 2 * N + 1; omega⟩ (by simp only [List.length_cons]; omega)
        · have e : td = h :: t := e
          have h1 := j3 h (by rw [e]; exact List.mem_cons_self ..)
          have h2 := j5 u
          show lb b u ≤ lb b h + 1
          omega
        · by_cases e : u = at_
          · subst e
            have h2 := j5 v
            refine ⟨?_, by show lb b v ≤ lb b u + 1; omega⟩
            show 0 ≤ lb b v
            obtain ⟨d, hd, hh⟩ := hv
            obtain ⟨k, hk, rfl⟩ := List.mem_iff_getElem.1 hd
            have := j7 (k : Int) (he1 k hk) l[k] (by rw [Int.toNat_natCast]; exact List.getElem?_eq_getElem hk)
            rcases hh with ⟨x, y⟩ | ⟨x, y⟩
            · rw [← y]; exact this.1 x
            · rw [← y]; exact this.2 x
          · exact j6 u hu hnu e v hv
      · have h1 := hsrt.1 a ha
        show D ≤ lb o a
        omega
    · have htn : todo = [] := by
        cases todo with
        | nil => rfl
        | cons a ts => simp at hze
      subst htn
      have hfl : fr.toNat < o.length := by omega
      have hcl : ∀ u v, Adj l u v → 0 ≤ lb o u → 0 ≤ lb o v ∧ lb o v ≤ lb o u + 1 := fun u v hv hu => hfin u hu (by simp) v hv
      refine Gd.ix f0 (List.getElem?_eq_getElem hfl) (Gd.ite (fun h => Gd.ret (.inl ⟨rfl, fun hc => ?_⟩)) (fun h => ?_))
      · have h1 : o[fr.toNat] < 0 := by simpa using h
        have key : ∀ w, Conn l to w → 0 ≤ lb o w := fun w hw => by
          induction hw with
          | refl => rw [hf.at0]; exact Int.le_refl 0
          | snoc _ ha ih => exact (hcl _ _ ha ih).1
        have := key fr hc.symm
        rw [lb_ati f0 hfl] at this
        omega
      · have h1 : 0 ≤ o[fr.toNat] := by simpa using h
        have hfr : 0 ≤ lb o fr := by rw [lb_ati f0 hfl]; exact h1
        have htop := hf.top fr
        refine Gd.loopF (fun (s : List Int × Int) => Walk l (lb o) fr s.1 s.2 ∧ 0 ≤ lb o s.2 ∧ (s.1.length : Int) + lb o s.2 = lb o fr) (fun s => (lb o s.2).toNat) ?_ FUEL _ ⟨.nil, hfr, by simp⟩ (by unfold FUEL; simp only; omega)
        rintro ⟨out, cur⟩ nx2 ⟨hw, hc0, hlen⟩ hnx2
        simp only at hw hc0 hlen
        obtain ⟨cu0, cuN⟩ := lb_in hc0
        unfold m_graph_path_b22
        refine Gd.ite (fun hne => ?_) (fun hz => Gd.ret (.inr ⟨rfl, lb o, ?_, hf.at0, ?_, hcl⟩))
        · have hne : cur ≠ to := by simpa using hne
          have hpos : 0 < lb o cur := by
            by_cases e : lb o cur = 0
            · exact absurd (hf.only cur e) hne
            · omega
          have hct := hf.top cur
          have hwm : IntKind.i64.wrap (lb o cur - 1) = lb o cur - 1 := wrap_id ⟨by omega, by omega⟩
          have hcl2 : cur.toNat < o.length := by omega
          have hcg : o[cur.toNat]? = some (lb o cur) := by rw [lb_ati cu0 hcl2]; exact List.getElem?_eq_getElem hcl2
          refine Gd.seen (fun pre (_ : Unit) => ∀ k ∈ pre, ∀ e, l[k.toNat]? = some e → ¬ (e.a0 = cur ∧ lb o e.a1 = lb o cur - 1) ∧ ¬ (e.a1 = cur ∧ lb o e.a0 = lb o cur - 1)) ?_ ?_ _ (by simp)
          · rintro i k _ nn pre hpre hJ hnn
            obtain ⟨_, hkes, _⟩ := pre_lt hpre
            obtain ⟨k0, kl⟩ := he2 k hkes
            have hkl : k.toNat < l.length := by omega
            have hke := List.getElem?_eq_getElem hkl
            have hel := List.getElem_mem hkl
            generalize l[k.toNat] = e at hke hel
            obtain ⟨e1, e2, e3, e4⟩ := hl e hel
            have hw1 : IntKind.i64.wrap (e.a0 + e.a1) = e.a0 + e.a1 := wrap_id ⟨by omega, by omega⟩
            have hw2 : IntKind.i64.wrap (e.a0 + e.a1 - cur) = e.a0 + e.a1 - cur := wrap_id ⟨by omega, by omega⟩
            have hod : ∀ q : Int, 0 ≤ q → q < N → o[q.toNat]? = some (lb o q) := fun q q0 qN => by
              rw [lb_ati q0 (by omega)]; exact List.getElem?_eq_getElem (by omega)
            have next : (¬ (e.a0 = cur ∧ lb o e.a1 = lb o cur - 1) ∧ ¬ (e.a1 = cur ∧ lb o e.a0 = lb o cur - 1)) → Gd (m_graph_path_b26 nn) (fun r => (r = ([], false) ∧ ¬ Conn l fr to) ∨ (r.2 = true ∧ ∃ d, Way l fr to r.1 d)) := fun hno => by
              unfold m_graph_path_b26
              refine hnn () (fun d hd f hf2 => ?_)
              rcases List.mem_append.1 hd with hd | hd
              · exact hJ d hd f hf2
              · simp at hd; subst hd
                rw [hke] at hf2
                obtain rfl := Option.some.inj hf2
                exact hno
            have step : ∀ q : Int, ((e.a0 = cur ∧ e.a1 = q) ∨ (e.a1 = cur ∧ e.a0 = q)) → lb o q = lb o cur - 1 → Gd (nx2 (out ++ [k], q)) (fun r => (r = ([], false) ∧ ¬ Conn l fr to) ∨ (r.2 = true ∧ ∃ d, Way l fr to r.1 d)) := fun q hq hlq =>
              hnx2 _ ⟨hw.snoc k0 hke hq hlq, by show 0 ≤ lb o q; omega, by show ((out ++ [k]).length : Int) + lb o q = lb o fr; rw [List.length_append, List.length_singleton]; omega⟩ (by show (lb o q).toNat < (lb o cur).toNat; omega)
            have hout : out.length < 24 := by omega
            unfold m_graph_path_b25
            refine Gd.ix k0 hke ?_
            rw [hw1, hw2]
            refine Gd.ite (fun h => ?_) (fun h => Gd.ite (fun h2 => ?_) (fun h2 => ?_))
            · have h : e.a0 = cur := by simpa using h
              have hq : e.a0 + e.a1 - cur = e.a1 := by omega
              rw [hq]
              refine Gd.ix e3 (hod _ e3 e4) (Gd.ix cu0 hcg ?_)
              rw [hwm]
              refine Gd.ite (fun h3 => Gd.nd (by simp; omega) (step _ (.inl ⟨h, rfl⟩) (by simpa using h3))) (fun h3 => next ⟨fun hh => ?_, fun hh => ?_⟩)
              · have h3 : ¬ lb o e.a1 = lb o cur - 1 := by simpa using h3
                exact h3 hh.2
              · rw [h] at hh; omega
            · have h1 : e.a0 ≠ cur := by simpa using h
              have h2 : e.a1 ≠ cur := by simpa using h2
              exact next ⟨fun hh => h1 hh.1, fun hh => h2 hh.1⟩
            · have h1 : e.a0 ≠ cur := by simpa using h
              have h2 : e.a1 = cur := by simpa using h2
              have hq : e.a0 + e.a1 - cur = e.a0 := by omega
              rw [hq]
              refine Gd.ix e1 (hod _ e1 e2) (Gd.ix cu0 hcg ?_)
              rw [hwm]
              refine Gd.ite (fun h3 => Gd.nd (by simp; omega) (step _ (.inr ⟨h2, rfl⟩) (by simpa using h3))) (fun h3 => next ⟨fun hh => h1 hh.1, fun hh => ?_⟩)
              have h3 : ¬ lb o e.a0 = lb o cur - 1 := by simpa using h3
              exact h3 hh.2
          · intro _ hJ
            exfalso
            obtain ⟨v, ⟨d, hd, hh⟩, hv⟩ := hf.down cur hpos
            obtain ⟨k, hk, rfl⟩ := List.mem_iff_getElem.1 hd
            have := hJ (k : Int) (he1 k hk) l[k] (by rw [Int.toNat_natCast]; exact List.getElem?_eq_getElem hk)
            rcases hh with ⟨x, y⟩ | ⟨x, y⟩
            · exact this.1 ⟨x, by rw [y]; exact hv⟩
            · exact this.2 ⟨x, by rw [y]; exact hv⟩
        · have hz : cur = to := by simpa using hz
          subst hz; exact hw
        · have hz : cur = to := by simpa using hz
          subst hz
          have := hf.at0
          show lb o fr = (out.length : Int)
          omega
  · simp only [List.mem_singleton] at ha
    subst ha
    show 0 ≤ lb ((List.replicate N (-1 : Int)).set _ 0) _
    rw [hs0, if_pos rfl]; exact Int.le_refl 0
  · have e : [to] = h :: t := e
    obtain ⟨rfl, rfl⟩ : to = h ∧ [] = t := by simpa using e
    show lb ((List.replicate N (-1 : Int)).set to.toNat 0) u ≤ lb ((List.replicate N (-1 : Int)).set to.toNat 0) to + 1
    rw [hs0, hs0, hrep, if_pos rfl]
    split <;> omega
  · exfalso
    have hu : 0 ≤ lb ((List.replicate N (-1 : Int)).set to.toNat 0) u := hu
    rw [hs0, hrep] at hu
    by_cases e : u = to
    · subst e; simp at hno
    · rw [if_neg e] at hu; omega
  · simp only [List.length_singleton]
    omega
  · simp only [List.length_singleton]
    unfold FUEL
    omega
theorem gPath_gd (N : Nat) (hN : N ≤ 24) (l : List Ed) (hl : EdOk N l) (hll : l.length ≤ 64) (fr to : Int) (f0 : 0 ≤ fr) (fN : fr < N) (t0 : 0 ≤ to) (tN : to < N) :
    Gd (m_graph_Path N l fr to) (fun r => (r.2 ≠ 0 ∧ ¬ Conn l fr to) ∨ (r.2 = 0 ∧ ∃ d, Way l fr to r.1 d)) := by
  unfold m_graph_Path
  refine Gd.bind_eq (gcheck_ok N hN l hl hll) (Gd.ite (fun h => by simp at h) (fun _ => Gd.ite (fun h => ?_) (fun _ => Gd.bnd (gall_gd l hll) (fun es hes => Gd.bnd (gpath_gd N hN l hl hll es hes.1 hes.2 fr to f0 fN t0 tN) (fun r hr => ?_)))))
  · simp at h; omega
  · rcases hr with ⟨rfl, hno⟩ | ⟨hr, hd⟩
    · exact Gd.ite (fun _ => Gd.ret (.inl ⟨by simp, hno⟩)) (fun h => by simp at h)
    · refine Gd.ite (fun h => by rw [hr] at h; simp at h) (fun _ => Gd.ret (.inr ⟨rfl, hd⟩))
end Go.Sim
