/-
  The parts of a graph, in plain Lean: they are its components.
-/
import Derived.Test.YtfmhkgnbceoclaaBstC
namespace Go.Sim
open Go
set_option linter.unusedVariables false
set_option linter.unusedSimpArgs false
set_option linter.unusedSectionVars false
set_option linter.unnecessarySimpa false

abbrev Ed := S_A2_Int
/-- The number of a node. -/
def lb (o : List Int) (u : Int) : Int := if 0 ≤ u then (o[u.toNat]?).getD (-1) else -1
theorem lb_in {o : List Int} {u : Int} (h : 0 ≤ lb o u) : 0 ≤ u ∧ u < o.length := by
  unfold lb at h
  split at h
  · rename_i h0
    refine ⟨h0, ?_⟩
    by_cases e : u.toNat < o.length
    · omega
    · rw [List.getElem?_eq_none (by omega)] at h; simp at h
  · omega
theorem lb_at {o : List Int} {k : Nat} (h : k < o.length) : lb o (k : Int) = o[k] := by
  unfold lb; rw [if_pos (by omega), Int.toNat_natCast, List.getElem?_eq_getElem h]; rfl
theorem lb_ati {o : List Int} {u : Int} (h0 : 0 ≤ u) (h : u.toNat < o.length) : lb o u = o[u.toNat] := by
  unfold lb; rw [if_pos h0, List.getElem?_eq_getElem h]; rfl
theorem lb_set {o : List Int} {q : Int} (h0 : 0 ≤ q) (h : q.toNat < o.length) (m u : Int) : lb (o.set q.toNat m) u = if u = q then m else lb o u := by
  unfold lb
  by_cases e : u = q
  · subst e
    rw [if_pos h0, if_pos rfl, List.getElem?_set_self h]; rfl
  · rw [if_neg e]
    by_cases hu : 0 ≤ u
    · rw [if_pos hu, if_pos hu, List.getElem?_set_ne (by omega)]
    · rw [if_neg hu, if_neg hu]
def Adj (l : List Ed) (u v : Int) : Prop := ∃ e ∈ l, (e.a0 = u ∧ e.a1 = v) ∨ (e.a1 = u ∧ e.a0 = v)
theorem Adj.symm {l : List Ed} {u v : Int} (h : Adj l u v) : Adj l v u := by
  obtain ⟨e, he, h | h⟩ := h
  · exact ⟨e, he, .inr ⟨h.2, h.1⟩⟩
  · exact ⟨e, he, .inl ⟨h.2, h.1⟩⟩
inductive Conn (l : List Ed) (u : Int) : Int → Prop
  | refl : Conn l u u
  | snoc {v w : Int} : Conn l u v → Adj l v w → Conn l u w
theorem Conn.trans {l : List Ed} {u v w : Int} (h1 : Conn l u v) (h2 : Conn l v w) : Conn l u w := by
  induction h2 with
  | refl => exact h1
  | snoc _ h ih => exact .snoc ih h
theorem Conn.symm {l : List Ed} {u v : Int} (h : Conn l u v) : Conn l v u := by
  induction h with
  | refl => exact .refl
  | snoc _ h ih => exact (Conn.snoc .refl h.symm).trans ih

/-- Numbers so far. -/
structure Col (N : Nat) (l : List Ed) (many : Int) (out : List Int) : Prop where
  pt : PtOk N many out
  cls : ∀ u v, Adj l u v → 0 ≤ lb out u → lb out v = lb out u
  con : ∀ u v, 0 ≤ lb out u → lb out u = lb out v → Conn l u v
  cov : ∀ c, 0 ≤ c → c < many → ∃ u, lb out u = c
theorem PtOk.lt {N : Nat} {many : Int} {out : List Int} (h : PtOk N many out) (hm : 0 ≤ many) (u : Int) : -1 ≤ lb out u ∧ lb out u < many := by
  by_cases h0 : 0 ≤ lb out u
  · obtain ⟨a, b⟩ := lb_in h0
    have : u.toNat < out.length := by omega
    rw [lb_ati a this]
    exact h.rng _ (List.getElem_mem _)
  · refine ⟨?_, by omega⟩
    unfold lb
    split
    · by_cases e : u.toNat < out.length
      · rw [List.getElem?_eq_getElem e]
        exact (h.rng _ (List.getElem_mem e)).1
      · rw [List.getElem?_eq_none (by omega)]; simp
    · omega
/-- One part is being numbered. -/
structure Fill (N : Nat) (l : List Ed) (m : Int) (i : Int) (out o : List Int) : Prop where
  pt : PtOk N (m + 1) o
  old : ∀ u, 0 ≤ lb out u → lb o u = lb out u
  new : ∀ u, lb out u < 0 → 0 ≤ lb o u → lb o u = m ∧ Conn l i u
  st : lb o i = m
theorem Fill.put {N : Nat} {l : List Ed} {m i : Int} {out o : List Int} (h : Fill N l m i out o) (hc : Col N l m out) (h0 : 0 ≤ m) {a q : Int} (ha : lb o a = m) (hadj : Adj l a q) (q0 : 0 ≤ q) (qN : q < N) (hq : lb o q < 0) : Fill N l m i out (o.set q.toNat m) := by
  have hql : q.toNat < o.length := by rw [h.pt.len]; omega
  have ca : Conn l i a := by
    by_cases e : 0 ≤ lb out a
    · have h1 := h.old a e
      have h2 := (hc.pt.lt h0 a).2
      omega
    · exact (h.new a (by omega) (by omega)).2
  refine ⟨h.pt.set ⟨h0, by omega⟩ _, fun u hu => ?_, fun u hu hn => ?_, ?_⟩
  · rw [lb_set q0 hql]
    have h1 := h.old u hu
    rw [if_neg (fun e => by subst e; omega)]
    exact h1
  · rw [lb_set q0 hql] at hn ⊢
    by_cases e : u = q
    · subst e
      rw [if_pos rfl]
      exact ⟨rfl, ca.snoc hadj⟩
    · rw [if_neg e] at hn ⊢
      exact h.new u hu hn
  · rw [lb_set q0 hql]
    split
    · rfl
    · exact h.st
theorem Fill.mono {N : Nat} {m : Int} {o : List Int} (hl : o.length = N) (h0 : 0 ≤ m) {q : Int} (q0 : 0 ≤ q) (qN : q < N) {u : Int} (hu : 0 ≤ lb o u) : 0 ≤ lb (o.set q.toNat m) u := by
  rw [lb_set q0 (by omega)]
  split
  · exact h0
  · exact hu
theorem Fill.done {N : Nat} {l : List Ed} {m i : Int} {out o : List Int} (h : Fill N l m i out o) (hc : Col N l m out) (h0 : 0 ≤ m) (hp : ∀ u, lb o u = m → ∀ v, Adj l u v → 0 ≤ lb o v) : Col N l (m + 1) o := by
  refine ⟨h.pt, fun u v huv hu => ?_, fun u v hu huv => ?_, fun c c0 c1 => ?_⟩
  · by_cases e : 0 ≤ lb out u
    · have h1 := h.old u e
      have h2 := hc.cls u v huv e
      have h3 := h.old v (by omega)
      omega
    · obtain ⟨h1, _⟩ := h.new u (by omega) hu
      have h2 := hp u h1 v huv
      by_cases e2 : 0 ≤ lb out v
      · have := hc.cls v u huv.symm e2
        omega
      · have := (h.new v (by omega) h2).1
        omega
  · by_cases e : 0 ≤ lb out u
    · have h1 := h.old u e
      have h2 := (hc.pt.lt h0 u).2
      by_cases e2 : 0 ≤ lb out v
      · exact hc.con u v e (by have := h.old v e2; omega)
      · have := (h.new v (by omega) (by omega)).1
        omega
    · obtain ⟨h1, h2⟩ := h.new u (by omega) hu
      by_cases e2 : 0 ≤ lb out v
      · have h3 := h.old v e2
        have h4 := (hc.pt.lt h0 v).2
        omega
      · exact h2.symm.trans (h.new v (by omega) (by omega)).2
  · by_cases e : c < m
    · obtain ⟨u, hu⟩ := hc.cov c c0 e
      exact ⟨u, by rw [h.old u (by omega)]; exact hu⟩
    · exact ⟨i, by rw [h.st]; omega⟩

/-- The components of a graph, numbered. -/
structure Comp (N : Nat) (l : List Ed) (r : List Int) (many : Nat) : Prop where
  len : r.length = N
  all : ∀ u : Int, 0 ≤ u → u < N → 0 ≤ lb r u ∧ lb r u < many
  mN : many ≤ N
  iff : ∀ u v : Int, 0 ≤ u → u < N → 0 ≤ v → v < N → (lb r u = lb r v ↔ Conn l u v)
  cov : ∀ c : Int, 0 ≤ c → c < many → ∃ u : Int, 0 ≤ u ∧ u < N ∧ lb r u = c
theorem parts_comp (N : Nat) (hN : N ≤ 24) (l : List Ed) (hl : EdOk N l) (hll : l.length ≤ 64) : Gd (m_graph_parts N l (-1)) (fun r => ∃ many : Nat, Comp N l r many) := by
  unfold m_graph_parts
  refine Gd.nd ⟨rfl, by omega, by omega⟩ (Gd.nd (by omega) ?_)
  rw [repL_one]
  have hrep : ∀ u, lb (List.replicate N (-1)) u = -1 := fun u => by
    unfold lb
    split
    · by_cases e : u.toNat < N
      · rw [List.getElem?_eq_getElem (by simpa using e)]; simp
      · rw [List.getElem?_eq_none (by simpa using e)]; rfl
    · rfl
  refine Gd.forN (fun m i (s : List Int × Int) => i + m = N ∧ 0 ≤ s.2 ∧ s.2 ≤ (i : Int) ∧ Col N l s.2 s.1 ∧ ∀ j : Nat, j < i → 0 ≤ lb s.1 (j : Int)) ?_ ?_ (N : Int).toNat 0 (List.replicate N (-1), 0)
    ⟨by omega, by simp, by simp, ⟨⟨by simp, by simp⟩, fun u v _ h => by rw [hrep] at h; omega, fun u v h _ => by rw [hrep] at h; omega, fun c h1 h2 => by omega⟩, by simp⟩
  · rintro m i ⟨out, many⟩ nx ⟨hi, h0, hmi, hc, hk⟩ hn
    simp only at h0 hmi hc hk
    have hilt : i < out.length := by rw [hc.pt.len]; omega
    have hwm : IntKind.i64.wrap (many + 1) = many + 1 := wrap_id ⟨by omega, by omega⟩
    unfold m_graph_parts_b55
    refine Gd.idxN hilt (Gd.ite (fun h => ?_) (fun h => ?_))
    · have hge : 0 ≤ out[i] := by simpa using h
      unfold m_graph_parts_b69
      refine hn _ ⟨by omega, h0, by show many ≤ ((i + 1 : Nat) : Int); omega, hc, fun j hj => ?_⟩
      by_cases e : j = i
      · subst e; simp only; rw [lb_at hilt]; exact hge
      · exact hk j (by omega)
    · have hneg : out[i] < 0 := by simpa using h
      refine Gd.idxN hilt ?_
      rw [Int.toNat_natCast]
      have hnegl : lb out (i : Int) < 0 := by rw [lb_at hilt]; exact hneg
      have hset : ∀ u, lb (out.set i many) u = if u = (i : Int) then many else lb out u := fun u => by
        have := lb_set (o := out) (q := (i : Int)) (by omega) (by simpa using hilt) many u
        rwa [Int.toNat_natCast] at this
      have hp1 : PtOk N (many + 1) out := ⟨hc.pt.len, fun v hv => by have := hc.pt.rng v hv; omega⟩
      have hbase : 2 * negs (out.set i many) + [(i : Int)].length ≤ 2 * N + 1 := by
        have hcn : negs (out.set i many) ≤ N := by unfold negs; rw [← hc.pt.len, ← List.length_set (as := out) (i := i) (a := many)]; exact List.countP_le_length
        simp only [List.length_singleton]; omega
      have hf0 : Fill N l many (i : Int) out (out.set i many) := by
        refine ⟨hp1.set ⟨h0, by omega⟩ i, fun u hu => ?_, fun u hu hn2 => ?_, by rw [hset, if_pos rfl]⟩
        · rw [hset, if_neg (fun e => by subst e; omega)]
        · rw [hset] at hn2 ⊢
          by_cases e : u = (i : Int)
          · subst e; rw [if_pos rfl]; exact ⟨rfl, .refl⟩
          · rw [if_neg e] at hn2; omega
      refine Gd.loopF (fun (s : List Int × List Int) => Fill N l many (i : Int) out s.1 ∧ (∀ a ∈ s.2, lb s.1 a = many) ∧ (∀ u, lb s.1 u = many → u ∉ s.2 → ∀ v, Adj l u v → 0 ≤ lb s.1 v) ∧ 2 * negs s.1 + s.2.length ≤ 2 * N + 1)
        (fun s => 2 * negs s.1 + s.2.length) ?_ FUEL _ ⟨hf0, fun a ha => ?_, fun u hu hnu => ?_, hbase⟩ ?_
      · rintro ⟨o, todo⟩ nx2 ⟨hf, htd, hpr, htot⟩ hn2
        simp only at hf htd hpr htot
        have hol := hf.pt.len
        unfold m_graph_parts_b78
        refine Gd.ite (fun hne => ?_) (fun hze => ?_)
        · obtain ⟨at_, ts, rfl⟩ : ∃ a ts, todo = a :: ts := by
            cases todo with
            | nil => simp at hne
            | cons a ts => exact ⟨a, ts, rfl⟩
          simp only [List.length_cons] at htot
          refine Gd.ix (y := at_) (by decide) rfl (Gd.nd ⟨by omega, by simp only [List.length_cons]; omega⟩ ?_)
          have hat := htd at_ (List.mem_cons_self ..)
          obtain ⟨at0, atN⟩ := lb_in (by omega : 0 ≤ lb o at_)
          have hsl : slc (at_ :: ts) (1 : Int).toNat (at_ :: ts).length = ts := by
            unfold slc
            rw [show (1 : Int).toNat = 1 from rfl, List.drop_succ_cons, List.drop_zero, List.take_of_length_le (by simp)]
          rw [hsl]
          -- what a round over the edges keeps
          let J : List Ed → List Int × List Int → Prop := fun pre s => Fill N l many (i : Int) out s.1 ∧ (∀ a ∈ s.2, lb s.1 a = many) ∧ lb s.1 at_ = many ∧ (∀ u, lb s.1 u = many → u ∉ s.2 → u ≠ at_ → ∀ v, Adj l u v → 0 ≤ lb s.1 v) ∧
            (∀ e ∈ pre, (e.a0 = at_ → 0 ≤ lb s.1 e.a1) ∧ (e.a1 = at_ → 0 ≤ lb s.1 e.a0)) ∧ 2 * negs s.1 + s.2.length ≤ 2 * negs o + ts.length
          have push : ∀ (pre : List Ed) (e : Ed) (b td : List Int) (q : Int) (nn : List Int × List Int → Option (List Int)), e ∈ l → J pre (b, td) → Adj l at_ q → 0 ≤ q → q < N → ((e.a0 = at_ ∧ e.a1 = q) ∨ (e.a1 = at_ ∧ e.a0 = q)) →
              (∀ s', J (pre ++ [e]) s' → Gd (nn s') (fun r => ∃ many : Nat, Comp N l r many)) →
              Gd (Sim.idx b q fun y7689 => if decide (y7689 < 0) then (Sim.idx b q fun y7694 => need ((td.length + ([q]).length) * 8 ≤ 140737488355328) (m_graph_parts_b82 nn (b.set (q : Int).toNat many) (td ++ ([q])))) else (m_graph_parts_b82 nn b td)) (fun r => ∃ many : Nat, Comp N l r many) := by
            intro pre e b td q nn hel ⟨j1, j2, j3, j4, j5, j6⟩ hadj q0 qN hends hnn
            simp only at j1 j2 j3 j4 j5 j6
            have hbl := j1.pt.len
            have hql : q.toNat < b.length := by omega
            have hget : b[q.toNat]? = some b[q.toNat] := List.getElem?_eq_getElem hql
            have hlq : lb b q = b[q.toNat] := lb_ati q0 hql
            have hno : negs o ≤ N := by unfold negs; rw [← hol]; exact List.countP_le_length
            unfold m_graph_parts_b82
            refine Gd.ix q0 hget (Gd.ite (fun h => Gd.ix q0 hget (Gd.nd ?_ (hnn _ ?_))) (fun h => hnn _ ⟨j1, j2, j3, j4, fun d hd => ?_, j6⟩))
            · simp; omega
            · have h1 : b[q.toNat] < 0 := by simpa using h
              have hlt : lb b q < 0 := by omega
              have up : ∀ {u : Int}, 0 ≤ lb b u → 0 ≤ lb (b.set q.toNat many) u := fun {u} hu => Fill.mono hbl h0 q0 qN hu
              have hqs : lb (b.set q.toNat many) q = many := by rw [lb_set q0 hql, if_pos rfl]
              have same : ∀ {u : Int}, lb b u = many → lb (b.set q.toNat many) u = many := fun {u} hu => by
                rw [lb_set q0 hql]; split
                · rfl
                · exact hu
              refine ⟨j1.put hc h0 j3 hadj q0 qN hlt, fun a ha => ?_, same j3, fun u hu hnu hua v hv => ?_, fun d hd => ?_, ?_⟩
              · rcases List.mem_append.1 ha with ha | ha
                · exact same (j2 a ha)
                · simp at ha; subst ha; exact hqs
              · simp only at hu hnu
                by_cases e2 : u = q
                · subst e2
                  exact absurd (List.mem_append_right _ (List.mem_singleton_self _)) hnu
                · rw [lb_set q0 hql, if_neg e2] at hu
                  exact up (j4 u hu (fun hm => hnu (List.mem_append_left _ hm)) hua v hv)
              · rcases List.mem_append.1 hd with hd | hd
                · obtain ⟨x1, x2⟩ := j5 d hd
                  exact ⟨fun hh => up (x1 hh), fun hh => up (x2 hh)⟩
                · simp at hd; subst hd
                  have hat2 : 0 ≤ lb (b.set q.toNat many) at_ := up (by omega)
                  have hq2 : 0 ≤ lb (b.set q.toNat many) q := by omega
                  rcases hends with ⟨x1, x2⟩ | ⟨x1, x2⟩
                  · exact ⟨fun _ => by rw [x2]; exact hq2, fun _ => by rw [x1]; exact hat2⟩
                  · exact ⟨fun _ => by rw [x1]; exact hat2, fun _ => by rw [x2]; exact hq2⟩
              · have := negs_set hql h1 h0
                simp only [List.length_append, List.length_singleton]
                omega
            · have h1 : 0 ≤ b[q.toNat] := by simpa using h
              rcases List.mem_append.1 hd with hd | hd
              · exact j5 d hd
              · simp at hd; subst hd
                rcases hends with ⟨x1, x2⟩ | ⟨x1, x2⟩
                · exact ⟨fun _ => by rw [x2]; simp only; omega, fun _ => by rw [x1]; simp only; omega⟩
                · exact ⟨fun _ => by rw [x1]; simp only; omega, fun _ => by rw [x2]; simp only; omega⟩
          refine Gd.seen J ?_ ?_ _ ⟨hf, fun a ha => htd a (List.mem_cons_of_mem _ ha), hat, fun u hu hnu hua v hv => hpr u hu (fun hm => (List.mem_cons.1 hm).elim hua hnu) v hv, by simp, Nat.le_refl (2 * negs o + ts.length)⟩
          · rintro k e ⟨b, td⟩ nn pre hpre hJ hnn
            obtain ⟨_, hel, _⟩ := pre_lt hpre
            obtain ⟨e1, e2, e3, e4⟩ := hl e hel
            have hw1 : IntKind.i64.wrap (e.a0 + e.a1) = e.a0 + e.a1 := wrap_id ⟨by omega, by omega⟩
            have hw2 : IntKind.i64.wrap (e.a0 + e.a1 - at_) = e.a0 + e.a1 - at_ := wrap_id ⟨by omega, by omega⟩
            unfold m_graph_parts_b81
            rw [hw1, hw2]
            refine Gd.ite (fun h => by simp at h) (fun _ => Gd.ite (fun h => ?_) (fun h => Gd.ite (fun h2 => ?_) (fun h2 => ?_)))
            · have h : e.a0 = at_ := by simpa using h
              have hq : e.a0 + e.a1 - at_ = e.a1 := by omega
              rw [hq]
              exact push pre e b td _ nn hel hJ ⟨e, hel, .inl ⟨h, rfl⟩⟩ e3 e4 (.inl ⟨h, rfl⟩) hnn
            · have h1 : e.a0 ≠ at_ := by simpa using h
              have h2 : e.a1 ≠ at_ := by simpa using h2
              obtain ⟨j1, j2, j3, j4, j5, j6⟩ := hJ
              refine hnn _ ⟨j1, j2, j3, j4, fun d hd => ?_, j6⟩
              rcases List.mem_append.1 hd with hd | hd
              · exact j5 d hd
              · simp at hd; subst hd
                exact ⟨fun hh => absurd hh h1, fun hh => absurd hh h2⟩
            · have h2 : e.a1 = at_ := by simpa using h2
              have hq : e.a0 + e.a1 - at_ = e.a0 := by omega
              rw [hq]
              exact push pre e b td _ nn hel hJ ⟨e, hel, .inr ⟨h2, rfl⟩⟩ e1 e2 (.inr ⟨h2, rfl⟩) hnn
          · rintro ⟨b, td⟩ ⟨j1, j2, j3, j4, j5, j6⟩
            simp only at j1 j2 j3 j4 j5 j6
            refine hn2 _ ⟨j1, j2, fun u hu hnu v hv => ?_, by show 2 * negs b + td.length ≤ 2 * N + 1; omega⟩ (by simp only [List.length_cons]; omega)
            by_cases e : u = at_
            · subst e
              obtain ⟨d, hd, hh | hh⟩ := hv
              · have := (j5 d hd).1 hh.1
                rw [hh.2] at this; exact this
              · have := (j5 d hd).2 hh.1
                rw [hh.2] at this; exact this
            · exact j4 u hu hnu e v hv
        · have htn : todo = [] := by
            cases todo with
            | nil => rfl
            | cons a ts => simp at hze
          subst htn
          unfold m_graph_parts_b69
          rw [hwm]
          refine hn _ ⟨by omega, by show (0 : Int) ≤ many + 1; omega, by show many + 1 ≤ ((i + 1 : Nat) : Int); omega, hf.done hc h0 (fun u hu v hv => hpr u hu (by simp) v hv), fun j hj => ?_⟩
          by_cases e : j = i
          · subst e; show 0 ≤ lb o (j : Int); rw [hf.st]; exact h0
          · have h1 := hk j (by omega)
            show 0 ≤ lb o (j : Int)
            rw [hf.old _ h1]; exact h1
      · simp only [List.mem_singleton] at ha
        subst ha
        exact hf0.st
      · exfalso
        rw [hset] at hu
        by_cases e : u = (i : Int)
        · subst e; simp at hnu
        · rw [if_neg e] at hu
          have := (hc.pt.lt h0 u).2
          omega
      · refine Nat.lt_of_le_of_lt hbase ?_
        unfold FUEL; omega
  · rintro i ⟨out, many⟩ ⟨hi, h0, hmi, hc, hk⟩
    simp only at h0 hmi hc hk
    have hge : ∀ u : Int, 0 ≤ u → u < N → 0 ≤ lb out u := fun u u0 uN => by
      have := hk u.toNat (by omega)
      rwa [show ((u.toNat : Nat) : Int) = u by omega] at this
    refine Gd.ret ⟨many.toNat, hc.pt.len, fun u u0 uN => ⟨hge u u0 uN, by have h1 := hge u u0 uN; have h2 := (hc.pt.lt h0 u).2; show lb out u < ((many.toNat : Nat) : Int); omega⟩, by omega, fun u v u0 uN v0 vN => ⟨fun e => hc.con u v (hge u u0 uN) e, fun e => ?_⟩, fun c c0 c1 => ?_⟩
    · clear vN v0
      induction e with
      | refl => rfl
      | snoc _ h ih =>
        rename_i p q _
        have ih : lb out u = lb out p := ih
        have hp : 0 ≤ lb out p := by have := hge u u0 uN; omega
        show lb out u = lb out q
        rw [ih]
        exact (hc.cls p q h hp).symm
    · obtain ⟨u, hu⟩ := hc.cov c c0 (by omega)
      obtain ⟨a, b⟩ := lb_in (by omega : 0 ≤ lb out u)
      exact ⟨u, a, by have := hc.pt.len; omega, hu⟩
end Go.Sim
