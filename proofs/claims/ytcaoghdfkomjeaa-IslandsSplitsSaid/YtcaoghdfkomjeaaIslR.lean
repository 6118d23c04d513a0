/-
  The balances of islands and the shares of generators, in plain Lean.
-/
import Derived.Test.YtcaoghdfkomjeaaIslQ
namespace Go.Sim
open Go
set_option linter.unusedVariables false
set_option linter.unusedSimpArgs false
set_option linter.unusedSectionVars false
set_option linter.unnecessarySimpa false

/-- What the elements at place k come to. -/
def acc {α : Type} (f : α → Int) (p : α → Nat) (k : Nat) : List α → Int
  | [] => 0
  | x :: xs => (if p x = k then f x else 0) + acc f p k xs
def tot {α : Type} (f : α → Int) : List α → Int
  | [] => 0
  | x :: xs => f x + tot f xs
theorem acc_nn {α : Type} {f : α → Int} {p : α → Nat} {k : Nat} : ∀ {l : List α}, (∀ x ∈ l, 0 ≤ f x) → 0 ≤ acc f p k l
  | [], _ => Int.le_refl _
  | x :: xs, h => by
    have h1 := h x (List.mem_cons_self ..)
    have h2 := acc_nn (f := f) (p := p) (k := k) (l := xs) fun y hy => h y (List.mem_cons_of_mem _ hy)
    unfold acc
    split <;> omega
theorem acc_le {α : Type} {f : α → Int} {p : α → Nat} {k : Nat} {B : Int} (hB : 0 ≤ B) : ∀ {l : List α}, (∀ x ∈ l, f x ≤ B) → acc f p k l ≤ B * l.length
  | [], _ => by simp [acc]
  | x :: xs, h => by
    have h1 := h x (List.mem_cons_self ..)
    have h2 := acc_le (f := f) (p := p) (k := k) (B := B) hB (l := xs) fun y hy => h y (List.mem_cons_of_mem _ hy)
    unfold acc
    rw [List.length_cons, Int.natCast_add, Int.mul_add]
    split <;> omega
theorem acc_mono {α : Type} {f g : α → Int} {p : α → Nat} {k : Nat} : ∀ {l : List α}, (∀ x ∈ l, f x ≤ g x) → acc f p k l ≤ acc g p k l
  | [], _ => Int.le_refl _
  | x :: xs, h => by
    have h1 := h x (List.mem_cons_self ..)
    have h2 := acc_mono (f := f) (g := g) (p := p) (k := k) (l := xs) fun y hy => h y (List.mem_cons_of_mem _ hy)
    unfold acc
    split <;> omega
theorem tot_app {α : Type} (f : α → Int) : ∀ (a b : List α), tot f (a ++ b) = tot f a + tot f b
  | [], b => by simp [tot]
  | x :: a, b => by simp only [List.cons_append, tot, tot_app f a b]; omega
theorem tot_set {α : Type} (f : α → Int) (v : α) : ∀ (l : List α) (k : Nat) (h : k < l.length), tot f (l.set k v) = tot f l - f l[k] + f v
  | x :: l, 0, _ => by simp [tot]; omega
  | x :: l, k + 1, h => by
    have := tot_set f v l k (by simpa using h)
    simp only [List.set_cons_succ, tot, this, List.getElem_cons_succ]
    omega
theorem tot_map : ∀ r : List S_api_IslandsSum, tot id (r.map S_api_IslandsSum.Demand) = tot S_api_IslandsSum.Demand r
  | [] => rfl
  | a :: r => by simp only [List.map_cons, tot, tot_map r, id]
theorem tot_nn {α : Type} {f : α → Int} : ∀ {l : List α}, (∀ x ∈ l, 0 ≤ f x) → 0 ≤ tot f l
  | [], _ => Int.le_refl _
  | x :: xs, h => by
    have h1 := h x (List.mem_cons_self ..)
    have h2 := tot_nn (f := f) (l := xs) fun y hy => h y (List.mem_cons_of_mem _ hy)
    simp only [tot]; omega
theorem tot_le {α : Type} {f : α → Int} {B : Int} : ∀ {l : List α}, (∀ x ∈ l, f x ≤ B) → tot f l ≤ B * l.length
  | [], _ => by simp [tot]
  | x :: xs, h => by
    have h1 := h x (List.mem_cons_self ..)
    have h2 := tot_le (f := f) (B := B) (l := xs) fun y hy => h y (List.mem_cons_of_mem _ hy)
    simp only [tot]
    rw [List.length_cons, Int.natCast_add, Int.mul_add]
    omega
theorem tot_one {α : Type} {f : α → Int} : ∀ {l : List α} {x : α}, (∀ x ∈ l, 0 ≤ f x) → x ∈ l → f x ≤ tot f l
  | y :: l, x, h, hx => by
    have h1 := h y (List.mem_cons_self ..)
    have h2 := tot_nn (f := f) (l := l) fun z hz => h z (List.mem_cons_of_mem _ hz)
    simp only [tot]
    rcases List.mem_cons.1 hx with rfl | hx
    · omega
    · have := tot_one (f := f) (l := l) (fun z hz => h z (List.mem_cons_of_mem _ hz)) hx
      omega


/-- A network whose topology is known, and the place of each node. -/
structure Plc (n : Net) (t : S_api_Topology) (N : Nat) (pl : ByteArray → Nat) : Prop where
  ok : NetOk n
  tt : m_topology_Get n = some t
  nn : m_islands_Number n = some (N : Int)
  n24 : N ≤ 24
  at_ : ∀ s ∈ n.Nodes, m_islands_place n t s = some (pl s : Int) ∧ pl s < N
theorem plc_ex (n : Net) (hn : NetOk n) : ∃ t N pl, Plc n t N pl := by
  obtain ⟨t, ht, hok⟩ := get_gd n hn
  obtain ⟨N, h1, h2, h3⟩ := number_gd n hn t ht hok
  refine ⟨t, N, fun s => ((m_islands_place n t s).getD 0).toNat, hn, ht, h1, h2, fun s hs => ?_⟩
  obtain ⟨k, hk, hkN⟩ := place_ex n hn t hok h3 hs
  rw [hk]; exact ⟨rfl, hkN⟩

theorem sums_gd {n : Net} {t : S_api_Topology} {N : Nat} {pl : ByteArray → Nat} (h : Plc n t N pl) :
    Gd (m_islands_sums n) (fun r => r.length = N ∧ tot S_api_IslandsSum.Demand r = tot S_api_Load.Demand n.Loads ∧ ∀ k (hk : k < r.length), 0 ≤ r[k].Demand ∧ r[k].Least ≤ r[k].Most ∧ r[k].Most = acc S_api_Gen.Most (fun g : S_api_Gen => pl g.Node) k n.Gens) := by
  have h24 := h.n24
  have h4 := h.ok.l4
  have h5 := h.ok.l5
  have gM : ∀ g ∈ n.Gens, 0 ≤ g.Most ∧ g.Most ≤ 100000 ∧ 0 ≤ g.Least ∧ g.Least ≤ g.Most := fun g hg => by have := h.ok.gn g hg; omega
  have gD : ∀ l ∈ n.Loads, 0 ≤ l.Demand ∧ l.Demand ≤ 100000 := fun l hl => by have := h.ok.ld l hl; omega
  unfold m_islands_sums
  refine Gd.bind_eq h.tt (Gd.bind_eq h.nn (Gd.nd ⟨by omega, by omega⟩ ?_))
  rw [Int.toNat_natCast]
  refine Gd.forI (fun i ys s => (∀ y ∈ ys, y ∈ n.Gens) ∧ s.length = N ∧ tot S_api_IslandsSum.Demand s = 0 ∧ ∀ k (hk : k < s.length), s[k].Demand = 0 ∧ 0 ≤ s[k].Least ∧ s[k].Least ≤ s[k].Most ∧ s[k].Most + acc S_api_Gen.Most (fun g : S_api_Gen => pl g.Node) k ys = acc S_api_Gen.Most (fun g : S_api_Gen => pl g.Node) k n.Gens) ?_ ?_ _ _ _ ⟨fun _ h => h, by simp, ?_, ?_⟩
  · rintro i y ys s nx ⟨hm, hl, ht0, hk⟩ hnx
    have hy := hm y (List.mem_cons_self ..)
    obtain ⟨hp, hpN⟩ := h.at_ y.Node (h.ok.gn y hy).1
    have hlt : pl y.Node < s.length := by omega
    obtain ⟨q1, q2, q3, q4⟩ := hk _ hlt
    have hyg := gM y hy
    have hb1 := acc_le (f := S_api_Gen.Most) (p := fun g : S_api_Gen => pl g.Node) (k := pl y.Node) (B := 100000) (by omega) (l := n.Gens) (fun g hg => (gM g hg).2.1)
    have hb2 := acc_nn (f := S_api_Gen.Most) (p := fun g : S_api_Gen => pl g.Node) (k := pl y.Node) (l := ys) (fun g hg => (gM g (hm g (List.mem_cons_of_mem _ hg))).1)
    have hacc : acc S_api_Gen.Most (fun g : S_api_Gen => pl g.Node) (pl y.Node) (y :: ys) = y.Most + acc S_api_Gen.Most (fun g : S_api_Gen => pl g.Node) (pl y.Node) ys := by
      simp only [acc, if_true]
    have q4 : s[pl y.Node].Most + acc S_api_Gen.Most (fun g : S_api_Gen => pl g.Node) (pl y.Node) (y :: ys) = acc S_api_Gen.Most (fun g : S_api_Gen => pl g.Node) (pl y.Node) n.Gens := q4
    rw [hacc] at q4
    have hw1 : IntKind.i64.wrap (s[pl y.Node].Least + y.Least) = s[pl y.Node].Least + y.Least := wrap_id ⟨by omega, by omega⟩
    have hw2 : IntKind.i64.wrap (s[pl y.Node].Most + y.Most) = s[pl y.Node].Most + y.Most := wrap_id ⟨by omega, by omega⟩
    unfold m_islands_sums_b1
    refine Gd.bind_eq hp (Gd.idxN hlt ?_)
    rw [hw1, hw2, Int.toNat_natCast, List.set_set]
    refine hnx _ ⟨fun z hz => hm z (List.mem_cons_of_mem _ hz), by simp [hl], ?_, ?_⟩
    · rw [tot_set _ _ _ _ hlt]; dsimp only; omega
    · intro k hkl
      rw [List.length_set] at hkl
      by_cases e : pl y.Node = k
      · subst e
        rw [List.getElem_set_self]
        exact ⟨q1, by simp only; omega, by simp only; omega, by simp only; omega⟩
      · rw [List.getElem_set_ne e]
        obtain ⟨r1, r2, r3, r4⟩ := hk k hkl
        refine ⟨r1, r2, r3, ?_⟩
        simp only [acc] at r4
        rw [if_neg e] at r4
        omega
  · rintro i s ⟨_, hl, ht0, hk⟩
    refine Gd.forI (fun i ys s => (∀ y ∈ ys, y ∈ n.Loads) ∧ s.length = N ∧ tot S_api_IslandsSum.Demand s + tot S_api_Load.Demand ys = tot S_api_Load.Demand n.Loads ∧ ∀ k (hk : k < s.length), 0 ≤ s[k].Demand ∧ s[k].Least ≤ s[k].Most ∧ s[k].Most = acc S_api_Gen.Most (fun g : S_api_Gen => pl g.Node) k n.Gens) ?_ ?_ _ _ _ ⟨fun _ h => h, hl, by omega, ?_⟩
    · rintro i y ys s nx ⟨hm, hl, ht0, hk⟩ hnx
      have hy := hm y (List.mem_cons_self ..)
      obtain ⟨hp, hpN⟩ := h.at_ y.Node (h.ok.ld y hy).1
      have hlt : pl y.Node < s.length := by omega
      obtain ⟨q1, q2, q3⟩ := hk _ hlt
      have hyd := gD y hy
      have hb1 := tot_le (f := S_api_Load.Demand) (B := 100000) (l := n.Loads) (fun g hg => (gD g hg).2)
      have hb2 := tot_nn (f := S_api_Load.Demand) (l := ys) (fun g hg => (gD g (hm g (List.mem_cons_of_mem _ hg))).1)
      have hb3 := tot_one (f := S_api_IslandsSum.Demand) (l := s) (x := s[pl y.Node]) (fun x hx => by
        obtain ⟨k, hk2, rfl⟩ := List.mem_iff_getElem.1 hx
        exact (hk k hk2).1) (List.getElem_mem _)
      have ht0 : tot S_api_IslandsSum.Demand s + (y.Demand + tot S_api_Load.Demand ys) = tot S_api_Load.Demand n.Loads := ht0
      have hw1 : IntKind.i64.wrap (s[pl y.Node].Demand + y.Demand) = s[pl y.Node].Demand + y.Demand := wrap_id ⟨by omega, by omega⟩
      unfold m_islands_sums_b2
      refine Gd.bind_eq hp (Gd.idxN hlt (Gd.idxN hlt ?_))
      rw [hw1, Int.toNat_natCast]
      refine hnx _ ⟨fun z hz => hm z (List.mem_cons_of_mem _ hz), by simp [hl], ?_, ?_⟩
      · rw [tot_set _ _ _ _ hlt]; dsimp only; omega
      · intro k hkl
        rw [List.length_set] at hkl
        by_cases e : pl y.Node = k
        · subst e
          rw [List.getElem_set_self]
          exact ⟨by simp only; omega, q2, q3⟩
        · rw [List.getElem_set_ne e]
          exact hk k hkl
    · rintro i s ⟨_, hl, ht0, hk⟩
      simp only [tot] at ht0
      exact Gd.ret ⟨hl, by omega, hk⟩
    · intro k hkl
      obtain ⟨r1, r2, r3, r4⟩ := hk k hkl
      simp only [acc] at r4
      exact ⟨by omega, r3, by omega⟩
  · clear h h24
    induction N with
    | zero => rfl
    | succ N ih => simp only [List.replicate_succ, tot]; rw [ih]; rfl
  · intro k hk
    have e : (List.replicate N ({ Least := 0, Most := 0, Demand := 0 } : S_api_IslandsSum))[k] = { Least := 0, Most := 0, Demand := 0 } := List.getElem_replicate _
    rw [e]
    exact ⟨rfl, Int.le_refl _, Int.le_refl _, Int.zero_add _⟩

theorem pos_gd (l : List Int) : Gd (m_slices_ContainsFunc_int_int__islands_Share_1 l) (fun b => b = true ↔ ∃ v ∈ l, 0 < v) := by
  unfold m_slices_ContainsFunc_int_int__islands_Share_1 m_slices_IndexFunc_int_int__islands_Share_1
  refine Gd.bnd (P := fun r => 0 ≤ r ↔ ∃ v ∈ l, 0 < v) ?_ (fun r hr => Gd.ret (by simpa using hr))
  refine Gd.forN (fun m i _ => i + m = l.length ∧ ∀ v ∈ l.take i, v ≤ 0) ?_ ?_ (l.length : Int).toNat 0 () ⟨by omega, by simp⟩
  · intro m i _ nx ⟨hi, hno⟩ hnx
    unfold m_slices_IndexFunc_int_int__islands_Share_1_b1 m_islands_Share_1
    refine Gd.idxN (by omega) (Gd.ite (fun h => Gd.ret ⟨fun _ => ⟨l[i], List.getElem_mem _, by simpa using h⟩, fun _ => by omega⟩) (fun h => hnx () ⟨by omega, ?_⟩))
    rw [List.take_succ_eq_append_getElem (by omega)]
    intro v hv
    rcases List.mem_append.1 hv with hv | hv
    · exact hno v hv
    · simp at hv; subst hv; simpa using h
  · intro i _ ⟨hi, hno⟩
    rw [List.take_of_length_le (by omega)] at hno
    exact Gd.ret ⟨fun h => by omega, fun ⟨v, hv, h⟩ => by have := hno v hv; omega⟩

/-- What shares are like, when the balances are r. -/
structure ShOk (n : Net) (r : List S_api_IslandsSum) (x : List Int × Int) : Prop where
  er : x.2 = 0 ∨ (x.2 = 14 ∧ x.1 = [])
  lack : (∃ k, ∃ hk : k < r.length, 0 < r[k].Demand - r[k].Most) → x.2 = 14
  len : x.2 = 0 → x.1.length = n.Gens.length
  each : x.2 = 0 → ∀ k (h1 : k < x.1.length) (h2 : k < n.Gens.length), 0 ≤ x.1[k] ∧ x.1[k] ≤ 100000 ∧ (x.1[k] = 0 ∨ n.Gens[k].Least ≤ x.1[k] ∧ x.1[k] ≤ n.Gens[k].Most)
  all : x.2 = 0 → tot id x.1 = tot S_api_Load.Demand n.Loads

theorem share_gd {n : Net} {t : S_api_Topology} {N : Nat} {pl : ByteArray → Nat} (h : Plc n t N pl) (hc : m_netmodel_Check n = some 0) {r : List S_api_IslandsSum} (hr : m_islands_sums n = some r) : Gd (m_islands_Share n) (ShOk n r) := by
  have h24 := h.n24
  have h4 := h.ok.l4
  have h5 := h.ok.l5
  have gM : ∀ g ∈ n.Gens, 0 ≤ g.Most ∧ g.Most ≤ 100000 ∧ 0 ≤ g.Least ∧ g.Least ≤ g.Most := fun g hg => by have := h.ok.gn g hg; omega
  have gD : ∀ l ∈ n.Loads, 0 ≤ l.Demand ∧ l.Demand ≤ 100000 := fun l hl => by have := h.ok.ld l hl; omega
  obtain ⟨r', hr', hlen, htot, hk⟩ := sums_gd h
  rw [hr] at hr'; cases hr'
  have hD := tot_le (f := S_api_Load.Demand) (B := 100000) (l := n.Loads) (fun g hg => (gD g hg).2)
  unfold m_islands_Share
  refine Gd.bind_eq hc (Gd.ite (fun h => by simp at h) (fun _ => Gd.bind_eq h.tt (Gd.bind_eq hr ?_)))
  refine Gd.forI (fun i ys s => i + ys.length = r.length ∧ ys = r.drop i ∧ s = (r.take i).map S_api_IslandsSum.Demand) ?_ ?_ _ _ _ ⟨by simp, by simp, by simp⟩
  · rintro i y ys s nx ⟨hi, hys, rfl⟩ hnx
    simp only [List.length_cons] at hi
    have hlt : i < r.length := by omega
    rw [List.drop_eq_getElem_cons hlt] at hys
    obtain ⟨rfl, rfl⟩ := List.cons.inj hys
    unfold m_islands_Share_b1
    refine Gd.nd (by simp; omega) (hnx _ ⟨by omega, rfl, ?_⟩)
    rw [List.take_succ_eq_append_getElem hlt, List.map_append]; rfl
  rintro i s ⟨hi, _, rfl⟩
  rw [List.take_of_length_le (by simp at hi; omega)]
  have ht1 : tot id (r.map S_api_IslandsSum.Demand) = tot S_api_IslandsSum.Demand r := by
    exact tot_map r
  refine Gd.forI (fun i ys (s : List Int × List Int) => i + ys.length = n.Gens.length ∧ ys = n.Gens.drop i ∧ s.1.length = N ∧ s.2.length = i ∧ tot id s.1 + tot id s.2 = tot S_api_Load.Demand n.Loads ∧ (∀ v ∈ s.1, 0 ≤ v) ∧
      (∀ (k : Nat) (h1 : k < s.2.length) (h2 : k < n.Gens.length), 0 ≤ s.2[k] ∧ s.2[k] ≤ 100000 ∧ (s.2[k] = 0 ∨ n.Gens[k].Least ≤ s.2[k] ∧ s.2[k] ≤ n.Gens[k].Most)) ∧
      (∀ (k : Nat) (h1 : k < s.1.length) (h2 : k < r.length), r[k].Demand + acc S_api_Gen.Most (fun g : S_api_Gen => pl g.Node) k ys ≤ s.1[k] + acc S_api_Gen.Most (fun g : S_api_Gen => pl g.Node) k n.Gens)) ?_ ?_ _ _ _
    ⟨by simp, by simp, by simp [hlen], by simp, by simp only [tot]; omega, ?_, by simp, ?_⟩
  · rintro i y ys ⟨rest, out⟩ nx ⟨hi, hys, hl1, hl2, ht, h0, he, ha⟩ hnx
    simp only [List.length_cons] at hi hl1 hl2 ht h0 he ha
    have hlt : i < n.Gens.length := by omega
    rw [List.drop_eq_getElem_cons hlt] at hys
    obtain ⟨hyy, rfl⟩ := List.cons.inj hys
    have hy : y ∈ n.Gens := hyy ▸ List.getElem_mem _
    obtain ⟨hp, hpN⟩ := h.at_ y.Node (h.ok.gn y hy).1
    have hlp : pl y.Node < rest.length := by omega
    have hg := gM y hy
    have hr0 := h0 rest[pl y.Node] (List.getElem_mem _)
    have hou : 0 ≤ tot id out := tot_nn fun v hv => by
      obtain ⟨k, hk2, rfl⟩ := List.mem_iff_getElem.1 hv
      exact (he k hk2 (by omega)).1
    have hr1 := tot_one (f := id) (l := rest) (x := rest[pl y.Node]) (fun v hv => h0 v hv) (List.getElem_mem _)
    simp only [id] at hr1
    have step : ∀ p : Int, 0 ≤ p → p ≤ rest[pl y.Node] → p ≤ y.Most → (p = 0 ∨ y.Least ≤ p ∧ p ≤ y.Most) →
        Gd (m_islands_Share_b5 rest out nx (pl y.Node : Int) rest[pl y.Node] p) (ShOk n r) := by
      intro p p0 pr pm pe
      have hw : IntKind.i64.wrap (rest[pl y.Node] - p) = rest[pl y.Node] - p := wrap_id ⟨by omega, by omega⟩
      unfold m_islands_Share_b5
      rw [hw, Int.toNat_natCast]
      refine Gd.nd (by simp; omega) (hnx _ ⟨by omega, rfl, by simp [hl1], by simp [hl2], ?_, ?_, ?_, ?_⟩)
      · rw [tot_set _ _ _ _ hlp, tot_app]
        simp only [tot, id]
        omega
      · intro v hv
        rcases List.mem_or_eq_of_mem_set hv with hv | rfl
        · exact h0 v hv
        · omega
      · intro k h1 h2
        by_cases e : k < out.length
        · rw [List.getElem_append_left e]; exact he k e h2
        · have e2 : k = i := by simp at h1; omega
          subst e2
          rw [List.getElem_append_right (by omega)]
          simp only [hl2, Nat.sub_self, List.getElem_cons_zero]
          rw [← hyy]
          exact ⟨p0, by omega, pe⟩
      · intro k h1 h2
        simp only [List.length_set] at h1
        have hak := ha k h1 h2
        simp only [acc] at hak
        by_cases e : pl y.Node = k
        · subst e
          rw [List.getElem_set_self]
          rw [if_pos rfl] at hak
          omega
        · rw [List.getElem_set_ne e]
          rw [if_neg e] at hak
          omega
    unfold m_islands_Share_b4
    refine Gd.bind_eq hp (Gd.idxN hlp (Gd.ite (fun hle => ?_) (fun _ => step 0 (by omega) (by omega) (by omega) (.inl rfl))))
    have hle : y.Least ≤ rest[pl y.Node] := by simpa using hle
    exact step (min y.Most rest[pl y.Node]) (by omega) (by omega) (by omega) (.inr ⟨by omega, by omega⟩)
  · rintro i ⟨rest, out⟩ ⟨hi, hys, hl1, hl2, ht, h0, he, ha⟩
    simp only [List.length_nil] at hi hl1 hl2 ht h0 he ha
    refine Gd.bnd (pos_gd rest) (fun b hb => Gd.ite (fun h => Gd.ret ⟨.inr ⟨rfl, rfl⟩, fun _ => rfl, fun h => by simp at h, fun h => by simp at h, fun h => by simp at h⟩) (fun h => ?_))
    have hno : ∀ v ∈ rest, v ≤ 0 := fun v hv => by
      by_cases e : 0 < v
      · have := hb.2 ⟨v, hv, e⟩
        rw [this] at h; cases h
      · omega
    have ht0 : tot id rest = 0 := by
      have h1 := tot_nn (f := id) (l := rest) h0
      have h2 := tot_le (f := id) (B := 0) (l := rest) hno
      omega
    refine Gd.ret ⟨.inl rfl, fun ⟨k, hk2, hlk⟩ => ?_, fun _ => by simp only; omega, fun _ => he, fun _ => by simp only; omega⟩
    have hkr : k < rest.length := by omega
    have h1 := ha k hkr hk2
    have h2 := hno rest[k] (List.getElem_mem _)
    have h3 := (hk k hk2).2.2
    simp only [acc] at h1
    omega
  · intro v hv
    obtain ⟨s, hs, rfl⟩ := List.mem_map.1 hv
    obtain ⟨k, hk2, rfl⟩ := List.mem_iff_getElem.1 hs
    exact (hk k hk2).1
  · intro k h1 h2
    simp only [List.getElem_map]
    omega
end Go.Sim
