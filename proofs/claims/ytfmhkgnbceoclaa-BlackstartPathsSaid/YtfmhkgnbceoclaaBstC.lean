/-
  Networks, in plain Lean: what a valid network is, both ways; a network without a branch is valid.
-/
import Derived.Test.YtfmhkgnbceoclaaBstQ
import Derived.Test.YtfmhkgnbceoclaaSimY
namespace Go.Sim
open Go
set_option linter.unusedVariables false
set_option linter.unusedSimpArgs false
set_option linter.unusedSectionVars false
set_option linter.unnecessarySimpa false

abbrev BA := ByteArray
abbrev Seen := List (ByteArray × Bool)
theorem mget_put (l : List (ByteArray × Bool)) (k k' : ByteArray) : (mget (mput l k true) k').getD false = ((mget l k').getD false || decide (k = k')) := by
  have key : ∀ (l : List (ByteArray × Bool)) (i : Nat) , (∀ p, mfi l k' i = some p → mfi (l ++ [(k, true)]) k' i = some p) ∧ (mfi l k' i = none → mfi (l ++ [(k, true)]) k' i = if k = k' then some (i + l.length, true) else none) := by
    intro l
    induction l with
    | nil => intro i; refine ⟨fun p h => by simp [mfi] at h, fun _ => ?_⟩; simp [mfi]
    | cons q l ih =>
      obtain ⟨a, b⟩ := q
      intro i
      simp only [List.cons_append, mfi]
      by_cases h : a = k'
      · simp [h]
      · simp only [h, if_false]
        refine ⟨(ih (i + 1)).1, fun hn => ?_⟩
        rw [(ih (i + 1)).2 hn]
        simp; split
        · simp; omega
        · rfl
  have set_ne : ∀ (l : List (ByteArray × Bool)) (i j : Nat) (v : Bool), mfi l k i = some (j, v) → mget (l.set (j - i) (k, true)) k' = if k = k' then some true else mget l k' := by
    intro l
    unfold mget
    have : ∀ (l : List (ByteArray × Bool)) (i j : Nat) (v : Bool) (q : Nat), mfi l k i = some (j, v) → ((mfi (l.set (j - i) (k, true)) k' q).map (·.2)) = if k = k' then some true else (mfi l k' q).map (·.2) := by
      intro l
      induction l with
      | nil => intro i j v q h; simp [mfi] at h
      | cons p l ih =>
        obtain ⟨a, b⟩ := p
        intro i j v q h
        simp only [mfi] at h
        split at h
        · rename_i e
          simp only [Option.some.injEq, Prod.mk.injEq] at h
          obtain ⟨rfl, rfl⟩ := h
          subst e
          rw [Nat.sub_self, List.set_cons_zero]
          simp only [mfi]
          by_cases e : a = k' <;> simp [e]
        · rename_i e
          obtain ⟨h1, h2, _⟩ := mfi_lt h
          rw [show j - i = (j - (i + 1)) + 1 by omega, List.set_cons_succ]
          simp only [mfi]
          have := ih (i + 1) j v (q + 1) h
          by_cases e2 : a = k'
          · subst e2
            have hk : k ≠ a := fun x => e x.symm
            simp [hk]
          · simp only [e2, if_false]; exact this
    intro i j v h
    exact this l i j v 0 h
  unfold mput
  cases h : mfi l k 0 with
  | none =>
    simp only
    unfold mget
    cases h2 : mfi l k' 0 with
    | none =>
      rw [(key l 0).2 h2]
      by_cases e : k = k' <;> simp [e]
    | some p =>
      rw [(key l 0).1 p h2]
      by_cases e : k = k'
      · subst e; rw [h] at h2; cases h2
      · simp [e]
  | some p =>
    obtain ⟨j, v⟩ := p
    simp only
    have := set_ne l 0 j v h
    rw [Nat.sub_zero] at this
    rw [this]
    by_cases e : k = k' <;> simp [e]

/-- The names that were seen. -/
def SeenOk (P : List BA) (s : Seen) : Prop := ∀ k : BA, (mget s k).getD false = true ↔ k ∈ P
theorem SeenOk.nil : SeenOk [] ([] : Seen) := fun k => by simp [mget, mfi]
theorem SeenOk.put {P : List BA} {s : Seen} (h : SeenOk P s) (k : BA) : SeenOk (P ++ [k]) (mput s k true) := fun k' => by
  rw [mget_put, Bool.or_eq_true, h k', List.mem_append, List.mem_singleton, decide_eq_true_eq]
  exact or_congr Iff.rfl ⟨fun e => e.symm, fun e => e.symm⟩

/-- What a device must be. -/
structure DvOk (ns P : List BA) (name : BA) (nodes : List BA) : Prop where
  nm : m_netmodel_Name name = some true
  nw : name ∉ P
  at_ : ∀ x ∈ nodes, x ∈ ns
  two : ∀ a b, nodes = [a, b] → a ≠ b
theorem dev_sound {c : S_netmodel_checker} {P : List BA} (hs : SeenOk P c.seen) {name : BA} (nodes : List BA) (h : name.size ≤ maxLen) :
    Gd (m_netmodel_checker_device c name nodes) (fun r => r.1 = 0 → DvOk c.nodes P name nodes ∧ SeenOk (P ++ [name]) r.2.seen) := by
  unfold m_netmodel_checker_device
  obtain ⟨b, hb, _⟩ := nname_gd name h
  refine Gd.bind_eq hb (Gd.ite (fun _ => Gd.ret (fun h => by simp at h)) (fun hbt => Gd.ite (fun _ => Gd.ret (fun h => by simp at h)) (fun hsn => ?_)))
  have hbt : b = true := by simpa using hbt
  subst hbt
  have hnw : name ∉ P := fun hm => by rw [(hs name).2 hm] at hsn; cases hsn
  refine Gd.forAll (fun x => x ∈ c.nodes) (fun _ => True) ?_ ?_ () trivial
  · intro i y s n hy _ hn
    unfold m_netmodel_checker_device_b1
    refine Gd.bnd (ncontains_gd c.nodes y) (fun b hb => Gd.ite (fun _ => Gd.ret (fun h => by simp at h)) (fun h => hn (hb.1 (by simpa using h)) _ trivial))
  · intro hall s _
    refine Gd.ite (fun h => ?_) (fun h2 => Gd.ret (fun _ => ⟨⟨hb, hnw, hall, fun a b e => ?_⟩, hs.put name⟩))
    · have h2 : nodes.length = 2 := by
        have : ((nodes.length : Nat) : Int) = 2 := by simpa using h
        omega
      obtain ⟨a, b, rfl⟩ : ∃ a b, nodes = [a, b] := by
        match nodes, h2 with
        | [a, b], _ => exact ⟨a, b, rfl⟩
      refine Gd.ix (y := a) (by decide) rfl (Gd.ix (y := b) (by decide) rfl (Gd.ite (fun _ => Gd.ret (fun h => by simp at h)) (fun hne => Gd.ret (fun _ => ⟨⟨hb, hnw, hall, fun p q e => ?_⟩, hs.put name⟩))))
      have hne : a ≠ b := by simpa using hne
      simp at e
      rw [← e.1, ← e.2]; exact hne
    · subst e
      simp at h2
theorem dev_comp {c : S_netmodel_checker} {P : List BA} (hs : SeenOk P c.seen) {name : BA} {nodes : List BA} (h : DvOk c.nodes P name nodes) :
    m_netmodel_checker_device c name nodes = some (0, ⟨mput c.seen name true, c.nodes⟩) := by
  rw [← Gd.eq]
  unfold m_netmodel_checker_device
  refine Gd.bind_eq h.nm (Gd.ite (fun h => by simp at h) (fun _ => Gd.ite (fun hsn => absurd ((hs name).1 hsn) h.nw) (fun _ => ?_)))
  refine Gd.forAll (fun _ => True) (fun _ => True) ?_ ?_ () trivial
  · intro i y s n hy _ hn
    unfold m_netmodel_checker_device_b1
    refine Gd.bnd (ncontains_gd c.nodes y) (fun b hb => Gd.ite (fun hn2 => ?_) (fun _ => hn trivial _ trivial))
    have := hb.2 (h.at_ y hy)
    simp [this] at hn2
  · intro _ s _
    refine Gd.ite (fun h2 => ?_) (fun _ => Gd.ret rfl)
    have h2 : nodes.length = 2 := by
      have : ((nodes.length : Nat) : Int) = 2 := by simpa using h2
      omega
    obtain ⟨a, b, rfl⟩ : ∃ a b, nodes = [a, b] := by
      match nodes, h2 with
      | [a, b], _ => exact ⟨a, b, rfl⟩
    have hne := h.two a b rfl
    exact Gd.ix (y := a) (by decide) rfl (Gd.ix (y := b) (by decide) rfl (Gd.ite (fun e => absurd (by simpa using e) hne) (fun _ => Gd.ret rfl)))

def names (n : Net) : List BA := n.Nodes ++ n.Switches.map (·.Name) ++ n.Branches.map (·.Name) ++ n.Gens.map (·.Name) ++ n.Loads.map (·.Name) ++ n.Stores.map (·.Name)
/-- A loop over devices, forwards. -/
theorem loop_comp {R α : Type} {Q : R → Prop} {body : Nat → α → Seen → (Seen → Option R) → Option R} {k : Seen → Option R} {l : List α} (nm : α → BA) (P : List BA)
    (hb : ∀ (i : Nat) (y : α) (s : Seen) (n : Seen → Option R) (pre : List α), (∃ post, l = pre ++ y :: post) → SeenOk (P ++ pre.map nm) s → Gd (n (mput s (nm y) true)) Q → Gd (body i y s n) Q) (hk : ∀ s, SeenOk (P ++ l.map nm) s → Gd (k s) Q) (s : Seen) (hs : SeenOk P s) : Gd (forI body k 0 l s) Q := by
  refine Gd.seen (fun pre s => SeenOk (P ++ pre.map nm) s) ?_ hk s (by simpa using hs)
  intro i y s n pre hpre hs hn
  refine hb i y s n pre hpre hs (hn _ ?_)
  have := hs.put (nm y)
  rw [List.map_append, ← List.append_assoc]; exact this
/-- A loop over devices, backwards: what held of each. -/
theorem loop_sound {R α : Type} {Q : R → Prop} {body : Nat → α → Seen → (Seen → Option R) → Option R} {k : Seen → Option R} {l : List α} (nm : α → BA) (P : List BA) (C : α → Prop)
    (hb : ∀ (i : Nat) (y : α) (s : Seen) (n : Seen → Option R) (pre : List α), y ∈ l → SeenOk (P ++ pre.map nm) s → (nm y ∉ P ++ pre.map nm → C y → ∀ s', SeenOk (P ++ pre.map nm ++ [nm y]) s' → Gd (n s') Q) → Gd (body i y s n) Q)
    (hk : ∀ s, SeenOk (P ++ l.map nm) s → (∀ x ∈ l, C x) → (P.Nodup → (P ++ l.map nm).Nodup) → Gd (k s) Q) (s : Seen) (hs : SeenOk P s) : Gd (forI body k 0 l s) Q := by
  refine Gd.seen (fun pre s => SeenOk (P ++ pre.map nm) s ∧ (∀ x ∈ pre, C x) ∧ (P.Nodup → (P ++ pre.map nm).Nodup)) ?_ (fun s h => hk s h.1 h.2.1 h.2.2) s ⟨by simpa using hs, by simp, fun h => by simpa using h⟩
  rintro i y s n pre hpre ⟨h1, h2, h3⟩ hn
  refine hb i y s n pre (pre_lt hpre).2.1 h1 (fun hnew hC s' hs' => hn s' ⟨by rw [List.map_append, ← List.append_assoc]; exact hs', fun x hx => ?_, fun hP => ?_⟩)
  · rcases List.mem_append.1 hx with hx | hx
    · exact h2 x hx
    · simp at hx; subst hx; exact hC
  · rw [List.map_append, ← List.append_assoc, List.nodup_append]
    refine ⟨h3 hP, by simp, fun a ha b hb => ?_⟩
    simp at hb; subst hb
    intro e; subst e; exact hnew ha

def genOk (g : S_api_Gen) : Bool := !(((!(m_netmodel_permitted g.Least)) || (m_netmodel_out g.Most g.Least 100000)) || (!(m_netmodel_permitted g.Ramp)))
def stoOk (s : S_api_Store) : Bool := !(((!(m_netmodel_permitted s.Charge)) || (!(m_netmodel_permitted s.Discharge))) || (!(m_netmodel_permitted s.Capacity)))
/-- A valid network. -/
structure NetV (n : Net) : Prop where
  l1 : n.Nodes.length ≤ 24
  l2 : n.Switches.length ≤ 32
  l3 : n.Branches.length ≤ 24
  l4 : n.Gens.length ≤ 10
  l5 : n.Loads.length ≤ 12
  l6 : n.Stores.length ≤ 4
  nd : (names n).Nodup
  vn : ∀ x ∈ n.Nodes, m_netmodel_Name x = some true
  vs : ∀ x ∈ n.Switches, m_netmodel_Name x.Name = some true ∧ x.A ∈ n.Nodes ∧ x.B_ ∈ n.Nodes ∧ x.A ≠ x.B_
  vb : ∀ x ∈ n.Branches, m_netmodel_Name x.Name = some true ∧ x.From ∈ n.Nodes ∧ x.To ∈ n.Nodes ∧ x.From ≠ x.To ∧ m_netmodel_Branch x = 0
  vg : ∀ x ∈ n.Gens, m_netmodel_Name x.Name = some true ∧ x.Node ∈ n.Nodes ∧ genOk x = true
  vl : ∀ x ∈ n.Loads, m_netmodel_Name x.Name = some true ∧ x.Node ∈ n.Nodes ∧ m_netmodel_permitted x.Demand = true
  vt : ∀ x ∈ n.Stores, m_netmodel_Name x.Name = some true ∧ x.Node ∈ n.Nodes ∧ stoOk x = true

theorem check_sound (n : Net) (hz : NetSz n) : Gd (m_netmodel_Check n) (fun e => e = 0 → NetV n) := by
  unfold m_netmodel_Check
  refine Gd.ite (fun _ => Gd.ret (fun h => by simp at h)) (fun hl => ?_)
  simp only [Bool.or_eq_false_iff, decide_eq_false_iff_not, Int.not_lt] at hl
  refine loop_sound (id : BA → BA) [] (fun x => m_netmodel_Name x = some true) ?_ ?_ _ SeenOk.nil
  · intro i y s nx pre hy hs hn
    unfold m_netmodel_Check_b1
    exact Gd.bnd (dev_sound (c := ⟨s, n.Nodes⟩) hs [] (hz.nd y hy)) (fun r hr => Gd.ite (fun h => Gd.ret (fun h2 => absurd h2 (by simpa using h))) (fun h => by
      obtain ⟨h1, h2⟩ := hr (by simpa using h)
      exact hn h1.nw h1.nm _ h2))
  intro s hs hvn hnd1
  simp only [List.map_id, List.nil_append] at hs hnd1
  refine loop_sound (fun x : S_api_Switch => x.Name) _ (fun x => m_netmodel_Name x.Name = some true ∧ x.A ∈ n.Nodes ∧ x.B_ ∈ n.Nodes ∧ x.A ≠ x.B_) ?_ ?_ _ hs
  · intro i y s nx pre hy hs hn
    unfold m_netmodel_Check_b2
    exact Gd.bnd (dev_sound (c := ⟨s, n.Nodes⟩) hs [y.A, y.B_] (hz.sw y hy)) (fun r hr => Gd.ite (fun h => Gd.ret (fun h2 => absurd h2 (by simpa using h))) (fun h => by
      obtain ⟨h1, h2⟩ := hr (by simpa using h)
      exact hn h1.nw ⟨h1.nm, h1.at_ _ (by simp), h1.at_ _ (by simp), h1.two _ _ rfl⟩ _ h2))
  intro s hs hvs hnd2
  refine loop_sound (fun x : S_api_Branch => x.Name) _ (fun x => m_netmodel_Name x.Name = some true ∧ x.From ∈ n.Nodes ∧ x.To ∈ n.Nodes ∧ x.From ≠ x.To ∧ m_netmodel_Branch x = 0) ?_ ?_ _ hs
  · intro i y s nx pre hy hs hn
    unfold m_netmodel_Check_b3
    exact Gd.bnd (dev_sound (c := ⟨s, n.Nodes⟩) hs [y.From, y.To] (hz.br y hy)) (fun r hr => Gd.ite (fun h => Gd.ret (fun h2 => absurd h2 (by simpa using h))) (fun h => Gd.ite (fun h3 => Gd.ret (fun h2 => absurd h2 (by simpa using h3))) (fun h3 => by
      obtain ⟨h1, h2⟩ := hr (by simpa using h)
      exact hn h1.nw ⟨h1.nm, h1.at_ _ (by simp), h1.at_ _ (by simp), h1.two _ _ rfl, by simpa using h3⟩ _ h2)))
  intro s hs hvb hnd3
  refine Gd.bnd (P := fun r => r.1 = 0 → (∀ x ∈ n.Gens, m_netmodel_Name x.Name = some true ∧ x.Node ∈ n.Nodes ∧ genOk x = true) ∧ (∀ x ∈ n.Loads, m_netmodel_Name x.Name = some true ∧ x.Node ∈ n.Nodes ∧ m_netmodel_permitted x.Demand = true) ∧
    (∀ x ∈ n.Stores, m_netmodel_Name x.Name = some true ∧ x.Node ∈ n.Nodes ∧ stoOk x = true) ∧ (names n).Nodup) ?_ (fun r hr => Gd.ret (fun h => by
      obtain ⟨a, b, c, d⟩ := hr h
      exact ⟨by omega, by omega, by omega, by omega, by omega, by omega, d, hvn, hvs, hvb, a, b, c⟩))
  unfold m_netmodel_checker_ends
  refine loop_sound (fun x : S_api_Gen => x.Name) _ (fun x => m_netmodel_Name x.Name = some true ∧ x.Node ∈ n.Nodes ∧ genOk x = true) ?_ ?_ _ hs
  · intro i y s nx pre hy hs hn
    unfold m_netmodel_checker_ends_b1
    exact Gd.bnd (dev_sound (c := ⟨s, n.Nodes⟩) hs [y.Node] (hz.gn y hy)) (fun r hr => Gd.ite (fun h => Gd.ret (fun h2 => absurd h2 (by simpa using h))) (fun h => Gd.ite (fun _ => Gd.ret (fun h2 => by simp at h2)) (fun h3 => by
      obtain ⟨h1, h2⟩ := hr (by simpa using h)
      exact hn h1.nw ⟨h1.nm, h1.at_ _ (by simp), by unfold genOk; rw [h3]; rfl⟩ _ h2)))
  intro s hs hvg hnd4
  refine loop_sound (fun x : S_api_Load => x.Name) _ (fun x => m_netmodel_Name x.Name = some true ∧ x.Node ∈ n.Nodes ∧ m_netmodel_permitted x.Demand = true) ?_ ?_ _ hs
  · intro i y s nx pre hy hs hn
    unfold m_netmodel_checker_ends_b2
    exact Gd.bnd (dev_sound (c := ⟨s, n.Nodes⟩) hs [y.Node] (hz.ld y hy)) (fun r hr => Gd.ite (fun h => Gd.ret (fun h2 => absurd h2 (by simpa using h))) (fun h => Gd.ite (fun _ => Gd.ret (fun h2 => by simp at h2)) (fun h3 => by
      obtain ⟨h1, h2⟩ := hr (by simpa using h)
      exact hn h1.nw ⟨h1.nm, h1.at_ _ (by simp), by simpa using h3⟩ _ h2)))
  intro s hs hvl hnd5
  refine loop_sound (fun x : S_api_Store => x.Name) _ (fun x => m_netmodel_Name x.Name = some true ∧ x.Node ∈ n.Nodes ∧ stoOk x = true) ?_ ?_ _ hs
  · intro i y s nx pre hy hs hn
    unfold m_netmodel_checker_ends_b3
    exact Gd.bnd (dev_sound (c := ⟨s, n.Nodes⟩) hs [y.Node] (hz.st y hy)) (fun r hr => Gd.ite (fun h => Gd.ret (fun h2 => absurd h2 (by simpa using h))) (fun h => Gd.ite (fun _ => Gd.ret (fun h2 => by simp at h2)) (fun h3 => by
      obtain ⟨h1, h2⟩ := hr (by simpa using h)
      exact hn h1.nw ⟨h1.nm, h1.at_ _ (by simp), by unfold stoOk; rw [h3]; rfl⟩ _ h2)))
  intro s hs hvt hnd6
  exact Gd.ret fun _ => ⟨hvg, hvl, hvt, hnd6 (hnd5 (hnd4 (hnd3 (hnd2 (hnd1 List.nodup_nil)))))⟩

theorem nodup_mid {A B C : List BA} {x : BA} (h : (A ++ (B ++ x :: C)).Nodup) : x ∉ A ++ B := by
  rw [← List.append_assoc, List.nodup_append] at h
  exact fun hm => h.2.2 x hm x (List.mem_cons_self ..) rfl
theorem fresh {P : List BA} {α : Type} {nm : α → BA} {l pre : List α} {y : α} (h : (P ++ l.map nm).Nodup) (hp : ∃ post, l = pre ++ y :: post) : nm y ∉ P ++ pre.map nm := by
  obtain ⟨post, rfl⟩ := hp
  rw [List.map_append, List.map_cons] at h
  exact nodup_mid h
theorem check_comp (n : Net) (h : NetV n) : m_netmodel_Check n = some 0 := by
  have hnd := h.nd
  unfold names at hnd
  have n5 := (List.nodup_append.1 hnd).1
  have n4 := (List.nodup_append.1 n5).1
  have n3 := (List.nodup_append.1 n4).1
  have n2 := (List.nodup_append.1 n3).1
  have n1 := (List.nodup_append.1 n2).1
  have g1 := h.l1; have g2 := h.l2; have g3 := h.l3; have g4 := h.l4; have g5 := h.l5; have g6 := h.l6
  rw [← Gd.eq]
  unfold m_netmodel_Check
  refine Gd.ite (fun hl => ?_) (fun _ => ?_)
  · simp only [Bool.or_eq_true, decide_eq_true_eq] at hl
    omega
  refine loop_comp (id : BA → BA) [] ?_ ?_ _ SeenOk.nil
  · intro i y s nx pre hpre hs hn
    have hy := (pre_lt hpre).2.1
    have hf := fresh (P := []) (nm := id) (by simpa using n1) hpre
    unfold m_netmodel_Check_b1
    exact Gd.bind_eq (dev_comp (c := ⟨s, n.Nodes⟩) hs ⟨h.vn y hy, hf, by simp, by simp⟩) (Gd.ite (fun h => by simp at h) (fun _ => hn))
  intro s hs
  simp only [List.map_id, List.nil_append] at hs
  refine loop_comp (fun x : S_api_Switch => x.Name) _ ?_ ?_ _ hs
  · intro i y s nx pre hpre hs hn
    obtain ⟨a, b, c, d⟩ := h.vs y (pre_lt hpre).2.1
    unfold m_netmodel_Check_b2
    exact Gd.bind_eq (dev_comp (c := ⟨s, n.Nodes⟩) hs ⟨a, fresh n2 hpre, by simp [b, c], fun p q e => by simp at e; rw [← e.1, ← e.2]; exact d⟩) (Gd.ite (fun h => by simp at h) (fun _ => hn))
  intro s hs
  refine loop_comp (fun x : S_api_Branch => x.Name) _ ?_ ?_ _ hs
  · intro i y s nx pre hpre hs hn
    obtain ⟨a, b, c, d, e⟩ := h.vb y (pre_lt hpre).2.1
    unfold m_netmodel_Check_b3
    exact Gd.bind_eq (dev_comp (c := ⟨s, n.Nodes⟩) hs ⟨a, fresh n3 hpre, by simp [b, c], fun p q e => by simp at e; rw [← e.1, ← e.2]; exact d⟩) (Gd.ite (fun h => by simp at h) (fun _ => Gd.ite (fun h => by simp [e] at h) (fun _ => hn)))
  intro s hs
  refine Gd.bnd (P := fun r => r.1 = 0) ?_ (fun r hr => Gd.ret hr)
  unfold m_netmodel_checker_ends
  refine loop_comp (fun x : S_api_Gen => x.Name) _ ?_ ?_ _ hs
  · intro i y s nx pre hpre hs hn
    obtain ⟨a, b, c⟩ := h.vg y (pre_lt hpre).2.1
    unfold genOk at c
    unfold m_netmodel_checker_ends_b1
    exact Gd.bind_eq (dev_comp (c := ⟨s, n.Nodes⟩) hs ⟨a, fresh n4 hpre, by simp [b], by simp⟩) (Gd.ite (fun h => by simp at h) (fun _ => Gd.ite (fun h => by rw [h] at c; cases c) (fun _ => hn)))
  intro s hs
  refine loop_comp (fun x : S_api_Load => x.Name) _ ?_ ?_ _ hs
  · intro i y s nx pre hpre hs hn
    obtain ⟨a, b, c⟩ := h.vl y (pre_lt hpre).2.1
    unfold m_netmodel_checker_ends_b2
    exact Gd.bind_eq (dev_comp (c := ⟨s, n.Nodes⟩) hs ⟨a, fresh n5 hpre, by simp [b], by simp⟩) (Gd.ite (fun h => by simp at h) (fun _ => Gd.ite (fun h => by simp [c] at h) (fun _ => hn)))
  intro s hs
  refine loop_comp (fun x : S_api_Store => x.Name) _ ?_ ?_ _ hs
  · intro i y s nx pre hpre hs hn
    obtain ⟨a, b, c⟩ := h.vt y (pre_lt hpre).2.1
    unfold stoOk at c
    unfold m_netmodel_checker_ends_b3
    exact Gd.bind_eq (dev_comp (c := ⟨s, n.Nodes⟩) hs ⟨a, fresh hnd hpre, by simp [b], by simp⟩) (Gd.ite (fun h => by simp at h) (fun _ => Gd.ite (fun h => by rw [h] at c; cases c) (fun _ => hn)))
  intro s hs
  exact Gd.ret rfl

/-- Without a branch. -/
def cutB (n : Net) (q : Nat) : Net := { n with Branches := n.Branches.take q ++ n.Branches.drop (q + 1) }
theorem cut_sub {α : Type} (l : List α) (q : Nat) : (l.take q ++ l.drop (q + 1)).Sublist l := by
  have h1 : (l.drop (q + 1)).Sublist (l.drop q) := by rw [← List.drop_drop]; exact List.drop_sublist _ _
  have := (List.Sublist.refl (l.take q)).append h1
  rwa [List.take_append_drop] at this
theorem NetV.cut {n : Net} (h : NetV n) (q : Nat) : NetV (cutB n q) := by
  have hs := cut_sub n.Branches q
  have hnm : (names (cutB n q)).Sublist (names n) := by
    unfold names cutB
    exact ((((List.Sublist.refl _).append (hs.map _)).append (List.Sublist.refl _)).append (List.Sublist.refl _)).append (List.Sublist.refl _)
  exact ⟨h.l1, h.l2, Nat.le_trans hs.length_le h.l3, h.l4, h.l5, h.l6, hnm.nodup h.nd, h.vn, h.vs, fun x hx => h.vb x (hs.subset hx), h.vg, h.vl, h.vt⟩
theorem NetV.ok {n : Net} (h : NetV n) (hz : NetSz n) : NetOk n := by
  obtain ⟨e, he, hok⟩ := check_gd n hz
  rw [check_comp n h] at he
  exact hok (Option.some.inj he).symm
theorem NetSz.cut {n : Net} (h : NetSz n) (q : Nat) : NetSz (cutB n q) :=
  ⟨h.nd, h.sw, fun x hx => h.br x ((cut_sub n.Branches q).subset hx), h.gn, h.ld, h.st⟩
end Go.Sim
