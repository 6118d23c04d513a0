/-
  Networks, in plain Lean: what a network that was checked is like.
-/
import Derived.Test.YtfmhkgnbceoclaaModB
import Derived.Test.YtfmhkgnbceoclaaSimW
import Derived.KernelRfl
namespace Go.Sim
open Go
set_option linter.unusedVariables false
set_option linter.unusedSimpArgs false
set_option linter.unusedSectionVars false
set_option linter.unnecessarySimpa false

abbrev Net := S_api_Network

/-- A loop that looks at each element. -/
theorem Gd.forAll {R α σ : Type} {Q : R → Prop} {body : Nat → α → σ → (σ → Option R) → Option R} {k : σ → Option R} {l : List α} (P : α → Prop) (J : σ → Prop)
    (hb : ∀ i y s n, y ∈ l → J s → (P y → ∀ s', J s' → Gd (n s') Q) → Gd (body i y s n) Q) (hk : (∀ x ∈ l, P x) → ∀ s, J s → Gd (k s) Q) (s : σ) (hs : J s) : Gd (Sim.forI body k 0 l s) Q := by
  have key : ∀ (ys pre : List α) (i : Nat) (s : σ), l = pre ++ ys → (∀ x ∈ pre, P x) → J s → Gd (Sim.forI body k i ys s) Q := by
    intro ys
    induction ys with
    | nil => intro pre i s hl hp hs; exact hk (by rw [hl, List.append_nil]; exact hp) s hs
    | cons y ys ih =>
      intro pre i s hl hp hs
      refine hb i y s _ (by rw [hl]; exact List.mem_append_right _ (List.mem_cons_self ..)) hs (fun hP s' hs' => ?_)
      exact ih (pre ++ [y]) (i + 1) s' (by rw [hl]; simp) (fun x hx => by
        rcases List.mem_append.1 hx with hx | hx
        · exact hp x hx
        · simp at hx; subst hx; exact hP) hs'
  exact key l [] 0 s rfl (by simp) hs

theorem nname_gd (s : ByteArray) (h : s.size ≤ maxLen) : Gd (m_netmodel_Name s) (fun _ => True) := by
  unfold m_netmodel_Name
  refine Gd.nd h (Gd.forI (fun _ _ _ => True) (fun i y ys s n _ hn => ?_) (fun i s _ => Gd.ret trivial) _ _ _ trivial)
  unfold m_netmodel_Name_b1
  exact Gd.ite (fun _ => Gd.ret trivial) (fun _ => hn _ trivial)

theorem nindex_gd (l : List ByteArray) (p : ByteArray) : Gd (m_slices_Index_string_string l p) (fun r => (r = -1 ∧ p ∉ l) ∨ ∃ (k : Nat) (h : k < l.length), r = k ∧ l[k] = p) := by
  unfold m_slices_Index_string_string
  refine Gd.forN (fun m i _ => i + m = l.length ∧ p ∉ l.take i) ?_ ?_ (l.length : Int).toNat 0 () ⟨by omega, by simp⟩
  · intro m i _ nx ⟨hi, hno⟩ hnx
    unfold m_slices_Index_string_string_b1
    refine Gd.idxN (by omega) (Gd.ite (fun h => Gd.ret (.inr ⟨i, by omega, rfl, ?_⟩)) (fun h => hnx () ⟨by omega, ?_⟩))
    · have : p = l[i] := by simpa using h
      exact this.symm
    · rw [List.take_succ_eq_append_getElem (by omega), List.mem_append, List.mem_singleton]
      rintro (h' | h')
      · exact hno h'
      · simp [h'] at h
  · intro i _ ⟨hi, hno⟩
    rw [List.take_of_length_le (by omega)] at hno
    exact Gd.ret (.inl ⟨rfl, hno⟩)
theorem nindex_mem {l : List ByteArray} {p : ByteArray} (h : p ∈ l) : ∃ k : Nat, m_slices_Index_string_string l p = some (k : Int) ∧ ∃ hk : k < l.length, l[k] = p := by
  obtain ⟨r, hr, h2⟩ := nindex_gd l p
  rcases h2 with ⟨_, hno⟩ | ⟨k, hk, rfl, e⟩
  · exact absurd h hno
  · exact ⟨k, hr, hk, e⟩
theorem ncontains_gd (l : List ByteArray) (p : ByteArray) : Gd (m_slices_Contains_string_string l p) (fun b => b = true ↔ p ∈ l) := by
  unfold m_slices_Contains_string_string
  refine Gd.bnd (nindex_gd l p) (fun r hr => Gd.ret ?_)
  rcases hr with ⟨rfl, hno⟩ | ⟨k, hk, rfl, e⟩
  · simp [hno]
  · have : p ∈ l := e ▸ List.getElem_mem _
    simp [this]

theorem device_gd (c : S_netmodel_checker) (name : ByteArray) (nodes : List ByteArray) (h : name.size ≤ maxLen) :
    Gd (m_netmodel_checker_device c name nodes) (fun r => r.1 = 0 → ∀ x ∈ nodes, x ∈ c.nodes) := by
  unfold m_netmodel_checker_device
  refine Gd.bnd (nname_gd name h) (fun a _ => Gd.ite (fun _ => Gd.ret (fun h => by simp at h)) (fun _ => Gd.ite (fun _ => Gd.ret (fun h => by simp at h)) (fun _ => ?_)))
  refine Gd.forAll (fun x => x ∈ c.nodes) (fun _ => True) ?_ ?_ () trivial
  · intro i y s n hy _ hn
    unfold m_netmodel_checker_device_b1
    refine Gd.bnd (ncontains_gd c.nodes y) (fun b hb => Gd.ite (fun _ => Gd.ret (fun h => by simp at h)) (fun h => hn (hb.1 (by simpa using h)) _ trivial))
  · intro hall s _
    refine Gd.ite (fun h => ?_) (fun _ => Gd.ret (fun _ => hall))
    have h2 : nodes.length = 2 := by
      have : ((nodes.length : Nat) : Int) = 2 := by simpa using h
      omega
    have e1 : (0 : Int) = ((0 : Nat) : Int) := rfl
    have e2 : (1 : Int) = ((1 : Nat) : Int) := rfl
    rw [e1, e2]
    exact Gd.idxN (by omega) (Gd.idxN (by omega) (Gd.ite (fun _ => Gd.ret (fun h => by simp at h)) (fun _ => Gd.ret (fun _ => hall))))

/-- Texts are no longer than texts are. -/
structure NetSz (n : Net) : Prop where
  nd : ∀ x ∈ n.Nodes, x.size ≤ maxLen
  sw : ∀ x ∈ n.Switches, x.Name.size ≤ maxLen
  br : ∀ x ∈ n.Branches, x.Name.size ≤ maxLen
  gn : ∀ x ∈ n.Gens, x.Name.size ≤ maxLen
  ld : ∀ x ∈ n.Loads, x.Name.size ≤ maxLen
  st : ∀ x ∈ n.Stores, x.Name.size ≤ maxLen
structure NetOk (n : Net) : Prop where
  l1 : n.Nodes.length ≤ 24
  l2 : n.Switches.length ≤ 32
  l3 : n.Branches.length ≤ 24
  l4 : n.Gens.length ≤ 10
  l5 : n.Loads.length ≤ 12
  sw : ∀ x ∈ n.Switches, x.A ∈ n.Nodes ∧ x.B_ ∈ n.Nodes
  br : ∀ x ∈ n.Branches, x.From ∈ n.Nodes ∧ x.To ∈ n.Nodes
  gn : ∀ x ∈ n.Gens, x.Node ∈ n.Nodes ∧ 0 ≤ x.Least ∧ x.Least ≤ x.Most ∧ x.Most ≤ 100000
  ld : ∀ x ∈ n.Loads, x.Node ∈ n.Nodes ∧ 0 ≤ x.Demand ∧ x.Demand ≤ 100000

theorem ends_gd (c : S_netmodel_checker) (n : Net) (hz : NetSz n) :
    Gd (m_netmodel_checker_ends c n) (fun r => r.1 = 0 → (∀ x ∈ n.Gens, x.Node ∈ c.nodes ∧ 0 ≤ x.Least ∧ x.Least ≤ x.Most ∧ x.Most ≤ 100000) ∧ (∀ x ∈ n.Loads, x.Node ∈ c.nodes ∧ 0 ≤ x.Demand ∧ x.Demand ≤ 100000)) := by
  unfold m_netmodel_checker_ends
  refine Gd.forAll (fun x => x.Node ∈ c.nodes ∧ 0 ≤ x.Least ∧ x.Least ≤ x.Most ∧ x.Most ≤ 100000) (fun _ => True) ?_ ?_ _ trivial
  · intro i y s nx hy _ hn
    unfold m_netmodel_checker_ends_b1
    refine Gd.bnd (device_gd _ _ _ (hz.gn y hy)) (fun r hr => Gd.ite (fun h => Gd.ret (fun h2 => absurd h2 (by simpa using h))) (fun h => Gd.ite (fun _ => Gd.ret (fun h2 => by simp at h2)) (fun h2 => hn ?_ _ trivial)))
    have h0 : r.1 = 0 := by simpa using h
    have := hr h0 y.Node (by simp)
    simp [m_netmodel_permitted, m_netmodel_out] at h2
    exact ⟨this, by omega, by omega, by omega⟩
  · intro hg s _
    refine Gd.forAll (fun x => x.Node ∈ c.nodes ∧ 0 ≤ x.Demand ∧ x.Demand ≤ 100000) (fun _ => True) ?_ ?_ _ trivial
    · intro i y s nx hy _ hn
      unfold m_netmodel_checker_ends_b2
      refine Gd.bnd (device_gd _ _ _ (hz.ld y hy)) (fun r hr => Gd.ite (fun h => Gd.ret (fun h2 => absurd h2 (by simpa using h))) (fun h => Gd.ite (fun _ => Gd.ret (fun h2 => by simp at h2)) (fun h2 => hn ?_ _ trivial)))
      have h0 : r.1 = 0 := by simpa using h
      have := hr h0 y.Node (by simp)
      simp [m_netmodel_permitted, m_netmodel_out] at h2
      exact ⟨this, by omega, by omega⟩
    · intro hl s _
      refine Gd.forAll (fun _ => True) (fun _ => True) ?_ ?_ _ trivial
      · intro i y s nx hy _ hn
        unfold m_netmodel_checker_ends_b3
        refine Gd.bnd (device_gd _ _ _ (hz.st y hy)) (fun r hr => Gd.ite (fun h => Gd.ret (fun h2 => absurd h2 (by simpa using h))) (fun h => Gd.ite (fun _ => Gd.ret (fun h2 => by simp at h2)) (fun _ => hn trivial _ trivial)))
      · intro _ s _
        exact Gd.ret fun _ => ⟨hg, hl⟩

theorem check_gd (n : Net) (hz : NetSz n) : Gd (m_netmodel_Check n) (fun e => e = 0 → NetOk n) := by
  unfold m_netmodel_Check
  refine Gd.ite (fun _ => Gd.ret (fun h => by simp at h)) (fun hl => ?_)
  simp only [Bool.or_eq_false_iff, decide_eq_false_iff_not, Int.not_lt] at hl
  refine Gd.forAll (fun _ => True) (fun _ => True) ?_ ?_ _ trivial
  · intro i y s nx hy _ hn
    unfold m_netmodel_Check_b1
    exact Gd.bnd (device_gd _ _ _ (hz.nd y hy)) (fun r hr => Gd.ite (fun h => Gd.ret (fun h2 => absurd h2 (by simpa using h))) (fun h => hn trivial _ trivial))
  intro _ s _
  refine Gd.forAll (fun x => x.A ∈ n.Nodes ∧ x.B_ ∈ n.Nodes) (fun _ => True) ?_ ?_ _ trivial
  · intro i y s nx hy _ hn
    unfold m_netmodel_Check_b2
    refine Gd.bnd (device_gd _ _ _ (hz.sw y hy)) (fun r hr => Gd.ite (fun h => Gd.ret (fun h2 => absurd h2 (by simpa using h))) (fun h => hn ?_ _ trivial))
    have h0 : r.1 = 0 := by simpa using h
    exact ⟨hr h0 y.A (by simp), hr h0 y.B_ (by simp)⟩
  intro hsw s _
  refine Gd.forAll (fun x => x.From ∈ n.Nodes ∧ x.To ∈ n.Nodes) (fun _ => True) ?_ ?_ _ trivial
  · intro i y s nx hy _ hn
    unfold m_netmodel_Check_b3
    refine Gd.bnd (device_gd _ _ _ (hz.br y hy)) (fun r hr => Gd.ite (fun h => Gd.ret (fun h2 => absurd h2 (by simpa using h))) (fun h => Gd.ite (fun h => Gd.ret (fun h2 => absurd h2 (by simpa using h))) (fun _ => hn ?_ _ trivial)))
    have h0 : r.1 = 0 := by simpa using h
    exact ⟨hr h0 y.From (by simp), hr h0 y.To (by simp)⟩
  intro hbr s _
  refine Gd.bnd (ends_gd _ n hz) (fun r hr => Gd.ret (fun h => ?_))
  obtain ⟨hg, hl2⟩ := hr h
  exact ⟨by omega, by omega, by omega, by omega, by omega, hsw, hbr, hg, hl2⟩
end Go.Sim
