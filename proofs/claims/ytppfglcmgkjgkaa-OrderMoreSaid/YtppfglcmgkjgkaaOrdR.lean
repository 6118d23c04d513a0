/-
  The walk over all states that can be reached.
-/
import Derived.Test.YtppfglcmgkjgkaaOrdQ
namespace Go.Sim
open Go
set_option linter.unusedVariables false
set_option linter.unusedSimpArgs false
set_option linter.unusedSectionVars false
set_option linter.unnecessarySimpa false

theorem contains_gd (l : List ByteArray) (v : ByteArray) : Gd (m_slices_Contains_string_string l v) (fun b => b = true ↔ v ∈ l) := by
  unfold m_slices_Contains_string_string m_slices_Index_string_string
  refine Gd.bnd (P := fun r => 0 ≤ r ↔ v ∈ l) ?_ (fun r hr => Gd.ret (by simpa using hr))
  refine Gd.forN (fun m i _ => i + m = l.length ∧ v ∉ l.take i) ?_ ?_ (l.length : Int).toNat 0 () ⟨by omega, by simp⟩
  · intro m i _ nx ⟨hi, hno⟩ hnx
    unfold m_slices_Index_string_string_b1
    refine Gd.idxN (by omega) (Gd.ite (fun h => Gd.ret ⟨fun _ => ?_, fun _ => by omega⟩) (fun h => hnx () ⟨by omega, ?_⟩))
    · rw [show v = l[i] by simpa using h]; exact List.getElem_mem _
    · rw [List.take_succ_eq_append_getElem (by omega), List.mem_append, List.mem_singleton]
      rintro (h' | h')
      · exact hno h'
      · simp [h'] at h
  · intro i _ ⟨hi, hno⟩
    rw [List.take_of_length_le (by omega)] at hno
    exact Gd.ret ⟨fun h => by omega, fun h => absurd h hno⟩

theorem count_set (l : List Int) (k : Nat) (v w : Int) (h : l[k]? = some v) (hw : w ≠ v) : (l.set k w).count v + 1 = l.count v := by
  induction l generalizing k with
  | nil => simp at h
  | cons x l ih =>
    cases k with
    | zero =>
      simp at h; subst h
      rw [List.set_cons_zero, List.count_cons_self, List.count_cons_of_ne hw]
    | succ k =>
      rw [List.set_cons_succ, List.count_cons, List.count_cons]
      have := ih k (by simpa using h)
      omega

section
variable (rules : List Rule) (names : List ByteArray) (held : List ByteArray)
/-- A step that is allowed. -/
def Edge (c i : Nat) : Prop := ∃ nm, names[i]? = some nm ∧ nm ∉ held ∧ ∀ r ∈ rules, allows (stOf names c) (!c.testBit i) nm r
theorem Edge.lt {c i : Nat} (h : Edge rules names held c i) : i < names.length := by obtain ⟨nm, h, _⟩ := h; exact lt_of h

def Vis (b : List Int) (c : Nat) : Prop := ∃ v, b[c]? = some v ∧ v ≠ -2
structure WI (c0 : Nat) (b : List Int) (lev : Nat → Nat) : Prop where
  len : b.length = 256
  st : b[c0]? = some (-1)
  ch : ∀ (c : Nat) (v : Int), b[c]? = some v → v ≠ -2 → c < 2 ^ names.length ∧ ((c = c0 ∧ v = -1 ∧ lev c = 0) ∨ ∃ i : Nat, v = (i : Int) ∧ i < names.length ∧ Vis b (c ^^^ 2 ^ i) ∧ Edge rules names held (c ^^^ 2 ^ i) i ∧ lev c = lev (c ^^^ 2 ^ i) + 1)
def Cl (b : List Int) (lev : Nat → Nat) (v i : Nat) : Prop := Edge rules names held v i → Vis b (v ^^^ 2 ^ i) ∧ lev (v ^^^ 2 ^ i) ≤ lev v + 1
structure Q1 (b : List Int) (lev : Nat → Nat) (q : List Nat) : Prop where
  vis : ∀ c ∈ q, Vis b c
  srt : q.Pairwise fun x y => lev x ≤ lev y
  bd : ∀ v, Vis b v → ∀ c ∈ q, lev v ≤ lev c + 1
  cl : ∀ v, Vis b v → v ∉ q → ∀ i, Cl rules names held b lev v i
structure Q2 (b : List Int) (lev : Nat → Nat) (c i : Nat) (q : List Nat) : Prop where
  vc : Vis b c
  vis : ∀ x ∈ q, Vis b x
  srt : q.Pairwise fun x y => lev x ≤ lev y
  lo : ∀ x ∈ q, lev c ≤ lev x
  bd : ∀ v, Vis b v → lev v ≤ lev c + 1
  cl : ∀ v, Vis b v → v ∉ q → v ≠ c → ∀ i, Cl rules names held b lev v i
  me : ∀ j, j < i → Cl rules names held b lev c j
/-- What the walk answers. -/
structure WalkOk (c0 : Nat) (b : List Int) : Prop where
  ex : ∃ lev : Nat → Nat, WI rules names held c0 b lev ∧ ∀ v, Vis b v → ∀ i, Cl rules names held b lev v i
variable {rules names held}

theorem Q1.pop {b : List Int} {lev : Nat → Nat} {c : Nat} {q : List Nat} (h : Q1 rules names held b lev (c :: q)) : Q2 rules names held b lev c 0 q := by
  have hs := List.pairwise_cons.1 h.srt
  refine ⟨h.vis c (List.mem_cons_self ..), fun x hx => h.vis x (List.mem_cons_of_mem _ hx), hs.2, hs.1, fun v hv => h.bd v hv c (List.mem_cons_self ..), fun v hv hq hc => h.cl v hv (by simp [hq, hc]), fun j hj => by omega⟩
theorem Q2.done {b : List Int} {lev : Nat → Nat} {c i : Nat} {q : List Nat} (h : Q2 rules names held b lev c i q) (hi : names.length ≤ i) : Q1 rules names held b lev q := by
  refine ⟨h.vis, h.srt, fun v hv x hx => ?_, fun v hv hq j => ?_⟩
  · have := h.bd v hv; have := h.lo x hx; omega
  · by_cases e : v = c
    · subst e
      intro he
      exact h.me j (Nat.lt_of_lt_of_le he.lt hi) he
    · exact h.cl v hv hq e j
theorem Q2.skip {b : List Int} {lev : Nat → Nat} {c i : Nat} {q : List Nat} (h : Q2 rules names held b lev c i q) (hi : Cl rules names held b lev c i) : Q2 rules names held b lev c (i + 1) q :=
  ⟨h.vc, h.vis, h.srt, h.lo, h.bd, h.cl, fun j hj => by
    by_cases e : j = i
    · subst e; exact hi
    · exact h.me j (by omega)⟩
theorem vis_set {b : List Int} {x : Nat} {w : Int} (hx : b[x]? = some (-2)) (hw : w ≠ -2) (c : Nat) : Vis (b.set x w) c ↔ Vis b c ∨ c = x := by
  have hlt := lt_of hx
  unfold Vis
  constructor
  · rintro ⟨v, hv, hne⟩
    rw [List.getElem?_set] at hv
    split at hv
    · rename_i e; exact .inr e.symm
    · exact .inl ⟨v, hv, hne⟩
  · rintro (⟨v, hv, hne⟩ | rfl)
    · refine ⟨v, ?_, hne⟩
      rw [List.getElem?_set, if_neg]
      · exact hv
      · rintro rfl; rw [hx] at hv; cases hv; exact hne rfl
    · exact ⟨w, by simp [List.getElem?_set, hlt], hw⟩
theorem not_vis {b : List Int} {x : Nat} (hx : b[x]? = some (-2)) : ¬ Vis b x := by
  rintro ⟨v, hv, hne⟩; rw [hx] at hv; cases hv; exact hne rfl
theorem Q2.push {c0 : Nat} {b : List Int} {lev : Nat → Nat} {c i : Nat} {q : List Nat} (hW : WI rules names held c0 b lev) (h : Q2 rules names held b lev c i q) (hn : names.length ≤ 8) (hc : c < 2 ^ names.length)
    (he : Edge rules names held c i) (hx : b[c ^^^ 2 ^ i]? = some (-2)) :
    ∃ lev', WI rules names held c0 (b.set (c ^^^ 2 ^ i) (i : Int)) lev' ∧ Q2 rules names held (b.set (c ^^^ 2 ^ i) (i : Int)) lev' c (i + 1) (q ++ [c ^^^ 2 ^ i]) := by
  have hw : (i : Int) ≠ -2 := by omega
  have hvs := vis_set hx hw
  have hnv := not_vis hx
  have hil := he.lt
  generalize hxe : c ^^^ 2 ^ i = x at *
  have hxl : x < 2 ^ names.length := by rw [← hxe]; exact xor_lt hc hil
  have hback : x ^^^ 2 ^ i = c := by rw [← hxe, xor_xor]
  have hcx : c ≠ x := fun e => hnv (e ▸ h.vc)
  let lev' : Nat → Nat := fun y => if y = x then lev c + 1 else lev y
  have lx : lev' x = lev c + 1 := by simp [lev']
  have lo : ∀ y, y ≠ x → lev' y = lev y := fun y hy => by simp [lev', hy]
  have lv : ∀ y, Vis b y → lev' y = lev y := fun y hy => lo y (fun e => hnv (e ▸ hy))
  have hclv : ∀ v j, Vis b v → Cl rules names held b lev v j → Cl rules names held (b.set x (i : Int)) lev' v j := by
    intro v j hv hcl he
    obtain ⟨h1, h2⟩ := hcl he
    exact ⟨(hvs _).2 (.inl h1), by rw [lv _ h1, lv _ hv]; exact h2⟩
  refine ⟨lev', ⟨by simp [hW.len], ?_, ?_⟩, ⟨(hvs c).2 (.inl h.vc), ?_, ?_, ?_, ?_, ?_, ?_⟩⟩
  · rw [List.getElem?_set, if_neg]
    · exact hW.st
    · rintro rfl; exact hnv ⟨_, hW.st, by decide⟩
  · intro d v hd hv
    rw [List.getElem?_set] at hd
    split at hd
    · rename_i e
      subst e
      split at hd
      · cases hd
        refine ⟨hxl, .inr ⟨i, rfl, hil, ?_, ?_, ?_⟩⟩
        · rw [hback]; exact (hvs c).2 (.inl h.vc)
        · rw [hback]; exact he
        · rw [hback, lx, lo c hcx]
      · cases hd
    · rename_i e
      obtain ⟨h1, h2⟩ := hW.ch d v hd hv
      refine ⟨h1, ?_⟩
      rcases h2 with ⟨h2, h3, h4⟩ | ⟨j, h2, h3, h4, h5, h6⟩
      · exact .inl ⟨h2, h3, by rw [lo d (fun e' => e e'.symm)]; exact h4⟩
      · exact .inr ⟨j, h2, h3, (hvs _).2 (.inl h4), h5, by rw [lo d (fun e' => e e'.symm), lv _ h4]; exact h6⟩
  · intro y hy
    rw [List.mem_append, List.mem_singleton] at hy
    exact (hvs y).2 (hy.elim (fun h' => .inl (h.vis y h')) .inr)
  · rw [List.pairwise_append]
    refine ⟨h.srt.imp_of_mem (fun {a b} ha hb hab => by rw [lv _ (h.vis a ha), lv _ (h.vis b hb)]; exact hab), by simp, ?_⟩
    intro a ha d hd
    rw [List.mem_singleton] at hd; subst hd
    rw [lv _ (h.vis a ha), lx]; exact h.bd a (h.vis a ha)
  · intro y hy
    rw [lv _ h.vc]
    rw [List.mem_append, List.mem_singleton] at hy
    rcases hy with hy | rfl
    · rw [lv _ (h.vis y hy)]; exact h.lo y hy
    · rw [lx]; omega
  · intro v hv
    rw [lv _ h.vc]
    rcases (hvs v).1 hv with hv | rfl
    · rw [lv _ hv]; exact h.bd v hv
    · rw [lx]; exact Nat.le_refl _
  · intro v hv hq hvc j
    rw [List.mem_append, List.mem_singleton, not_or] at hq
    have hv' := ((hvs v).1 hv).resolve_right hq.2
    exact hclv v j hv' (h.cl v hv' hq.1 hvc j)
  · intro j hj
    by_cases e : j = i
    · subst e
      intro _
      rw [hxe, lx, lv _ h.vc]
      exact ⟨(hvs x).2 (.inr rfl), Nat.le_refl _⟩
    · exact hclv c j h.vc (h.me j (by omega))

theorem walk_gd (hR : RulesOk rules) (hz : ∀ r ∈ rules, RuleSz r) (hN : NamesOk names) {c0 : Nat} (h0 : c0 < 2 ^ names.length) : Gd (m_order_walk rules (stOf names c0) held) (WalkOk rules names held c0) := by
  have h8 := hN.len
  have hp8 := pow8 h8
  unfold m_order_walk
  refine Gd.forN (fun m i (s : List Int) => i + m = 256 ∧ s.length = 256 ∧ ∀ j, j < i → s[j]? = some (-2)) ?_ ?_ (256 : Int).toNat 0 _ ⟨by decide, List.length_replicate, fun j hj => by omega⟩
  · rintro m i s nx ⟨hi, hl, hs⟩ hnx
    unfold m_order_walk_b1
    refine Gd.idxN (by omega) (hnx _ ⟨by omega, by simp [hl], fun j hj => ?_⟩)
    rw [show ((i : Int)).toNat = i by omega, List.getElem?_set]
    split
    · rw [if_pos (by omega)]
    · exact hs j (by omega)
  · rintro i s ⟨hi, hl, hs⟩
    have hs : ∀ j, j < 256 → s[j]? = some (-2) := fun j hj => hs j (by omega)
    refine Gd.bind_eq (code_stOf h0 h8) ?_
    refine Gd.idxN (by omega) ?_
    rw [show ((c0 : Int)).toNat = c0 by omega]
    have hx := hs c0 (by omega)
    have hvs := vis_set hx (show (-1 : Int) ≠ -2 by decide)
    have hnov : ∀ y, ¬ Vis s y := by
      rintro y ⟨v, hv, hne⟩
      have := hs y (by have := lt_of hv; omega)
      rw [hv] at this; cases this; exact hne rfl
    have hvis : ∀ y, Vis (s.set c0 (-1)) y ↔ y = c0 := fun y => by rw [hvs]; exact ⟨fun h => h.resolve_left (hnov y), .inr⟩
    have hst : (s.set c0 (-1))[c0]? = some (-1) := by rw [List.getElem?_set, if_pos rfl, if_pos (by omega)]
    refine Gd.loopF (fun t => ∃ q lev, t.1 = q.map (stOf names) ∧ WI rules names held c0 t.2 lev ∧ Q1 rules names held t.2 lev q ∧ t.1.length + t.2.count (-2) ≤ 257) (fun t => t.1.length + t.2.count (-2)) ?_ FUEL _ ⟨[c0], fun _ => 0, rfl, ⟨by simp [hl], hst, ?_⟩, ⟨?_, by simp, ?_, ?_⟩, ?_⟩ ?_
    · rintro ⟨qs, b⟩ nx ⟨q, lev, hq, hW, hQ, hbig⟩ hnx
      simp only at hq hW hQ hbig
      subst hq
      show Gd (m_order_walk_b10 rules held (q.map (stOf names)) b nx) _
      unfold m_order_walk_b10
      cases q with
      | nil =>
        refine Gd.ite (fun h => by simp at h) (fun _ => Gd.ret ⟨lev, hW, fun v hv i => hQ.cl v hv (by simp) i⟩)
      | cons c q =>
        refine Gd.ite (fun _ => ?_) (fun h => by simp at h)
        refine Gd.ix (by omega) (y := stOf names c) (by simp) (Gd.nd (by simp; omega) ?_)
        have hcl : c < 2 ^ names.length := by
          obtain ⟨v, hv, hne⟩ := hQ.vis c (List.mem_cons_self ..)
          exact (hW.ch c v hv hne).1
        have hslc : slc ((c :: q).map (stOf names)) (1 : Int).toNat ((c :: q).map (stOf names)).length = q.map (stOf names) := by
          simp [slc]
          rw [List.take_of_length_le (by simp)]
        rw [hslc]
        refine Gd.forI (fun i ys t => ys = (stOf names c).drop i ∧ ∃ q' lev, t.1 = q'.map (stOf names) ∧ WI rules names held c0 t.2 lev ∧ Q2 rules names held t.2 lev c i q' ∧ t.1.length + t.2.count (-2) = q.length + b.count (-2)) ?_ ?_ (stOf names c) 0 _ ⟨by simp, q, lev, rfl, hW, hQ.pop, by simp⟩
        · rintro i y ys ⟨qs, b'⟩ nx2 ⟨hys, q', lev', hq', hW', hQ', hm⟩ hnx2
          simp only at hq' hW' hQ' hm
          subst hq'
          obtain ⟨hy, hys'⟩ := drop_cons hys
          rw [stOf_get] at hy
          obtain ⟨nm, hnm, rfl⟩ := Option.map_eq_some_iff.1 hy
          have hil := lt_of hnm
          have hxl := xor_lt hcl hil
          have hskip : Cl rules names held b' lev' c i → Gd (nx2 (q'.map (stOf names), b')) (WalkOk rules names held c0) := fun h => hnx2 _ ⟨hys', q', lev', rfl, hW', hQ'.skip h, hm⟩
          show Gd (m_order_walk_b13 rules held (stOf names c) i ⟨nm, c.testBit i⟩ (q'.map (stOf names)) b' nx2) _
          unfold m_order_walk_b13 m_order_walk_b14
          refine Gd.bnd (contains_gd held nm) (fun r hr => Gd.ite (fun h => hskip ?_) (fun h => ?_))
          · rintro ⟨nm', h1, h2, _⟩
            rw [hnm] at h1; cases h1
            exact absurd (hr.1 h) h2
          have hnh : nm ∉ held := fun h' => by have := hr.2 h'; rw [this] at h; cases h
          refine Gd.bind_eq (code_stOf hcl h8) (Gd.nd (by omega) ?_)
          have hxor := (bits_all (show c < 256 by omega) (show i < 8 by omega)).2.1
          unfold xorV at hxor
          rw [hxor]
          have hb' := hW'.len
          obtain ⟨w, hw⟩ := get_of (l := b') (i := c ^^^ 2 ^ i) (by omega)
          refine Gd.ix (by omega) (by simpa using hw) (Gd.ite (fun h => hskip ?_) (fun h => ?_))
          · have hne : w ≠ -2 := by simpa using h
            intro _
            exact ⟨⟨w, hw, hne⟩, hQ'.bd _ ⟨w, hw, hne⟩⟩
          have hw2 : w = -2 := by simpa using h
          subst hw2
          have hmem : ∃ x ∈ stOf names c, x.Name = nm := ⟨⟨nm, c.testBit i⟩, List.mem_of_getElem? (i := i) (by rw [stOf_get, hnm]; rfl), rfl⟩
          refine Gd.bnd (permitted_gd hR hz (hN.sws c) (hN.ssz c) (!c.testBit i) hmem) (fun p hp => Gd.ite (fun h => ?_) (fun h => hskip ?_))
          · have he : Edge rules names held c i := ⟨nm, hnm, hnh, hp.2.1 h⟩
            have hset := set_gd hN hcl hnm (!c.testBit i)
            rw [if_neg (by cases c.testBit i <;> simp)] at hset
            refine Gd.bind_eq hset (Gd.bind_eq (code_stOf hxl h8) ?_)
            refine Gd.ix (by omega) (by simpa using hw) ?_
            have hcount := count_set b' (c ^^^ 2 ^ i) (-2) (i : Int) hw (by omega)
            have hcle : b'.count (-2) ≤ 256 := by rw [← hb']; exact List.count_le_length
            have hbl : b.count (-2) ≤ 256 := by rw [← hW.len]; exact List.count_le_length
            refine Gd.nd ?_ ?_
            · simp only [List.length_map, List.length_cons, List.length_nil] at hm hbig ⊢
              omega
            · obtain ⟨lev2, hW2, hQ2⟩ := Q2.push hW' hQ' h8 hcl he hw
              rw [show (((c ^^^ 2 ^ i : Nat) : Int)).toNat = c ^^^ 2 ^ i by omega]
              refine hnx2 _ ⟨hys', q' ++ [c ^^^ 2 ^ i], lev2, by simp, hW2, hQ2, ?_⟩
              simp only [List.length_append, List.length_cons, List.length_nil]
              omega
          · rintro ⟨nm', h1, h2, h3⟩
            rw [hnm] at h1; cases h1
            rw [hp.2.2 h3] at h; cases h
        · rintro i ⟨qs, b'⟩ ⟨hys, q', lev', hq', hW', hQ', hm⟩
          simp only at hq' hW' hQ' hm
          refine hnx (qs, b') ⟨q', lev', hq', hW', hQ'.done ?_, by simp only [List.length_map, List.length_cons] at hbig hm ⊢; omega⟩ ?_
          · have := congrArg List.length hys
            simp [stOf_len] at this; omega
          · simp only [List.length_map, List.length_cons] at hm ⊢
            omega
    · intro c v hc hv
      have hcc := (hvis c).1 ⟨v, hc, hv⟩
      subst hcc
      rw [hst] at hc; cases hc
      exact ⟨h0, .inl ⟨rfl, rfl, rfl⟩⟩
    · intro c hc
      rw [List.mem_singleton] at hc
      exact (hvis c).2 hc
    · intro v hv c hc; omega
    · intro v hv hq
      exact absurd ((hvis v).1 hv) (by simpa using hq)
    · have := List.count_le_length (l := s.set c0 (-1)) (a := -2)
      simp only [List.length_set, hl, List.length_cons, List.length_nil] at this ⊢
      omega
    · have : (s.set c0 (-1)).count (-2) ≤ 256 := by
        have := List.count_le_length (l := s.set c0 (-1)) (a := -2)
        simpa [hl] using this
      simp only [List.length_cons, List.length_nil, FUEL]
      omega
end
end Go.Sim
