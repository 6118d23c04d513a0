/-
  A plan that is checked step by step, in plain Lean.
-/
import Derived.Test.YtfmhkgnbceoclaaBstH
namespace Go.Sim
open Go
set_option linter.unusedVariables false
set_option linter.unusedSimpArgs false
set_option linter.unusedSectionVars false
set_option linter.unnecessarySimpa false

/-- A loop that looks at each element, with its place. -/
theorem Gd.seenI {R α σ : Type} {Q : R → Prop} {body : Nat → α → σ → (σ → Option R) → Option R} {k : σ → Option R} {l : List α} (I : List α → σ → Prop)
    (hb : ∀ y s n pre post, l = pre ++ y :: post → I pre s → (∀ s', I (pre ++ [y]) s' → Gd (n s') Q) → Gd (body pre.length y s n) Q) (hk : ∀ s, I l s → Gd (k s) Q) (s : σ) (hs : I [] s) : Gd (Sim.forI body k 0 l s) Q := by
  refine Gd.forI (fun i ys s => ∃ pre, l = pre ++ ys ∧ i = pre.length ∧ I pre s) ?_ ?_ _ _ _ ⟨[], rfl, rfl, hs⟩
  · rintro i y ys s n ⟨pre, hl, rfl, hI⟩ hn
    exact hb y s n pre ys hl hI (fun s' h' => hn s' ⟨pre ++ [y], by rw [hl]; simp, by simp, h'⟩)
  · rintro i s ⟨pre, hl, _, hI⟩
    rw [List.append_nil] at hl
    subst hl
    exact hk s hI
theorem slc_pre {α : Type} (a b : List α) : slc (a ++ b) 0 a.length = a := by
  unfold slc; simp

theorem genI_gd (l : List S_api_Gen) (p : BA) : Gd (m_slices_IndexFunc_api_Gen_api_Gen__blackstart_gen_1 l p) (fun r => (r = -1 ∧ p ∉ l.map (·.Name)) ∨ ∃ (k : Nat) (h : k < l.length), r = k ∧ l[k].Name = p) := by
  unfold m_slices_IndexFunc_api_Gen_api_Gen__blackstart_gen_1
  refine Gd.forN (fun m i _ => i + m = l.length ∧ p ∉ (l.map (·.Name)).take i) ?_ ?_ (l.length : Int).toNat 0 () ⟨by omega, by simp⟩
  · intro m i _ nx ⟨hi, hno⟩ hnx
    unfold m_slices_IndexFunc_api_Gen_api_Gen__blackstart_gen_1_b1 m_blackstart_gen_1
    refine Gd.idxN (by omega) (Gd.ite (fun h => Gd.ret (.inr ⟨i, by omega, rfl, by simpa using h⟩)) (fun h => hnx () ⟨by omega, ?_⟩))
    rw [List.take_succ_eq_append_getElem (by simp; omega), List.mem_append, List.mem_singleton]
    rintro (h' | h')
    · exact hno h'
    · simp [h'] at h
  · intro i _ ⟨hi, hno⟩
    rw [List.take_of_length_le (by simp; omega)] at hno
    exact Gd.ret (.inl ⟨rfl, hno⟩)
theorem gen_gd (n : Net) (p : BA) : Gd (m_blackstart_gen n p) (fun r => (r = -1 ∧ p ∉ n.Gens.map (·.Name)) ∨ ∃ (k : Nat) (h : k < n.Gens.length), r = k ∧ n.Gens[k].Name = p) := by
  unfold m_blackstart_gen
  exact Gd.bnd (genI_gd n.Gens p) (fun r hr => Gd.ret hr)
theorem gen_mem {n : Net} {p : BA} (h : p ∈ n.Gens.map (·.Name)) : ∃ (k : Nat) (hk : k < n.Gens.length), m_blackstart_gen n p = some (k : Int) ∧ n.Gens[k].Name = p := by
  obtain ⟨r, hr, h2⟩ := gen_gd n p
  rcases h2 with ⟨_, hno⟩ | ⟨k, hk, rfl, e⟩
  · exact absurd h hno
  · exact ⟨k, hk, hr, e⟩
theorem swI_gd (l : List S_api_Switch) (p : BA) : Gd (m_slices_IndexFunc_api_Switch_api_Switch__blackstart_perform_1 l p) (fun r => (r = -1 ∧ p ∉ l.map (·.Name)) ∨ ∃ (k : Nat) (h : k < l.length), r = k ∧ l[k].Name = p) := by
  unfold m_slices_IndexFunc_api_Switch_api_Switch__blackstart_perform_1
  refine Gd.forN (fun m i _ => i + m = l.length ∧ p ∉ (l.map (·.Name)).take i) ?_ ?_ (l.length : Int).toNat 0 () ⟨by omega, by simp⟩
  · intro m i _ nx ⟨hi, hno⟩ hnx
    unfold m_slices_IndexFunc_api_Switch_api_Switch__blackstart_perform_1_b1 m_blackstart_perform_1
    refine Gd.idxN (by omega) (Gd.ite (fun h => Gd.ret (.inr ⟨i, by omega, rfl, by simpa using h⟩)) (fun h => hnx () ⟨by omega, ?_⟩))
    rw [List.take_succ_eq_append_getElem (by simp; omega), List.mem_append, List.mem_singleton]
    rintro (h' | h')
    · exact hno h'
    · simp [h'] at h
  · intro i _ ⟨hi, hno⟩
    rw [List.take_of_length_le (by simp; omega)] at hno
    exact Gd.ret (.inl ⟨rfl, hno⟩)
theorem swI_same (l : List S_api_Switch) (p : BA) : m_slices_IndexFunc_api_Switch_api_Switch__blackstart_closeSwitch_1 l p = m_slices_IndexFunc_api_Switch_api_Switch__blackstart_perform_1 l p := rfl
theorem swI_same2 (l : List S_api_Switch) (p : BA) : m_slices_IndexFunc_api_Switch_api_Switch__netmodel_find_1 l p = m_slices_IndexFunc_api_Switch_api_Switch__blackstart_perform_1 l p := rfl
theorem swI_mem {l : List S_api_Switch} {p : BA} (h : p ∈ l.map (·.Name)) : ∃ (k : Nat) (hk : k < l.length), m_slices_IndexFunc_api_Switch_api_Switch__blackstart_perform_1 l p = some (k : Int) ∧ l[k].Name = p := by
  obtain ⟨r, hr, h2⟩ := swI_gd l p
  rcases h2 with ⟨_, hno⟩ | ⟨k, hk, rfl, e⟩
  · exact absurd h hno
  · exact ⟨k, hk, hr, e⟩

/-- Where a generator is. -/
def gat (n : Net) (x : BA) : Int := ((n.Gens.find? (fun g => decide (g.Name = x))).map (fun g => (pos n g.Node : Int))).getD 0
theorem gat_eq {n : Net} (h : NetV n) {g : S_api_Gen} (hg : g ∈ n.Gens) : gat n g.Name = pos n g.Node := by
  unfold gat
  cases e : n.Gens.find? (fun q => decide (q.Name = g.Name)) with
  | none =>
    have := List.find?_eq_none.1 e g hg
    simp at this
  | some q =>
    have h1 := List.find?_some e
    have h2 := List.mem_of_find?_eq_some e
    have : q = g := map_inj (f := fun g : S_api_Gen => g.Name) (gn_nodup h) h2 hg (by simpa using h1)
    subst this; rfl
theorem gat_cl (n : Net) (D : List BA) (x : BA) : gat (cl n D) x = gat n x := rfl
theorem gat_rng {n : Net} (h : NetV n) {x : BA} (hx : x ∈ n.Gens.map (·.Name)) : 0 ≤ gat n x ∧ gat n x < n.Nodes.length := by
  obtain ⟨g, hg, rfl⟩ := List.mem_map.1 hx
  rw [gat_eq h hg]
  have := (pos_eq (h.vg g hg).2.1).2
  omega
/-- Two generators are joined when some switches are closed. -/
def Jn (n : Net) (D : List BA) (x y : BA) : Prop := Conn (joins (cl n D)) (gat n x) (gat n y)

theorem bcheck_sound (n : Net) (src : List BA) (hz : NetSz n) : Gd (m_blackstart_check n src) (fun e => e = 0 → NetV n ∧ src.Nodup ∧ ∀ x ∈ src, x ∈ n.Gens.map (·.Name)) := by
  unfold m_blackstart_check
  refine Gd.bnd (check_sound n hz) (fun e he => Gd.ite (fun h => Gd.ret (fun h2 => absurd h2 (by simpa using h))) (fun h => ?_))
  have hv := he (by simpa using h)
  refine Gd.seenI (fun pre (_ : Unit) => pre.Nodup ∧ ∀ x ∈ pre, x ∈ n.Gens.map (·.Name)) ?_ (fun _ hs => Gd.ret (fun _ => ⟨hv, hs.1, hs.2⟩)) _ ⟨by simp, by simp⟩
  rintro y _ nx pre post hl ⟨h1, h2⟩ hnx
  unfold m_blackstart_check_b1
  refine Gd.bnd (gen_gd n y) (fun r hr => Gd.ite (fun _ => Gd.ret (fun h => by simp at h)) (fun hr2 => Gd.nd ⟨by omega, by rw [hl]; simp; omega⟩ ?_))
  have hy : y ∈ n.Gens.map (·.Name) := by
    rcases hr with ⟨rfl, _⟩ | ⟨k, hk, rfl, e⟩
    · simp at hr2
    · exact List.mem_map.2 ⟨_, List.getElem_mem hk, e⟩
  have hslc : slc src 0 ((pre.length : Int)).toNat = pre := by rw [hl, Int.toNat_natCast]; exact slc_pre _ _
  rw [hslc]
  refine Gd.bnd (ncontains_gd pre y) (fun b hb => Gd.ite (fun _ => Gd.ret (fun h => by simp at h)) (fun hb2 => hnx _ ⟨?_, fun x hx => ?_⟩))
  · have hno : y ∉ pre := fun hm => by rw [hb.2 hm] at hb2; cases hb2
    rw [List.nodup_append]
    exact ⟨h1, by simp, fun a ha b hb => by simp at hb; subst hb; exact fun e => hno (e ▸ ha)⟩
  · rcases List.mem_append.1 hx with hx | hx
    · exact h2 x hx
    · simp at hx; subst hx; exact hy
theorem bcheck_comp {n : Net} {src : List BA} (hv : NetV n) (hnd : src.Nodup) (hin : ∀ x ∈ src, x ∈ n.Gens.map (·.Name)) : m_blackstart_check n src = some 0 := by
  rw [← Gd.eq]
  unfold m_blackstart_check
  refine Gd.bind_eq (check_comp n hv) (Gd.ite (fun h => by simp at h) (fun _ => ?_))
  refine Gd.seenI (Q := fun x => x = 0) (fun pre (_ : Unit) => True) ?_ (fun _ hs => Gd.ret rfl) _ trivial
  rintro y _ nx pre post hl _ hnx
  obtain ⟨k, hk, e, _⟩ := gen_mem (hin y (by rw [hl]; simp))
  unfold m_blackstart_check_b1
  have hslc : slc src 0 ((pre.length : Int)).toNat = pre := by rw [hl, Int.toNat_natCast]; exact slc_pre _ _
  refine Gd.bind_eq e (Gd.ite (fun h => by simp at h; omega) (fun _ => Gd.nd ⟨by omega, by rw [hl]; simp; omega⟩ ?_))
  rw [hslc]
  refine Gd.bnd (ncontains_gd pre y) (fun b hb => Gd.ite (fun hb2 => ?_) (fun _ => hnx _ trivial))
  have := hb.1 hb2
  rw [hl, List.nodup_append] at hnd
  exact absurd rfl (hnd.2.2 y this y (List.mem_cons_self ..))

/-! ### A step -/
structure Step0 (n : Net) (R D : List BA) (s : S_api_BlackstartStep) : Prop where
  gen : s.Gen ∈ n.Gens.map (·.Name)
  new : s.Gen ∉ R
  dev : DevOk (cl n D) s.Devices
theorem DevOk.len {n : Net} (hv : NetV n) {D : List BA} (h : DevOk n D) : D.length ≤ 32 := by
  have := nodup_le D (n.Switches.map (·.Name)) h.nd (fun x hx => by
    obtain ⟨s, hs, e, _⟩ := h.op x hx
    exact List.mem_map.2 ⟨s, hs, e⟩)
  have := hv.l2
  simp only [List.length_map] at *
  omega
theorem perf2 {m : Net} (hv : NetV m) {pl : List Int} (hp : Pl m pl) {k : Nat} (hk : k < m.Gens.length) : m_blackstart_perform_2 (k : Int) pl m = some (lb pl (gat m m.Gens[k].Name)) := by
  rw [← Gd.eq]
  have hg := List.getElem_mem hk
  obtain ⟨e, hl⟩ := pos_eq (hv.vg _ hg).2.1
  have hl2 : pos m m.Gens[k].Node < pl.length := by rw [hp.len]; exact hl
  unfold m_blackstart_perform_2
  refine Gd.idxN hk (Gd.bind_eq e (Gd.idxN hl2 (Gd.ret ?_)))
  rw [gat_eq hv hg, lb_at hl2]
theorem perf3_gd {m : Net} (hv : NetV m) {pl : List Int} (hp : Pl m pl) {R : List BA} (hR : ∀ x ∈ R, x ∈ m.Gens.map (·.Name)) {k : Nat} (hk : k < m.Gens.length) :
    Gd (m_slices_ContainsFunc_string_string__blackstart_perform_3S3 R pl m (k : Int)) (fun b => b = true ↔ ∃ x ∈ R, Conn (joins m) (gat m x) (gat m m.Gens[k].Name)) := by
  have hkm : m.Gens[k].Name ∈ m.Gens.map (·.Name) := List.mem_map.2 ⟨_, List.getElem_mem hk, rfl⟩
  obtain ⟨k0, kN⟩ := gat_rng hv hkm
  unfold m_slices_ContainsFunc_string_string__blackstart_perform_3S3
  refine Gd.bnd (P := fun r => (r = -1 ∧ ∀ x ∈ R, ¬ Conn (joins m) (gat m x) (gat m m.Gens[k].Name)) ∨ (0 ≤ r ∧ ∃ x ∈ R, Conn (joins m) (gat m x) (gat m m.Gens[k].Name))) ?_ (fun r hr => Gd.ret ?_)
  · unfold m_slices_IndexFunc_string_string__blackstart_perform_3S3
    refine Gd.forN (fun j i _ => i + j = R.length ∧ ∀ x ∈ R.take i, ¬ Conn (joins m) (gat m x) (gat m m.Gens[k].Name)) ?_ ?_ (R.length : Int).toNat 0 () ⟨by omega, by simp⟩
    · rintro j i _ nx ⟨hi, hno⟩ hnx
      have hlt : i < R.length := by omega
      have hx := hR _ (List.getElem_mem hlt)
      obtain ⟨q, hq, e, hqn⟩ := gen_mem hx
      obtain ⟨x0, xN⟩ := gat_rng hv hx
      have hiff := hp.iff _ _ x0 xN k0 kN
      unfold m_slices_IndexFunc_string_string__blackstart_perform_3S3_b1
      refine Gd.idxN hlt (Gd.bnd (P := fun b => b = decide (lb pl (gat m R[i]) = lb pl (gat m m.Gens[k].Name))) ?_ (fun b hb => ?_))
      · unfold m_blackstart_perform_3S3
        refine Gd.bind_eq e (Gd.bind_eq (perf2 hv hp hq) (Gd.bind_eq (perf2 hv hp hk) (Gd.ret ?_)))
        rw [hqn]
      · subst hb
        refine Gd.ite (fun h => Gd.ret (.inr ⟨by omega, R[i], List.getElem_mem hlt, hiff.1 (of_decide_eq_true h)⟩)) (fun h => hnx () ⟨by omega, fun x hx => ?_⟩)
        rw [List.take_succ_eq_append_getElem hlt, List.mem_append, List.mem_singleton] at hx
        rcases hx with hx | rfl
        · exact hno x hx
        · exact fun hc => of_decide_eq_false h (hiff.2 hc)
    · rintro i _ ⟨hi, hno⟩
      rw [List.take_of_length_le (by omega)] at hno
      exact Gd.ret (.inl ⟨rfl, hno⟩)
  · rcases hr with ⟨rfl, hno⟩ | ⟨h0, x, hx, hc⟩
    · simp
      exact hno
    · simp [h0]
      exact ⟨x, hx, hc⟩
theorem perform_gd {m : Net} (hv : NetV m) (hz : NetSz m) {R : List BA} (hR : ∀ x ∈ R, x ∈ m.Gens.map (·.Name)) {s : S_api_BlackstartStep} (hg : s.Gen ∈ m.Gens.map (·.Name)) (hno : s.Gen ∉ R) (hd : DevOk m s.Devices) :
    Gd (m_blackstart_perform m R s) (fun r => r.2 = cl m s.Devices ∧ ((r.1 = 0 ∧ ∃ x ∈ R, Jn m s.Devices x s.Gen) ∨ (r.1 = 15 ∧ ∀ x ∈ R, ¬ Jn m s.Devices x s.Gen))) := by
  obtain ⟨k, hk, e, hkn⟩ := gen_mem hg
  have hdl := hd.len hv
  unfold m_blackstart_perform
  refine Gd.bind_eq e (Gd.ite (fun h => by simp at h; omega) (fun _ => Gd.bnd (ncontains_gd R s.Gen) (fun b hb => Gd.ite (fun h => absurd (hb.1 h) hno) (fun _ => Gd.ite (fun h => by simp at h; omega) (fun _ => ?_)))))
  refine Gd.seenI (fun pre l => l = (cl m pre).Switches) ?_ ?_ _ (by rw [cl_nil])
  · rintro y l nx pre post hl rfl hnx
    have hy : y ∈ s.Devices := by rw [hl]; simp
    obtain ⟨t, ht, rfl, hto⟩ := hd.op y hy
    have hvp := hv.cl pre
    obtain ⟨q, hq, e2, hqn⟩ := swI_mem (l := (cl m pre).Switches) (p := t.Name) (by rw [cl_names]; exact List.mem_map.2 ⟨t, ht, rfl⟩)
    have hnew : t.Name ∉ pre := fun hm => by
      have := hd.nd
      rw [hl, List.nodup_append] at this
      exact this.2.2 _ hm _ (List.mem_cons_self ..) rfl
    have hqe : (cl m pre).Switches[q] = shutS pre t := by
      refine map_inj (f := fun s : S_api_Switch => s.Name) (sw_nodup hvp) (List.getElem_mem hq) (List.mem_map.2 ⟨t, ht, rfl⟩) ?_
      show _ = (shutS pre t).Name
      rw [shutS_name]; exact hqn
    unfold m_blackstart_perform_b1
    refine Gd.bind_eq e2 (Gd.ite (fun h => by simp at h; omega) (fun _ => Gd.idxN hq (Gd.ite (fun h => ?_) (fun _ => Gd.idxN hq (hnx _ ?_)))))
    · rw [hqe, shutS_open, hto] at h
      simp [hnew] at h
    · rw [Int.toNat_natCast, set_shut (sw_nodup hvp) hq, hqn, ← cl_cl]
      rfl
  · rintro l rfl
    have hv2 := hv.cl s.Devices
    obtain ⟨pl, hp⟩ := places_sem hv2 (hv2.ok (hz.cl s.Devices))
    have hk2 : k < (cl m s.Devices).Gens.length := hk
    have hkn2 : (cl m s.Devices).Gens[k].Name = s.Gen := hkn
    have h3 := perf3_gd hv2 hp (R := R) hR hk2
    rw [hkn2] at h3
    refine Gd.bind_eq hp.run (Gd.bnd h3 (fun b hb => Gd.ite (fun h => Gd.ret ⟨rfl, .inr ⟨rfl, fun x hx hc => ?_⟩⟩) (fun h => Gd.ret ⟨rfl, .inl ⟨rfl, ?_⟩⟩)))
    · have : b = true := hb.2 ⟨x, hx, hc⟩
      rw [this] at h; cases h
    · exact hb.1 (by simpa using h)
/-- A step that is taken, and one that is not. -/
def Acc (n : Net) (R D : List BA) (s : S_api_BlackstartStep) : Prop := Step0 n R D s ∧ ∃ x ∈ R, Jn n (D ++ s.Devices) x s.Gen
def Rej (n : Net) (R D : List BA) (s : S_api_BlackstartStep) : Prop := Step0 n R D s ∧ ∀ x ∈ R, ¬ Jn n (D ++ s.Devices) x s.Gen
abbrev gensOf (l : List S_api_BlackstartStep) : List BA := l.map (·.Gen)
abbrev devsOf (l : List S_api_BlackstartStep) : List BA := l.flatMap (·.Devices)
theorem verify_gd {n : Net} (hv : NetV n) (hz : NetSz n) {src : List BA} (hnd : src.Nodup) (hin : ∀ x ∈ src, x ∈ n.Gens.map (·.Name)) {steps : List S_api_BlackstartStep} (hlen : steps.length ≤ 10) {K : Nat} (hK : K ≤ steps.length)
    (hacc : ∀ pre y post, steps = pre ++ y :: post → pre.length < K → Acc n (src ++ gensOf pre) (devsOf pre) y)
    (hrej : ∀ pre y post, steps = pre ++ y :: post → pre.length = K → Rej n (src ++ gensOf pre) (devsOf pre) y) :
    Gd (m_blackstart_Verify n src steps) (fun r => (K < steps.length → r.2 = ((K : Int), 15)) ∧ (K = steps.length → r = (cl n (devsOf steps), 0, 0))) := by
  have hsl : src.length ≤ 10 := by
    have := nodup_le src (n.Gens.map (·.Name)) hnd hin
    have := hv.l4
    simp only [List.length_map] at *
    omega
  have g1 := hv.l1; have g2 := hv.l2; have g3 := hv.l3; have g4 := hv.l4; have g5 := hv.l5; have g6 := hv.l6
  have hcopy : m_netmodel_Copy n = some n := by
    rw [← Gd.eq]
    unfold m_netmodel_Copy
    exact Gd.nd (by omega) (Gd.nd (by omega) (Gd.nd (by omega) (Gd.nd (by omega) (Gd.nd (by omega) (Gd.nd (by omega) (Gd.ret rfl))))))
  unfold m_blackstart_Verify
  refine Gd.bind_eq (bcheck_comp hv hnd hin) (Gd.ite (fun h => by simp at h) (fun _ => Gd.ite (fun h => by simp at h; omega) (fun _ => Gd.bind_eq hcopy (Gd.nd (by omega) ?_))))
  refine Gd.seenI (fun pre s => s = (src ++ gensOf pre, (cl n (devsOf pre)).Nodes, (cl n (devsOf pre)).Switches, (cl n (devsOf pre)).Branches, (cl n (devsOf pre)).Gens, (cl n (devsOf pre)).Loads, (cl n (devsOf pre)).Stores) ∧ pre.length ≤ K ∧ ∀ x ∈ gensOf pre, x ∈ n.Gens.map (·.Name)) ?_ ?_ _ ⟨?_, by simp, by simp⟩
  · rintro y s nx pre post hl ⟨rfl, hpK, hpg⟩ hnx
    have hpl : pre.length < steps.length := by rw [hl]; simp
    have hR : ∀ x ∈ src ++ gensOf pre, x ∈ n.Gens.map (·.Name) := fun x hx => by
      rcases List.mem_append.1 hx with hx | hx
      · exact hin x hx
      · exact hpg x hx
    have main : ∀ (h0 : Step0 n (src ++ gensOf pre) (devsOf pre) y), Gd (m_blackstart_perform (cl n (devsOf pre)) (src ++ gensOf pre) y) (fun r => r.2 = cl n (devsOf (pre ++ [y])) ∧ ((r.1 = 0 ∧ ∃ x ∈ src ++ gensOf pre, Jn n (devsOf pre ++ y.Devices) x y.Gen) ∨ (r.1 = 15 ∧ ∀ x ∈ src ++ gensOf pre, ¬ Jn n (devsOf pre ++ y.Devices) x y.Gen))) := fun h0 => by
      have := perform_gd (hv.cl (devsOf pre)) (hz.cl (devsOf pre)) (R := src ++ gensOf pre) hR (s := y) h0.gen h0.new h0.dev
      refine this.mono (fun r hr => ?_)
      unfold Jn at hr ⊢
      rw [cl_cl] at hr
      have e : devsOf (pre ++ [y]) = devsOf pre ++ y.Devices := by simp [devsOf]
      rw [e]
      exact hr
    unfold m_blackstart_Verify_b1
    rcases Nat.lt_or_ge pre.length K with h | h
    · obtain ⟨h0, x, hx, hj⟩ := hacc pre y post hl h
      refine Gd.bnd (main h0) (fun r hr => Gd.ite (fun hne => ?_) (fun _ => Gd.nd (by simp; omega) (hnx _ ⟨?_, by simp; omega, fun z hz => ?_⟩)))
      · exfalso
        rcases hr.2 with ⟨r0, _⟩ | ⟨_, hno⟩
        · simp [r0] at hne
        · exact hno x hx hj
      · rw [hr.1]
        simp [gensOf]
      · simp only [gensOf, List.map_append, List.mem_append, List.map_cons, List.map_nil, List.mem_singleton] at hz
        rcases hz with hz | rfl
        · exact hpg z hz
        · exact h0.gen
    · obtain ⟨h0, hno⟩ := hrej pre y post hl (by omega)
      have hKe : pre.length = K := by omega
      refine Gd.bnd (main h0) (fun r hr => Gd.ite (fun hne => Gd.ret ⟨fun _ => ?_, fun e => by omega⟩) (fun hz2 => ?_))
      · rcases hr.2 with ⟨r0, _⟩ | ⟨r15, _⟩
        · simp [r0] at hne
        · rw [r15, hKe]
      · exfalso
        rcases hr.2 with ⟨_, x, hx, hj⟩ | ⟨r15, _⟩
        · exact hno x hx hj
        · simp [r15] at hz2
  · rintro s ⟨rfl, hpK, _⟩
    exact Gd.ret ⟨fun h => by omega, fun _ => rfl⟩
  · show _ = (src ++ [], (cl n []).Nodes, (cl n []).Switches, (cl n []).Branches, (cl n []).Gens, (cl n []).Loads, (cl n []).Stores)
    rw [cl_nil, List.append_nil]
end Go.Sim
