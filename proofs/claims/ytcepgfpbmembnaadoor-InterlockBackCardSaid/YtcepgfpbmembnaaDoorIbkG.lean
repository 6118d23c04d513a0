/-
  What is parsed is a tree, and the text of the tree is no longer than what was read.
-/
import Derived.Test.YtcepgfpbmembnaaDoorIbkF
namespace Go.Sim
open Go
set_option linter.unusedVariables false
set_option linter.unusedSimpArgs false
set_option linter.unusedSectionVars false
set_option linter.unnecessarySimpa false
open Tr

def wm (ws : List Wd) : Nat := (ws.map fun w => w.length + 1).sum
def Wm (ws : List ByteArray) : Nat := (ws.map fun w => w.size + 1).sum
theorem wm_app (a b : List Wd) : wm (a ++ b) = wm a + wm b := by simp [wm]
theorem wm_cons (w : Wd) (b : List Wd) : wm (w :: b) = w.length + 1 + wm b := by simp [wm]
theorem Wm_app (a b : List ByteArray) : Wm (a ++ b) = Wm a + Wm b := by simp [Wm]
theorem Wm_cons (w : ByteArray) (b : List ByteArray) : Wm (w :: b) = w.size + 1 + Wm b := by simp [Wm]
theorem wm_par_le (b : Bool) (w : List Wd) : wm w ≤ wm (par b w) := by
  unfold par
  split
  · rw [wm_cons, wm_app]; omega
  · exact Nat.le_refl _
theorem wm_AF (t : Tr) : wm (wA t) ≤ wm (wF t) := by
  unfold wA wF
  cases t <;> first | exact Nat.le_refl _ | exact wm_par_le _ _
theorem wm_OA (t : Tr) : wm t.wds ≤ wm (wA t) := wm_par_le _ _

def Prs (lev : Tr → List Wd) (p : Ps) (r : Int × Ps) : Prop := ∃ src, p.words = src ++ r.2.words ∧ r.2.nodes.length ≤ p.nodes.length + src.length ∧
  (r.2.bad = false → p.bad = false ∧ ∃ t : Tr, t.Ok ∧ r.2.nodes = p.nodes ++ t.flat p.nodes.length ∧ r.1 = (p.nodes.length : Int) + t.sz - 1 ∧ wm (lev t) ≤ Wm src)
structure Can (n : Nat) (p : Ps) : Prop where
  sz : ∀ w ∈ p.words, w.size ≤ 10000
  len : p.words.length < n
  nod : p.nodes.length + p.words.length ≤ 100000
theorem Can.part {n : Nat} {p q : Ps} (h : Can n p) {src : List ByteArray} (h1 : p.words = src ++ q.words) (h2 : q.nodes.length ≤ p.nodes.length + src.length) : Can n q := by
  have := h.len; have := h.nod
  have hl := congrArg List.length h1
  rw [List.length_append] at hl
  exact ⟨fun w hw => h.sz w (by rw [h1]; simp [hw]), by omega, by omega⟩
theorem take_cases (ws : List ByteArray) (ns : List Node) (b : Bool) (k : ByteArray) :
    (∃ ws', ws = k :: ws' ∧ m_interlock_parser_take ⟨ws, ns, b⟩ k = some (true, ⟨ws', ns, b⟩)) ∨ m_interlock_parser_take ⟨ws, ns, b⟩ k = some (false, ⟨ws, ns, b⟩) := by
  cases ws with
  | nil => exact .inr rfl
  | cons w r =>
    by_cases e : w = k
    · subst e; exact .inl ⟨r, rfl, take_hit _ _ _ _⟩
    · exact .inr (take_miss e _ _ _)
theorem pname_cases (ws : List ByteArray) (ns : List Node) (b : Bool) (h : ∀ w ∈ ws, w.size ≤ 10000) :
    (∃ w ws', ws = w :: ws' ∧ Nm w ∧ m_interlock_parser_name ⟨ws, ns, b⟩ = some (w, ⟨ws', ns, b⟩)) ∨ m_interlock_parser_name ⟨ws, ns, b⟩ = some (⟨#[]⟩, ⟨ws, ns, true⟩) := by
  cases ws with
  | nil => exact .inr rfl
  | cons w r =>
    obtain ⟨c, hc⟩ := name_some w (by have := h w (by simp); simp only [maxLen]; omega)
    cases c with
    | true => exact .inl ⟨w, r, rfl, hc, pname_ok hc _ _ _⟩
    | false =>
      refine .inr (Gd.eq.1 ?_)
      unfold m_interlock_parser_name
      exact Gd.ite (fun h => by simp at h; omega) (fun _ => Gd.ix (y := w) (by omega) rfl (Gd.bind_eq hc (Gd.ite (fun _ => Gd.ret rfl) (fun h => by cases h))))
def Snd (self : Ps → Option (Int × Ps)) (n : Nat) (lev : Tr → List Wd) : Prop := ∀ p, Can n p → Gd (self p) (Prs lev p)
theorem mkPrs {lev : Tr → List Wd} {p : Ps} {i : Int} {ws : List ByteArray} {ns : List Node} {b : Bool} (src : List ByteArray) (h1 : p.words = src ++ ws) (h2 : ns.length ≤ p.nodes.length + src.length)
    (h3 : b = false → p.bad = false ∧ ∃ t : Tr, t.Ok ∧ ns = p.nodes ++ t.flat p.nodes.length ∧ i = (p.nodes.length : Int) + t.sz - 1 ∧ wm (lev t) ≤ Wm src) : Prs lev p (i, ⟨ws, ns, b⟩) := ⟨src, h1, h2, h3⟩
theorem chainA_snd {self : Ps → Option (Int × Ps)} {n : Nat} (hs : Snd self n wF) : Snd (fun p => m_interlock_parser_chain__interlock_parser_factorS0 self p (ba kAnd) 5) n wA := fun p hp => by
  show Gd (m_interlock_parser_chain__interlock_parser_factorS0 self p (ba kAnd) 5) _
  unfold m_interlock_parser_chain__interlock_parser_factorS0
  refine Gd.bnd (hs p hp) (fun r hr => ?_)
  have hnod := hp.nod
  refine Gd.loopF (fun (z : Int × (List ByteArray) × List Node × Bool) => Prs wA p (z.1, ⟨z.2.1, z.2.2.1, z.2.2.2⟩)) (fun z => z.2.1.length) ?_ FUEL _ ?_ ?_
  · rintro ⟨i, ws, ns, b⟩ nx ⟨src, h1, h2, h3⟩ hnx
    simp only at h1 h2 h3 hnx ⊢
    unfold m_interlock_parser_chain__interlock_parser_factorS0_b3 m_interlock_parser_chain__interlock_parser_factorS0_b2
    refine Gd.ite (fun hb => Gd.ret ⟨src, h1, h2, fun h => by cases h⟩) (fun hb => ?_)
    subst hb
    obtain ⟨hpb, t1, ht1, e1, e2, e3⟩ := h3 rfl
    have hcq : Can n ⟨ws, ns, false⟩ := hp.part h1 h2
    rcases take_cases ws ns false (ba kAnd) with ⟨ws', rfl, ht⟩ | ht
    · refine Gd.bind_eq ht (Gd.ite (fun _ => ?_) (fun h => by cases h))
      have hq : Can n ⟨ws', ns, false⟩ := hcq.part (src := [ba kAnd]) rfl (by simp only; omega)
      refine Gd.bnd (hs _ hq) (fun r2 hr2 => ?_)
      obtain ⟨src2, g1, g2, g3⟩ := hr2
      simp only at g1 g2 g3
      have hqn := hq.nod
      simp only at hqn
      have hsl : ws'.length = src2.length + r2.2.words.length := by rw [g1]; simp
      have hadd := add_eq (ns := r2.2.nodes) (by omega) r2.2.words r2.2.bad (S_api_InterlockNode.mk 5 ⟨#[]⟩ i r2.1)
      refine Gd.bind_eq hadd (hnx _ ?_ (by simp only [List.length_cons]; omega))
      refine ⟨src ++ ba kAnd :: src2, by rw [h1, g1]; simp, by simp only [List.length_append, List.length_cons, List.length_nil]; omega, fun hb => ?_⟩
      obtain ⟨_, t2, ht2, f1, f2, f3⟩ := g3 hb
      have hl1 : ns.length = p.nodes.length + t1.sz := by rw [e1, List.length_append, flat_len]
      refine ⟨hpb, .and t1 t2, ⟨ht1, ht2⟩, ?_, ?_, ?_⟩
      · simp only
        rw [f1, e1]
        have el : (p.nodes ++ t1.flat p.nodes.length).length = p.nodes.length + t1.sz := by rw [List.length_append, flat_len]
        rw [el]
        show _ = p.nodes ++ (t1.flat p.nodes.length ++ t2.flat (p.nodes.length + t1.sz) ++ [root p.nodes.length (.and t1 t2)])
        simp only [List.append_assoc]
        have er : S_api_InterlockNode.mk 5 ⟨#[]⟩ i r2.1 = root p.nodes.length (.and t1 t2) := by
          show _ = S_api_InterlockNode.mk 5 ⟨#[]⟩ ((p.nodes.length : Int) + t1.sz - 1) ((p.nodes.length : Int) + t1.sz + t2.sz - 1)
          rw [e2, f2, hl1]; congr 1 <;> omega
        rw [er]
      · simp only
        rw [f1, List.length_append, flat_len, hl1]
        show _ = (p.nodes.length : Int) + ((t1.sz + t2.sz + 1 : Nat) : Int) - 1
        omega
      · show wm (wA t1 ++ kAnd :: wF t2) ≤ _
        rw [wm_app, wm_cons, Wm_app, Wm_cons, ba_size]
        omega
    · exact Gd.bind_eq ht (Gd.ite (fun h => by cases h) (fun _ => Gd.ret ⟨src, h1, h2, fun _ => ⟨hpb, t1, ht1, e1, e2, e3⟩⟩))
  · obtain ⟨src, h1, h2, h3⟩ := hr
    refine ⟨src, h1, h2, fun hb => ?_⟩
    obtain ⟨a, t, q1, q2, q3, q4⟩ := h3 hb
    exact ⟨a, t, q1, q2, q3, Nat.le_trans (wm_AF t) q4⟩
  · obtain ⟨src, h1, _⟩ := hr
    have := congrArg List.length h1
    rw [List.length_append] at this
    simp only [FUEL]; omega
theorem and_snd {self : Ps → Option (Int × Ps)} {n : Nat} (hs : Snd self n wF) : Snd (m_interlock_parser_and self) n wA := fun p hp => by
  unfold m_interlock_parser_and
  exact Gd.bnd (chainA_snd hs p hp) (fun r hr => Gd.ret hr)
theorem chainO_snd {self : Ps → Option (Int × Ps)} {n : Nat} (hs : Snd self n wF) : Snd (fun p => m_interlock_parser_chain__interlock_parser_andS0 self p (ba kOr) 6) n Tr.wds := fun p hp => by
  have hs := and_snd hs
  show Gd (m_interlock_parser_chain__interlock_parser_andS0 self p (ba kOr) 6) _
  unfold m_interlock_parser_chain__interlock_parser_andS0
  refine Gd.bnd (hs p hp) (fun r hr => ?_)
  have hnod := hp.nod
  refine Gd.loopF (fun (z : Int × (List ByteArray) × List Node × Bool) => Prs Tr.wds p (z.1, ⟨z.2.1, z.2.2.1, z.2.2.2⟩)) (fun z => z.2.1.length) ?_ FUEL _ ?_ ?_
  · rintro ⟨i, ws, ns, b⟩ nx ⟨src, h1, h2, h3⟩ hnx
    simp only at h1 h2 h3 hnx ⊢
    unfold m_interlock_parser_chain__interlock_parser_andS0_b3 m_interlock_parser_chain__interlock_parser_andS0_b2
    refine Gd.ite (fun hb => Gd.ret ⟨src, h1, h2, fun h => by cases h⟩) (fun hb => ?_)
    subst hb
    obtain ⟨hpb, t1, ht1, e1, e2, e3⟩ := h3 rfl
    have hcq : Can n ⟨ws, ns, false⟩ := hp.part h1 h2
    rcases take_cases ws ns false (ba kOr) with ⟨ws', rfl, ht⟩ | ht
    · refine Gd.bind_eq ht (Gd.ite (fun _ => ?_) (fun h => by cases h))
      have hq : Can n ⟨ws', ns, false⟩ := hcq.part (src := [ba kOr]) rfl (by simp only; omega)
      refine Gd.bnd (hs _ hq) (fun r2 hr2 => ?_)
      obtain ⟨src2, g1, g2, g3⟩ := hr2
      simp only at g1 g2 g3
      have hqn := hq.nod
      simp only at hqn
      have hsl : ws'.length = src2.length + r2.2.words.length := by rw [g1]; simp
      have hadd := add_eq (ns := r2.2.nodes) (by omega) r2.2.words r2.2.bad (S_api_InterlockNode.mk 6 ⟨#[]⟩ i r2.1)
      refine Gd.bind_eq hadd (hnx _ ?_ (by simp only [List.length_cons]; omega))
      refine ⟨src ++ ba kOr :: src2, by rw [h1, g1]; simp, by simp only [List.length_append, List.length_cons, List.length_nil]; omega, fun hb => ?_⟩
      obtain ⟨_, t2, ht2, f1, f2, f3⟩ := g3 hb
      have hl1 : ns.length = p.nodes.length + t1.sz := by rw [e1, List.length_append, flat_len]
      refine ⟨hpb, .or t1 t2, ⟨ht1, ht2⟩, ?_, ?_, ?_⟩
      · simp only
        rw [f1, e1]
        have el : (p.nodes ++ t1.flat p.nodes.length).length = p.nodes.length + t1.sz := by rw [List.length_append, flat_len]
        rw [el]
        show _ = p.nodes ++ (t1.flat p.nodes.length ++ t2.flat (p.nodes.length + t1.sz) ++ [root p.nodes.length (.or t1 t2)])
        simp only [List.append_assoc]
        have er : S_api_InterlockNode.mk 6 ⟨#[]⟩ i r2.1 = root p.nodes.length (.or t1 t2) := by
          show _ = S_api_InterlockNode.mk 6 ⟨#[]⟩ ((p.nodes.length : Int) + t1.sz - 1) ((p.nodes.length : Int) + t1.sz + t2.sz - 1)
          rw [e2, f2, hl1]; congr 1 <;> omega
        rw [er]
      · simp only
        rw [f1, List.length_append, flat_len, hl1]
        show _ = (p.nodes.length : Int) + ((t1.sz + t2.sz + 1 : Nat) : Int) - 1
        omega
      · show wm (t1.wds ++ kOr :: wA t2) ≤ _
        rw [wm_app, wm_cons, Wm_app, Wm_cons, ba_size]
        omega
    · exact Gd.bind_eq ht (Gd.ite (fun h => by cases h) (fun _ => Gd.ret ⟨src, h1, h2, fun _ => ⟨hpb, t1, ht1, e1, e2, e3⟩⟩))
  · obtain ⟨src, h1, h2, h3⟩ := hr
    refine ⟨src, h1, h2, fun hb => ?_⟩
    obtain ⟨a, t, q1, q2, q3, q4⟩ := h3 hb
    exact ⟨a, t, q1, q2, q3, Nat.le_trans (wm_OA t) q4⟩
  · obtain ⟨src, h1, _⟩ := hr
    have := congrArg List.length h1
    rw [List.length_append] at this
    simp only [FUEL]; omega
theorem or_snd {self : Ps → Option (Int × Ps)} {n : Nat} (hs : Snd self n wF) : Snd (m_interlock_parser_or self) n Tr.wds := fun p hp => by
  unfold m_interlock_parser_or
  exact Gd.bnd (chainO_snd hs p hp) (fun r hr => Gd.ret hr)
theorem fac_snd : ∀ n, Snd (F n) n wF
  | 0 => fun p hp => absurd hp.len (by omega)
  | n + 1 => fun p hp => by
    have ih := fac_snd n
    obtain ⟨ws, ns, b⟩ := p
    have hnod := hp.nod
    have hsz := hp.sz
    have hlen := hp.len
    simp only at hnod hsz hlen
    show Gd (m_interlock_parser_factor_step (F n) ⟨ws, ns, b⟩) _
    unfold m_interlock_parser_factor_step m_interlock_parser_factor_b2 m_interlock_parser_factor_b3
    have leaf : ∀ (src rest : List ByteArray) (t : Tr) (b' : Bool), ws = src ++ rest → 1 ≤ src.length → t.Ok → t.sz = 1 → (b' = false → b = false) → wm (wF t) ≤ Wm src → Prs wF ⟨ws, ns, b⟩ ((ns.length : Int), ⟨rest, ns ++ t.flat ns.length, b'⟩) := fun src rest t b' h1 h2 h3 h4 h5 h6 =>
      mkPrs src h1 (by rw [List.length_append, flat_len]; simp only; omega) (fun hb => ⟨h5 hb, t, h3, rfl, by simp only; omega, h6⟩)
    refine Gd.ite (fun hb => Gd.ret (mkPrs [] rfl (by simp) (fun h => by simp only at hb; rw [hb] at h; cases h))) (fun hb => ?_)
    simp only at hb
    subst hb
    rcases take_cases ws ns false (ba kAlways) with ⟨ws', rfl, ht⟩ | ht
    · exact Gd.bind_eq ht (Gd.ite (fun _ => Gd.bind_eq (add_eq (by omega) _ _ _) (Gd.ret (leaf [ba kAlways] ws' .alw false rfl (by simp) trivial rfl (fun _ => rfl) (by decide)))) (fun h => by cases h))
    refine Gd.bind_eq ht (Gd.ite (fun h => by cases h) (fun _ => ?_))
    rcases take_cases ws ns false (ba kNever) with ⟨ws', rfl, ht⟩ | ht
    · exact Gd.bind_eq ht (Gd.ite (fun _ => Gd.bind_eq (add_eq (by omega) _ _ _) (Gd.ret (leaf [ba kNever] ws' .nev false rfl (by simp) trivial rfl (fun _ => rfl) (by decide)))) (fun h => by cases h))
    refine Gd.bind_eq ht (Gd.ite (fun h => by cases h) (fun _ => ?_))
    rcases take_cases ws ns false (ba kOpen) with ⟨ws', rfl, ht⟩ | ht
    · refine Gd.bind_eq ht (Gd.ite (fun _ => ?_) (fun h => by cases h))
      rcases pname_cases ws' ns false (fun w hw => hsz w (by simp [hw])) with ⟨w, ws2, rfl, hw, hn⟩ | hn
      · exact Gd.bind_eq hn (Gd.bind_eq (add_eq (by omega) _ _ _) (Gd.ret (leaf [ba kOpen, w] ws2 (.opn w) false rfl (by simp) hw rfl (fun _ => rfl) (by show wm [kOpen, bl w] ≤ Wm [ba kOpen, w]; rw [wm_cons, wm_cons, Wm_cons, Wm_cons, bl_len, ba_size]; exact Nat.le_refl _))))
      · exact Gd.bind_eq hn (Gd.bind_eq (add_eq (by omega) _ _ _) (Gd.ret (mkPrs [ba kOpen] rfl (by simp) (fun h => by cases h))))
    refine Gd.bind_eq ht (Gd.ite (fun h => by cases h) (fun _ => ?_))
    rcases take_cases ws ns false (ba kClosed) with ⟨ws', rfl, ht⟩ | ht
    · refine Gd.bind_eq ht (Gd.ite (fun _ => ?_) (fun h => by cases h))
      rcases pname_cases ws' ns false (fun w hw => hsz w (by simp [hw])) with ⟨w, ws2, rfl, hw, hn⟩ | hn
      · exact Gd.bind_eq hn (Gd.bind_eq (add_eq (by omega) _ _ _) (Gd.ret (leaf [ba kClosed, w] ws2 (.cls w) false rfl (by simp) hw rfl (fun _ => rfl) (by show wm [kClosed, bl w] ≤ Wm [ba kClosed, w]; rw [wm_cons, wm_cons, Wm_cons, Wm_cons, bl_len, ba_size]; exact Nat.le_refl _))))
      · exact Gd.bind_eq hn (Gd.bind_eq (add_eq (by omega) _ _ _) (Gd.ret (mkPrs [ba kClosed] rfl (by simp) (fun h => by cases h))))
    refine Gd.bind_eq ht (Gd.ite (fun h => by cases h) (fun _ => ?_))
    rcases take_cases ws ns false (ba kNot) with ⟨ws', rfl, ht⟩ | ht
    · refine Gd.bind_eq ht (Gd.ite (fun _ => ?_) (fun h => by cases h))
      simp only [List.length_cons] at hlen hnod
      refine Gd.bnd (ih ⟨ws', ns, false⟩ ⟨fun w hw => hsz w (by simp only at hw; simp [hw]), by simp only; omega, by simp only; omega⟩) (fun r hr => ?_)
      obtain ⟨src, h1, h2, h3⟩ := hr
      simp only at h1 h2 h3
      have hsl : ws'.length = src.length + r.2.words.length := by rw [h1]; simp
      refine Gd.bind_eq (add_eq (ns := r.2.nodes) (by omega) r.2.words r.2.bad (S_api_InterlockNode.mk 4 ⟨#[]⟩ r.1 0)) (Gd.ret (mkPrs (ba kNot :: src) (by simp only; rw [h1]; rfl) (by simp only [List.length_append, List.length_cons, List.length_nil]; omega) (fun hb => ?_)))
      obtain ⟨_, a, ha, e1, e2, e3⟩ := h3 hb
      refine ⟨rfl, .not a, ha, ?_, ?_, ?_⟩
      · show r.2.nodes ++ _ = ns ++ (a.flat ns.length ++ [S_api_InterlockNode.mk 4 ⟨#[]⟩ ((ns.length : Int) + a.sz - 1) 0])
        rw [e1, e2, List.append_assoc]
      · show (r.2.nodes.length : Int) = (ns.length : Int) + ((a.sz + 1 : Nat) : Int) - 1
        rw [e1, List.length_append, flat_len]; omega
      · show wm (kNot :: wF a) ≤ _
        rw [wm_cons, Wm_cons, ba_size]; omega
    refine Gd.bind_eq ht (Gd.ite (fun h => by cases h) (fun _ => ?_))
    rcases take_cases ws ns false (ba [40]) with ⟨ws', rfl, ht⟩ | ht
    · refine Gd.bind_eq ht (Gd.ite (fun _ => ?_) (fun h => by cases h))
      simp only [List.length_cons] at hlen hnod
      refine Gd.bnd (or_snd ih ⟨ws', ns, false⟩ ⟨fun w hw => hsz w (by simp only at hw; simp [hw]), by simp only; omega, by simp only; omega⟩) (fun r hr => ?_)
      obtain ⟨src, h1, h2, h3⟩ := hr
      simp only at h1 h2 h3
      rcases take_cases r.2.words r.2.nodes r.2.bad (ba [41]) with ⟨ws2, hw2, ht2⟩ | ht2
      · refine Gd.bind_eq ht2 (Gd.ite (fun h => by cases h) (fun _ => Gd.ret (mkPrs (ba [40] :: (src ++ [ba [41]])) (by simp only; rw [h1, hw2]; simp) (by simp only [List.length_append, List.length_cons, List.length_nil]; omega) (fun hb => ?_))))
        obtain ⟨_, t, ht, e1, e2, e3⟩ := h3 hb
        refine ⟨rfl, t, ht, e1, e2, ?_⟩
        rw [Wm_cons, Wm_app, Wm_cons, ba_size, ba_size]
        unfold wF par
        split
        · rw [wm_cons, wm_app, wm_cons]
          simp only [List.length_cons, List.length_nil, wm, Wm, List.map_nil, List.sum_nil] at *
          omega
        · omega
      · exact Gd.bind_eq ht2 (Gd.ite (fun _ => Gd.ret (mkPrs (ba [40] :: src) (by simp only; rw [h1]; rfl) (by simp only [List.length_cons]; omega) (fun h => by cases h))) (fun h => by cases h))
    refine Gd.bind_eq ht (Gd.ite (fun h => by cases h) (fun _ => Gd.ret (mkPrs [] rfl (by simp) (fun h => by cases h))))
end Go.Sim
