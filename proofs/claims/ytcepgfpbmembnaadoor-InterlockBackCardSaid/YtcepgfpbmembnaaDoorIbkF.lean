/-
  What was printed is parsed.
-/
import Derived.Test.YtcepgfpbmembnaaDoorIbkE
namespace Go.Sim
open Go
set_option linter.unusedVariables false
set_option linter.unusedSimpArgs false
set_option linter.unusedSectionVars false
set_option linter.unnecessarySimpa false
open Tr

abbrev Ps := S_interlock_parser
theorem take_hit (k : ByteArray) (ws : List ByteArray) (ns : List Node) (b : Bool) : m_interlock_parser_take ⟨k :: ws, ns, b⟩ k = some (true, ⟨ws, ns, b⟩) := by
  refine Gd.eq.1 ?_
  unfold m_interlock_parser_take
  refine Gd.ite (fun _ => Gd.ix (y := k) (by omega) rfl (Gd.ite (fun _ => Gd.nd ⟨by omega, by simp; omega⟩ (Gd.ret ?_)) (fun h => by simp at h))) (fun h => by simp at h)
  simp [slc]
theorem take_miss {w k : ByteArray} (h : w ≠ k) (ws : List ByteArray) (ns : List Node) (b : Bool) : m_interlock_parser_take ⟨w :: ws, ns, b⟩ k = some (false, ⟨w :: ws, ns, b⟩) := by
  refine Gd.eq.1 ?_
  unfold m_interlock_parser_take
  refine Gd.ite (fun _ => Gd.ix (y := w) (by omega) rfl (Gd.ite (fun h' => by simp at h'; exact absurd h' h) (fun _ => Gd.ret rfl))) (fun h => Gd.ret rfl)
theorem take_nil (k : ByteArray) (ns : List Node) (b : Bool) : m_interlock_parser_take ⟨[], ns, b⟩ k = some (false, ⟨[], ns, b⟩) := rfl
theorem take_none {ws : List ByteArray} {k : ByteArray} (h : ∀ r, ws ≠ k :: r) (ns : List Node) (b : Bool) : m_interlock_parser_take ⟨ws, ns, b⟩ k = some (false, ⟨ws, ns, b⟩) := by
  cases ws with
  | nil => rfl
  | cons w r => exact take_miss (fun e => h r (by rw [e])) r ns b
theorem pname_ok {w : ByteArray} (h : Nm w) (ws : List ByteArray) (ns : List Node) (b : Bool) : m_interlock_parser_name ⟨w :: ws, ns, b⟩ = some (w, ⟨ws, ns, b⟩) := by
  refine Gd.eq.1 ?_
  unfold m_interlock_parser_name
  refine Gd.ite (fun h => by simp at h; omega) (fun _ => Gd.ix (y := w) (by omega) rfl (Gd.bind_eq (show m_netmodel_Name w = some true from h) (Gd.ite (fun h => by cases h) (fun _ => Gd.ix (y := w) (by omega) rfl (Gd.nd ⟨by omega, by simp; omega⟩ (Gd.ret ?_))))))
  simp [slc]
theorem add_eq {ns : List Node} (h : ns.length ≤ 1000000) (ws : List ByteArray) (b : Bool) (x : Node) : m_interlock_parser_add ⟨ws, ns, b⟩ x = some ((ns.length : Int), ⟨ws, ns ++ [x], b⟩) := by
  refine Gd.eq.1 ?_
  unfold m_interlock_parser_add
  refine Gd.nd (by simp; omega) (Gd.ret ?_)
  have : IntKind.i64.wrap (((ns ++ [x]).length : Int) - 1) = (ns.length : Int) := by
    rw [wrap_id (by simp; omega)]; simp
  rw [this]

def wF (t : Tr) : List Wd := par t.isAO t.wds
def wA (t : Tr) : List Wd := par t.isOr t.wds
def fin (t : Tr) (ns : List Node) (rest : List ByteArray) : Int × Ps := ((ns.length : Int) + t.sz - 1, ⟨rest, ns ++ t.flat ns.length, false⟩)
abbrev F := m_interlock_parser_factor_fuel
abbrev BA (self : Ps → Option (Int × Ps)) : (Int × (List ByteArray) × List Node × Bool) → ((Int × (List ByteArray) × List Node × Bool) → Option (Int × Ps)) → Option (Int × Ps) :=
  fun s358 n => m_interlock_parser_chain__interlock_parser_factorS0_b3 self (ba kAnd) 5 s358.1 s358.2.1 s358.2.2.1 s358.2.2.2 n
abbrev BO (self : Ps → Option (Int × Ps)) : (Int × (List ByteArray) × List Node × Bool) → ((Int × (List ByteArray) × List Node × Bool) → Option (Int × Ps)) → Option (Int × Ps) :=
  fun s358 n => m_interlock_parser_chain__interlock_parser_andS0_b3 self (ba kOr) 6 s358.1 s358.2.1 s358.2.2.1 s358.2.2.2 n
abbrev st (t : Tr) (ns : List Node) (rest : List ByteArray) : Int × (List ByteArray) × List Node × Bool := ((ns.length : Int) + t.sz - 1, rest, ns ++ t.flat ns.length, false)

def S1 (t : Tr) : Prop := ∀ (n : Nat) (rest : List ByteArray) (ns : List Node), (wF t).length + rest.length < n → (wF t).length + rest.length ≤ 1000000 → ns.length + t.sz ≤ 100000 → F n ⟨(wF t).map ba ++ rest, ns, false⟩ = some (fin t ns rest)
def S2 (t : Tr) : Prop := ∀ (n : Nat) (rest : List ByteArray) (ns : List Node) (Q : Int × Ps → Prop), (wA t).length + rest.length < n → (wA t).length + rest.length ≤ 1000000 → ns.length + t.sz ≤ 100000 →
  (∀ m, rest.length < m → Gd (loopF (BA (F n)) m (st t ns rest)) Q) → Gd (m_interlock_parser_chain__interlock_parser_factorS0 (F n) ⟨(wA t).map ba ++ rest, ns, false⟩ (ba kAnd) 5) Q
def S3 (t : Tr) : Prop := ∀ (n : Nat) (rest : List ByteArray) (ns : List Node) (Q : Int × Ps → Prop), (t.wds).length + rest.length < n → (t.wds).length + rest.length ≤ 1000000 → ns.length + t.sz ≤ 100000 → (∀ r, rest ≠ ba kAnd :: r) →
  (∀ m, rest.length < m → Gd (loopF (BO (F n)) m (st t ns rest)) Q) → Gd (m_interlock_parser_chain__interlock_parser_andS0 (F n) ⟨(t.wds).map ba ++ rest, ns, false⟩ (ba kOr) 6) Q

theorem endA {self : Ps → Option (Int × Ps)} {m : Nat} {t : Tr} {ns : List Node} {rest : List ByteArray} (h : ∀ r, rest ≠ ba kAnd :: r) (hm : 0 < m) : Gd (loopF (BA self) m (st t ns rest)) (fun r => r = fin t ns rest) := by
  obtain ⟨m, rfl⟩ : ∃ q, m = q + 1 := ⟨m - 1, by omega⟩
  show Gd (m_interlock_parser_chain__interlock_parser_factorS0_b3 self (ba kAnd) 5 _ rest _ false _) _
  unfold m_interlock_parser_chain__interlock_parser_factorS0_b3
  exact Gd.ite (fun h => by cases h) (fun _ => Gd.bind_eq (take_none h _ _) (Gd.ite (fun h => by cases h) (fun _ => Gd.ret rfl)))
theorem endO {self : Ps → Option (Int × Ps)} {m : Nat} {t : Tr} {ns : List Node} {rest : List ByteArray} (h : ∀ r, rest ≠ ba kOr :: r) (hm : 0 < m) : Gd (loopF (BO self) m (st t ns rest)) (fun r => r = fin t ns rest) := by
  obtain ⟨m, rfl⟩ : ∃ q, m = q + 1 := ⟨m - 1, by omega⟩
  show Gd (m_interlock_parser_chain__interlock_parser_andS0_b3 self (ba kOr) 6 _ rest _ false _) _
  unfold m_interlock_parser_chain__interlock_parser_andS0_b3
  exact Gd.ite (fun h => by cases h) (fun _ => Gd.bind_eq (take_none h _ _) (Gd.ite (fun h => by cases h) (fun _ => Gd.ret rfl)))
theorem and_ok {t : Tr} (h : S2 t) {n : Nat} {rest : List ByteArray} {ns : List Node} (h1 : (wA t).length + rest.length < n) (h2 : (wA t).length + rest.length ≤ 1000000) (h3 : ns.length + t.sz ≤ 100000) (hr : ∀ r, rest ≠ ba kAnd :: r) :
    m_interlock_parser_and (F n) ⟨(wA t).map ba ++ rest, ns, false⟩ = some (fin t ns rest) := by
  refine Gd.eq.1 ?_
  unfold m_interlock_parser_and
  exact Gd.bnd (h n rest ns (fun r => r = fin t ns rest) h1 h2 h3 (fun m hm => endA hr (by omega))) (fun r hr => Gd.ret (by rw [hr]))
theorem or_ok {t : Tr} (h : S3 t) {n : Nat} {rest : List ByteArray} {ns : List Node} (h1 : (t.wds).length + rest.length < n) (h2 : (t.wds).length + rest.length ≤ 1000000) (h3 : ns.length + t.sz ≤ 100000) (hr : ∀ r, rest ≠ ba kAnd :: r) (hr2 : ∀ r, rest ≠ ba kOr :: r) :
    m_interlock_parser_or (F n) ⟨(t.wds).map ba ++ rest, ns, false⟩ = some (fin t ns rest) := by
  refine Gd.eq.1 ?_
  unfold m_interlock_parser_or
  exact Gd.bnd (h n rest ns (fun r => r = fin t ns rest) h1 h2 h3 hr (fun m hm => endO hr2 (by omega))) (fun r hr => Gd.ret (by rw [hr]))
/-- A chain whose first part is the whole. -/
theorem s2_of {t : Tr} (h : S1 t) (he : wA t = wF t) : S2 t := fun n rest ns Q h1 h2 h3 hk => by
  unfold m_interlock_parser_chain__interlock_parser_factorS0
  rw [he] at h1 h2 ⊢
  exact Gd.bind_eq (h n rest ns h1 h2 h3) (hk FUEL (by simp only [FUEL]; omega))
theorem s3_of {t : Tr} (h : S2 t) (he : t.wds = wA t) : S3 t := fun n rest ns Q h1 h2 h3 hr hk => by
  unfold m_interlock_parser_chain__interlock_parser_andS0
  rw [he] at h1 h2 ⊢
  exact Gd.bind_eq (and_ok h h1 h2 h3 hr) (hk FUEL (by simp only [FUEL]; omega))
theorem s1_paren {t : Tr} (h : S3 t) (he : t.isAO = true) : S1 t := fun n rest ns h1 h2 h3 => by
  obtain ⟨n, rfl⟩ : ∃ q, n = q + 1 := ⟨n - 1, by omega⟩
  have hw : wF t = [40] :: (t.wds ++ [[41]]) := by unfold wF par; rw [if_pos he]
  rw [hw] at h1 h2 ⊢
  have e : ([40] :: (t.wds ++ [[41]])).map ba ++ rest = ba [40] :: (t.wds.map ba ++ (ba [41] :: rest)) := by simp
  rw [e]
  refine Gd.eq.1 ?_
  show Gd (m_interlock_parser_factor_step (F n) _) _
  unfold m_interlock_parser_factor_step
  have m : ∀ k : ByteArray, ba [40] ≠ k → ∀ (ws : List ByteArray), m_interlock_parser_take ⟨ba [40] :: ws, ns, false⟩ k = some (false, ⟨ba [40] :: ws, ns, false⟩) := fun k hk ws => take_miss hk ws ns false
  refine Gd.ite (fun h => by cases h) (fun _ => ?_)
  refine Gd.bind_eq (m _ (by decide) _) (Gd.ite (fun h => by cases h) (fun _ => ?_))
  refine Gd.bind_eq (m _ (by decide) _) (Gd.ite (fun h => by cases h) (fun _ => ?_))
  refine Gd.bind_eq (m _ (by decide) _) (Gd.ite (fun h => by cases h) (fun _ => ?_))
  refine Gd.bind_eq (m _ (by decide) _) (Gd.ite (fun h => by cases h) (fun _ => ?_))
  refine Gd.bind_eq (m _ (by decide) _) (Gd.ite (fun h => by cases h) (fun _ => ?_))
  refine Gd.bind_eq (take_hit (ba [40]) _ _ _) (Gd.ite (fun _ => ?_) (fun h => by cases h))
  simp only [List.length_cons, List.length_append, List.length_nil] at h1 h2
  refine Gd.bind_eq (or_ok h (by simp only [List.length_cons]; omega) (by simp only [List.length_cons]; omega) h3 (fun r => by intro hh; exact absurd (List.cons.inj hh).1 (by decide)) (fun r => by intro hh; exact absurd (List.cons.inj hh).1 (by decide))) ?_
  refine Gd.bind_eq (take_hit (ba [41]) _ _ _) (Gd.ite (fun h => by cases h) (fun _ => Gd.ret rfl))
theorem fac_all : ∀ t : Tr, t.Ok → S1 t ∧ S2 t ∧ S3 t := by
  have atom : ∀ {t : Tr}, t.isAO = false → t.isOr = false → S1 t → S1 t ∧ S2 t ∧ S3 t := fun {t} h1 h2 h => by
    have a : wA t = wF t := by unfold wA wF; rw [h1, h2]
    have b : t.wds = wA t := by unfold wA; rw [h2]; rfl
    exact ⟨h, s2_of h a, s3_of (s2_of h a) b⟩
  intro t
  induction t with
  | alw =>
    intro _
    refine atom rfl rfl (fun n rest ns h1 h2 h3 => ?_)
    obtain ⟨n, rfl⟩ : ∃ q, n = q + 1 := ⟨n - 1, by omega⟩
    have h3 : ns.length + 1 ≤ 100000 := h3
    refine Gd.eq.1 ?_
    show Gd (m_interlock_parser_factor_step (F n) ⟨ba kAlways :: rest, ns, false⟩) _
    unfold m_interlock_parser_factor_step
    refine Gd.ite (fun h => by cases h) (fun _ => Gd.bind_eq (take_hit (ba kAlways) _ _ _) (Gd.ite (fun _ => Gd.bind_eq (add_eq (by omega) _ _ _) (Gd.ret ?_)) (fun h => by cases h)))
    unfold fin
    have : (ns.length : Int) + (Tr.alw.sz : Int) - 1 = ns.length := by show (ns.length : Int) + 1 - 1 = _; omega
    rw [this]; rfl
  | nev =>
    intro _
    refine atom rfl rfl (fun n rest ns h1 h2 h3 => ?_)
    obtain ⟨n, rfl⟩ : ∃ q, n = q + 1 := ⟨n - 1, by omega⟩
    have h3 : ns.length + 1 ≤ 100000 := h3
    refine Gd.eq.1 ?_
    show Gd (m_interlock_parser_factor_step (F n) ⟨ba kNever :: rest, ns, false⟩) _
    unfold m_interlock_parser_factor_step
    refine Gd.ite (fun h => by cases h) (fun _ => Gd.bind_eq (take_miss (by decide) _ _ _) (Gd.ite (fun h => by cases h) (fun _ => Gd.bind_eq (take_hit (ba kNever) _ _ _) (Gd.ite (fun _ => Gd.bind_eq (add_eq (by omega) _ _ _) (Gd.ret ?_)) (fun h => by cases h)))))
    unfold fin
    have : (ns.length : Int) + (Tr.nev.sz : Int) - 1 = ns.length := by show (ns.length : Int) + 1 - 1 = _; omega
    rw [this]; rfl
  | opn s =>
    intro hs
    refine atom rfl rfl (fun n rest ns h1 h2 h3 => ?_)
    obtain ⟨n, rfl⟩ : ∃ q, n = q + 1 := ⟨n - 1, by omega⟩
    have h3 : ns.length + 1 ≤ 100000 := h3
    refine Gd.eq.1 ?_
    show Gd (m_interlock_parser_factor_step (F n) ⟨ba kOpen :: ba (bl s) :: rest, ns, false⟩) _
    rw [ba_bl]
    unfold m_interlock_parser_factor_step
    refine Gd.ite (fun h => by cases h) (fun _ => Gd.bind_eq (take_miss (by decide) _ _ _) (Gd.ite (fun h => by cases h) (fun _ => Gd.bind_eq (take_miss (by decide) _ _ _) (Gd.ite (fun h => by cases h) (fun _ => Gd.bind_eq (take_hit (ba kOpen) _ _ _) (Gd.ite (fun _ => Gd.bind_eq (pname_ok hs _ _ _) (Gd.bind_eq (add_eq (by omega) _ _ _) (Gd.ret ?_))) (fun h => by cases h)))))))
    unfold fin
    have : (ns.length : Int) + ((Tr.opn s).sz : Int) - 1 = ns.length := by show (ns.length : Int) + 1 - 1 = _; omega
    rw [this]; rfl
  | cls s =>
    intro hs
    refine atom rfl rfl (fun n rest ns h1 h2 h3 => ?_)
    obtain ⟨n, rfl⟩ : ∃ q, n = q + 1 := ⟨n - 1, by omega⟩
    have h3 : ns.length + 1 ≤ 100000 := h3
    refine Gd.eq.1 ?_
    show Gd (m_interlock_parser_factor_step (F n) ⟨ba kClosed :: ba (bl s) :: rest, ns, false⟩) _
    rw [ba_bl]
    unfold m_interlock_parser_factor_step
    refine Gd.ite (fun h => by cases h) (fun _ => Gd.bind_eq (take_miss (by decide) _ _ _) (Gd.ite (fun h => by cases h) (fun _ => Gd.bind_eq (take_miss (by decide) _ _ _) (Gd.ite (fun h => by cases h) (fun _ => Gd.bind_eq (take_miss (by decide) _ _ _) (Gd.ite (fun h => by cases h) (fun _ => Gd.bind_eq (take_hit (ba kClosed) _ _ _) (Gd.ite (fun _ => Gd.bind_eq (pname_ok hs _ _ _) (Gd.bind_eq (add_eq (by omega) _ _ _) (Gd.ret ?_))) (fun h => by cases h)))))))))
    unfold fin
    have : (ns.length : Int) + ((Tr.cls s).sz : Int) - 1 = ns.length := by show (ns.length : Int) + 1 - 1 = _; omega
    rw [this]; rfl
  | not a iha =>
    intro hs
    obtain ⟨a1, _, _⟩ := iha hs
    refine atom rfl rfl (fun n rest ns h1 h2 h3 => ?_)
    obtain ⟨n, rfl⟩ : ∃ q, n = q + 1 := ⟨n - 1, by omega⟩
    have h3 : ns.length + (a.sz + 1) ≤ 100000 := h3
    have h1 : (wF a).length + 1 + rest.length < n + 1 := h1
    have h2 : (wF a).length + 1 + rest.length ≤ 1000000 := h2
    have hfl := flat_len a ns.length
    refine Gd.eq.1 ?_
    show Gd (m_interlock_parser_factor_step (F n) ⟨ba kNot :: ((wF a).map ba ++ rest), ns, false⟩) _
    unfold m_interlock_parser_factor_step
    refine Gd.ite (fun h => by cases h) (fun _ => Gd.bind_eq (take_miss (by decide) _ _ _) (Gd.ite (fun h => by cases h) (fun _ => Gd.bind_eq (take_miss (by decide) _ _ _) (Gd.ite (fun h => by cases h) (fun _ => Gd.bind_eq (take_miss (by decide) _ _ _) (Gd.ite (fun h => by cases h) (fun _ => Gd.bind_eq (take_miss (by decide) _ _ _) (Gd.ite (fun h => by cases h) (fun _ => Gd.bind_eq (take_hit (ba kNot) _ _ _) (Gd.ite (fun _ => Gd.bind_eq (a1 n rest ns (by omega) (by omega) (by omega)) (Gd.bind_eq (add_eq (ns := ns ++ a.flat ns.length) (by rw [List.length_append, hfl]; omega) rest false _) (Gd.ret ?_))) (fun h => by cases h)))))))))))
    unfold fin
    have : (ns.length : Int) + ((Tr.not a).sz : Int) - 1 = ((ns ++ a.flat ns.length).length : Int) := by
      rw [List.length_append, hfl]; show (ns.length : Int) + ((a.sz + 1 : Nat) : Int) - 1 = _; omega
    rw [this]
    simp only [List.append_assoc]
    rfl
  | and a b iha ihb =>
    intro hs
    obtain ⟨_, a2, _⟩ := iha hs.1
    obtain ⟨b1, _, _⟩ := ihb hs.2
    have s2 : S2 (.and a b) := fun n rest ns Q h1 h2 h3 hk => by
      have h3 : ns.length + (a.sz + b.sz + 1) ≤ 100000 := h3
      have hfa := flat_len a ns.length
      have hfb := flat_len b (ns ++ a.flat ns.length).length
      have hla : (ns ++ a.flat ns.length).length = ns.length + a.sz := by rw [List.length_append, hfa]
      have e : (wA (.and a b)).map ba ++ rest = (wA a).map ba ++ (ba kAnd :: ((wF b).map ba ++ rest)) := by
        show ((wA a ++ kAnd :: wF b).map ba) ++ rest = _
        simp
      have el : (wA (.and a b)).length = (wA a).length + 1 + (wF b).length := by
        show (wA a ++ kAnd :: wF b).length = _
        simp; omega
      rw [el] at h1 h2
      rw [e]
      refine a2 n _ ns Q (by simp; omega) (by simp; omega) (by omega) (fun m hm => ?_)
      simp only [List.length_cons, List.length_append, List.length_map] at hm
      obtain ⟨m, rfl⟩ : ∃ q, m = q + 1 := ⟨m - 1, by omega⟩
      show Gd (m_interlock_parser_chain__interlock_parser_factorS0_b3 (F n) (ba kAnd) 5 _ _ _ false (loopF (BA (F n)) m)) _
      unfold m_interlock_parser_chain__interlock_parser_factorS0_b3
      refine Gd.ite (fun h => by cases h) (fun _ => Gd.bind_eq (take_hit (ba kAnd) _ _ _) (Gd.ite (fun _ => Gd.bind_eq (b1 n rest _ (by omega) (by omega) (by rw [hla]; omega)) (Gd.bind_eq (add_eq (ns := (ns ++ a.flat ns.length) ++ b.flat (ns ++ a.flat ns.length).length) (by rw [List.length_append, hfb, hla]; omega) rest false _) ?_)) (fun h => by cases h)))
      have := hk m (by omega)
      have e1 : ((((ns ++ a.flat ns.length) ++ b.flat (ns ++ a.flat ns.length).length).length : Nat) : Int) = (ns.length : Int) + ((Tr.and a b).sz : Int) - 1 := by
        rw [List.length_append, hfb, hla]; show _ = (ns.length : Int) + ((a.sz + b.sz + 1 : Nat) : Int) - 1; omega
      have e2 : ((ns ++ a.flat ns.length).length : Int) + (b.sz : Int) - 1 = (ns.length : Int) + a.sz + b.sz - 1 := by rw [hla]; omega
      show Gd (loopF (BA (F n)) m (((((ns ++ a.flat ns.length) ++ b.flat (ns ++ a.flat ns.length).length).length : Nat) : Int), rest, ((ns ++ a.flat ns.length) ++ b.flat (ns ++ a.flat ns.length).length) ++ [S_api_InterlockNode.mk 5 ⟨#[]⟩ ((ns.length : Int) + a.sz - 1) (((ns ++ a.flat ns.length).length : Int) + (b.sz : Int) - 1)], false)) Q
      rw [e1, e2, hla]
      have e3 : ((ns ++ a.flat ns.length) ++ b.flat (ns.length + a.sz)) ++ [S_api_InterlockNode.mk 5 ⟨#[]⟩ ((ns.length : Int) + a.sz - 1) ((ns.length : Int) + a.sz + b.sz - 1)] = ns ++ (Tr.and a b).flat ns.length := by
        show _ = ns ++ (a.flat ns.length ++ b.flat (ns.length + a.sz) ++ [root ns.length (.and a b)])
        simp only [List.append_assoc]
        rfl
      rw [e3]
      exact this
    have s3 : S3 (.and a b) := s3_of s2 rfl
    exact ⟨s1_paren s3 rfl, s2, s3⟩
  | or a b iha ihb =>
    intro hs
    obtain ⟨_, _, a3⟩ := iha hs.1
    obtain ⟨_, b2, _⟩ := ihb hs.2
    have s3 : S3 (.or a b) := fun n rest ns Q h1 h2 h3 hr hk => by
      have h3 : ns.length + (a.sz + b.sz + 1) ≤ 100000 := h3
      have hfa := flat_len a ns.length
      have hfb := flat_len b (ns ++ a.flat ns.length).length
      have hla : (ns ++ a.flat ns.length).length = ns.length + a.sz := by rw [List.length_append, hfa]
      have e : ((Tr.or a b).wds).map ba ++ rest = (a.wds).map ba ++ (ba kOr :: ((wA b).map ba ++ rest)) := by
        show ((a.wds ++ kOr :: wA b).map ba) ++ rest = _
        simp
      have el : ((Tr.or a b).wds).length = (a.wds).length + 1 + (wA b).length := by
        show (a.wds ++ kOr :: wA b).length = _
        simp; omega
      rw [el] at h1 h2
      rw [e]
      refine a3 n _ ns Q (by simp; omega) (by simp; omega) (by omega) (fun r hh => absurd (List.cons.inj hh).1 (by decide)) (fun m hm => ?_)
      simp only [List.length_cons, List.length_append, List.length_map] at hm
      obtain ⟨m, rfl⟩ : ∃ q, m = q + 1 := ⟨m - 1, by omega⟩
      show Gd (m_interlock_parser_chain__interlock_parser_andS0_b3 (F n) (ba kOr) 6 _ _ _ false (loopF (BO (F n)) m)) _
      unfold m_interlock_parser_chain__interlock_parser_andS0_b3
      refine Gd.ite (fun h => by cases h) (fun _ => Gd.bind_eq (take_hit (ba kOr) _ _ _) (Gd.ite (fun _ => Gd.bind_eq (and_ok b2 (by omega) (by omega) (by rw [hla]; omega) hr) (Gd.bind_eq (add_eq (ns := (ns ++ a.flat ns.length) ++ b.flat (ns ++ a.flat ns.length).length) (by rw [List.length_append, hfb, hla]; omega) rest false _) ?_)) (fun h => by cases h)))
      have := hk m (by omega)
      have e1 : ((((ns ++ a.flat ns.length) ++ b.flat (ns ++ a.flat ns.length).length).length : Nat) : Int) = (ns.length : Int) + ((Tr.or a b).sz : Int) - 1 := by
        rw [List.length_append, hfb, hla]; show _ = (ns.length : Int) + ((a.sz + b.sz + 1 : Nat) : Int) - 1; omega
      have e2 : ((ns ++ a.flat ns.length).length : Int) + (b.sz : Int) - 1 = (ns.length : Int) + a.sz + b.sz - 1 := by rw [hla]; omega
      show Gd (loopF (BO (F n)) m (((((ns ++ a.flat ns.length) ++ b.flat (ns ++ a.flat ns.length).length).length : Nat) : Int), rest, ((ns ++ a.flat ns.length) ++ b.flat (ns ++ a.flat ns.length).length) ++ [S_api_InterlockNode.mk 6 ⟨#[]⟩ ((ns.length : Int) + a.sz - 1) (((ns ++ a.flat ns.length).length : Int) + (b.sz : Int) - 1)], false)) Q
      rw [e1, e2, hla]
      have e3 : ((ns ++ a.flat ns.length) ++ b.flat (ns.length + a.sz)) ++ [S_api_InterlockNode.mk 6 ⟨#[]⟩ ((ns.length : Int) + a.sz - 1) ((ns.length : Int) + a.sz + b.sz - 1)] = ns ++ (Tr.or a b).flat ns.length := by
        show _ = ns ++ (a.flat ns.length ++ b.flat (ns.length + a.sz) ++ [root ns.length (.or a b)])
        simp only [List.append_assoc]
        rfl
      rw [e3]
      exact this
    have s1 : S1 (.or a b) := s1_paren s3 rfl
    exact ⟨s1, s2_of s1 rfl, s3⟩
end Go.Sim
