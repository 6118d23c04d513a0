/-
  The text of rules.
-/
import Derived.Test.YtcepgfpbmembnaaDoorIbkD
namespace Go.Sim
open Go
set_option linter.unusedVariables false
set_option linter.unusedSimpArgs false
set_option linter.unusedSectionVars false
set_option linter.unnecessarySimpa false
open Tr

/-! ### Words -/
abbrev Wd := List UInt8
def kAlways : Wd := [97, 108, 119, 97, 121, 115]
def kNever : Wd := [110, 101, 118, 101, 114]
def kOpen : Wd := [111, 112, 101, 110]
def kClosed : Wd := [99, 108, 111, 115, 101, 100]
def kClose : Wd := [99, 108, 111, 115, 101]
def kNot : Wd := [110, 111, 116]
def kAnd : Wd := [97, 110, 100]
def kOr : Wd := [111, 114]
def kWhen : Wd := [119, 104, 101, 110]
def par (b : Bool) (w : List Wd) : List Wd := if b = true then [40] :: (w ++ [[41]]) else w
namespace Tr
def isOr : Tr → Bool
  | or _ _ => true
  | _ => false
def isAO : Tr → Bool
  | and _ _ => true
  | or _ _ => true
  | _ => false
def wds : Tr → List Wd
  | alw => [kAlways]
  | nev => [kNever]
  | opn s => [kOpen, bl s]
  | cls s => [kClosed, bl s]
  | not a => kNot :: Sim.par a.isAO a.wds
  | and a b => Sim.par a.isOr a.wds ++ kAnd :: Sim.par b.isAO b.wds
  | or a b => a.wds ++ kOr :: Sim.par b.isOr b.wds
end Tr
theorem par_ne {b : Bool} {w : List Wd} (h : w ≠ []) : par b w ≠ [] := by
  unfold par; split
  · simp
  · exact h
theorem wds_ne : ∀ t : Tr, t.wds ≠ []
  | .alw | .nev | .opn _ | .cls _ | .not _ => by simp [Tr.wds]
  | .and a b => by simp [Tr.wds]
  | .or a b => by simp [Tr.wds]
theorem joinL_cons {c : UInt8} {w : Wd} {b : List Wd} (hb : b ≠ []) : joinL c (w :: b) = w ++ c :: joinL c b := by
  cases b with
  | nil => exact absurd rfl hb
  | cons v r => rfl
theorem joinL_app {c : UInt8} : ∀ {a b : List Wd}, a ≠ [] → b ≠ [] → joinL c (a ++ b) = joinL c a ++ c :: joinL c b
  | [], b, h, _ => absurd rfl h
  | [w], b, _, hb => joinL_cons hb
  | w :: v :: r, b, _, hb => by
    rw [List.cons_append, joinL_cons (by simp), joinL_cons (by simp), joinL_app (by simp) hb]
    simp
theorem joinL_par {b : Bool} {w : List Wd} (h : w ≠ []) : joinL 32 (par b w) = if b = true then [40, 32] ++ joinL 32 w ++ [32, 41] else joinL 32 w := by
  unfold par
  split
  · rw [joinL_cons (by simp), joinL_app h (by simp)]
    simp [joinL]
  · rfl
theorem par_len {b : Bool} {w : List Wd} (h : w ≠ []) : (joinL 32 (par b w)).length ≤ (joinL 32 w).length + 4 := by
  rw [joinL_par h]
  cases b
  · show (joinL 32 w).length ≤ _; omega
  · show ([40, 32] ++ joinL 32 w ++ [32, 41]).length ≤ _
    simp only [List.length_append, List.length_cons, List.length_nil]; omega
theorem txt_len : ∀ (t : Tr), t.Ok → (joinL 32 t.wds).length ≤ 20 * t.sz
  | .alw, _ => by decide
  | .nev, _ => by decide
  | .opn s, h => by
    have h2 := (nm_facts (show Nm s from h)).2.1
    rw [← bl_len] at h2
    show (kOpen ++ 32 :: bl s).length ≤ 20
    simp only [List.length_append, List.length_cons]
    have : kOpen.length = 4 := rfl
    omega
  | .cls s, h => by
    have h2 := (nm_facts (show Nm s from h)).2.1
    rw [← bl_len] at h2
    show (kClosed ++ 32 :: bl s).length ≤ 20
    simp only [List.length_append, List.length_cons]
    have : kClosed.length = 6 := rfl
    omega
  | .not a, h => by
    have h1 := txt_len a h
    have : kNot.length = 3 := rfl
    rw [Tr.wds, joinL_cons (par_ne (wds_ne a)), joinL_par (wds_ne a)]
    simp only [Tr.sz]
    split <;> simp only [List.length_append, List.length_cons, List.length_nil] <;> omega
  | .and a b, h => by
    have h1 := txt_len a h.1; have h2 := txt_len b h.2
    have : kAnd.length = 3 := rfl
    rw [Tr.wds, joinL_app (par_ne (wds_ne a)) (by simp), joinL_cons (par_ne (wds_ne b)), joinL_par (wds_ne a), joinL_par (wds_ne b)]
    simp only [Tr.sz]
    split <;> split <;> simp only [List.length_append, List.length_cons, List.length_nil] <;> omega
  | .or a b, h => by
    have h1 := txt_len a h.1; have h2 := txt_len b h.2
    have : kOr.length = 2 := rfl
    rw [Tr.wds, joinL_app (wds_ne a) (by simp), joinL_cons (par_ne (wds_ne b)), joinL_par (wds_ne b)]
    simp only [Tr.sz]
    split <;> simp only [List.length_append, List.length_cons, List.length_nil] <;> omega

/-! ### The text of a condition -/
theorem flat_root : ∀ (t : Tr) (o : Nat), (t.flat o)[t.sz - 1]? = some (root o t)
  | .alw, _ | .nev, _ | .opn _, _ | .cls _, _ => rfl
  | .not a, o => by
    show (a.flat o ++ [_])[a.sz + 1 - 1]? = _
    rw [List.getElem?_append_right (by rw [flat_len]; omega), flat_len]; simp
  | .and a b, o => by
    show (a.flat o ++ b.flat (o + a.sz) ++ [_])[a.sz + b.sz + 1 - 1]? = _
    rw [List.getElem?_append_right (by rw [List.length_append, flat_len, flat_len]; omega), List.length_append, flat_len, flat_len]; simp
  | .or a b, o => by
    show (a.flat o ++ b.flat (o + a.sz) ++ [_])[a.sz + b.sz + 1 - 1]? = _
    rw [List.getElem?_append_right (by rw [List.length_append, flat_len, flat_len]; omega), List.length_append, flat_len, flat_len]; simp
theorem SegL.left {c : List Node} {s : Nat} {a b : List Node} (h : SegL c s (a ++ b)) : SegL c s a := fun i x hx => h i x (by rw [List.getElem?_append_left (lt_of hx)]; exact hx)
theorem SegL.right {c : List Node} {s : Nat} {a b : List Node} (h : SegL c s (a ++ b)) : SegL c (s + a.length) b := fun i x hx => by
  have := h (a.length + i) x (by rw [List.getElem?_append_right (by omega)]; simpa using hx)
  rwa [show s + (a.length + i) = s + a.length + i by omega] at this
theorem con56 (o : Nat) (t : Tr) : m_slices_Contains_int_int [5, 6] (root o t).Kind = some t.isAO := by cases t <;> rfl
theorem con6 (o : Nat) (t : Tr) : m_slices_Contains_int_int [6] (root o t).Kind = some t.isOr := by cases t <;> rfl
theorem con0 (v : Int) : m_slices_Contains_int_int [] v = some false := rfl
theorem child_eq {self : List Node → Int → Option ByteArray} {l : List Node} {s : Nat} {t : Tr} {kk : List Int} {b : Bool} {k : Int} (hk : k = ((s + t.sz - 1 : Nat) : Int)) (hs : SegL l s (t.flat s)) (hself : self l k = some (ba (joinL 32 t.wds))) (hz : (joinL 32 t.wds).length ≤ 100000)
    (hb : m_slices_Contains_int_int kk (root s t).Kind = some b) : m_interlock_text_1 self k kk l = some (ba (joinL 32 (par b t.wds))) := by
  have hp := t.pos
  have hy : l[s + t.sz - 1]? = some (root s t) := by
    have := hs _ _ (flat_root t s)
    rwa [show s + (t.sz - 1) = s + t.sz - 1 by omega] at this
  have z1 : (⟨#[40, 32]⟩ : ByteArray).size = 2 := rfl
  have z2 : (⟨#[32, 41]⟩ : ByteArray).size = 2 := rfl
  refine Gd.eq.1 ?_
  unfold m_interlock_text_1
  refine Gd.bind_eq hself (Gd.ix (by omega) (by rw [hk, Int.toNat_natCast]; exact hy) (Gd.bind_eq hb ?_))
  rw [joinL_par (wds_ne t)]
  cases b with
  | false => exact Gd.ret rfl
  | true =>
    refine Gd.nd (by rw [z1, ba_size]; simp only [maxLen]; omega) (Gd.nd (by rw [size_app, z1, z2, ba_size]; simp only [maxLen]; omega) (Gd.ret (bl_inj ?_)))
    rw [bl_app, bl_app, bl_ba]
    rfl
theorem text_eq : ∀ (n : Nat) (t : Tr) (l : List Node) (s : Nat) (k : Int), t.sz ≤ n → t.Ok → t.sz ≤ 40 → SegL l s (t.flat s) → k = ((s + t.sz - 1 : Nat) : Int) → m_interlock_text_fuel n l k = some (ba (joinL 32 t.wds)) := by
  intro n
  induction n with
  | zero => intro t l s k h; have := t.pos; omega
  | succ n ih =>
    intro t l s k h hok h40 hs hk
    have hp := t.pos
    have hy : l[k.toNat]? = some (root s t) := by
      have := hs _ _ (flat_root t s)
      rwa [show s + (t.sz - 1) = s + t.sz - 1 by omega, ← Int.toNat_natCast (s + t.sz - 1), ← hk] at this
    show m_interlock_text_step (m_interlock_text_fuel n) l k = _
    refine Gd.eq.1 ?_
    unfold m_interlock_text_step
    refine Gd.ix (by omega) hy ?_
    cases t with
    | alw => exact Gd.ret rfl
    | nev => exact Gd.ret rfl
    | opn x =>
      have h2 := (nm_facts (show Nm x from hok)).2.1
      refine Gd.nd ?_ (Gd.ret (bl_inj ?_))
      · show 5 + x.size ≤ maxLen
        simp only [maxLen]; omega
      · rw [bl_app]; rfl
    | cls x =>
      have h2 := (nm_facts (show Nm x from hok)).2.1
      refine Gd.nd ?_ (Gd.ret (bl_inj ?_))
      · show 7 + x.size ≤ maxLen
        simp only [maxLen]; omega
      · rw [bl_app]; rfl
    | not a =>
      have hp := a.pos
      have ez : (Tr.not a).sz = a.sz + 1 := rfl
      rw [ez] at h h40 hk
      have hsa : SegL l s (a.flat s) := SegL.left (b := [root s (.not a)]) hs
      have hla := txt_len a hok
      have e1 : (s : Int) + a.sz - 1 = ((s + a.sz - 1 : Nat) : Int) := by omega
      have hc := child_eq (self := m_interlock_text_fuel n) (k := (s : Int) + a.sz - 1) e1 hsa (ih a l s _ (by omega) hok (by omega) hsa e1) (by omega) (con56 s a)
      have hpl : (joinL 32 (par a.isAO a.wds)).length ≤ 1000 := Nat.le_trans (par_len (wds_ne a)) (by omega)
      refine Gd.bind_eq hc (Gd.nd ?_ (Gd.ret (bl_inj ?_)))
      · show 4 + (ba _).size ≤ maxLen
        rw [ba_size]; simp only [maxLen]; omega
      · rw [bl_app, bl_ba, bl_ba, Tr.wds, joinL_cons (par_ne (wds_ne a))]
        rfl
    | and a b =>
      have hp := a.pos; have hpb := b.pos
      have ez : (Tr.and a b).sz = a.sz + b.sz + 1 := rfl
      rw [ez] at h h40 hk
      have hs' : SegL l s ((a.flat s ++ b.flat (s + a.sz)) ++ [root s (.and a b)]) := hs
      have hsa : SegL l s (a.flat s) := hs'.left.left
      have hsb : SegL l (s + a.sz) (b.flat (s + a.sz)) := by have := hs'.left.right; rwa [flat_len] at this
      have hla := txt_len a hok.1; have hlb := txt_len b hok.2
      have e1 : (s : Int) + a.sz - 1 = ((s + a.sz - 1 : Nat) : Int) := by omega
      have e2 : (s : Int) + a.sz + b.sz - 1 = ((s + a.sz + b.sz - 1 : Nat) : Int) := by omega
      have hc1 := child_eq (self := m_interlock_text_fuel n) (k := (s : Int) + a.sz - 1) e1 hsa (ih a l s _ (by omega) hok.1 (by omega) hsa e1) (by omega) (con6 s a)
      have hc2 := child_eq (self := m_interlock_text_fuel n) (k := (s : Int) + a.sz + b.sz - 1) e2 hsb (ih b l _ _ (by omega) hok.2 (by omega) hsb e2) (by omega) (con56 (s + a.sz) b)
      have hp1 : (joinL 32 (par a.isOr a.wds)).length ≤ 1000 := Nat.le_trans (par_len (wds_ne a)) (by omega)
      have hp2 : (joinL 32 (par b.isAO b.wds)).length ≤ 1000 := Nat.le_trans (par_len (wds_ne b)) (by omega)
      have z : (⟨#[32, 97, 110, 100, 32]⟩ : ByteArray).size = 5 := rfl
      refine Gd.bind_eq hc1 (Gd.nd ?_ (Gd.bind_eq hc2 (Gd.nd ?_ (Gd.ret (bl_inj ?_)))))
      · rw [z, ba_size]; simp only [maxLen]; omega
      · rw [size_app, z, ba_size, ba_size]; simp only [maxLen]; omega
      · rw [bl_app, bl_app, bl_ba, bl_ba, bl_ba, Tr.wds, joinL_app (par_ne (wds_ne a)) (by simp), joinL_cons (par_ne (wds_ne b))]
        show joinL 32 (par a.isOr a.wds) ++ [32, 97, 110, 100, 32] ++ _ = _ ++ 32 :: (kAnd ++ 32 :: _)
        simp [kAnd]
    | or a b =>
      have hp := a.pos; have hpb := b.pos
      have ez : (Tr.or a b).sz = a.sz + b.sz + 1 := rfl
      rw [ez] at h h40 hk
      have hs' : SegL l s ((a.flat s ++ b.flat (s + a.sz)) ++ [root s (.or a b)]) := hs
      have hsa : SegL l s (a.flat s) := hs'.left.left
      have hsb : SegL l (s + a.sz) (b.flat (s + a.sz)) := by have := hs'.left.right; rwa [flat_len] at this
      have hla := txt_len a hok.1; have hlb := txt_len b hok.2
      have e1 : (s : Int) + a.sz - 1 = ((s + a.sz - 1 : Nat) : Int) := by omega
      have e2 : (s : Int) + a.sz + b.sz - 1 = ((s + a.sz + b.sz - 1 : Nat) : Int) := by omega
      have hc1 := child_eq (self := m_interlock_text_fuel n) (k := (s : Int) + a.sz - 1) (b := false) e1 hsa (ih a l s _ (by omega) hok.1 (by omega) hsa e1) (by omega) (con0 _)
      have hc2 := child_eq (self := m_interlock_text_fuel n) (k := (s : Int) + a.sz + b.sz - 1) e2 hsb (ih b l _ _ (by omega) hok.2 (by omega) hsb e2) (by omega) (con6 (s + a.sz) b)
      have hp1 : (joinL 32 (par false a.wds)).length ≤ 1000 := by show (joinL 32 a.wds).length ≤ 1000; omega
      have hp2 : (joinL 32 (par b.isOr b.wds)).length ≤ 1000 := Nat.le_trans (par_len (wds_ne b)) (by omega)
      have z : (⟨#[32, 111, 114, 32]⟩ : ByteArray).size = 4 := rfl
      refine Gd.bind_eq hc1 (Gd.nd ?_ (Gd.bind_eq hc2 (Gd.nd ?_ (Gd.ret (bl_inj ?_)))))
      · rw [z, ba_size]; simp only [maxLen]; omega
      · rw [size_app, z, ba_size, ba_size]; simp only [maxLen]; omega
      · rw [bl_app, bl_app, bl_ba, bl_ba, bl_ba, Tr.wds, joinL_app (wds_ne a) (by simp), joinL_cons (par_ne (wds_ne b))]
        show joinL 32 a.wds ++ [32, 111, 114, 32] ++ _ = _ ++ 32 :: (kOr ++ 32 :: _)
        simp [kOr]
end Go.Sim
