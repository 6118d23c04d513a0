/-
  The proof, part F1.
-/
import Derived.Lib.ItoaNum
import Derived.Lib.ParseIntB
import Derived.KernelRfl
import Derived.Test.YtolgkppopmgmjaaGreatDoorSqA2
set_option linter.unusedVariables false
set_option linter.unusedSimpArgs false
set_option linter.unusedSectionVars false
set_option linter.unnecessarySimpa false
namespace Go.Sim
abbrev JY := @BitVec.ofInt_natCast
abbrev JZ := @BitVec.toNat_ofNat
abbrev J0 := @Bool.eq_false_or_eq_true
abbrev J1 := @Bool.or_eq_false_iff
abbrev J3 := @Int.mul_add
abbrev J4 := @Int.mul_assoc
abbrev J5 := @Int.mul_sub
abbrev J6 := @Int.natCast_add
abbrev J8 := @Go.Lib.decDigits_one
abbrev Ka := @List.drop_of_length_le
abbrev Kb := @List.eq_nil_or_concat
abbrev Ke := @List.getLast?_eq_getElem?
abbrev Kf := @List.head?_cons
abbrev Kg := @List.length_eq_one_iff
abbrev Kh := @List.length_nil
abbrev Ki := @List.length_pos_iff
abbrev Kj := @List.mem_or_eq_of_mem_set
abbrev Kk := @List.mem_replicate
abbrev Km := @Nat.and_two_pow_sub_one_eq_mod
abbrev Kn := @Nat.div_eq_of_lt
abbrev Ko := @Nat.div_lt_iff_lt_mul
abbrev Kp := @Nat.le_div_iff_mul_le
abbrev Kq := @Nat.lt_of_lt_of_le
abbrev Kr := @Nat.lt_of_mul_lt_mul_left
abbrev Ks := @Nat.mod_add_div
abbrev Kt := @Nat.mul_add
abbrev Ku := @Nat.mul_assoc
abbrev Kv := @Nat.mul_comm
abbrev Kw := @Nat.mul_le_mul_left
abbrev Kx := @Nat.mul_zero
abbrev Ky := @Nat.pow_add
abbrev Kz := @Nat.pow_le_pow_left
abbrev KA := @Nat.pow_le_pow_right
abbrev KB := @Nat.pow_lt_pow_iff_right
abbrev KC := @Nat.pow_mul
abbrev KD := @Nat.pow_pos
abbrev KE := @Nat.pow_succ
abbrev KF := @Nat.pow_zero
abbrev KJ := @Rat.div_def
abbrev KL := @Rat.intCast_mul
abbrev KM := @Rat.intCast_neg
abbrev KN := @Rat.le_refl
abbrev KO := @Rat.le_trans
abbrev KP := @Rat.mul_eq_zero
abbrev KQ := @Rat.mul_inv_cancel
abbrev KS := @Rat.mul_le_mul_of_nonneg_right
abbrev KT := @Rat.mul_nonneg
abbrev KW := @decide_eq_false
abbrev KX := @decide_eq_false_iff_not
end Go.Sim
namespace Go.Sim
open Go
open _root_.Go.IntKind (i64 u64 u32 u8)
abbrev WB : Nat := 4294967296
def nv : List bA → Nat
 | [] => 0
 | y :: l => y.n.toNat + WB * nv l
def Wf (l : List bA) : Prop := ∀ y ∈ l, 0 ≤ y.n ∧ y.n < 4294967296
theorem Wf.nil : Wf [] := fun y h => by cases h
theorem Wf.app {a b : List bA} (ha : Wf a) (hb : Wf b) : Wf (a ++ b) := fun y h => by
 rcases FK.1 h with h | h
 ·exact ha y h
 ·exact hb y h
theorem Wf.one {v : Int} (h : 0 ≤ v ∧ v < 4294967296) : Wf [⟨v⟩] := fun y hy => by
 rw [Gh] at hy; subst hy; exact h
theorem Wf.take {l : List bA} (h : Wf l) (k : Nat) : Wf (l.take k) := fun y hy => h y (HA hy)
theorem vp : ∀ (a b : List bA), nv (a ++ b) = nv a + WB ^ a.length * nv b
 | [], b => by simp [nv]
 | y :: a, b => by
  rw [Hu, nv, vp a b, nv, Fw, KE]
  rw [Kt, ← Ku, Kv (WB ^ a.length) WB, Hy]
theorem tZ (y : bA) : nv [y] = y.n.toNat := by simp [nv]
theorem og (a : List bA) (y : bA) : nv (a ++ [y]) = nv a + WB ^ a.length * y.n.toNat := by rw [vp, tZ]
theorem mW : ∀ {l : List bA}, Wf l → nv l < WB ^ l.length
 | [], _ => by simp [nv]
 | y :: l, h => by
  have h1 := mW (l := l) (fun z hz => h z (Fc _ hz))
  have h2 := h y (by simp)
  rw [nv, Fw, KE]
  have : WB * nv l + WB ≤ WB ^ l.length * WB := by
   rw [Kv (WB ^ l.length) WB, ← Nat.mul_succ]
   exact Kw _ h1
  have : y.n.toNat < WB := by show y.n.toNat < 4294967296; omega
  omega
theorem lM {l : List bA} {k : Nat} {y : bA} (h : l[k]? = some y) : nv (l.take (k + 1)) = nv (l.take k) + WB ^ k * y.n.toNat := by
 have hk := (ET.1 h).1
 rw [List.take_add_one, h]
 show nv (l.take k ++ [y]) = _
 rw [og, FM, Gc (by omega)]
theorem A4 (n : Nat) : nv (List.replicate n (⟨0⟩ : bA)) = 0 := by
 induction n with
 | zero => rfl
 | succ n ih => rw [HK, nv, ih]; rfl
theorem pQ {l : List bA} {k : Nat} {v : bA} (h : k < l.length) : (l.set k v).take (k + 1) = l.take k ++ [v] := by
 rw [List.take_add_one, FD h, Ie (FA _)]; rfl
theorem qm (n : Int) : u32.wrap n = n % 4294967296 := by simp [IntKind.wrap, IntKind.bits, IntKind.signed]
theorem vC (n : Int) : u64.wrap n = n % 18446744073709551616 := by simp [IntKind.wrap, IntKind.bits, IntKind.signed]
theorem dS {n : Int} (h : 0 ≤ n ∧ n < 18446744073709551616) : u64.wrap n = n := by rw [vC]; omega
theorem uJ (n : Int) : iN .u64 n 32 = n / 4294967296 := by
 unfold iN
 rw [show (min (32 : Int).toNat u64.bits) = 32 by decide, HR _ (by decide)]
 rfl
theorem Bl (n : Int) : iN .i64 n 32 = n / 4294967296 := by
 unfold iN
 rw [show (min (32 : Int).toNat i64.bits) = 32 by decide, HR _ (by decide)]
 rfl
abbrev LI := aB
structure nZ (a : LI) : Prop where
 wf : Wf a.words
 top : ∀ y, a.words.getLast? = some y → y.n ≠ 0
 sign : a.minus = true → a.words ≠ []
def eQ (a : LI) : Int := if a.minus = true then -(nv a.words : Int) else (nv a.words : Int)
theorem nI (minus : Bool) : ∀ (w : List bA), Wf w → w.length ≤ 1000000 → Gd (eJ minus w) (fun r => nZ r ∧ r.words.length ≤ w.length ∧ nv r.words = nv w ∧ (r.minus = true ↔ minus = true ∧ nv w ≠ 0)) := by
 intro w hw hl
 unfold eJ
 refine Gd.gC (fun (l : List bA) => Wf l ∧ l.length ≤ w.length ∧ nv l = nv w) (fun l => l.length) ?_ fR w ⟨hw, FA _, rfl⟩ (by simp only [fR]; omega)
 rintro l nx ⟨h1, h2, h3⟩ hnx
 have fin : (∀ y, l.getLast? = some y → y.n ≠ 0) → Gd (jP minus l) (fun r => nZ r ∧ r.words.length ≤ w.length ∧ nv r.words = nv w ∧ (r.minus = true ↔ minus = true ∧ nv w ≠ 0)) := fun ht => by
  have hz : nv l = 0 → l = [] := fun h0 => by
   rcases Kb l with h | ⟨a, y, h⟩
   ·exact h
   ·exfalso
    have h : l = a ++ [y] := by simpa using h
    have hy := ht y (by rw [h]; simp)
    have hyw := h1 y (by rw [h]; simp)
    rw [h, og] at h0
    have hp : 0 < WB ^ a.length := KD (by decide)
    have : 0 < WB ^ a.length * y.n.toNat := Nat.mul_pos hp (by omega)
    omega
  unfold jP
  refine Gd.ite (fun hm => Gd.ret ⟨⟨h1, ht, ?_⟩, h2, h3, ?_⟩) (fun hm => Gd.ret ⟨⟨h1, ht, fun h => by cases h⟩, h2, h3, ?_⟩)
  ·intro h e
   have h : decide (0 < (l.length : Int)) = true := h
   have e : l = [] := e
   rw [e] at h; simp at h
  ·constructor
   ·intro h
    have h : 0 < (l.length : Int) := Fa h
    refine ⟨hm, fun h0 => ?_⟩
    rw [← h3] at h0
    have := hz h0
    rw [this] at h; simp at h
   ·intro h
    show decide (0 < (l.length : Int)) = true
    rw [Gi]
    cases l with
    | nil => exact absurd (h3.symm.trans rfl) h.2
    | cons a b => simp
  ·rw [hm]
   constructor
   ·intro h; cases h
   ·intro h; cases h.1
 unfold nW
 refine Gd.ite (fun h => ?_) (fun h => fin (fun y hy => ?_))
 ·have hpos : 0 < l.length := by have := Fa h; omega
  have hw1 : i64.wrap ((l.length : Int) - 1) = ((l.length - 1 : Nat) : Int) := by rw [bN ⟨by omega, by omega⟩]; omega
  rw [hw1]
  refine Gd.jS (by omega) (Gd.ite (fun h0 => ?_) (fun h0 => fin (fun y hy => ?_)))
  ·have h0 : (l[l.length - 1]).n = 0 := Fa h0
   refine Gd.nd ⟨by omega, by omega⟩ ?_
   have hs : qk l 0 (((l.length - 1 : Nat) : Int).toNat) = l.take (l.length - 1) := by simp [qk]
   rw [hs]
   refine hnx _ ⟨h1.take _, by rw [FM]; omega, ?_⟩ (by rw [FM]; omega)
   have := lM (l := l) (k := l.length - 1) (EZ (by omega))
   rw [show l.length - 1 + 1 = l.length by omega, Hq, h0] at this
   rw [← h3, this]; simp
  ·have h0 : (l[l.length - 1]).n ≠ 0 := Fm h0
   rw [Ke, EZ (by omega)] at hy
   rw [← EV hy]; exact h0
 ·have h : ¬ 0 < (l.length : Int) := Fm h
  have : l = [] := FN (by omega)
  rw [this] at hy; cases hy
theorem vW {a b : List bA} (ha : Wf a) (hb : Wf b) (hl : b.length ≤ a.length) (hz : a.length ≤ 1000000) :
  Gd (gQ a b) (fun r => Wf r ∧ r.length = a.length + 1 ∧ nv r = nv a + nv b) := by
 have w1 : i64.wrap ((a.length : Int) + 1) = ((a.length + 1 : Nat) : Int) := by rw [bN ⟨by omega, by omega⟩]; omega
 unfold gQ
 rw [w1]
 refine Gd.nd ⟨by omega, by omega⟩ ?_
 refine Gd.jK (fun m k (z : List bA × Int) => k + m = a.length ∧ z.1.length = a.length + 1 ∧ Wf z.1 ∧ 0 ≤ z.2 ∧ z.2 ≤ 1 ∧ nv (z.1.take k) + WB ^ k * z.2.toNat = nv (a.take k) + nv (b.take k)) ?_ ?_ _ 0 _ ⟨by simp, by simp, fun y hy => ?_, H4 _, by show (0 : Int) ≤ 1; omega, by simp [nv]⟩
 ·rintro m k ⟨l, c⟩ nx ⟨h0, h1, h2, h3, h4, h5⟩ hnx
  simp only at h1 h2 h3 h4 h5 hnx ⊢
  have hka : k < a.length := by omega
  have hkn : ((k : Int)).toNat = k := by omega
  obtain ⟨y, hy⟩ : ∃ y, a[k]? = some y := ⟨_, EZ hka⟩
  have hyw := ha y (Fi hy)
  have fin : ∀ (n : Int) (x : Nat), n = c + y.n + x → x < WB → nv (b.take (k + 1)) = nv (b.take k) + WB ^ k * x → Gd (gP l nx k n) _ := fun n x hn hx hb1 => by
   unfold gP
   rw [uJ, hkn, qm]
   have hx : x < 4294967296 := hx
   refine Gd.jS (by omega) (hnx _ ⟨by omega, by simp [h1], ?_, by simp only; omega, by simp only; omega, ?_⟩)
   ·intro z hz
    rcases Kj hz with hz | hz
    ·exact h2 z hz
    ·rw [hz]; simp only; omega
   ·simp only
    rw [pQ (by omega), og, FM, Gc (by omega), lM hy, hb1]
    simp only
    have e1 : (n % 4294967296).toNat + WB * (n / 4294967296).toNat = c.toNat + y.n.toNat + x := by
     show (n % 4294967296).toNat + 4294967296 * (n / 4294967296).toNat = _
     omega
    have e2 : WB ^ k * (n % 4294967296).toNat + WB ^ (k + 1) * (n / 4294967296).toNat = WB ^ k * c.toNat + WB ^ k * y.n.toNat + WB ^ k * x := by
     rw [KE, Ku, ← Kt, e1, Kt, Kt]
    omega
  unfold lT
  refine Gd.ix (by omega) (by rw [hkn]; exact hy) (Gd.ite (fun h => ?_) (fun h => ?_))
  ·have hkb : k < b.length := by have := Fa h; omega
   obtain ⟨x, hx⟩ : ∃ x, b[k]? = some x := ⟨_, EZ hkb⟩
   have hxw := hb x (Fi hx)
   refine Gd.ix (by omega) (by rw [hkn]; exact hx) (fin _ x.n.toNat ?_ (by show x.n.toNat < 4294967296; omega) (lM hx))
   rw [dS (n := y.n) (by omega), dS (n := c + y.n) (by omega), dS (n := x.n) (by omega), dS (by omega)]
   omega
  ·have hkb : b.length ≤ k := by have := Fm h; omega
   refine fin _ 0 ?_ (by decide) ?_
   ·rw [dS (n := y.n) (by omega), dS (by omega)]; simp
   ·rw [FG (by omega), FG (by omega)]; simp
 ·rintro k ⟨l, c⟩ ⟨h0, h1, h2, h3, h4, h5⟩
  simp only at h1 h2 h3 h4 h5 ⊢
  have hk : k = a.length := by omega
  subst hk
  have hln : ((a.length : Int)).toNat = a.length := by omega
  rw [hln, qm]
  refine Gd.jS (by omega) (Gd.ret ⟨?_, by simp [h1], ?_⟩)
  ·intro z hz
   rcases Kj hz with hz | hz
   ·exact h2 z hz
   ·rw [hz]; simp only; omega
  ·have e := pQ (l := l) (k := a.length) (v := ⟨c % 4294967296⟩) (by omega)
   rw [FG (by simp; omega)] at e
   rw [e, og, FM, Gc (by omega)]
   simp only
   rw [Hq, FG hl] at h5
   rw [show (c % 4294967296).toNat = c.toNat by omega]
   exact h5
 ·rw [Kk] at hy
  rw [hy.2]; simp
theorem C8 {a b : List bA} (ha : Wf a) (hb : Wf b) (hza : a.length ≤ 1000000) (hzb : b.length ≤ 1000000) :
  Gd (kG a b) (fun r => Wf r ∧ r.length = max a.length b.length + 1 ∧ nv r = nv a + nv b) := by
 unfold kG
 refine Gd.ite (fun h => (vW hb ha (by have := Fa h; omega) hzb).mono ?_) (fun h => (vW ha hb (by have := Fm h; omega) hza).mono ?_)
 ·rintro r ⟨h1, h2, h3⟩
  have := Fa h
  exact ⟨h1, by omega, by omega⟩
 ·rintro r ⟨h1, h2, h3⟩
  have := Fm h
  exact ⟨h1, by omega, by omega⟩
def pj (l : List bA) : Prop := ∀ y, l.getLast? = some y → y.n ≠ 0
theorem wO {l : List bA} (hw : Wf l) (ht : pj l) (hne : l ≠ []) : WB ^ (l.length - 1) ≤ nv l := by
 rcases Kb l with h | ⟨a, y, h⟩
 ·exact absurd h hne
 ·have h : l = a ++ [y] := by simpa using h
  have hy := ht y (by rw [h]; simp)
  have hyw := hw y (by rw [h]; simp)
  rw [h, og, FP, F2, Nat.add_sub_cancel]
  have : WB ^ a.length * 1 ≤ WB ^ a.length * y.n.toNat := Kw _ (by omega)
  omega
theorem oR {a b : List bA} (ha : Wf a) (hb : Wf b) (htb : pj b) (h : a.length < b.length) : nv a < nv b := by
 have h1 := mW ha
 have h2 := wO hb htb (by intro e; rw [e] at h; simp at h)
 have h3 : WB ^ a.length ≤ WB ^ (b.length - 1) := KA (by decide) (by omega)
 omega
theorem A1 {a b : List bA} (ha : Wf a) (hb : Wf b) : a.length = b.length → nv a = nv b → a = b := by
 induction a generalizing b with
 | nil => intro h _; exact (FN h.symm).symm
 | cons x a ih =>
  intro h e
  cases b with
  | nil => simp at h
  | cons y b =>
   have hx := ha x (by simp); have hy := hb y (by simp)
   rw [nv, nv] at e
   have e1 : x.n.toNat = y.n.toNat := by
    have := Fl (· % WB) e
    simp only [Nat.add_mul_mod_self_left] at this
    rw [Hi (by show x.n.toNat < 4294967296; omega), Hi (by show y.n.toNat < 4294967296; omega)] at this
    exact this
   have e2 : nv a = nv b := by
    rw [e1] at e
    exact Nat.eq_of_mul_eq_mul_left (by decide) (Nat.add_left_cancel e)
   have := ih (fun z hz => ha z (Fc _ hz)) (fun z hz => hb z (Fc _ hz)) (by simpa using h) e2
   cases x; cases y
   simp only at e1 hx hy
   rw [this]
   congr 2; omega
theorem lG {l : List bA} {k : Nat} {x : bA} (h : l[k]? = some x) : l.drop k = x :: l.drop (k + 1) := by
 obtain ⟨hk, hx⟩ := ET.1 h
 rw [GJ hk, hx]
theorem pN {l : List bA} {k : Nat} {x : bA} (h : l[k]? = some x) : nv l = nv (l.take k) + WB ^ k * (x.n.toNat + WB * nv (l.drop (k + 1))) := by
 have hk := (ET.1 h).1
 have e : nv l = nv (l.take k ++ l.drop k) := by rw [GN]
 rw [e, vp, lG h, FM, Gc (by omega)]
 rfl
def D3 (r : Int) (x y : Nat) : Prop := (r < 0 ↔ x < y) ∧ (r = 0 ↔ x = y)
theorem Ah {a b : List bA} (ha : Wf a) (hb : Wf b) (hta : pj a) (htb : pj b) (hza : a.length ≤ 1000000) (hzb : b.length ≤ 1000000) : Gd (jw a b) (fun r => D3 r (nv a) (nv b)) := by
  unfold jw
  refine Gd.ite (fun h => Gd.ret ?_) (fun h => ?_)
  · have h : ¬ (a.length : Int) = b.length := by simpa using h
    rw [bN ⟨by omega, by omega⟩]
    rcases Nat.lt_or_gt_of_ne (show a.length ≠ b.length by omega) with hl | hl
    · have := oR ha hb htb hl
      exact ⟨⟨fun _ => this, fun _ => by omega⟩, ⟨fun h => by omega, fun h => by omega⟩⟩
    · have := oR hb ha hta hl
      exact ⟨⟨fun h => by omega, fun h => by omega⟩, ⟨fun h => by omega, fun h => by omega⟩⟩
  · have hl : a.length = b.length := by have : (a.length : Int) = b.length := by simpa using h
                                        omega
    rw [bN ⟨by omega, by omega⟩]
    refine Gd.gC (fun (i : Int) => -1 ≤ i ∧ i < a.length ∧ a.drop (i + 1).toNat = b.drop (i + 1).toNat) (fun i => (i + 1).toNat) ?_ fR _ ⟨by omega, by omega, ?_⟩ (by simp only [fR]; omega)
    · rintro i nx ⟨h1, h2, h3⟩ hnx
      unfold lU
      refine Gd.ite (fun hi => ?_) (fun hi => Gd.ret ?_)
      · have hi : 0 ≤ i := Fa hi
        obtain ⟨k, rfl⟩ : ∃ k : Nat, i = k := ⟨i.toNat, by omega⟩
        obtain ⟨x, hx⟩ : ∃ x, a[k]? = some x := ⟨_, EZ (by omega)⟩
        obtain ⟨y, hy⟩ : ∃ y, b[k]? = some y := ⟨_, EZ (by omega)⟩
        have hxw := ha x (Fi hx); have hyw := hb y (Fi hy)
        have hkn : ((k : Int)).toNat = k := by omega
        rw [show ((k : Int) + 1).toNat = k + 1 by omega] at h3
        have sa := pN hx
        have sb := pN hy
        rw [← h3] at sb
        have la := mW (ha.take k); have lb := mW (hb.take k)
        rw [FM, Gc (by omega)] at la lb
        generalize nv (a.drop (k + 1)) = T at sa sb
        generalize nv (a.take k) = ta at sa la
        generalize nv (b.take k) = tb at sb lb
        generalize WB ^ k = P at sa sb la lb
        have lt_of_lt : ∀ (u v tu tv : Nat), u < v → tu < P → tu + P * (u + WB * T) < tv + P * (v + WB * T) := fun u v tu tv huv hu => by
          have : P * (u + 1) ≤ P * v := Kw _ huv
          rw [Kt] at this
          rw [Kt, Kt]
          omega
        refine Gd.ix (by omega) (by rw [hkn]; exact hx) (Gd.ix (by omega) (by rw [hkn]; exact hy) (Gd.ite (fun hne => ?_) (fun he => ?_)))
        · have hne : ¬ x.n = y.n := by simpa using hne
          refine Gd.ix (by omega) (by rw [hkn]; exact hx) (Gd.ix (by omega) (by rw [hkn]; exact hy) (Gd.ite (fun hlt => Gd.ret ?_) (fun hlt => Gd.ret ?_)))
          · have hlt : x.n < y.n := Fa hlt
            have := lt_of_lt x.n.toNat y.n.toNat ta tb (by omega) la
            rw [← sa, ← sb] at this
            exact ⟨⟨fun _ => this, fun _ => by omega⟩, ⟨fun h => by omega, fun h => by omega⟩⟩
          · have hlt : ¬ x.n < y.n := Fm hlt
            have := lt_of_lt y.n.toNat x.n.toNat tb ta (by omega) lb
            rw [← sa, ← sb] at this
            exact ⟨⟨fun h => by omega, fun h => by omega⟩, ⟨fun h => by omega, fun h => by omega⟩⟩
        · have he : x.n = y.n := by simpa using he
          rw [bN ⟨by omega, by omega⟩]
          refine hnx _ ⟨by omega, by omega, ?_⟩ (by omega)
          rw [show ((k : Int) - 1 + 1).toNat = k by omega, lG hx, lG hy, h3]
          have : x = y := by cases x; cases y; simp only at he; rw [he]
          rw [this]
      · have hi : ¬ 0 ≤ i := Fm hi
        have : (i + 1).toNat = 0 := by omega
        rw [this, G5, G5] at h3
        rw [h3]
        exact ⟨⟨fun h => by omega, fun h => by omega⟩, ⟨fun _ => rfl, fun _ => rfl⟩⟩
    · rw [show ((a.length : Int) - 1 + 1).toNat = a.length by omega, ID, Ka (by omega)]
theorem Br {a b : List bA} (ha : Wf a) (hb : Wf b) (hle : nv b ≤ nv a) (hl : b.length ≤ a.length) (hz : a.length ≤ 1000000) :
  Gd (jz a b) (fun r => Wf r ∧ r.length = a.length ∧ nv r = nv a - nv b) := by
 unfold jz
 refine Gd.nd ⟨by omega, by omega⟩ ?_
 refine Gd.jK (fun m k (z : List bA × Int) => k + m = a.length ∧ z.1.length = a.length ∧ Wf z.1 ∧ -1 ≤ z.2 ∧ z.2 ≤ 0 ∧ (nv (z.1.take k) : Int) + (WB ^ k : Nat) * z.2 = nv (a.take k) - nv (b.take k)) ?_ ?_ _ 0 _ ⟨by simp, by simp, fun y hy => ?_, by show (-1 : Int) ≤ 0; omega, H4 _, by simp [nv]⟩
 ·rintro m k ⟨l, c⟩ nx ⟨h0, h1, h2, h3, h4, h5⟩ hnx
  simp only at h1 h2 h3 h4 h5 hnx ⊢
  have hka : k < a.length := by omega
  have hkn : ((k : Int)).toNat = k := by omega
  obtain ⟨y, hy⟩ : ∃ y, a[k]? = some y := ⟨_, EZ hka⟩
  have hyw := ha y (Fi hy)
  have fin : ∀ (n : Int) (x : Nat), n = c + y.n - x → x < WB → nv (b.take (k + 1)) = nv (b.take k) + WB ^ k * x → Gd (gR l nx k n) _ := fun n x hn hx hb1 => by
   unfold gR
   rw [Bl, hkn, qm]
   have hx : x < 4294967296 := hx
   refine Gd.jS (by omega) (hnx _ ⟨by omega, by simp [h1], ?_, by simp only; omega, by simp only; omega, ?_⟩)
   ·intro z hz
    rcases Kj hz with hz | hz
    ·exact h2 z hz
    ·rw [hz]; simp only; omega
   ·simp only
    rw [pQ (by omega), og, FM, Gc (by omega), lM hy, hb1]
    simp only
    have e1 : ((n % 4294967296).toNat : Int) + 4294967296 * (n / 4294967296) = c + y.n.toNat - x := by omega
    have e2 : ((WB ^ k : Nat) : Int) * ((n % 4294967296).toNat : Int) + ((WB ^ (k + 1) : Nat) : Int) * (n / 4294967296) = ((WB ^ k : Nat) : Int) * c + ((WB ^ k : Nat) : Int) * (y.n.toNat : Int) - ((WB ^ k : Nat) : Int) * (x : Int) := by
     rw [KE, F0, J4, ← J3, show ((WB : Nat) : Int) = 4294967296 from rfl, e1, J5, J3]
    simp only [J6, F0] at *
    omega
  unfold lW
  refine Gd.ix (by omega) (by rw [hkn]; exact hy) (Gd.ite (fun h => ?_) (fun h => ?_))
  ·have hkb : k < b.length := by have := Fa h; omega
   obtain ⟨x, hx⟩ : ∃ x, b[k]? = some x := ⟨_, EZ hkb⟩
   have hxw := hb x (Fi hx)
   refine Gd.ix (by omega) (by rw [hkn]; exact hx) (fin _ x.n.toNat ?_ (by show x.n.toNat < 4294967296; omega) (lM hx))
   rw [bN (n := y.n) (by omega), bN (n := c + y.n) (by omega), bN (n := x.n) (by omega), bN (by omega)]
   omega
  ·have hkb : b.length ≤ k := by have := Fm h; omega
   refine fin _ 0 ?_ (by decide) ?_
   ·rw [bN (n := y.n) (by omega), bN (by omega)]; simp
   ·rw [FG (by omega), FG (by omega)]; simp
 ·rintro k ⟨l, c⟩ ⟨h0, h1, h2, h3, h4, h5⟩
  simp only at h1 h2 h3 h4 h5 ⊢
  have hk : k = a.length := by omega
  subst hk
  rw [Hq, FG hl, FG (by omega)] at h5
  have hlt := mW h2
  rw [h1] at hlt
  have hc : c = 0 := by
   rcases (show c = -1 ∨ c = 0 by omega) with h | h
   ·exfalso; rw [h] at h5; omega
   ·exact h
  rw [hc] at h5
  exact Gd.ret ⟨h2, h1, by omega⟩
 ·rw [Kk] at hy
  rw [hy.2]; simp
theorem nZ.tp {a : LI} (h : nZ a) : pj a.words := h.top
theorem qT {r : LI} {m : Bool} {n : Nat} (h1 : nv r.words = n) (h2 : r.minus = true ↔ m = true ∧ n ≠ 0) : eQ r = if m = true then -(n : Int) else n := by
 unfold eQ
 rw [h1]
 by_cases hr : r.minus = true
 ·rw [E_ hr, E_ (h2.1 hr).1]
 ·rw [E6 hr]
  by_cases hm : m = true
  ·have : n = 0 := by
    by_cases hn : n = 0
    ·exact hn
    ·exact absurd (h2.2 ⟨hm, hn⟩) hr
   rw [E_ hm, this]; rfl
  ·rw [E6 hm]
theorem xJ {a : LI} (h : nZ a) (hz : a.words.length ≤ 1000000) : Gd (gU a) (fun r => nZ r ∧ r.words.length ≤ a.words.length ∧ eQ r = -eQ a) := by
 unfold gU
 refine Gd.e_ (nI (!a.minus) a.words h.wf hz) (fun r hr => Gd.ret ⟨hr.1, hr.2.1, ?_⟩)
 rw [qT hr.2.2.1 hr.2.2.2]
 unfold eQ
 cases a.minus <;> simp
theorem yw {a b : LI} (ha : nZ a) (hb : nZ b) (hza : a.words.length ≤ 900000) (hzb : b.words.length ≤ 900000) :
  Gd (gT a b) (fun r => nZ r ∧ r.words.length ≤ max a.words.length b.words.length + 1 ∧ eQ r = eQ a + eQ b) := by
 unfold gT
 refine Gd.ite (fun h => ?_) (fun h => ?_)
 ·have h : a.minus = b.minus := Fa h
  refine Gd.e_ (C8 ha.wf hb.wf (by omega) (by omega)) (fun w hw => Gd.e_ (nI a.minus w hw.1 (by omega)) (fun r hr => Gd.ret ⟨hr.1, by omega, ?_⟩))
  rw [qT hr.2.2.1 hr.2.2.2, hw.2.2]
  unfold eQ
  rw [← h]
  cases a.minus <;> simp <;> omega
 ·have h : a.minus ≠ b.minus := Fm h
  refine Gd.e_ (Ah ha.wf hb.wf ha.tp hb.tp (by omega) (by omega)) (fun c hc => Gd.ite (fun h0 => ?_) (fun h0 => ?_))
  ·have h0 : 0 ≤ c := Fa h0
   have hle : nv b.words ≤ nv a.words := by
    have := hc.1; omega
   have hlen : b.words.length ≤ a.words.length := by
    rcases Hf a.words.length b.words.length with hlt | hge
    ·have := oR ha.wf hb.wf hb.tp hlt; omega
    ·exact hge
   refine Gd.e_ (Br ha.wf hb.wf hle hlen (by omega)) (fun w hw => Gd.e_ (nI a.minus w hw.1 (by omega)) (fun r hr => Gd.ret ⟨hr.1, by omega, ?_⟩))
   rw [qT hr.2.2.1 hr.2.2.2, hw.2.2]
   unfold eQ
   cases ea : a.minus <;> cases eb : b.minus <;> first | (rw [ea, eb] at h; exact absurd rfl h) | (simp; omega)
  ·have h0 : ¬ 0 ≤ c := Fm h0
   have hlt : nv a.words < nv b.words := hc.1.1 (by omega)
   have hlen : a.words.length ≤ b.words.length := by
    rcases Hf b.words.length a.words.length with hl | hge
    ·have := oR hb.wf ha.wf ha.tp hl; omega
    ·exact hge
   refine Gd.e_ (Br hb.wf ha.wf (by omega) hlen (by omega)) (fun w hw => Gd.e_ (nI b.minus w hw.1 (by omega)) (fun r hr => Gd.ret ⟨hr.1, by omega, ?_⟩))
   rw [qT hr.2.2.1 hr.2.2.2, hw.2.2]
   unfold eQ
   cases ea : a.minus <;> cases eb : b.minus <;> first | (rw [ea, eb] at h; exact absurd rfl h) | (simp; omega)
theorem t_ {l : List bA} {k : Nat} {x v : bA} (h : l[k]? = some x) : nv (l.set k v) + WB ^ k * x.n.toNat = nv l + WB ^ k * v.n.toNat := by
 have hk := (ET.1 h).1
 have h1 := pN h
 have h2 : nv (l.set k v) = nv (l.take k) + WB ^ k * (v.n.toNat + WB * nv (l.drop (k + 1))) := by
  have := pN (l := l.set k v) (k := k) (x := v) (FD hk)
  rw [Ie (FA _), Ib (by omega)] at this
  exact this
 rw [Kt] at h1 h2
 omega
theorem Wf.set {l : List bA} (h : Wf l) {k : Nat} {v : Int} (hv : 0 ≤ v ∧ v < 4294967296) : Wf (l.set k ⟨v⟩) := fun z hz => by
 rcases Kj hz with hz | hz
 ·exact h z hz
 ·rw [hz]; exact hv
theorem AY {nz nz' nz0 P W c rH x y s B T : Nat} (h1 : nz' + P * rH = nz + P * (s % W)) (hs : s = c + rH + x * y) (h2 : nz + P * c = nz0 + x * T * B) : nz' + P * W * (s / W) = nz0 + x * T * B + P * x * y := by
 have hd : s % W + W * (s / W) = s := Ks s W
 have e : P * (s % W) + P * (W * (s / W)) = P * s := by rw [← Kt, hd]
 have e2 : P * s = P * c + P * rH + P * (x * y) := by rw [hs, Kt, Kt]
 rw [Ku P W, Ku P x]
 omega
theorem qH {a b : LI} (ha : nZ a) (hb : nZ b) (hz : a.words.length + b.words.length ≤ 900000) :
  Gd (dN a b) (fun r => nZ r ∧ r.words.length ≤ a.words.length + b.words.length ∧ eQ r = eQ a * eQ b) := by
 have wN : i64.wrap ((a.words.length : Int) + (b.words.length : Int)) = ((a.words.length + b.words.length : Nat) : Int) := by rw [bN ⟨by omega, by omega⟩]; omega
 unfold dN
 rw [wN]
 refine Gd.nd ⟨by omega, by omega⟩ ?_
 refine Gd.dJ (fun i ys (z : List bA) => ys = a.words.drop i ∧ i ≤ a.words.length ∧ z.length = a.words.length + b.words.length ∧ Wf z ∧ nv z = nv (a.words.take i) * nv b.words ∧ ∀ q, i + b.words.length ≤ q → ∀ y, z[q]? = some y → y.n = 0) ?_ ?_ _ 0 _ ⟨by simp, by omega, by simp; omega, fun y hy => ?_, by rw [A4]; simp [nv], fun q _ y hy => ?_⟩
 ·rintro i x ys z0 nx ⟨e0, e1, e2, e3, e4, e5⟩ hnx
  have hi : i < a.words.length := by
   have := Fl List.length e0
   simp at this; omega
  have hx : a.words[i]? = some x := by
   have := Fl (·[0]?) e0
   simpa [FU] using this.symm
  have hys : ys = a.words.drop (i + 1) := by
   have := Fl (List.drop 1) e0
   simpa using this
  have hxw := ha.wf x (Fi hx)
  unfold mr
  refine Gd.dJ (fun k bs (z : List bA × Int) => bs = b.words.drop k ∧ k ≤ b.words.length ∧ z.1.length = a.words.length + b.words.length ∧ Wf z.1 ∧ 0 ≤ z.2 ∧ z.2 < 4294967296 ∧ nv z.1 + WB ^ (i + k) * z.2.toNat = nv z0 + x.n.toNat * nv (b.words.take k) * WB ^ i ∧ ∀ q, i + k ≤ q → z.1[q]? = z0[q]?) ?_ ?_ _ 0 _ ⟨by simp, by omega, e2, e3, H4 _, by show (0 : Int) < 4294967296; omega, by simp [nv], fun q _ => rfl⟩
  ·rintro k y bs ⟨l, c⟩ nx2 ⟨f0, f1, f2, f3, f4, f5, f6, f7⟩ hnx2
   simp only at f2 f3 f4 f5 f6 f7 hnx2 ⊢
   have hk : k < b.words.length := by
    have := Fl List.length f0
    simp at this; omega
   have hy : b.words[k]? = some y := by
    have := Fl (·[0]?) f0
    simpa [FU] using this.symm
   have hbs : bs = b.words.drop (k + 1) := by
    have := Fl (List.drop 1) f0
    simpa using this
   have hyw := hb.wf y (Fi hy)
   obtain ⟨o, ho⟩ : ∃ o, l[i + k]? = some o := ⟨_, EZ (by omega)⟩
   have how := f3 o (Fi ho)
   have wj : i64.wrap ((i : Int) + (k : Int)) = ((i + k : Nat) : Int) := by rw [bN ⟨by omega, by omega⟩]; omega
   have hkn : (((i + k : Nat) : Int)).toNat = i + k := by omega
   have hxy0 : 0 ≤ x.n * y.n := Int.mul_nonneg hxw.1 hyw.1
   have hxy : x.n * y.n ≤ 4294967295 * 4294967295 := Int.mul_le_mul (by omega) (by omega) hyw.1 (by omega)
   have hs : u64.wrap (c + (u64.wrap ((u64.wrap (o.n)) + (u64.wrap ((u64.wrap (x.n)) * (u64.wrap (y.n))))))) = c + o.n + x.n * y.n := by
    rw [dS (n := o.n) (by omega), dS (n := x.n) (by omega), dS (n := y.n) (by omega), dS (n := x.n * y.n) (by omega), dS (n := o.n + x.n * y.n) (by omega), dS (by omega)]
    omega
   unfold mu
   rw [wj]
   refine Gd.ix (by omega) (by rw [hkn]; exact ho) (Gd.ix (by omega) (by rw [hkn]; exact ho) ?_)
   rw [hs, hkn, uJ, qm]
   have hxyn : x.n * y.n = ((x.n.toNat * y.n.toNat : Nat) : Int) := by
    rw [F0, IF hxw.1, IF hyw.1]
   have hsn : c + o.n + x.n * y.n = ((c.toNat + o.n.toNat + x.n.toNat * y.n.toNat : Nat) : Int) := by rw [hxyn]; omega
   refine hnx2 _ ⟨hbs, by omega, by simp [f2], f3.set (by omega), by simp only; omega, by simp only; omega, ?_, fun q hq => ?_⟩
   ·simp only
    have g := t_ (l := l) (k := i + k) (x := o) (v := ⟨(c + o.n + x.n * y.n) % 4294967296⟩) ho
    simp only at g
    have g1 : ((c + o.n + x.n * y.n) % 4294967296).toNat = (c.toNat + o.n.toNat + x.n.toNat * y.n.toNat) % WB := by rw [hsn]; show _ = _ % 4294967296; omega
    have g2 : ((c + o.n + x.n * y.n) / 4294967296).toNat = (c.toNat + o.n.toNat + x.n.toNat * y.n.toNat) / WB := by rw [hsn]; show _ = _ / 4294967296; omega
    rw [g1] at g
    have := AY g rfl f6
    rw [g2, show i + (k + 1) = (i + k) + 1 by omega, KE, this, lM hy, Ky]
    rw [Kt, FC, Hy]
    congr 2
    rw [Kv (WB ^ i) (WB ^ k), Kv (WB ^ k * WB ^ i) x.n.toNat, Ku, Ku, Ku, Ku, Kv y.n.toNat, Kv (WB ^ i) y.n.toNat]
   ·simp only
    rw [Fz (by omega)]
    exact f7 q (by omega)
  ·rintro k ⟨l, c⟩ ⟨f0, f1, f2, f3, f4, f5, f6, f7⟩
   simp only at f2 f3 f4 f5 f6 f7 ⊢
   have hk : k = b.words.length := by
    have := Fl List.length f0
    simp at this; omega
   subst hk
   have wj : i64.wrap ((i : Int) + (b.words.length : Int)) = ((i + b.words.length : Nat) : Int) := by rw [bN ⟨by omega, by omega⟩]; omega
   have hkn : (((i + b.words.length : Nat) : Int)).toNat = i + b.words.length := by omega
   obtain ⟨o, ho⟩ : ∃ o, l[i + b.words.length]? = some o := ⟨_, EZ (by omega)⟩
   have ho0 : o.n = 0 := e5 _ (FA _) o (by rw [← f7 _ (FA _)]; exact ho)
   rw [wj]
   refine Gd.ix (by omega) (by rw [hkn]; exact ho) ?_
   rw [hkn, qm, show c % 4294967296 = c by omega]
   refine hnx _ ⟨hys, by omega, by simp [f2], f3.set (by omega), ?_, fun q hq y hy => ?_⟩
   ·have g := t_ (l := l) (k := i + b.words.length) (x := o) (v := ⟨c⟩) ho
    simp only [ho0] at g
    rw [Hq] at f6
    rw [lM hx, FC, ← e4]
    have e : WB ^ i * x.n.toNat * nv b.words = x.n.toNat * nv b.words * WB ^ i := by rw [Kv (WB ^ i), Ku, Kv (WB ^ i), ← Ku]
    rw [e]
    simp at g
    omega
   ·rw [Fz (by omega), f7 _ (by omega)] at hy
    exact e5 _ (by omega) y hy
 ·rintro i z ⟨e0, e1, e2, e3, e4, e5⟩
  have hi : i = a.words.length := by
   have := Fl List.length e0
   simp at this; omega
  subst hi
  rw [Hq] at e4
  refine Gd.e_ (nI _ z e3 (by omega)) (fun r hr => Gd.ret ⟨hr.1, by omega, ?_⟩)
  rw [qT hr.2.2.1 hr.2.2.2, e4]
  unfold eQ
  cases a.minus <;> cases b.minus <;> simp [Int.mul_neg, Int.neg_mul]
 ·rw [Kk] at hy
  rw [hy.2]; simp
 ·have := Fi hy
  rw [Kk] at this
  rw [this.2]
theorem r8 {r y : Int} (hr : 0 ≤ r ∧ r < 4294967296) (hy : 0 ≤ y ∧ y < 4294967296) :
  u64.wrap ((BitVec.ofInt (u64).bits (jI .u64 r 32) ||| BitVec.ofInt (u64).bits (u64.wrap y)).toNat) = r * 4294967296 + y := by
 obtain ⟨n, rfl⟩ : ∃ n : Nat, r = n := ⟨r.toNat, by omega⟩
 obtain ⟨m, rfl⟩ : ∃ m : Nat, y = m := ⟨y.toNat, by omega⟩
 have e1 : jI .u64 (n : Int) 32 = ((n * 4294967296 : Nat) : Int) := by
  unfold jI
  rw [show (min (32 : Int).toNat u64.bits) = 32 by decide, vC]
  show (n : Int) * 4294967296 % 18446744073709551616 = _
  omega
 rw [e1, dS (n := (m : Int)) (by omega)]
 show u64.wrap (((BitVec.ofInt 64 ((n * 4294967296 : Nat) : Int) ||| BitVec.ofInt 64 ((m : Nat) : Int)).toNat : Nat) : Int) = _
 rw [JY, JY, BitVec.toNat_or, JZ, JZ, Hi (by omega), Hi (by omega)]
 have e2 : n * 4294967296 ||| m = n * 4294967296 + m := by
  have := Nat.shiftLeft_add_eq_or_of_lt (i := 32) (b := m) (by omega) n
  rw [Nat.shiftLeft_eq] at this
  exact this.symm
 rw [e2, dS (by omega)]
 omega
theorem zB {r y d : Int} (hr : 0 ≤ r ∧ r < d) (hy : 0 ≤ y ∧ y < 4294967296) (hd : 0 < d ∧ d < 4294967296) :
  ∃ q m : Nat, Int.tdiv (r * 4294967296 + y) d = q ∧ Int.tmod (r * 4294967296 + y) d = m ∧ q < 4294967296 ∧ (m : Int) < d ∧ m + d.toNat * q = WB * r.toNat + y.toNat := by
 obtain ⟨dn, rfl⟩ : ∃ dn : Nat, d = dn := ⟨d.toNat, by omega⟩
 obtain ⟨rn, rfl⟩ : ∃ rn : Nat, r = rn := ⟨r.toNat, by omega⟩
 obtain ⟨Y, rfl⟩ : ∃ Y : Nat, y = Y := ⟨y.toNat, by omega⟩
 have hdn : 0 < dn := by omega
 have e : ∀ W : Nat, Y < W → ∃ q m : Nat, Int.tdiv ((rn : Int) * W + Y) dn = q ∧ Int.tmod ((rn : Int) * W + Y) dn = m ∧ q < W ∧ m < dn ∧ m + dn * q = W * rn + Y := fun W hW => by
  have hN : rn * W + Y < dn * W := by
   have : (rn + 1) * W ≤ dn * W := Fq _ (by omega)
   rw [FC] at this
   omega
  have hc : (rn : Int) * W + Y = ((rn * W + Y : Nat) : Int) := by rw [J6, F0]
  rw [hc]
  refine ⟨(rn * W + Y) / dn, (rn * W + Y) % dn, rfl, rfl, ?_, IA _ hdn, ?_⟩
  ·rw [Ko hdn, Kv W dn]; exact hN
  ·rw [Ks, Kv rn W]
 obtain ⟨q, m, h1, h2, h3, h4, h5⟩ := e WB (by show Y < 4294967296; omega)
 refine ⟨q, m, h1, h2, h3, by omega, ?_⟩
 simp only [E1]
 exact h5
theorem zC {q dn B m Y rn : Nat} (h1 : m + dn * q = WB * rn + Y) : (q + WB * B) * dn + m = Y + WB * (B * dn + rn) := by
 rw [FC, Kt, Ku WB, Kv q dn]
 generalize dn * q = Z at h1
 generalize WB * rn = X at h1 ⊢
 generalize WB * (B * dn) = T
 omega
theorem wY {a : List bA} (ha : Wf a) (hz : a.length ≤ 1000000) {d : Int} (hd : 0 < d ∧ d < 4294967296) :
  Gd (jy a d) (fun r => Wf r.1 ∧ r.1.length = a.length ∧ nv r.1 = nv a / d.toNat ∧ r.2 = (nv a % d.toNat : Nat)) := by
 unfold jy
 refine Gd.nd ⟨by omega, by omega⟩ ?_
 rw [bN ⟨by omega, by omega⟩]
 refine Gd.gC (fun (z : List bA × Int × Int) => -1 ≤ z.2.2 ∧ z.2.2 < a.length ∧ z.1.length = a.length ∧ Wf z.1 ∧ 0 ≤ z.2.1 ∧ z.2.1 < d ∧ nv (z.1.drop (z.2.2 + 1).toNat) * d.toNat + z.2.1.toNat = nv (a.drop (z.2.2 + 1).toNat)) (fun z => (z.2.2 + 1).toNat) ?_ fR _ ⟨by simp only; omega, by simp only; omega, by simp, fun y hy => ?_, H4 _, by simp only; omega, ?_⟩ (by simp only [fR]; omega)
 ·rintro ⟨l, r, i⟩ nx ⟨h1, h2, h3, h4, h5, h6, h7⟩ hnx
  simp only at h1 h2 h3 h4 h5 h6 h7 hnx ⊢
  unfold lV
  refine Gd.ite (fun hi => ?_) (fun hi => Gd.ret ?_)
  ·have hi : 0 ≤ i := Fa hi
   obtain ⟨k, rfl⟩ : ∃ k : Nat, i = k := ⟨i.toNat, by omega⟩
   obtain ⟨y, hy⟩ : ∃ y, a[k]? = some y := ⟨_, EZ (by omega)⟩
   have hyw := ha y (Fi hy)
   have hkn : ((k : Int)).toNat = k := by omega
   rw [dS (n := d) (by omega)]
   refine Gd.ix (by omega) (by rw [hkn]; exact hy) (Gd.nd (by omega) (Gd.jS (show k < l.length by omega) (Gd.nd (by omega) ?_)))
   rw [r8 ⟨h5, by omega⟩ hyw]
   rw [show ((k : Int) + 1).toNat = k + 1 by omega] at h7
   obtain ⟨q, m, e1, e2, hqlt, hmlt, hdm⟩ := zB ⟨h5, h6⟩ hyw hd
   rw [e1, e2, hkn, dS (n := (q : Int)) (by omega), qm, bN ⟨by omega, by omega⟩, show (q : Int) % 4294967296 = (q : Int) by omega]
   refine hnx _ ⟨by simp only; omega, by simp only; omega, by simp [h3], h4.set (by omega), by simp only; omega, by simp only; omega, ?_⟩ (by simp only; omega)
   simp only
   rw [show ((k : Int) - 1 + 1).toNat = k by omega, lG hy, lG (l := l.set k _) (FD (by omega)), Ib (by omega), nv, nv, ← h7]
   simp only [E1]
   exact zC hdm
  ·have hi : ¬ 0 ≤ i := Fm hi
   rw [show (i + 1).toNat = 0 by omega, G5, G5] at h7
   have hdn : 0 < d.toNat := by omega
   refine ⟨h4, h3, ?_, ?_⟩
   ·simp only
    rw [← h7, Kv, Nat.mul_add_div hdn, Kn (by omega)]; rfl
   ·simp only
    rw [qm, ← h7, Kv, Nat.mul_add_mod, Hi (by omega)]
    omega
 ·rw [Kk] at hy
  rw [hy.2]; simp
 ·simp only
  rw [show ((a.length : Int) - 1 + 1).toNat = a.length by omega, ID, Ka (by simp)]
  simp [nv]
theorem uF {n : Int} (h : -9223372036854775808 ≤ n ∧ n ≤ 9223372036854775807) : Gd (jF n) (fun r => nZ r ∧ r.words.length ≤ 2 ∧ eQ r = n) := by
 have core : ∀ m : Int, 0 ≤ m → m < 18446744073709551616 → (m = n ∧ 0 ≤ n ∨ m = -n ∧ n < 0) → Gd (k7 n m) (fun r => nZ r ∧ r.words.length ≤ 2 ∧ eQ r = n) := fun m h0 h1 h2 => by
  unfold k7
  rw [uJ, qm, qm]
  have hw : Wf [⟨m % 4294967296⟩, ⟨m / 4294967296 % 4294967296⟩] := fun y hy => by
   rcases F8.1 hy with rfl | hy
   ·simp only; omega
   ·rw [Gh] at hy; subst hy; simp only; omega
  have hv : nv [⟨m % 4294967296⟩, ⟨m / 4294967296 % 4294967296⟩] = m.toNat := by
   simp only [nv]
   show (m % 4294967296).toNat + 4294967296 * ((m / 4294967296 % 4294967296).toNat + 4294967296 * 0) = _
   omega
  refine Gd.e_ (nI _ _ hw (by simp)) (fun r hr => Gd.ret ⟨hr.1, hr.2.1, ?_⟩)
  rw [qT hr.2.2.1 hr.2.2.2, hv]
  rcases h2 with ⟨rfl, h2⟩ | ⟨rfl, h2⟩
  ·rw [E6 (by simp; omega)]; omega
  ·rw [E_ (by simp; omega)]; omega
 unfold jF
 refine Gd.ite (fun h0 => core _ ?_ ?_ (.inr ⟨?_, ?_⟩)) (fun h0 => core _ ?_ ?_ (.inl ⟨?_, ?_⟩))
 ·rw [vC]; omega
 ·rw [vC]; omega
 ·have := Fa h0
  rw [vC, vC]; omega
 ·exact Fa h0
 ·rw [vC]; omega
 ·rw [vC]; omega
 ·have := Fm h0
  rw [vC]; omega
 ·have := Fm h0; omega
theorem Dt {c x s : Nat} (hs : s ≤ 31) (hc : c < 2 ^ s) (hx : x < 4294967296) :
  u64.wrap ((BitVec.ofInt (u64).bits (c : Int) ||| BitVec.ofInt (u64).bits (jI .u64 (u64.wrap (x : Int)) (s : Int))).toNat) = ((c + x * 2 ^ s : Nat) : Int) := by
 have hp : (2 : Nat) ^ s ≤ 2147483648 := KA (by decide) hs
 have hx2 : x * 2 ^ s ≤ 4294967295 * 2147483648 := Nat.mul_le_mul (by omega) hp
 rw [dS (n := (x : Int)) (by omega)]
 have e1 : jI .u64 (x : Int) (s : Int) = ((x * 2 ^ s : Nat) : Int) := by
  unfold jI
  rw [show (min ((s : Int)).toNat u64.bits) = s by show min ((s : Int)).toNat 64 = s; omega]
  rw [show (x : Int) * 2 ^ s = ((x * 2 ^ s : Nat) : Int) by rw [F0, Int.natCast_pow]; rfl]
  rw [dS (by omega)]
 rw [e1]
 show u64.wrap (((BitVec.ofInt 64 ((c : Nat) : Int) ||| BitVec.ofInt 64 ((x * 2 ^ s : Nat) : Int)).toNat : Nat) : Int) = _
 rw [JY, JY, BitVec.toNat_or, JZ, JZ, Hi (by omega), Hi (by omega)]
 have e2 : c ||| x * 2 ^ s = c + x * 2 ^ s := by
  have := Nat.shiftLeft_add_eq_or_of_lt (i := s) (b := c) hc x
  rw [Nat.shiftLeft_eq] at this
  rw [Nat.or_comm, ← this, HM]
 rw [e2, dS (by omega)]
theorem xW {A P c x S W out o c' : Nat} (h : out + P * c = A * S) (hd : o + W * c' = c + x * S) : (out + P * o) + P * W * c' = (A + P * x) * S := by
 have e : P * o + P * (W * c') = P * c + P * (x * S) := by rw [← Kt, hd, Kt]
 rw [Ku P W, FC, Ku P x]
 omega
theorem ug {a : List bA} (ha : Wf a) (hz : a.length ≤ 1000000) {s : Nat} (hs : s ≤ 31) :
  Gd (jQ a (s : Int)) (fun r => Wf r ∧ r.length = a.length + 1 ∧ nv r = nv a * 2 ^ s ∧ ∃ t, r[a.length]? = some t ∧ t.n.toNat < 2 ^ s) := by
 have w1 : i64.wrap ((a.length : Int) + 1) = ((a.length + 1 : Nat) : Int) := by rw [bN ⟨by omega, by omega⟩]; omega
 have hp : (2 : Nat) ^ s ≤ 2147483648 := KA (by decide) hs
 have hp0 : 0 < (2 : Nat) ^ s := KD (by decide)
 unfold jQ
 rw [w1]
 refine Gd.nd ⟨by omega, by omega⟩ ?_
 refine Gd.dJ (fun k ys (z : List bA × Int) => ys = a.drop k ∧ k ≤ a.length ∧ z.1.length = a.length + 1 ∧ Wf z.1 ∧ 0 ≤ z.2 ∧ z.2.toNat < 2 ^ s ∧ nv (z.1.take k) + WB ^ k * z.2.toNat = nv (a.take k) * 2 ^ s) ?_ ?_ _ 0 _ ⟨by simp, by omega, by simp, fun y hy => ?_, H4 _, by simpa using hp0, by simp [nv]⟩
 ·rintro k x ys ⟨l, c⟩ nx ⟨h0, h1, h2, h3, h4, h5, h6⟩ hnx
  simp only at h2 h3 h4 h5 h6 hnx ⊢
  have hk : k < a.length := by
   have := Fl List.length h0
   simp at this; omega
  have hx : a[k]? = some x := by
   have := Fl (·[0]?) h0
   simpa [FU] using this.symm
  have hys : ys = a.drop (k + 1) := by
   have := Fl (List.drop 1) h0
   simpa using this
  have hxw := ha x (Fi hx)
  obtain ⟨cn, rfl⟩ : ∃ cn : Nat, c = cn := ⟨c.toNat, by omega⟩
  obtain ⟨X, hX⟩ : ∃ X : Nat, x.n = X := ⟨x.n.toNat, by omega⟩
  have hkn : ((k : Int)).toNat = k := by omega
  unfold my
  rw [hX]
  simp only [E1] at h5 h6
  rw [Dt hs h5 (by omega)]
  refine Gd.nd (by omega) (Gd.jS (show k < l.length by omega) ?_)
  rw [hkn, qm, uJ]
  have hb : cn + X * 2 ^ s < 4294967296 * 2 ^ s := by
   have : (X + 1) * 2 ^ s ≤ 4294967296 * 2 ^ s := Fq _ (by omega)
   rw [FC] at this
   omega
  have hdm := Ks (cn + X * 2 ^ s) WB
  have hq : (cn + X * 2 ^ s) / WB < 2 ^ s := by
   rw [Ko (by decide), Kv (2 ^ s)]; exact hb
  have e1 : ((cn + X * 2 ^ s : Nat) : Int) % 4294967296 = (((cn + X * 2 ^ s) % WB : Nat) : Int) := rfl
  have e2 : ((cn + X * 2 ^ s : Nat) : Int) / 4294967296 = (((cn + X * 2 ^ s) / WB : Nat) : Int) := rfl
  have hm : (cn + X * 2 ^ s) % WB < WB := IA _ (by decide)
  rw [e1, e2]
  generalize (cn + X * 2 ^ s) % WB = o at hdm hm
  generalize (cn + X * 2 ^ s) / WB = c' at hdm hq
  refine hnx _ ⟨hys, by omega, by simp [h2], h3.set ⟨by omega, by have : o < 4294967296 := hm; omega⟩, by simp only; omega, by simp only [E1]; exact hq, ?_⟩
  simp only
  rw [pQ (by omega), og, FM, Gc (by omega), lM hx, hX, KE]
  simp only [E1]
  exact xW h6 hdm
 ·rintro k ⟨l, c⟩ ⟨h0, h1, h2, h3, h4, h5, h6⟩
  simp only at h2 h3 h4 h5 h6 ⊢
  have hk : k = a.length := by
   have := Fl List.length h0
   simp at this; omega
  subst hk
  have hkn : ((a.length : Int)).toNat = a.length := by omega
  rw [hkn, qm, show c % 4294967296 = c by omega]
  refine Gd.jS (by omega) (Gd.ret ⟨h3.set (by omega), by simp [h2], ?_, ⟨⟨c⟩, FD (by omega), h5⟩⟩)
  have e := pQ (l := l) (k := a.length) (v := ⟨c⟩) (by omega)
  rw [FG (by simp; omega)] at e
  rw [e, og, FM, Gc (by omega)]
  rw [Hq] at h6
  exact h6
 ·rw [Kk] at hy
  rw [hy.2]; simp
section
variable {W R v1 v2 vl u2 ul top q V U : Nat}
structure ya (W R v1 v2 vl u2 ul top V U : Nat) : Prop where
 V : V = (v1 * W + v2) * R + vl
 U : U = (top * W + u2) * R + ul
 vl : vl < R
 ul : ul < R
 u2 : u2 < W
 v2 : v2 < W
theorem ya.Dy (h : ya W R v1 v2 vl u2 ul top V U) (hq : q * V ≤ U) : q * v1 ≤ top := by
 rcases Hf top (q * v1) with hlt | hge
 ·exfalso
  have h1 : (top + 1) * (W * R) ≤ q * v1 * (W * R) := Fq _ hlt
  have h2 : v1 * (W * R) ≤ V := by
   rw [h.V, FC, Ku v1]; omega
  have h3 : q * (v1 * (W * R)) ≤ q * V := Kw _ h2
  have h4 : U < (top + 1) * (W * R) := by
   have e1 : (u2 + 1) * R ≤ W * R := Fq _ h.u2
   rw [FC] at e1
   have hul := h.ul
   rw [h.U, FC, Ku top, FC top]
   omega
  rw [Ku q] at h1
  omega
 ·exact hge
theorem ya.vf (h : ya W R v1 v2 vl u2 ul top V U) (hq : q * V ≤ U) : q * (v1 * W + v2) ≤ top * W + u2 := by
 rcases Hf (top * W + u2) (q * (v1 * W + v2)) with hlt | hge
 ·exfalso
  have h1 : (top * W + u2 + 1) * R ≤ q * (v1 * W + v2) * R := Fq _ hlt
  have h2 : (v1 * W + v2) * R ≤ V := by rw [h.V]; omega
  have h3 : q * ((v1 * W + v2) * R) ≤ q * V := Kw _ h2
  have hul := h.ul
  have hU := h.U
  rw [FC _ 1] at h1
  rw [Ku q] at h1
  omega
 ·exact hge
theorem ya.Ek (h : ya W R v1 v2 vl u2 ul top V U) {g : Nat} (hg : g ≤ W) (hv : 1 ≤ v1) (hl : g * (v1 * W + v2) ≤ top * W + u2) : g * V < U + V := by
 have h1 : g * (v1 * W + v2) * R ≤ (top * W + u2) * R := Fq _ hl
 have h2 : g * vl ≤ W * vl := Fq _ hg
 have h3 : W * (vl + 1) ≤ W * R := Kw _ h.vl
 have h4 : 1 * (W * R) ≤ v1 * (W * R) := Fq _ hv
 have e1 : g * V = g * (v1 * W + v2) * R + g * vl := by rw [h.V, Kt, Ku]
 have e2 : V = v1 * (W * R) + v2 * R + vl := by rw [h.V, FC, Ku]
 have hU := h.U
 have hR : 0 < R := by have := h.vl; omega
 have hW : 0 < W := by have := h.u2; omega
 rw [Kt, HN] at h3
 omega
structure Gs (W R v1 v2 vl u2 ul top V U q g rest : Nat) : Prop where
 ge : q ≤ g
 eq : g * v1 + rest = top
 rest : rest < W
 le : g ≤ W + 1
structure DD (W V U q g : Nat) : Prop where
 ge : q ≤ g
 le : g ≤ q + 1
 w : g ≤ W
theorem ya.out (h : ya W R v1 v2 vl u2 ul top V U) {g : Nat} (hq : U < (q + 1) * V) (hge : q ≤ g) (hg : g ≤ W) (hv : 1 ≤ v1) (hl : g * (v1 * W + v2) ≤ top * W + u2) : DD W V U q g := by
 refine ⟨hge, ?_, hg⟩
 have h1 := h.Ek hg hv hl
 rcases Hf (q + 1) g with hlt | hge'
 ·exfalso
  have h2 : (q + 2) * V ≤ g * V := Fq _ hlt
  rw [FC] at h2 hq
  omega
 ·exact hge'
theorem Gs.stop (h : ya W R v1 v2 vl u2 ul top V U) {g rest : Nat} (hs : Gs W R v1 v2 vl u2 ul top V U q g rest) (hq : U < (q + 1) * V) (hv : 1 ≤ v1) (hg : g < W) (ht : g * v2 ≤ rest * W + u2) : DD W V U q g := by
 refine h.out hq hs.ge (by omega) hv ?_
 rw [← hs.eq, Kt, FC, Ku]
 omega
theorem Gs.less (h : ya W R v1 v2 vl u2 ul top V U) {g rest : Nat} (hs : Gs W R v1 v2 vl u2 ul top V U q g rest) (hq : q * V ≤ U) (hqW : q < W) (ht : W ≤ g ∨ rest * W + u2 < g * v2) : q < g := by
 rcases ht with ht | ht
 ·omega
 ·have h1 := h.vf hq
  rw [← hs.eq] at h1
  rcases Hf q g with hlt | hge
  ·exact hlt
  ·exfalso
   have h2 : g * (v1 * W + v2) ≤ q * (v1 * W + v2) := Fq _ hge
   rw [Kt g] at h2
   rw [FC (g * v1), Ku] at h1
   omega
theorem Gs.next {g rest : Nat} (hs : Gs W R v1 v2 vl u2 ul top V U q g rest) (hl : q < g) (hr : rest + v1 < W) : Gs W R v1 v2 vl u2 ul top V U q (g - 1) (rest + v1) := by
 have h := hs.eq; have hle := hs.le
 obtain ⟨k, rfl⟩ : ∃ k, g = k + 1 := ⟨g - 1, by omega⟩
 rw [FC] at h
 exact ⟨by omega, by rw [Nat.add_sub_cancel]; omega, hr, by omega⟩
theorem Gs.over (h : ya W R v1 v2 vl u2 ul top V U) {g rest : Nat} (hs : Gs W R v1 v2 vl u2 ul top V U q g rest) (hq : U < (q + 1) * V) (hv : 1 ≤ v1) (hl : q < g) (hr : W ≤ rest + v1) : DD W V U q (g - 1) := by
 have he := hs.eq; have hle := hs.le; have hv2 := h.v2
 obtain ⟨k, rfl⟩ : ∃ k, g = k + 1 := ⟨g - 1, by omega⟩
 rw [Nat.add_sub_cancel]
 rw [FC] at he
 refine h.out hq (by omega) (by omega) hv ?_
 have h1 : k * v2 ≤ W * v2 := Fq _ (by omega)
 have h2 : W * (v2 + 1) ≤ W * W := Kw _ hv2
 have h3 : W * W ≤ (rest + v1) * W := Fq _ hr
 have e : top = k * v1 + (rest + v1) := by omega
 rw [e, Kt k, FC (k * v1), Ku]
 rw [Kt] at h2
 omega
end
def yA : List U8 := fC (⟨#[0, 1, 2, 2, 3, 3, 3, 3, 4, 4, 4, 4, 4, 4, 4, 4, 5, 5, 5, 5, 5, 5, 5, 5, 5, 5, 5, 5, 5, 5, 5, 5, 6, 6, 6, 6, 6, 6, 6, 6, 6, 6, 6, 6, 6, 6, 6, 6, 6, 6, 6, 6, 6, 6, 6, 6, 6, 6, 6, 6, 6, 6, 6, 6, 7, 7, 7, 7, 7, 7, 7, 7, 7, 7, 7, 7, 7, 7, 7, 7, 7, 7, 7, 7, 7, 7, 7, 7, 7, 7, 7, 7, 7, 7, 7, 7, 7, 7, 7, 7, 7, 7, 7, 7, 7, 7, 7, 7, 7, 7, 7, 7, 7, 7, 7, 7, 7, 7, 7, 7, 7, 7, 7, 7, 7, 7, 7, 7, 8, 8, 8, 8, 8, 8, 8, 8, 8, 8, 8, 8, 8, 8, 8, 8, 8, 8, 8, 8, 8, 8, 8, 8, 8, 8, 8, 8, 8, 8, 8, 8, 8, 8, 8, 8, 8, 8, 8, 8, 8, 8, 8, 8, 8, 8, 8, 8, 8, 8, 8, 8, 8, 8, 8, 8, 8, 8, 8, 8, 8, 8, 8, 8, 8, 8, 8, 8, 8, 8, 8, 8, 8, 8, 8, 8, 8, 8, 8, 8, 8, 8, 8, 8, 8, 8, 8, 8, 8, 8, 8, 8, 8, 8, 8, 8, 8, 8, 8, 8, 8, 8, 8, 8, 8, 8, 8, 8, 8, 8, 8, 8, 8, 8, 8, 8, 8, 8, 8, 8, 8, 8, 8, 8, 8, 8, 8, 8]⟩)
def AT (i : Nat) (y : U8) : Bool := decide (1 ≤ y.n) && (decide (y.n ≤ 8) && (decide (2 ^ (y.n.toNat - 1) ≤ i) && decide (i < 2 ^ y.n.toNat)))
theorem Cd : ∀ i : Nat, 1 ≤ i → i < 256 → ∃ y, yA[i]? = some y ∧ AT i y = true := by
 have h : (List.range 256).all (fun i => decide (i = 0) || (match yA[i]? with | some y => AT i y | none => false)) = true := by decide +kernel
 intro i h1 h2
 have := Gq.1 h i (by simpa using h2)
 rw [KW (by omega), Bool.false_or] at this
 cases hy : yA[i]? with
 | none => rw [hy] at this; cases this
 | some y => rw [hy] at this; exact ⟨y, rfl, this⟩
theorem vh {n m : Int} (h1 : 1 ≤ n) (h2 : n < 256) (hm : 0 ≤ m ∧ m ≤ 24) : Gd (fX n m) (fun r => ∃ L : Nat, r = m + L ∧ 1 ≤ L ∧ L ≤ 8 ∧ 2 ^ (L - 1) ≤ n.toNat ∧ n.toNat < 2 ^ L) := by
 obtain ⟨y, hy, hb⟩ := Cd n.toNat (by omega) (by omega)
 simp only [AT, G7, Gi] at hb
 obtain ⟨b1, b2, b3, b4⟩ := hb
 have hw : u8.wrap n = n := by
  rw [show u8.wrap n = n % 256 by simp [IntKind.wrap, IntKind.bits, IntKind.signed]]; omega
 unfold fX
 rw [hw]
 refine Gd.ix (l := yA) (by omega) hy (Gd.ret ⟨y.n.toNat, ?_, by omega, by omega, b3, b4⟩)
 rw [bN (n := y.n) (by omega), bN (by omega)]
 omega
theorem xX {n : Int} {k : Nat} (hk : k ≤ 32) : iN .u32 n (k : Int) = n / (2 ^ k : Nat) := by
 unfold iN
 rw [show (min ((k : Int)).toNat u32.bits) = k by show min ((k : Int)).toNat 32 = k; omega, HR _ (Int.le_of_lt (Int.pow_pos (by decide)))]
 rw [Int.natCast_pow]; rfl
theorem DM {x : Int} (h1 : 1 ≤ x) (h2 : x < 4294967296) : Gd (eV x) (fun r => ∃ s : Nat, r = s ∧ s ≤ 31 ∧ 2147483648 ≤ x.toNat * 2 ^ s ∧ x.toNat * 2 ^ s < 4294967296) := by
 have fin : ∀ (o : Option Int), Gd o (fun r => ∃ l : Nat, r = l ∧ 1 ≤ l ∧ l ≤ 32 ∧ 2 ^ (l - 1) ≤ x.toNat ∧ x.toNat < 2 ^ l) → Gd (o.bind fun r101 => some (i64.wrap (32 - r101))) (fun r => ∃ s : Nat, r = s ∧ s ≤ 31 ∧ 2147483648 ≤ x.toNat * 2 ^ s ∧ x.toNat * 2 ^ s < 4294967296) := fun o ho => by
  refine Gd.e_ ho (fun r hr => Gd.ret ?_)
  obtain ⟨l, rfl, l1, l2, l3, l4⟩ := hr
  refine ⟨32 - l, by rw [bN (by omega)]; omega, by omega, ?_, ?_⟩
  ·have : 2 ^ (l - 1) * 2 ^ (32 - l) ≤ x.toNat * 2 ^ (32 - l) := Fq _ l3
   rw [← Ky, show l - 1 + (32 - l) = 31 by omega] at this
   exact this
  ·have : x.toNat * 2 ^ (32 - l) < 2 ^ l * 2 ^ (32 - l) := Nat.mul_lt_mul_of_pos_right l4 (KD (by decide))
   rw [← Ky, show l + (32 - l) = 32 by omega] at this
   exact this
 have part : ∀ (n : Int) (base : Nat), n = x / (2 ^ base : Nat) → base ≤ 24 → ∀ L : Nat, 1 ≤ L → 2 ^ (L - 1) ≤ n.toNat → n.toNat < 2 ^ L → 2 ^ (base + L - 1) ≤ x.toNat ∧ x.toNat < 2 ^ (base + L) := fun n base hn hb L l1 l2 l3 => by
  have e : n.toNat = x.toNat / 2 ^ base := by
   rw [hn]
   obtain ⟨X, rfl⟩ : ∃ X : Nat, x = X := ⟨x.toNat, by omega⟩
   rfl
  have hp : 0 < 2 ^ base := KD (by decide)
  rw [e] at l2 l3
  rw [Kp hp, ← Ky] at l2
  rw [Ko hp, ← Ky] at l3
  rw [show base + L - 1 = L - 1 + base by omega, HM base L]
  exact ⟨l2, l3⟩
 unfold eV
 refine fin _ ?_
 unfold ly
 refine Gd.ite (fun h => ?_) (fun h => ?_)
 ·have h := Fa h
  rw [show iN .u32 x 16 = x / 65536 from xX (k := 16) (by omega)]
  unfold fY
  refine Gd.ite (fun h3 => ?_) (fun h3 => ?_)
  ·have h3 := Fa h3
   rw [show iN .u32 (x / 65536) 8 = x / 65536 / 256 from xX (k := 8) (by omega), show i64.wrap (16 + 8) = 24 by decide]
   refine (vh (by omega) (by omega) (by omega)).mono ?_
   rintro r ⟨L, rfl, l1, l2, l3, l4⟩
   obtain ⟨p1, p2⟩ := part (x / 65536 / 256) 24 (by show _ = x / 16777216; omega) (by omega) L l1 l3 l4
   exact ⟨24 + L, by omega, by omega, by omega, p1, p2⟩
  ·have h3 := Fm h3
   refine (vh (by omega) (by omega) (by omega)).mono ?_
   rintro r ⟨L, rfl, l1, l2, l3, l4⟩
   obtain ⟨p1, p2⟩ := part (x / 65536) 16 (by show _ = x / 65536; omega) (by omega) L l1 l3 l4
   exact ⟨16 + L, by omega, by omega, by omega, p1, p2⟩
 ·have h := Fm h
  unfold fY
  refine Gd.ite (fun h3 => ?_) (fun h3 => ?_)
  ·have h3 := Fa h3
   rw [show iN .u32 x 8 = x / 256 from xX (k := 8) (by omega), show i64.wrap (0 + 8) = 8 by decide]
   refine (vh (by omega) (by omega) (by omega)).mono ?_
   rintro r ⟨L, rfl, l1, l2, l3, l4⟩
   obtain ⟨p1, p2⟩ := part (x / 256) 8 (by show _ = x / 256; omega) (by omega) L l1 l3 l4
   exact ⟨8 + L, by omega, by omega, by omega, p1, p2⟩
  ·have h3 := Fm h3
   refine (vh (by omega) (by omega) (by omega)).mono ?_
   rintro r ⟨L, rfl, l1, l2, l3, l4⟩
   obtain ⟨p1, p2⟩ := part x 0 (by show _ = x / 1; omega) (by omega) L l1 l3 l4
   exact ⟨0 + L, by omega, by omega, by omega, p1, p2⟩
theorem BM {t : Nat} (h : t < 18446744073709551616) : u64.wrap ((BitVec.ofInt (u64).bits (t : Int) &&& BitVec.ofInt (u64).bits 4294967295).toNat) = ((t % WB : Nat) : Int) := by
 have e : (BitVec.ofInt (u64).bits 4294967295).toNat = 4294967295 := by decide
 have e2 : (BitVec.ofInt (u64).bits (t : Int)).toNat = t := by
  show (BitVec.ofInt 64 (t : Int)).toNat = t
  rw [JY, JZ, Hi h]
 rw [BitVec.toNat_and, e, e2]
 have := Km t 32
 rw [show (2 : Nat) ^ 32 - 1 = 4294967295 from rfl] at this
 rw [this, show (2 : Nat) ^ 32 = WB from rfl]
 have hm : t % WB < WB := IA _ (by decide)
 rw [dS ⟨by omega, by have : t % WB < 4294967296 := hm; omega⟩]
theorem yH {l : List bA} {k : Nat} {x v : bA} (h : l[k]? = some x) (hx : 0 ≤ x.n) (hv : 0 ≤ v.n) : (nv (l.set k v) : Int) + ((WB ^ k : Nat) : Int) * x.n = nv l + ((WB ^ k : Nat) : Int) * v.n := by
 have := Fl (fun n : Nat => (n : Int)) (t_ (v := v) h)
 simp only [J6, F0] at this
 rw [IF hx, IF hv] at this
 exact this
theorem Ch {nl nl' o nw P W bo ca low ca' bo' Z gy : Int} (hA : nl' + P * o = nl + P * nw) (hB : nw + W * bo' = bo + o - low) (hC : low + W * ca' = ca + gy) (hI : nl + P * (bo - ca) = Z) :
  nl' + P * W * (bo' - ca') = Z - P * gy := by
 have e : W * (bo' - ca') = bo + o - nw - ca - gy := by rw [J5]; omega
 rw [J4, e, ← hI, J5, J5, J5, J3, J5]
 omega
theorem yJ {l l0 : List bA} {m : Nat} (h : ∀ p, m ≤ p → l[p]? = l0[p]?) (hm : m ≤ l.length) : nv l = nv (l.take m) + WB ^ m * nv (l0.drop m) := by
 have e : l.drop m = l0.drop m := by
  apply G_
  intro i
  rw [FU, FU]
  exact h _ (by omega)
 have : nv l = nv (l.take m ++ l.drop m) := by rw [GN]
 rw [this, vp, e, FM, Gc hm]
theorem ua (l : List bA) {m : Nat} (hm : m ≤ l.length) : nv l = nv (l.take m) + WB ^ m * nv (l.drop m) := yJ (fun _ _ => rfl) hm
theorem DN {b r134 vs : List bA} {j g : Nat} {l0 : List bA} {fin : List bA × Int × Int → Option (List bA × List bA)} {Q : List bA × List bA → Prop}
  (hvs : qk r134 0 (((b.length : Int) : Int).toNat) = vs) (hvl : vs.length = b.length) (hvw : Wf vs) (hl : Wf l0) (hjn : j + b.length < l0.length) (hN : l0.length ≤ 1000001) (hg : g ≤ WB)
  (hk : ∀ l bo ca, l.length = l0.length → Wf l → -1 ≤ bo → bo ≤ 0 → 0 ≤ ca → ca < 4294967296 → (nv l : Int) + ((WB ^ (j + b.length) : Nat) : Int) * (bo - ca) = nv l0 - ((WB ^ j : Nat) : Int) * ((g : Int) * (nv vs : Int)) →
   (∀ p, j + b.length ≤ p → l[p]? = l0[p]?) → (∀ p, p < j → l[p]? = l0[p]?) → Gd (fin (l, bo, ca)) Q) :
  Gd (jK (fun k s1409 n => kb b r134 (j : Int) (g : Int) k s1409.1 s1409.2.1 s1409.2.2 n) fin b.length 0 (l0, 0, 0)) Q := by
 have hg : g ≤ 4294967296 := hg
 refine Gd.jK (fun m k (z : List bA × Int × Int) => k + m = b.length ∧ z.1.length = l0.length ∧ Wf z.1 ∧ -1 ≤ z.2.1 ∧ z.2.1 ≤ 0 ∧ 0 ≤ z.2.2 ∧ z.2.2 < 4294967296 ∧ (nv z.1 : Int) + ((WB ^ (j + k) : Nat) : Int) * (z.2.1 - z.2.2) = nv l0 - ((WB ^ j : Nat) : Int) * ((g : Int) * (nv (vs.take k) : Int)) ∧ (∀ p, j + k ≤ p → z.1[p]? = l0[p]?) ∧ (∀ p, p < j → z.1[p]? = l0[p]?)) ?_ ?_ _ 0 _ ⟨by omega, rfl, hl, by show (-1 : Int) ≤ 0; omega, H4 _, H4 _, by show (0 : Int) < 4294967296; omega, by simp [nv], fun p _ => rfl, fun p _ => rfl⟩
 ·rintro m k ⟨l, bo, ca⟩ nx ⟨h0, h1, h2, h3, h4, h5, h6, h7, h8, h9⟩ hnx
  simp only at h1 h2 h3 h4 h5 h6 h7 h8 h9 hnx ⊢
  have hkb : k < b.length := by omega
  obtain ⟨y, hy⟩ : ∃ y, vs[k]? = some y := ⟨_, EZ (by omega)⟩
  have hyw := hvw y (Fi hy)
  obtain ⟨o, ho⟩ : ∃ o, l[j + k]? = some o := ⟨_, EZ (by omega)⟩
  have how := h2 o (Fi ho)
  have wj : i64.wrap ((k : Int) + (j : Int)) = ((j + k : Nat) : Int) := by rw [bN ⟨by omega, by omega⟩]; omega
  have hjk : (((j + k : Nat) : Int)).toNat = j + k := by omega
  unfold kb
  rw [hvs, wj]
  refine Gd.ix (by omega) (by rw [E1]; exact hy) (Gd.ix (by omega) (by rw [hjk]; exact ho) (Gd.ix (by omega) (by rw [hjk]; exact ho) ?_))
  obtain ⟨Y, hY⟩ : ∃ Y : Nat, y.n = Y := ⟨y.n.toNat, by omega⟩
  obtain ⟨cn, rfl⟩ : ∃ cn : Nat, ca = cn := ⟨ca.toNat, by omega⟩
  have hgy : g * Y ≤ 4294967296 * 4294967295 := Nat.mul_le_mul hg (by omega)
  have ht : u64.wrap ((cn : Int) + (u64.wrap ((g : Int) * (u64.wrap (y.n))))) = ((cn + g * Y : Nat) : Int) := by
   rw [hY, dS (n := (Y : Int)) (by omega), show (g : Int) * (Y : Int) = ((g * Y : Nat) : Int) by rw [F0], dS (n := ((g * Y : Nat) : Int)) (by omega), dS (by omega)]
   omega
  rw [ht, BM (by omega), uJ]
  have hdm := Ks (cn + g * Y) WB
  have hlow : (cn + g * Y) % WB < WB := IA _ (by decide)
  have hcl : (cn + g * Y) / WB < 4294967296 := by
   rw [Ko (by decide)]
   show cn + g * Y < 4294967296 * 4294967296
   omega
  have e2 : ((cn + g * Y : Nat) : Int) / 4294967296 = (((cn + g * Y) / WB : Nat) : Int) := rfl
  rw [e2]
  have hC : (((cn + g * Y) % WB : Nat) : Int) + 4294967296 * (((cn + g * Y) / WB : Nat) : Int) = (cn : Int) + ((g * Y : Nat) : Int) := by
   have : (cn + g * Y) % WB + 4294967296 * ((cn + g * Y) / WB) = cn + g * Y := hdm
   omega
  generalize (cn + g * Y) % WB = low at hlow hC
  generalize (cn + g * Y) / WB = c2 at hcl hC
  have hlow : low < 4294967296 := hlow
  have hnb : i64.wrap (bo + (i64.wrap ((i64.wrap (o.n)) - (i64.wrap ((low : Nat) : Int))))) = bo + o.n - low := by
   rw [bN (n := o.n) (by omega), bN (n := (low : Int)) (by omega), bN (n := o.n - low) (by omega), bN (by omega)]
   omega
  rw [hnb, hjk, qm, Bl]
  refine hnx _ ⟨by omega, by simp [h1], h2.set (by omega), by simp only; omega, by simp only; omega, by simp only; omega, by simp only; omega, ?_, fun p hp => ?_, fun p hp => ?_⟩
  ·simp only
   have hA := yH (l := l) (k := j + k) (x := o) (v := ⟨(bo + o.n - low) % 4294967296⟩) ho how.1 (by simp only; omega)
   simp only at hA
   have hB : (bo + o.n - low) % 4294967296 + 4294967296 * ((bo + o.n - low) / 4294967296) = bo + o.n - low := by omega
   have := Ch hA hB hC h7
   rw [show j + (k + 1) = (j + k) + 1 by omega, KE, F0, show ((WB : Nat) : Int) = 4294967296 from rfl, this, lM hy, hY, Ky]
   simp only [E1, J6, F0]
   rw [J3 (g : Int), J3 ((WB ^ j : Nat) : Int), J4 ((WB ^ j : Nat) : Int) ((WB ^ k : Nat) : Int)]
   have e : (g : Int) * (((WB ^ k : Nat) : Int) * (Y : Int)) = ((WB ^ k : Nat) : Int) * ((g : Int) * (Y : Int)) := by
    rw [← J4, Int.mul_comm (g : Int), J4]
   rw [e]
   omega
  ·simp only
   rw [Fz (by omega)]
   exact h8 p (by omega)
  ·simp only
   rw [Fz (by omega)]
   exact h9 p hp
 ·rintro k ⟨l, bo, ca⟩ ⟨h0, h1, h2, h3, h4, h5, h6, h7, h8, h9⟩
  simp only at h1 h2 h3 h4 h5 h6 h7 h8 h9
  have hk' : k = b.length := by omega
  subst hk'
  rw [← hvl, Hq] at h7
  rw [hvl] at h7
  exact hk l bo ca h1 h2 h3 h4 h5 h6 h7 h8 h9
theorem BL {nl nl' o s P W c Y T T' B X : Nat} (h1 : nl' + P * o = nl + P * (s % W)) (hs : s = c + o + Y) (h2 : nl + P * c = X + B * T) (hP : P * Y = B * (T' - T)) (hT : T ≤ T') : nl' + P * W * (s / W) = X + B * T' := by
 have hd : s % W + W * (s / W) = s := Ks s W
 have e : P * (s % W) + P * (W * (s / W)) = P * s := by rw [← Kt, hd]
 have e2 : P * s = P * c + P * o + P * Y := by rw [hs, Kt, Kt]
 have e3 : B * T' = B * T + B * (T' - T) := by rw [← Kt]; congr 1; omega
 rw [Ku P W]
 omega
theorem DG {b r134 vs : List bA} {j : Nat} {l1 : List bA} {fin : List bA × Int → Option (List bA × List bA)} {Q : List bA × List bA → Prop}
  (hvs : qk r134 0 (((b.length : Int) : Int).toNat) = vs) (hvl : vs.length = b.length) (hvw : Wf vs) (hl : Wf l1) (hjn : j + b.length < l1.length) (hN : l1.length ≤ 1000001)
  (hk : ∀ l c, l.length = l1.length → Wf l → 0 ≤ c → c ≤ 1 → nv l + WB ^ (j + b.length) * c.toNat = nv l1 + WB ^ j * nv vs → (∀ p, j + b.length ≤ p → l[p]? = l1[p]?) → (∀ p, p < j → l[p]? = l1[p]?) → Gd (fin (l, c)) Q) :
  Gd (jK (fun k s1621 n => kc b r134 (j : Int) k s1621.1 s1621.2 n) fin b.length 0 (l1, 0)) Q := by
 refine Gd.jK (fun m k (z : List bA × Int) => k + m = b.length ∧ z.1.length = l1.length ∧ Wf z.1 ∧ 0 ≤ z.2 ∧ z.2 ≤ 1 ∧ nv z.1 + WB ^ (j + k) * z.2.toNat = nv l1 + WB ^ j * nv (vs.take k) ∧ (∀ p, j + k ≤ p → z.1[p]? = l1[p]?) ∧ (∀ p, p < j → z.1[p]? = l1[p]?)) ?_ ?_ _ 0 _ ⟨by omega, rfl, hl, H4 _, by show (0 : Int) ≤ 1; omega, by simp [nv], fun p _ => rfl, fun p _ => rfl⟩
 ·rintro m k ⟨l, c⟩ nx ⟨h0, h1, h2, h3, h4, h7, h8, h9⟩ hnx
  simp only at h1 h2 h3 h4 h7 h8 h9 hnx ⊢
  obtain ⟨y, hy⟩ : ∃ y, vs[k]? = some y := ⟨_, EZ (by omega)⟩
  have hyw := hvw y (Fi hy)
  obtain ⟨o, ho⟩ : ∃ o, l[j + k]? = some o := ⟨_, EZ (by omega)⟩
  have how := h2 o (Fi ho)
  have wj : i64.wrap ((k : Int) + (j : Int)) = ((j + k : Nat) : Int) := by rw [bN ⟨by omega, by omega⟩]; omega
  have hjk : (((j + k : Nat) : Int)).toNat = j + k := by omega
  unfold kc
  rw [hvs, wj]
  refine Gd.ix (by omega) (by rw [hjk]; exact ho) (Gd.ix (by omega) (by rw [E1]; exact hy) (Gd.ix (by omega) (by rw [hjk]; exact ho) ?_))
  have hs : u64.wrap (c + (u64.wrap ((u64.wrap (o.n)) + (u64.wrap (y.n))))) = c + o.n + y.n := by
   rw [dS (n := o.n) (by omega), dS (n := y.n) (by omega), dS (n := o.n + y.n) (by omega), dS (by omega)]
   omega
  rw [hs, hjk, uJ, qm]
  have hsn : c + o.n + y.n = ((c.toNat + o.n.toNat + y.n.toNat : Nat) : Int) := by omega
  refine hnx _ ⟨by omega, by simp [h1], h2.set (by omega), by simp only; omega, by simp only; omega, ?_, fun p hp => ?_, fun p hp => ?_⟩
  ·simp only
   have g := t_ (l := l) (k := j + k) (x := o) (v := ⟨(c + o.n + y.n) % 4294967296⟩) ho
   simp only at g
   have g1 : ((c + o.n + y.n) % 4294967296).toNat = (c.toNat + o.n.toNat + y.n.toNat) % WB := by rw [hsn]; show _ = _ % 4294967296; omega
   have g2 : ((c + o.n + y.n) / 4294967296).toNat = (c.toNat + o.n.toNat + y.n.toNat) / WB := by rw [hsn]; show _ = _ / 4294967296; omega
   rw [g1] at g
   rw [g2, show j + (k + 1) = (j + k) + 1 by omega, KE]
   refine BL g rfl h7 (T' := nv (vs.take (k + 1))) ?_ ?_
   ·rw [lM hy, HD, Ky, Ku]
   ·rw [lM hy]; omega
  ·simp only
   rw [Fz (by omega)]
   exact h8 p (by omega)
  ·simp only
   rw [Fz (by omega)]
   exact h9 p hp
 ·rintro k ⟨l, c⟩ ⟨h0, h1, h2, h3, h4, h7, h8, h9⟩
  simp only at h1 h2 h3 h4 h7 h8 h9
  have hk' : k = b.length := by omega
  subst hk'
  rw [← hvl, Hq] at h7
  rw [hvl] at h7
  exact hk l c h1 h2 h3 h4 h7 h8 h9
theorem z8 {qs l' : List bA} {j : Nat} {g : Int} {nx : List bA × List bA × Int → Option (List bA × List bA)} {Q : List bA × List bA → Prop} (hj : j < qs.length) (hN : qs.length ≤ 1000001) (hg : 0 ≤ g ∧ g < 4294967296)
  (hn : Gd (nx (qs.set j ⟨g⟩, l', (j : Int) - 1)) Q) : Gd (fW qs (j : Int) nx l' g) Q := by
 unfold fW
 refine Gd.jS hj ?_
 rw [E1, qm, bN (by omega), show g % 4294967296 = g by omega]
 exact hn
theorem Da {W P B low U V n0 : Nat} (h0 : n0 = low + P * U) (hlow : low < P) (hV : V ≤ B) (hU : U < W * V) : n0 < P * (W * B) := by
 have h1 : U + 1 ≤ W * B := GB hU (Kw _ hV)
 have h2 : P * (U + 1) ≤ P * (W * B) := Kw _ h1
 rw [Kt] at h2
 omega
theorem tf {n0 X M T : Nat} (h : n0 = X + M * T) (hb : n0 < M) : T = 0 := by
 rcases Nat.eq_zero_or_pos T with h' | h'
 ·exact h'
 ·have : M * 1 ≤ M * T := Kw _ h'
  omega
theorem As {b r134 vs : List bA} {j g q U : Nat} {l0 qs : List bA} {nx : List bA × List bA × Int → Option (List bA × List bA)} {Q : List bA × List bA → Prop}
  (hvs : qk r134 0 (((b.length : Int) : Int).toNat) = vs) (hvl : vs.length = b.length) (hvw : Wf vs) (hl : Wf l0) (hjn : j + b.length < l0.length) (hN : l0.length ≤ 1000001) (hj : j < qs.length) (hqN : qs.length ≤ 1000001)
  (hU : nv (l0.drop j) = U) (hV : nv vs ≤ WB ^ b.length) (hUW : U < WB * nv vs) (hq1 : q * nv vs ≤ U) (hq2 : U < (q + 1) * nv vs) (hqW : q < WB) (hg : DD WB (nv vs) U q g)
  (hn : ∀ l', l'.length = l0.length → Wf l' → nv l' + WB ^ j * (q * nv vs) = nv l0 → (∀ p, p < j → l'[p]? = l0[p]?) → Gd (nx (qs.set j ⟨(q : Int)⟩, l', (j : Int) - 1)) Q) :
  Gd (dG b r134 qs l0 (j : Int) nx (g : Int)) Q := by
 have hqW' : q < 4294967296 := hqW
 have wjn : i64.wrap ((j : Int) + (b.length : Int)) = ((j + b.length : Nat) : Int) := by rw [bN ⟨by omega, by omega⟩]; omega
 have hjk : (((j + b.length : Nat) : Int)).toNat = j + b.length := by omega
 have h0 := ua l0 (m := j) (by omega)
 rw [hU] at h0
 have hlow := mW (hl.take j)
 rw [FM, Gc (by omega)] at hlow
 have hpow : WB ^ (j + b.length + 1) = WB ^ j * (WB * WB ^ b.length) := by rw [KE, Ky, Kv WB, Ku]
 have hbig : nv l0 < WB ^ (j + b.length + 1) := by rw [hpow]; exact Da h0 hlow hV hUW
 have habove : nv (l0.drop (j + b.length + 1)) = 0 := tf (ua l0 (m := j + b.length + 1) (by omega)) hbig
 have small : ∀ l : List bA, l.length = l0.length → Wf l → (∀ p, j + b.length + 1 ≤ p → l[p]? = l0[p]?) → nv l < WB ^ (j + b.length + 1) := fun l h1 h2 h3 => by
  rw [yJ h3 (by omega), habove, Kx, GY]
  have := mW (h2.take (j + b.length + 1))
  rw [FM, Gc (by omega)] at this
  exact this
 unfold dG
 rw [show ((b.length : Int) : Int).toNat = b.length by omega] at hvs
 rw [show ((b.length : Int) : Int).toNat = b.length by omega]
 refine DN (by rw [show ((b.length : Int) : Int).toNat = b.length by omega]; exact hvs) hvl hvw hl hjn hN hg.w (fun l bo ca e1 e2 e3 e4 e5 e6 e7 e8 e9 => ?_)
 obtain ⟨o, ho⟩ : ∃ o, l[j + b.length]? = some o := ⟨_, EZ (by omega)⟩
 have how := e2 o (Fi ho)
 simp only
 rw [wjn]
 refine Gd.ix (by omega) (by rw [hjk]; exact ho) (Gd.ix (by omega) (by rw [hjk]; exact ho) ?_)
 have hnb : i64.wrap (bo + (i64.wrap ((i64.wrap (o.n)) - (i64.wrap ca)))) = bo + o.n - ca := by
  rw [bN (n := o.n) (by omega), bN (n := ca) (by omega), bN (n := o.n - ca) (by omega), bN (by omega)]
  omega
 rw [hnb, hjk, qm]
 have hA := yH (l := l) (k := j + b.length) (x := o) (v := ⟨(bo + o.n - ca) % 4294967296⟩) ho how.1 (by simp only; omega)
 simp only at hA
 have hW1 : Wf (l.set (j + b.length) ⟨(bo + o.n - ca) % 4294967296⟩) := e2.set (by omega)
 have hlen1 : (l.set (j + b.length) (⟨(bo + o.n - ca) % 4294967296⟩ : bA)).length = l0.length := by simp [e1]
 have hab1 : ∀ p, j + b.length + 1 ≤ p → (l.set (j + b.length) (⟨(bo + o.n - ca) % 4294967296⟩ : bA))[p]? = l0[p]? := fun p hp => by
  rw [Fz (by omega)]; exact e8 p (by omega)
 have hbe1 : ∀ p, p < j → (l.set (j + b.length) (⟨(bo + o.n - ca) % 4294967296⟩ : bA))[p]? = l0[p]? := fun p hp => by
  rw [Fz (by omega)]; exact e9 p hp
 have hsm1 := small _ hlen1 hW1 hab1
 generalize l.set (j + b.length) (⟨(bo + o.n - ca) % 4294967296⟩ : bA) = l1 at hA hW1 hlen1 hab1 hbe1 hsm1
 have hPW : ((WB ^ (j + b.length + 1) : Nat) : Int) = ((WB ^ (j + b.length) : Nat) : Int) * 4294967296 := by rw [KE, F0, show ((WB : Nat) : Int) = 4294967296 from rfl]
 have hZ : (nv l1 : Int) + ((WB ^ (j + b.length) : Nat) : Int) * (bo + o.n - ca - (bo + o.n - ca) % 4294967296) = nv l0 - ((WB ^ j : Nat) : Int) * ((g : Int) * (nv vs : Int)) := by
  rw [← e7, J5, J5, J3, J5]
  omega
 have hZU : (nv l0 : Int) - ((WB ^ j : Nat) : Int) * ((g : Int) * (nv vs : Int)) = nv (l0.take j) + ((WB ^ j : Nat) : Int) * ((U : Int) - (g : Int) * (nv vs : Int)) := by
  rw [h0, J6, F0, J5]; omega
 have hge := hg.ge; have hle := hg.le
 refine Gd.ite (fun hneg => ?_) (fun hpos => ?_)
 ·have hneg : bo + o.n - ca < 0 := Fa hneg
  have hdiv : bo + o.n - ca - (bo + o.n - ca) % 4294967296 = -4294967296 := by omega
  rw [hdiv] at hZ
  have hZ1 : (nv l1 : Int) - ((WB ^ (j + b.length + 1) : Nat) : Int) = nv l0 - ((WB ^ j : Nat) : Int) * ((g : Int) * (nv vs : Int)) := by
   rw [hPW, ← hZ, Int.mul_neg]; omega
  have hgq : g = q + 1 := by
   rcases (show g = q ∨ g = q + 1 by omega) with h | h
   ·exfalso
    rw [h] at hZ1 hZU
    have h0' : (0 : Int) ≤ (U : Int) - (q : Int) * (nv vs : Int) := by
     have h1' : ((q * nv vs : Nat) : Int) ≤ U := by omega
     rw [F0] at h1'; omega
    have : (0 : Int) ≤ ((WB ^ j : Nat) : Int) * ((U : Int) - (q : Int) * (nv vs : Int)) := Int.mul_nonneg (by omega) h0'
    omega
   ·exact h
  refine DG (j := j) (l1 := l1) (by rw [show ((b.length : Int) : Int).toNat = b.length by omega]; exact hvs) hvl hvw hW1 (by omega) (by omega) (fun l2 c f1 f2 f3 f4 f5 f6 f7 => ?_)
  obtain ⟨o2, ho2⟩ : ∃ o2, l2[j + b.length]? = some o2 := ⟨_, EZ (by omega)⟩
  have how2 := f2 o2 (Fi ho2)
  simp only
  refine Gd.ix (by omega) (by rw [hjk]; exact ho2) (Gd.ix (by omega) (by rw [hjk]; exact ho2) ?_)
  rw [qm, qm, show c % 4294967296 = c by omega]
  have hg1 : u64.wrap ((g : Int) - 1) = (q : Int) := by rw [hgq, dS (by omega)]; omega
  rw [hg1]
  have hB := t_ (l := l2) (k := j + b.length) (x := o2) (v := ⟨(o2.n + c) % 4294967296⟩) ho2
  simp only at hB
  have hW2 : Wf (l2.set (j + b.length) ⟨(o2.n + c) % 4294967296⟩) := f2.set (by omega)
  have hlen2 : (l2.set (j + b.length) (⟨(o2.n + c) % 4294967296⟩ : bA)).length = l0.length := by simp [f1, hlen1]
  have hab2 : ∀ p, j + b.length + 1 ≤ p → (l2.set (j + b.length) (⟨(o2.n + c) % 4294967296⟩ : bA))[p]? = l0[p]? := fun p hp => by
   rw [Fz (by omega), f6 p (by omega)]; exact hab1 p hp
  have hbe2 : ∀ p, p < j → (l2.set (j + b.length) (⟨(o2.n + c) % 4294967296⟩ : bA))[p]? = l0[p]? := fun p hp => by
   rw [Fz (by omega), f7 p hp]; exact hbe1 p hp
  have hsm2 := small _ hlen2 hW2 hab2
  generalize l2.set (j + b.length) (⟨(o2.n + c) % 4294967296⟩ : bA) = l3 at hB hW2 hlen2 hab2 hbe2 hsm2
  refine z8 hj hqN (by omega) (hn l3 hlen2 hW2 ?_ hbe2)
  obtain ⟨κ, hκ⟩ : ∃ κ : Nat, o2.n.toNat + c.toNat = ((o2.n + c) % 4294967296).toNat + WB * κ := by
   refine ⟨((o2.n + c) / 4294967296).toNat, ?_⟩
   have eW : WB = 4294967296 := rfl
   rw [eW]; omega
  have hsum : nv l3 + WB ^ (j + b.length + 1) * κ = nv l1 + WB ^ j * nv vs := by
   have e : WB ^ (j + b.length) * o2.n.toNat + WB ^ (j + b.length) * c.toNat = WB ^ (j + b.length) * ((o2.n + c) % 4294967296).toNat + WB ^ (j + b.length) * (WB * κ) := by
    rw [← Kt, hκ, Kt]
   rw [KE, Ku]
   omega
  have hVlt : WB ^ j * nv vs < WB ^ (j + b.length + 1) := by
   have h1 : WB ^ j * nv vs ≤ WB ^ j * WB ^ b.length := Kw _ hV
   have h2 : WB ^ j * WB ^ b.length < WB ^ (j + b.length + 1) := by
    rw [← Ky]; exact Nat.pow_lt_pow_right (by decide) (by omega)
   omega
  have hZq : (nv l1 : Int) + ((WB ^ j * nv vs : Nat) : Int) = nv (l0.take j) + ((WB ^ j : Nat) : Int) * ((U : Int) - (q : Int) * (nv vs : Int)) + ((WB ^ (j + b.length + 1) : Nat) : Int) := by
   rw [hgq] at hZ1 hZU
   have e : ((WB ^ j : Nat) : Int) * ((U : Int) - ((q + 1 : Nat) : Int) * (nv vs : Int)) = ((WB ^ j : Nat) : Int) * ((U : Int) - (q : Int) * (nv vs : Int)) - ((WB ^ j * nv vs : Nat) : Int) := by
    rw [F0, ← J5]
    congr 1
    rw [show ((q + 1 : Nat) : Int) = (q : Int) + 1 by omega, Int.add_mul]
    omega
   rw [e] at hZU
   omega
  have hnn : (0 : Int) ≤ ((WB ^ j : Nat) : Int) * ((U : Int) - (q : Int) * (nv vs : Int)) := Int.mul_nonneg (by omega) (by
   have : ((q * nv vs : Nat) : Int) ≤ U := by omega
   rw [F0] at this; omega)
  have hκ1 : κ = 1 := by
   rcases Hf κ 1 with h | h
   ·exfalso
    have : κ = 0 := by omega
    rw [this] at hsum; omega
   ·rcases Hf 1 κ with h2 | h2
    ·exfalso
     have : WB ^ (j + b.length + 1) * 2 ≤ WB ^ (j + b.length + 1) * κ := Kw _ h2
     omega
    ·omega
  rw [hκ1, HN] at hsum
  have e : ((WB ^ j : Nat) : Int) * ((U : Int) - (q : Int) * (nv vs : Int)) = ((WB ^ j * U : Nat) : Int) - ((WB ^ j * (q * nv vs) : Nat) : Int) := by
   rw [J5, F0, F0, F0]
  rw [e] at hZq
  omega
 ·have hpos : ¬ bo + o.n - ca < 0 := Fm hpos
  have hdiv : bo + o.n - ca - (bo + o.n - ca) % 4294967296 = 0 := by omega
  rw [hdiv, Int.mul_zero, Int.add_zero] at hZ
  have hgq : g = q := by
   rcases (show g = q ∨ g = q + 1 by omega) with h | h
   ·exact h
   ·exfalso
    rw [h] at hZ hZU
    have h1 : (U : Int) - ((q + 1 : Nat) : Int) * (nv vs : Int) ≤ -1 := by
     have : (U : Int) < (((q + 1) * nv vs : Nat) : Int) := by omega
     rw [F0] at this; omega
    have h2 : ((WB ^ j : Nat) : Int) * ((U : Int) - ((q + 1 : Nat) : Int) * (nv vs : Int)) ≤ ((WB ^ j : Nat) : Int) * (-1) := Int.mul_le_mul_of_nonneg_left h1 (by omega)
    omega
  rw [hgq] at hZ ⊢
  refine z8 hj hqN (by omega) (hn l1 hlen1 hW1 ?_ hbe1)
  have e : ((WB ^ j : Nat) : Int) * ((q : Int) * (nv vs : Int)) = ((WB ^ j * (q * nv vs) : Nat) : Int) := by rw [F0, F0]
  rw [e] at hZ
  omega
theorem yI {l : List bA} {m : Nat} {x y : bA} (h1 : l[m + 1]? = some x) (h2 : l[m]? = some y) (h0 : nv (l.drop (m + 2)) = 0) : nv l = (x.n.toNat * WB + y.n.toNat) * WB ^ m + nv (l.take m) := by
 have e := pN h2
 have e1 : nv (l.drop (m + 1)) = x.n.toNat + WB * nv (l.drop (m + 2)) := by rw [lG h1, nv]
 rw [e, e1, h0, Kx, GY, Kv (WB ^ m), HM (nv (l.take m)), HM y.n.toNat, Kv WB x.n.toNat]
theorem A3 {l : List bA} {m : Nat} {x y z : bA} (h1 : l[m + 2]? = some x) (h2 : l[m + 1]? = some y) (h3 : l[m]? = some z) (h0 : nv (l.drop (m + 3)) = 0) : nv l = ((x.n.toNat * WB + y.n.toNat) * WB + z.n.toNat) * WB ^ m + nv (l.take m) := by
 have e := pN h3
 have e1 : nv (l.drop (m + 1)) = y.n.toNat + WB * nv (l.drop (m + 2)) := by rw [lG h2, nv]
 have e2 : nv (l.drop (m + 2)) = x.n.toNat + WB * nv (l.drop (m + 3)) := by rw [lG h1, nv]
 rw [e, e1, e2, h0, Kx, GY, Kv (WB ^ m), HM (nv (l.take m)), HM z.n.toNat, Kv WB (y.n.toNat + _), HM y.n.toNat, Kv WB x.n.toNat]
theorem AG {b r134 vs : List bA} {j n2 q U R v1 v2 vl u2 ul top : Nat} {l0 qs : List bA} {nx : List bA × List bA × Int → Option (List bA × List bA)} {Q : List bA × List bA → Prop}
  (hb : b.length = n2 + 2) (hvs : qk r134 0 (((b.length : Int) : Int).toNat) = vs) (hvl : vs.length = b.length) (hl0 : j + b.length < l0.length) (hN : l0.length ≤ 1000001)
  (y1 y2 z2 : bA) (hy1 : vs[n2 + 1]? = some y1) (hy2 : vs[n2]? = some y2) (hz2 : l0[j + n2]? = some z2) (e1 : y1.n = v1) (e2 : y2.n = v2) (e3 : z2.n = u2) (w1 : v1 < 4294967296) (hv1 : 1 ≤ v1)
  (hS : ya WB R v1 v2 vl u2 ul top (nv vs) U) (hq1 : q * nv vs ≤ U) (hq2 : U < (q + 1) * nv vs) (hqW : q < WB)
  (hk : ∀ g, DD WB (nv vs) U q g → Gd (dG b r134 qs l0 (j : Int) nx (g : Int)) Q)
  {g0 rest0 : Nat} (h0 : Gs WB R v1 v2 vl u2 ul top (nv vs) U q g0 rest0) :
  Gd (gC (fun s1721 n => kd b r134 qs l0 (j : Int) nx s1721.1 s1721.2 n) fR ((g0 : Int), (rest0 : Int))) Q := by
 have hu2 : u2 < 4294967296 := hS.u2
 have hv2 : v2 < 4294967296 := hS.v2
 have eW : WB = 4294967296 := rfl
 refine Gd.gC (fun (z : Int × Int) => ∃ g rest : Nat, z = ((g : Int), (rest : Int)) ∧ Gs WB R v1 v2 vl u2 ul top (nv vs) U q g rest) (fun z => z.1.toNat) ?_ fR _ ⟨g0, rest0, rfl, h0⟩ ?_
 ·rintro z nx2 ⟨g, rest, rfl, hG⟩ hnx
  simp only at hnx ⊢
  have hrest : rest < 4294967296 := hG.rest
  have hgW : g ≤ 4294967297 := hG.le
  have wn1 : i64.wrap ((b.length : Int) - 1) = ((n2 + 1 : Nat) : Int) := by rw [hb, bN (by omega)]; omega
  have wn2 : i64.wrap ((b.length : Int) - 2) = ((n2 : Nat) : Int) := by rw [hb, bN (by omega)]; omega
  have wjn : i64.wrap ((i64.wrap ((j : Int) + (b.length : Int))) - 2) = ((j + n2 : Nat) : Int) := by rw [hb, bN (n := (j : Int) + _) (by omega), bN (by omega)]; omega
  have dec : q < g → Gd (if decide (4294967296 ≤ (u64.wrap ((rest : Int) + (u64.wrap (y1.n))))) then (dG b r134 qs l0 (j : Int) nx (u64.wrap ((g : Int) - 1))) else (nx2 (u64.wrap ((g : Int) - 1), u64.wrap ((rest : Int) + (u64.wrap (y1.n)))))) Q := fun hlt => by
   have er : u64.wrap ((rest : Int) + (u64.wrap (y1.n))) = ((rest + v1 : Nat) : Int) := by
    rw [e1, dS (n := (v1 : Int)) (by omega), dS (by omega)]; omega
   have eg : u64.wrap ((g : Int) - 1) = ((g - 1 : Nat) : Int) := by rw [dS (by omega)]; omega
   rw [er, eg]
   refine Gd.ite (fun h => hk _ (hG.over hS hq2 hv1 hlt (by rw [eW]; have := Fa h; omega))) (fun h => hnx _ ⟨g - 1, rest + v1, rfl, hG.next hlt (by rw [eW]; have := Fm h; omega)⟩ ?_)
   simp only [E1]
   omega
  unfold kd
  rw [hvs, wn1, wn2, wjn]
  refine Gd.ite (fun h => ?_) (fun h => ?_)
  ·have h := Fa h
   refine Gd.ix (by omega) (by rw [E1]; exact hy1) (dec (hG.less hS hq1 hqW (.inl (by rw [eW]; omega))))
  ·have h := Fm h
   refine Gd.ix (by omega) (by rw [E1]; exact hy2) (Gd.ix (by omega) (by rw [E1]; exact hz2) ?_)
   have eor : u64.wrap ((BitVec.ofInt (u64).bits (jI .u64 (rest : Int) 32) ||| BitVec.ofInt (u64).bits (u64.wrap (z2.n))).toNat) = ((rest * WB + u2 : Nat) : Int) := by
    rw [r8 ⟨by omega, by omega⟩ (by rw [e3]; omega), e3, eW]; omega
   have egv : u64.wrap ((g : Int) * (u64.wrap (y2.n))) = ((g * v2 : Nat) : Int) := by
    have hb2 : g * v2 ≤ 4294967296 * 4294967295 := Nat.mul_le_mul (by omega) (by omega)
    rw [e2, dS (n := (v2 : Int)) (by omega), show (g : Int) * (v2 : Int) = ((g * v2 : Nat) : Int) by rw [F0], dS (by omega)]
   rw [eor, egv]
   refine Gd.ite (fun h2 => Gd.ix (by omega) (by rw [E1]; exact hy1) (dec (hG.less hS hq1 hqW (.inr ?_)))) (fun h2 => hk g (hG.stop hS hq2 hv1 (by rw [eW]; omega) ?_))
   ·exact Int.ofNat_lt.1 (Fa h2)
   ·have := Fm h2
    exact Int.ofNat_le.1 (Int.not_lt.1 this)
 ·simp only [fR, E1]
  have : g0 ≤ 4294967297 := h0.le
  omega
theorem AF {W R v1 v2 vl u2 ul u0 u1 V U q : Nat} (h : ya W R v1 v2 vl u2 ul (u0 * W + u1) V U) (hq : q * V ≤ U) (hv : 1 ≤ v1) (hv1 : v1 < W) (hW : W ≤ 2 * v1) (hu0 : u0 ≤ v1) (hu1 : u1 < W) :
  Gs W R v1 v2 vl u2 ul (u0 * W + u1) V U q ((u0 * W + u1) / v1) ((u0 * W + u1) % v1) := by
 have hm : (u0 * W + u1) % v1 < v1 := IA _ hv
 refine ⟨(Kp hv).2 (h.Dy hq), ?_, by omega, ?_⟩
 ·rw [Kv, HM, Ks]
 ·have h1 : u0 * W ≤ v1 * W := Fq _ hu0
  have h2 : u0 * W + u1 < (W + 2) * v1 := by
   rw [FC, Kv W v1]; omega
  have := (Ko hv).2 h2
  omega
theorem vf {W R u0 u1 v1 v2 vl ul V X : Nat} (hX : X = (u0 * W + u1) * R + ul) (hV : V = (v1 * W + v2) * R + vl) (hlt : X < V) (hvl : vl < R) (hv2 : v2 < W) : u0 ≤ v1 := by
 rcases Hf v1 u0 with h | h
 ·exfalso
  have h1 : (v1 + 1) * W * R ≤ u0 * W * R := Fq _ (Fq _ h)
  have h2 : (v2 + 1) * R ≤ W * R := Fq _ hv2
  have e1 : (v1 + 1) * W * R = v1 * W * R + W * R := by rw [FC, FC, Jd]
  have e2 : X = u0 * W * R + u1 * R + ul := by rw [hX, FC]
  have e3 : V = v1 * W * R + v2 * R + vl := by rw [hV, FC]
  rw [FC] at h2
  omega
 ·exact h
theorem AL {q W D V P nl nu U0 : Nat} (h1 : nl + P * (q * V) = nu) (h2 : D * V * (P * W) + nu = U0) : (q + W * D) * V * P + nl = U0 := by
 have e1 : (q + W * D) * V * P = P * (q * V) + D * V * (P * W) := by
  rw [FC, FC, Kv P (q * V)]
  congr 1
  rw [Kv W D, Ku D W V, Kv W V, ← Ku D V W, Ku (D * V) W P, Kv W P]
 omega
theorem Ci {W x y V : Nat} (hx : x < W) (hy : y < V) : x + W * y < W * V := by
 have : W * (y + 1) ≤ W * V := Kw _ hy
 rw [Kt] at this; omega
theorem Bg {P a x q V U : Nat} (hP : 0 < P) (h1 : a + P * x + P * (q * V) = a + P * U) (h2 : U < (q + 1) * V) : x < V := by
 have e : P * (x + q * V) = P * U := by rw [Kt]; omega
 have := Nat.eq_of_mul_eq_mul_left hP e
 rw [FC] at h2
 omega
theorem zd {b r134 vs : List bA} {r127 : Int} {n2 N U0 : Nat} {Q : List bA × List bA → Prop}
  (hb : b.length = n2 + 2) (hvs : qk r134 0 (((b.length : Int) : Int).toNat) = vs) (hvl : vs.length = b.length) (hvw : Wf vs) (hN : N ≤ 1000001)
  (y1 y2 : bA) (hy1 : vs[n2 + 1]? = some y1) (hy2 : vs[n2]? = some y2) (hnorm : 2147483648 ≤ y1.n)
  (qs0 u0 : List bA) (hq0 : qs0.length + b.length = N) (hqw : Wf qs0) (hu0 : u0.length = N) (huw : Wf u0) (hstart : nv (u0.drop qs0.length) < nv vs) (hval : nv u0 = U0)
  (hk : ∀ qs u, qs.length = qs0.length → Wf qs → u.length = N → Wf u → nv qs * nv vs + nv u = U0 → nv u < nv vs →
   Gd (dL (0 ≤ (b.length : Int) ∧ (b.length : Int) * 4 ≤ 140737488355328) (jK (fun k s1815 n => iE r127 u k s1815 n) (fun s1815 => some (qs, s1815)) ((b.length : Int) : Int).toNat 0 (List.replicate ((b.length : Int) : Int).toNat (⟨0⟩ : bA)))) Q) :
  Gd (gC (fun s1227 n => ka b r127 r134 s1227.1 s1227.2.1 s1227.2.2 n) fR (qs0, u0, (qs0.length : Int) - 1)) Q := by
 have hy1w := hvw y1 (Fi hy1); have hy2w := hvw y2 (Fi hy2)
 have hVB : nv vs ≤ WB ^ b.length := by have := mW hvw; rw [hvl] at this; omega
 refine Gd.gC (fun (z : List bA × List bA × Int) => z.1.length = qs0.length ∧ Wf z.1 ∧ z.2.1.length = N ∧ Wf z.2.1 ∧ -1 ≤ z.2.2 ∧ z.2.2 < qs0.length ∧ nv (z.1.drop (z.2.2 + 1).toNat) * nv vs * WB ^ (z.2.2 + 1).toNat + nv z.2.1 = U0 ∧ nv (z.2.1.drop (z.2.2 + 1).toNat) < nv vs) (fun z => (z.2.2 + 1).toNat) ?_ fR _ ⟨rfl, hqw, hu0, huw, by simp only; omega, by simp only; omega, ?_, ?_⟩ (by simp only [fR]; omega)
 ·rintro ⟨qs, u, j⟩ nx ⟨h1, h2, h3, h4, h5, h6, h7, h8⟩ hnx
  simp only at h1 h2 h3 h4 h5 h6 h7 h8 hnx ⊢
  unfold ka
  refine Gd.ite (fun hj => ?_) (fun hj => ?_)
  ·have hj := Fa hj
   obtain ⟨k, rfl⟩ : ∃ k : Nat, j = k := ⟨j.toNat, by omega⟩
   rw [show ((k : Int) + 1).toNat = k + 1 by omega] at h7 h8
   obtain ⟨t0, ht0⟩ : ∃ t, u[k + n2 + 2]? = some t := ⟨_, EZ (by omega)⟩
   obtain ⟨t1, ht1⟩ : ∃ t, u[k + n2 + 1]? = some t := ⟨_, EZ (by omega)⟩
   obtain ⟨t2, ht2⟩ : ∃ t, u[k + n2]? = some t := ⟨_, EZ (by omega)⟩
   have w0 := h4 t0 (Fi ht0); have w1 := h4 t1 (Fi ht1); have w2 := h4 t2 (Fi ht2)
   have wjn : i64.wrap ((k : Int) + (b.length : Int)) = ((k + n2 + 2 : Nat) : Int) := by rw [hb, bN (by omega)]; omega
   have wjm : i64.wrap (((k + n2 + 2 : Nat) : Int) - 1) = ((k + n2 + 1 : Nat) : Int) := by rw [bN (by omega)]; omega
   have wn1 : i64.wrap ((b.length : Int) - 1) = ((n2 + 1 : Nat) : Int) := by rw [hb, bN (by omega)]; omega
   rw [hvs, wjn, wjm, wn1]
   have ey1 : u64.wrap y1.n = y1.n := dS (by omega)
   refine Gd.ix (by omega) (by rw [E1]; exact ht0) (Gd.ix (by omega) (by rw [E1]; exact ht1) (Gd.ix (by omega) (by rw [E1]; exact hy1) (Gd.nd (by rw [ey1]; omega) (Gd.ix (by omega) (by rw [E1]; exact hy1) (Gd.nd (by rw [ey1]; omega) ?_)))))
   rw [dS (n := t0.n) (by omega), r8 w0 w1, ey1]
   obtain ⟨x, hx⟩ : ∃ x, u[k]? = some x := ⟨_, EZ (by omega)⟩
   have hxw := h4 x (Fi hx)
   have hU1 : nv (u.drop k) = x.n.toNat + WB * nv (u.drop (k + 1)) := by rw [lG hx, nv]
   have hUlt : nv (u.drop k) < WB * nv vs := by rw [hU1]; exact Ci (by show x.n.toNat < 4294967296; omega) h8
   have hVlt : nv vs < WB ^ (n2 + 2) := by have := mW hvw; rw [hvl, hb] at this; exact this
   have hz : nv (u.drop (k + 1 + (n2 + 2))) = 0 := by
    have e := ua (u.drop (k + 1)) (m := n2 + 2) (by rw [GU]; omega)
    rw [HU] at e
    exact tf e (by omega)
   have hVe := yI hy1 hy2 (by rw [Ka (by omega)]; rfl)
   have hXe := yI (l := u.drop (k + 1)) (m := n2) (x := t0) (y := t1) (by rw [FU, show k + 1 + (n2 + 1) = k + n2 + 2 by omega]; exact ht0) (by rw [FU, show k + 1 + n2 = k + n2 + 1 by omega]; exact ht1) (by rw [HU]; exact hz)
   have hUe := A3 (l := u.drop k) (m := n2) (x := t0) (y := t1) (z := t2) (by rw [FU, show k + (n2 + 2) = k + n2 + 2 by omega]; exact ht0) (by rw [FU, show k + (n2 + 1) = k + n2 + 1 by omega]; exact ht1) (by rw [FU]; exact ht2) (by rw [HU, show k + (n2 + 3) = k + 1 + (n2 + 2) by omega]; exact hz)
   have hvl' : nv (vs.take n2) < WB ^ n2 := by have := mW (hvw.take n2); rw [FM, Gc (by omega)] at this; exact this
   have hul' : nv ((u.drop k).take n2) < WB ^ n2 := by
    have := mW (l := (u.drop k).take n2) (fun z hz => h4 z (List.mem_of_mem_drop (HA hz)))
    rw [FM, GU, Gc (by omega)] at this; exact this
   have hS : ya WB (WB ^ n2) y1.n.toNat y2.n.toNat (nv (vs.take n2)) t2.n.toNat (nv ((u.drop k).take n2)) (t0.n.toNat * WB + t1.n.toNat) (nv vs) (nv (u.drop k)) :=
    ⟨hVe, hUe, hvl', hul', by show t2.n.toNat < 4294967296; omega, by show y2.n.toNat < 4294967296; omega⟩
   have hle : t0.n.toNat ≤ y1.n.toNat := vf hXe hVe h8 hvl' (by show y2.n.toNat < 4294967296; omega)
   have hVpos : 0 < nv vs := by omega
   obtain ⟨q, hq1, hq2, hqW⟩ : ∃ q, q * nv vs ≤ nv (u.drop k) ∧ nv (u.drop k) < (q + 1) * nv vs ∧ q < WB := by
    refine ⟨nv (u.drop k) / nv vs, Nat.div_mul_le_self _ _, ?_, (Ko hVpos).2 hUlt⟩
    have := E5 (nv (u.drop k) / nv vs)
    exact (Ko hVpos).1 this
   have hG := AF hS hq1 (show 1 ≤ y1.n.toNat by omega) (show y1.n.toNat < WB by show y1.n.toNat < 4294967296; omega) (show WB ≤ 2 * y1.n.toNat by show 4294967296 ≤ 2 * y1.n.toNat; omega) hle (show t1.n.toNat < WB by show t1.n.toNat < 4294967296; omega)
   have hg0 := hG.le
   have etop : t0.n * 4294967296 + t1.n = ((t0.n.toNat * WB + t1.n.toNat : Nat) : Int) := by
    show _ = ((t0.n.toNat * 4294967296 + t1.n.toNat : Nat) : Int); omega
   have ey : y1.n = ((y1.n.toNat : Nat) : Int) := by omega
   have ed : Int.tdiv (t0.n * 4294967296 + t1.n) y1.n = (((t0.n.toNat * WB + t1.n.toNat) / y1.n.toNat : Nat) : Int) := by
    rw [etop, ey]; rfl
   have em : Int.tmod (t0.n * 4294967296 + t1.n) y1.n = (((t0.n.toNat * WB + t1.n.toNat) % y1.n.toNat : Nat) : Int) := by
    rw [etop, ey]; rfl
   rw [ed, em]
   generalize (t0.n.toNat * WB + t1.n.toNat) / y1.n.toNat = g0 at hG hg0 ⊢
   generalize (t0.n.toNat * WB + t1.n.toNat) % y1.n.toNat = rest0 at hG ⊢
   have eW : (WB : Nat) = 4294967296 := rfl
   rw [eW] at hg0
   rw [dS (n := (g0 : Int)) (by omega)]
   refine AG hb hvs hvl (by omega) (by omega) y1 y2 t2 hy1 hy2 ht2 (by omega) (by omega) (by omega) (by omega) (by omega) hS hq1 hq2 hqW (fun g hg => ?_) hG
   refine As hvs hvl hvw h4 (by omega) (by omega) (by omega) (by omega) rfl hVB hUlt hq1 hq2 hqW hg (fun l' f1 f2 f3 f4 => ?_)
   have ek : ((k : Int) - 1 + 1).toNat = k := by omega
   refine hnx _ ⟨by rw [Fj]; exact h1, h2.set (by rw [eW] at hqW; omega), by simp only; omega, f2, by simp only; omega, by simp only; omega, ?_, ?_⟩ (by simp only; omega)
   ·simp only
    rw [ek, lG (FD (by omega)), nv, Ib (by omega)]
    rw [E1]
    rw [KE] at h7
    exact AL f3 h7
   ·simp only
    rw [ek]
    have e1 := ua l' (m := k) (by omega)
    have e2 := ua u (m := k) (by omega)
    have e3 : l'.take k = u.take k := by
     apply G_
     intro i
     rw [F7, F7]
     by_cases hi : i < k
     ·rw [E_ hi, E_ hi]; exact f4 i hi
     ·rw [E6 hi, E6 hi]
    rw [e3] at e1
    refine Bg (a := nv (u.take k)) (P := WB ^ k) (KD (by decide)) ?_ hq2
    omega
  ·have hj := Fm hj
   rw [show (j + 1).toNat = 0 by omega, G5, KF, HN] at h7
   rw [show (j + 1).toNat = 0 by omega, G5] at h8
   exact hk qs u h1 h2 h3 h4 h7 h8
 ·simp only
  rw [show ((qs0.length : Int) - 1 + 1).toNat = qs0.length by omega, ID]
  simp [nv, hval]
 ·simp only
  rw [show ((qs0.length : Int) - 1 + 1).toNat = qs0.length by omega]
  exact hstart
theorem uy {W S M u0 u1 hi : Nat} (hW : W = S * M) (hS : 0 < S) :
  (u0 + W * (u1 + W * hi)) / S % W = (u1 * W + u0) / S % W := by
 have e : u0 + W * (u1 + W * hi) = (u1 * W + u0) + S * (M * (W * hi)) := by
  have e1 : W * (W * hi) = S * (M * (W * hi)) := by rw [← Ku S M, ← hW]
  rw [Kt, e1, Kv W u1]; omega
 rw [e, Nat.add_mul_div_left _ _ hS]
 have e2 : M * (W * hi) = W * (M * hi) := by rw [← Ku, Kv M W, Ku]
 rw [e2, Nat.add_mul_mod_self_left]
theorem vD {W S u0 T : Nat} (hu : u0 < W) : (u0 + W * T) / S / W = T / S := by
 rw [Nat.div_div_eq_div_mul, Kv S W, ← Nat.div_div_eq_div_mul, Nat.add_mul_div_left _ _ (by omega), Kn hu, FO]
theorem Dx {n : Int} {k : Nat} (hk : k ≤ 64) : iN .u64 n (k : Int) = n / (2 ^ k : Nat) := by
 unfold iN
 rw [show (min ((k : Int)).toNat u64.bits) = k by show min ((k : Int)).toNat 64 = k; omega, HR _ (Int.le_of_lt (Int.pow_pos (by decide)))]
 rw [Int.natCast_pow]; rfl
theorem w5 {A P d W D D' Z : Nat} (h : A + P * D = Z) (hd : D % W = d) (hD : D / W = D') : (A + P * d) + P * W * D' = Z := by
 have e : d + W * D' = D := by rw [← hd, ← hD, Ks]
 rw [Ku P W, Hy, ← Kt, e, h]
theorem xZ {n s : Nat} (hs : s ≤ 31) {u : List bA} (hu : Wf u) (hl : n < u.length) (hz : u.length ≤ 1000001) {qs : List bA} {Q : List bA × List bA → Prop} (hlt : nv u / 2 ^ s < WB ^ n)
  (hk : ∀ r, Wf r → r.length = n → nv r = nv u / 2 ^ s → Q (qs, r)) :
  Gd (jK (fun k s1815 n => iE (s : Int) u k s1815 n) (fun s1815 => some (qs, s1815)) n 0 (List.replicate n (⟨0⟩ : bA))) Q := by
 have hS : 0 < (2 : Nat) ^ s := KD (by decide)
 have hWS : WB = 2 ^ s * 2 ^ (32 - s) := by rw [← Ky, show s + (32 - s) = 32 by omega]
 refine Gd.jK (fun m k (z : List bA) => k + m = n ∧ z.length = n ∧ Wf z ∧ nv (z.take k) + WB ^ k * (nv (u.drop k) / 2 ^ s) = nv u / 2 ^ s) ?_ ?_ _ 0 _ ⟨by omega, by simp, fun y hy => ?_, by simp [nv]⟩
 ·rintro m k l nx ⟨h0, h1, h2, h3⟩ hnx
  obtain ⟨x0, hx0⟩ : ∃ t, u[k]? = some t := ⟨_, EZ (by omega)⟩
  obtain ⟨x1, hx1⟩ : ∃ t, u[k + 1]? = some t := ⟨_, EZ (by omega)⟩
  have w0 := hu x0 (Fi hx0); have w1 := hu x1 (Fi hx1)
  have wk : i64.wrap ((k : Int) + 1) = ((k + 1 : Nat) : Int) := by rw [bN (by omega)]; omega
  unfold iE
  rw [wk]
  refine Gd.ix (by omega) (by rw [E1]; exact hx1) (Gd.ix (by omega) (by rw [E1]; exact hx0) (Gd.nd (by omega) (Gd.jS (by omega) ?_)))
  rw [dS (n := x1.n) (by omega), r8 w1 w0, Dx (by omega), qm, E1]
  have e1 : x1.n * 4294967296 + x0.n = ((x1.n.toNat * WB + x0.n.toNat : Nat) : Int) := by
   show _ = ((x1.n.toNat * 4294967296 + x0.n.toNat : Nat) : Int); omega
  have e2 : (x1.n * 4294967296 + x0.n) / ((2 ^ s : Nat) : Int) % 4294967296 = (((x1.n.toNat * WB + x0.n.toNat) / 2 ^ s % WB : Nat) : Int) := by
   rw [e1]; rfl
  rw [e2]
  have hd : nv (u.drop k) = x0.n.toNat + WB * nv (u.drop (k + 1)) := by rw [lG hx0, nv]
  have hd1 : nv (u.drop (k + 1)) = x1.n.toNat + WB * nv (u.drop (k + 2)) := by rw [lG hx1, nv]
  have hm := uy (u0 := x0.n.toNat) (u1 := x1.n.toNat) (hi := nv (u.drop (k + 2))) hWS hS
  rw [← hd1, ← hd] at hm
  have hn := vD (W := WB) (S := 2 ^ s) (u0 := x0.n.toNat) (T := nv (u.drop (k + 1))) (by show x0.n.toNat < 4294967296; omega)
  rw [← hd] at hn
  have hlt' : (x1.n.toNat * WB + x0.n.toNat) / 2 ^ s % WB < WB := IA _ (by decide)
  refine hnx _ ⟨by omega, by rw [Fj]; exact h1, h2.set ⟨by omega, by have : (WB : Nat) = 4294967296 := rfl; rw [this] at hlt'; omega⟩, ?_⟩
  rw [pQ (by omega), og, FM, Gc (by omega), KE, E1]
  exact w5 h3 hm hn
 ·rintro k l ⟨h0, h1, h2, h3⟩
  have hk' : k = n := by omega
  subst hk'
  rw [FG (by omega)] at h3
  have h0' := tf h3.symm hlt
  rw [h0', Kx, GY] at h3
  exact Gd.ret (hk l h2 h1 h3)
 ·rw [Kk] at hy
  rw [hy.2]; simp
theorem Dg {q V a b S u : Nat} (hS : 0 < S) (hV : V = b * S) (h : q * V + u = a * S) (hu : u < V) : u / S = a - q * b ∧ a - q * b < b ∧ q * b ≤ a := by
 have e : q * V = q * b * S := by rw [hV, Ku]
 have hle : q * b ≤ a := by
  have h1 : q * b * S ≤ a * S := by omega
  exact Nat.le_of_mul_le_mul_right h1 hS
 have e2 : u = (a - q * b) * S := by rw [Nat.mul_sub_right_distrib]; omega
 refine ⟨by rw [e2, Nat.mul_div_cancel _ hS], ?_, hle⟩
 rw [e2, hV] at hu
 exact Nat.lt_of_mul_lt_mul_right hu
theorem DI {q a b : Nat} (h1 : a - q * b < b) (h2 : q * b ≤ a) : q = a / b ∧ a - q * b = a % b := by
 have := (Nat.div_mod_unique (a := a) (b := b) (c := a - q * b) (d := q) (by omega)).2 ⟨by rw [Kv b q]; omega, h1⟩
 exact ⟨this.1.symm, this.2.symm⟩
theorem Bt {W S M x B P : Nat} (hWS : W = S * M) (hx : x * S < W) (hB : B < (x + 1) * P) : B * S < W * P := by
 have h1 : x < M := by rw [hWS, Kv] at hx; exact Kr hx
 have h2 : (x + 1) * S ≤ W := by rw [hWS, Kv S M]; exact Fq _ h1
 have hS : 0 < S := by
  rcases Nat.eq_zero_or_pos S with h | h
  ·rw [h] at hWS; simp at hWS; rw [hWS] at hx; omega
  ·exact h
 have h3 : B * S < (x + 1) * P * S := (Nat.mul_lt_mul_right hS).2 hB
 have h4 : (x + 1) * P * S = (x + 1) * S * P := by rw [Ku, Kv P S, ← Ku]
 have h5 : (x + 1) * S * P ≤ W * P := Fq _ h2
 omega
theorem At {a b : List bA} (ha : Wf a) (hb : Wf b) (hta : pj a) (htb : pj b) (hne : b ≠ []) (hza : a.length ≤ 900000) (hzb : b.length ≤ 900000) :
  Gd (jx a b) (fun r => Wf r.1 ∧ Wf r.2 ∧ r.1.length ≤ a.length ∧ r.2.length ≤ a.length ∧ nv r.1 = nv a / nv b ∧ nv r.2 = nv a % nv b) := by
 unfold jx
 refine Gd.e_ (Ah ha hb hta htb (by omega) (by omega)) (fun c hc => Gd.ite (fun h => ?_) (fun h => ?_))
 ·have hlt := hc.1.1 (Fa h)
  exact Gd.ret ⟨Wf.nil, ha, by simp, FA _, by rw [Kn hlt]; rfl, by rw [Hi hlt]⟩
 ·have hge : nv b ≤ nv a := by
   have h := Fm h
   have := mt hc.1.2 h
   omega
  have hbl : 0 < b.length := Ki.2 hne
  have hle : b.length ≤ a.length := by
   rcases Hf a.length b.length with h | h
   ·have := oR ha hb htb h; omega
   ·exact h
  refine Gd.ite (fun h1 => ?_) (fun h1 => ?_)
  ·have h1 := Fa h1
   have h1 : b.length = 1 := by omega
   obtain ⟨x, rfl⟩ := Kg.1 h1
   have hx := hb x (by simp)
   have hx0 : x.n ≠ 0 := htb x (by simp)
   refine Gd.ix (y := x) (by omega) (by simp) (Gd.e_ (wY ha (by omega) (d := x.n) (by omega)) (fun r hr => Gd.ret ?_))
   obtain ⟨r1, r2, r3, r4⟩ := hr
   have hm : nv a % x.n.toNat < x.n.toNat := IA _ (by omega)
   refine ⟨r1, ?_, by simp only; omega, by simp at hle ⊢; omega, by rw [r3, tZ], ?_⟩
   ·refine Wf.one ?_
    rw [r4]; omega
   ·simp only
    rw [tZ, tZ, r4, E1]
  ·have h1 := Fm h1
   obtain ⟨n2, hn2⟩ : ∃ n2, b.length = n2 + 2 := ⟨b.length - 2, by omega⟩
   have wn1 : i64.wrap ((b.length : Int) - 1) = ((n2 + 1 : Nat) : Int) := by rw [hn2, bN (by omega)]; omega
   have wab : i64.wrap ((a.length : Int) - (b.length : Int)) = ((a.length - b.length : Nat) : Int) := by rw [bN (by omega)]; omega
   have wab1 : i64.wrap (((a.length - b.length : Nat) : Int) + 1) = ((a.length - b.length + 1 : Nat) : Int) := by rw [bN (by omega)]; omega
   rw [wn1, wab, wab1]
   obtain ⟨x, hx⟩ : ∃ t, b[n2 + 1]? = some t := ⟨_, EZ (by omega)⟩
   have hxw := hb x (Fi hx)
   have hx0 : x.n ≠ 0 := htb x (by rw [Ke, hn2]; exact hx)
   refine Gd.ix (by omega) (by rw [E1]; exact hx) (Gd.e_ (DM (x := x.n) (by omega) hxw.2) ?_)
   rintro sv ⟨s, rfl, hs1, hs2, hs3⟩
   refine Gd.e_ (ug ha (by omega) hs1) (fun u0 hu0 => Gd.e_ (ug hb (by omega) hs1) (fun v0 hv0 => ?_))
   obtain ⟨p1, p2, p3, p4⟩ := hu0
   obtain ⟨q1, q2, q3, t, q4, q5⟩ := hv0
   refine Gd.nd (by omega) (Gd.nd (by omega) ?_)
   have hS : 0 < (2 : Nat) ^ s := KD (by decide)
   have hWS : WB = 2 ^ s * 2 ^ (32 - s) := by rw [← Ky, show s + (32 - s) = 32 by omega]
   have hbs : nv b = nv (b.take (n2 + 1)) + WB ^ (n2 + 1) * x.n.toNat := by
    have := lM hx
    rw [FG (by omega)] at this; exact this
   have hbt : nv (b.take (n2 + 1)) < WB ^ (n2 + 1) := by
    have := mW (hb.take (n2 + 1)); rw [FM, Gc (by omega)] at this; exact this
   have hb2 : nv b < (x.n.toNat + 1) * WB ^ (n2 + 1) := by rw [FC, Kv x.n.toNat]; omega
   have hvlt : nv v0 < WB ^ (n2 + 2) := by
    rw [q3, KE, Kv _ WB]
    exact Bt hWS hs3 hb2
   have hvs : nv (v0.take b.length) = nv v0 ∧ Wf (v0.take b.length) ∧ (v0.take b.length).length = b.length := by
    refine ⟨?_, q1.take _, by rw [FM]; omega⟩
    have e := ua v0 (m := b.length) (by omega)
    have hz : nv (v0.drop b.length) = 0 := tf e (by rw [hn2]; exact hvlt)
    rw [hz, Kx, GY] at e
    exact e.symm
   have hsl : qk v0 0 (((b.length : Int) : Int).toNat) = v0.take b.length := by
    rw [E1]; rfl
   generalize v0.take b.length = vs at hvs hsl
   obtain ⟨v1, v2, v3⟩ := hvs
   obtain ⟨y1, hy1⟩ : ∃ t, vs[n2 + 1]? = some t := ⟨_, EZ (by omega)⟩
   obtain ⟨y2, hy2⟩ : ∃ t, vs[n2]? = some t := ⟨_, EZ (by omega)⟩
   have hy1w := v2 y1 (Fi hy1)
   have hVS : nv vs = nv b * 2 ^ s := by rw [v1, q3]
   have hnorm : 2147483648 ≤ y1.n := by
    have e1 : nv vs = nv (vs.take (n2 + 1)) + WB ^ (n2 + 1) * y1.n.toNat := by
     have := lM hy1
     rw [FG (by omega)] at this; exact this
    have e2 : nv (vs.take (n2 + 1)) < WB ^ (n2 + 1) := by
     have := mW (v2.take (n2 + 1)); rw [FM, Gc (by omega)] at this; exact this
    have e3 : WB ^ (n2 + 1) * x.n.toNat * 2 ^ s ≤ nv b * 2 ^ s := Fq _ (by omega)
    rw [Ku] at e3
    have e4 : WB ^ (n2 + 1) * (x.n.toNat * 2 ^ s) < WB ^ (n2 + 1) * (y1.n.toNat + 1) := by rw [Kt (WB ^ (n2 + 1)) y1.n.toNat 1]; omega
    have e5 := Kr e4
    omega
   have hst : nv (u0.drop (a.length - b.length + 1)) < nv vs := by
    have e := ua u0 (m := a.length - b.length + 1) (by omega)
    have h1 : WB ^ (n2 + 1) ≤ nv b := by have := wO hb htb hne; rw [hn2] at this; exact this
    have h2 : nv a < WB ^ a.length := mW ha
    have h3 : nv u0 < WB ^ a.length * 2 ^ s := by rw [p3]; exact (Nat.mul_lt_mul_right hS).2 h2
    have h4 : WB ^ a.length * 2 ^ s = WB ^ (a.length - b.length + 1) * (WB ^ (n2 + 1) * 2 ^ s) := by
     rw [← Ku, ← Ky]; congr 2; omega
    have h5 : nv (u0.drop (a.length - b.length + 1)) < WB ^ (n2 + 1) * 2 ^ s := by
     rw [h4] at h3
     exact Kr (a := WB ^ (a.length - b.length + 1)) (by omega)
    have h6 : WB ^ (n2 + 1) * 2 ^ s ≤ nv b * 2 ^ s := Fq _ h1
    omega
   have hstart : ((a.length - b.length : Nat) : Int) = ((List.replicate (a.length - b.length + 1) (⟨0⟩ : bA)).length : Int) - 1 := by
    rw [Gx]; omega
   rw [E1, hstart]
   refine zd (N := a.length + 1) (U0 := nv a * 2 ^ s) hn2 hsl v3 v2 (by omega) y1 y2 hy1 hy2 hnorm _ u0 (by rw [Gx]; omega) (fun y hy => by rw [Kk] at hy; rw [hy.2]; simp) p2 p1 (by rw [Gx]; exact hst) p3 ?_
   intro qs u f1 f2 f3 f4 f5 f6
   obtain ⟨g1, g2, g3⟩ := Dg hS hVS f5 f6
   obtain ⟨g4, g5⟩ := DI g2 g3
   refine Gd.nd (by omega) ?_
   rw [E1]
   refine xZ hs1 f4 (by omega) (by omega) ?_ (fun r r1 r2 r3 => ⟨f2, r1, ?_, ?_, g4, ?_⟩)
   ·rw [g1]; have := mW hb; omega
   ·simp only; rw [f1, Gx]; omega
   ·simp only; omega
   ·simp only; rw [r3, g1, g5]
theorem qU {w : List bA} (hw : Wf w) (ht : pj w) : nv w = 0 ↔ w = [] := by
 constructor
 ·intro h
  rcases Kb w with h' | ⟨a, y, h'⟩
  ·exact h'
  ·have := wO hw ht (by rw [h']; simp)
   have hp : 0 < WB ^ (w.length - 1) := KD (by decide)
   omega
 ·intro h; rw [h]; rfl
theorem A2 {a b : List bA} (ha : Wf a) (hb : Wf b) (hta : pj a) (htb : pj b) (h : nv a = nv b) : a = b := by
 rcases Ix a.length b.length with h1 | h1 | h1
 ·have := oR ha hb htb h1; omega
 ·exact A1 ha hb h1 h
 ·have := oR hb ha hta h1; omega
theorem nZ.ext' {a b : LI} (ha : nZ a) (hb : nZ b) (h : eQ a = eQ b) : a = b := by
 obtain ⟨am, aw⟩ := a; obtain ⟨bm, bw⟩ := b
 have za := qU ha.wf ha.tp; have zb := qU hb.wf hb.tp
 have sa := ha.sign; have sb := hb.sign
 simp only [eQ] at h za zb sa sb
 have key : am = bm → aw = bw → (aB.mk am aw) = aB.mk bm bw := by rintro rfl rfl; rfl
 cases am <;> cases bm <;> simp at h sa sb
 ·exact key rfl (A2 ha.wf hb.wf ha.tp hb.tp (by omega))
 ·have : nv bw = 0 := by omega
  exact absurd (zb.1 this) sb
 ·have : nv aw = 0 := by omega
  exact absurd (za.1 this) sa
 ·exact key rfl (A2 ha.wf hb.wf ha.tp hb.tp (by omega))
def DB (A B : Nat) : Nat := if B = 0 then 0 else 2 * Nat.log2 (A * B) + 2 + (if A < B then 1 else 0)
theorem Dl {A B : Nat} (hB : B ≠ 0) : DB B (A % B) < DB A B := by
 unfold DB
 rw [E6 hB]
 by_cases hR : A % B = 0
 ·rw [E_ hR]; omega
 ·rw [E6 hR]
  have hlt : A % B < B := IA _ (by omega)
  rw [E6 (by omega : ¬ B < A % B)]
  by_cases hAB : A < B
  ·rw [E_ hAB, Hi hAB, Kv B A]; omega
  ·rw [E6 hAB]
   have hle : 2 * (B * (A % B)) ≤ A * B := by
    have h1 : A % B + B * (A / B) = A := Ks A B
    have h2 : 1 ≤ A / B := (Kp (by omega)).2 (by omega)
    have h3 : B * 1 ≤ B * (A / B) := Kw _ h2
    have h4 : B * (2 * (A % B)) ≤ B * A := Kw _ (by omega)
    rw [Kv A B, ← Ku, Kv 2 B, Ku]; exact h4
   have hpos : 0 < B * (A % B) := Nat.mul_pos (by omega) (by omega)
   have h5 : Nat.log2 (B * (A % B)) < Nat.log2 (A * B) := by
    have h6 : 2 ^ Nat.log2 (B * (A % B)) ≤ B * (A % B) := Nat.log2_self_le (by omega)
    have h7 : 2 ^ (Nat.log2 (B * (A % B)) + 1) ≤ A * B := by rw [KE]; omega
    exact (Nat.le_log2 (by omega)).2 h7
   omega
theorem tk (n : Nat) : WB ^ n = 2 ^ (32 * n) := by rw [KC]
theorem Dj {a b : List bA} (ha : Wf a) (hb : Wf b) (hza : a.length ≤ 900000) (hzb : b.length ≤ 900000) : DB (nv a) (nv b) ≤ 200000000 := by
 unfold DB
 split
 ·omega
 ·rename_i h
  have h1 : Nat.log2 (nv a * nv b) ≤ 64000000 := by
   by_cases h0 : nv a * nv b = 0
   ·rw [h0]; decide
   ·have h2 : nv a * nv b < 2 ^ (32 * (a.length + b.length)) := by
     rw [← tk, Ky]
     exact Nat.mul_lt_mul_of_lt_of_le (mW ha) (Nat.le_of_lt (mW hb)) (KD (by decide))
    have := (Nat.log2_lt h0).2 h2
    omega
  split <;> omega
theorem sign_zero {a : LI} (h : nZ a) : fU a = 0 ↔ nv a.words = 0 := by
 unfold fU
 rw [qU h.wf h.tp]
 by_cases h1 : a.words = []
 ·simp [h1]
 ·have : a.words.length ≠ 0 := fun h => h1 (FN h)
  rw [E6 (by simp; exact h1)]
  constructor
  ·intro h; split at h <;> omega
  ·intro h; exact absurd h h1
theorem nZ.pos {w : List bA} (hw : Wf w) (ht : pj w) : nZ (aB.mk false w) := ⟨hw, ht, fun h => by simp at h⟩
theorem AE {a b : LI} (ha : nZ a) (hb : nZ b) {L : Nat} (hL : L ≤ 900000) (hza : a.words.length ≤ L) (hzb : b.words.length ≤ L) :
  Gd (kK a b) (fun r => nZ r ∧ r.minus = false ∧ r.words.length ≤ L ∧ nv r.words = Nat.gcd (nv a.words) (nv b.words)) := by
 unfold kK
 refine Gd.gC (fun (z : Bool × List bA × Bool × List bA) => z.1 = false ∧ z.2.2.1 = false ∧ Wf z.2.1 ∧ pj z.2.1 ∧ Wf z.2.2.2 ∧ pj z.2.2.2 ∧ z.2.1.length ≤ L ∧ z.2.2.2.length ≤ L ∧ Nat.gcd (nv z.2.2.2) (nv z.2.1) = Nat.gcd (nv a.words) (nv b.words)) (fun z => DB (nv z.2.2.2) (nv z.2.1)) ?_ fR _ ⟨rfl, rfl, hb.wf, hb.tp, ha.wf, ha.tp, hzb, hza, rfl⟩ ?_
 ·rintro ⟨c1, l1, c2, l2⟩ nx ⟨h1, h2, h3, h4, h5, h6, h7, h8, h9⟩ hnx
  simp only at h1 h2 h3 h4 h5 h6 h7 h8 h9 hnx ⊢
  subst h1 h2
  unfold oH mP
  have hs := sign_zero (nZ.pos h3 h4)
  simp only at hs
  refine Gd.ite (fun h => ?_) (fun h => ?_)
  ·have hB : nv l1 ≠ 0 := by
    intro e
    rw [hs.2 e] at h; simp at h
   refine Gd.e_ (At h5 h3 h6 h4 (fun e => hB (by rw [e]; rfl)) (by omega) (by omega)) (fun r hr => ?_)
   obtain ⟨r1, r2, r3, r4, r5, r6⟩ := hr
   refine Gd.nd (by omega) (Gd.e_ (nI false r.2 r2 (by omega)) (fun s hs' => ?_))
   obtain ⟨s1, s2, s3, s4⟩ := hs'
   have hm : s.minus = false := by
    rcases J0 s.minus with h | h
    ·have := s4.1 h; simp at this
    ·exact h
   refine hnx _ ⟨hm, rfl, s1.wf, s1.tp, h3, h4, by simp only; omega, h7, ?_⟩ ?_
   ·simp only
    rw [s3, r6, ← h9, ← Nat.gcd_comm (nv l1) (nv l2), Nat.gcd_rec (nv l1) (nv l2), Nat.gcd_comm]
   ·simp only
    rw [s3, r6]
    exact Dl hB
  ·have hB : nv l1 = 0 := by
    apply hs.1
    simpa using h
   rw [hB, Nat.gcd_zero_right] at h9
   exact Gd.ret ⟨nZ.pos h5 h6, rfl, h8, h9⟩
 ·simp only [fR]
  have := Dj ha.wf hb.wf (by omega) (by omega)
  omega
theorem CU {a b : LI} (ha : nZ a) (hb : nZ b) (hm : a.minus = false) (h0 : nv b.words ≠ 0) (hza : a.words.length ≤ 900000) (hzb : b.words.length ≤ 900000) :
  Gd (bW a b) (fun r => nZ r.1 ∧ r.1.minus = false ∧ r.1.words.length ≤ a.words.length ∧ nv r.1.words = nv a.words / nv b.words) := by
 unfold bW gX
 refine Gd.e_ (At ha.wf hb.wf ha.tp hb.tp (fun e => h0 (by rw [e]; rfl)) hza hzb) (fun r hr => ?_)
 obtain ⟨r1, r2, r3, r4, r5, r6⟩ := hr
 refine Gd.nd (by omega) (Gd.e_ (nI _ _ r1 (by omega)) (fun s hs => Gd.nd (by omega) (Gd.e_ (nI _ _ r2 (by omega)) (fun t ht => ?_))))
 obtain ⟨s1, s2, s3, s4⟩ := hs
 obtain ⟨t1, t2, t3, t4⟩ := ht
 rw [hm] at s4 t4
 have hsm : s.minus = false := by
  rcases J0 s.minus with h | h
  ·have := s4.1 h; simp at this
  ·exact h
 refine Gd.ite (fun h => ?_) (fun h => Gd.ret ⟨s1, hsm, by simp only; omega, by simp only; rw [s3, r5]⟩)
 have := t4.1 h; simp at this
abbrev LR := aA
structure kW (r : LR) : Prop where
 n : nZ r.N
 d : nZ r.D
 pos : r.D.minus = false
 nz : nv r.D.words ≠ 0
 Ec : Nat.Coprime (nv r.N.words) (nv r.D.words)
def rv (r : LR) : Rat := Rat.divInt (eQ r.N) (eQ r.D)
theorem l_ {a : LI} (h : a.minus = false) : eQ a = (nv a.words : Nat) := by unfold eQ; rw [h]; rfl
theorem gI (a : LI) : (eQ a).natAbs = nv a.words := by
 unfold eQ
 split <;> omega
theorem kW.eq {r : LR} (h : kW r) : rv r = Rat.mk' (eQ r.N) (nv r.D.words) h.nz (by rw [gI]; exact h.Ec) := by
 unfold rv
 rw [l_ h.pos]
 exact (Rat.num_divInt_den (Rat.mk' (eQ r.N) (nv r.D.words) h.nz (by rw [gI]; exact h.Ec)))
theorem kW.num {r : LR} (h : kW r) : (rv r).num = eQ r.N := by rw [h.eq]
theorem kW.den {r : LR} (h : kW r) : (rv r).den = nv r.D.words := by rw [h.eq]
theorem kW.ext' {r s : LR} (h : kW r) (k : kW s) (e : rv r = rv s) : r = s := by
 have e1 : eQ r.N = eQ s.N := by rw [← h.num, ← k.num, e]
 have e2 : nv r.D.words = nv s.D.words := by rw [← h.den, ← k.den, e]
 have e3 := h.n.ext' k.n e1
 have e4 := h.d.ext' k.d (by rw [l_ h.pos, l_ k.pos, e2])
 obtain ⟨a, b⟩ := r; obtain ⟨c, d⟩ := s
 simp only at e3 e4; rw [e3, e4]
def RL (r : LR) (L : Nat) : Prop := r.N.words.length ≤ L ∧ r.D.words.length ≤ L
theorem RL.mono {r : LR} {L M : Nat} (h : RL r L) (hM : L ≤ M) : RL r M := ⟨GB h.1 hM, GB h.2 hM⟩
theorem rm {g a b : Int} (hg : g ≠ 0) (hb : b ≠ 0) : Rat.divInt (g * a) (g * b) = Rat.divInt a b := by
 rw [Rat.divInt_eq_divInt_iff (Int.mul_ne_zero hg hb) hb]
 rw [Int.mul_comm g a, J4]
theorem DR {n d g : LI} (hn : nZ n) (hd : nZ d) (hg : nZ g) (hdm : d.minus = false) (hd0 : nv d.words ≠ 0) (hgv : nv g.words = Nat.gcd (nv n.words) (nv d.words))
  (hzn : n.words.length ≤ 900000) (hzd : d.words.length ≤ 900000) (hzg : g.words.length ≤ 900000) :
  Gd ((bW (aB.mk false n.words) g).bind fun r195 => (bW (aB.mk d.minus d.words) g).bind fun r203 => if n.minus then (some (aA.mk (aB.mk (decide (0 < (r195.1.words.length : Int))) r195.1.words) r203.1)) else (some (aA.mk (aB.mk false r195.1.words) r203.1)))
   (fun r => kW r ∧ r.N.words.length ≤ n.words.length ∧ r.D.words.length ≤ d.words.length ∧ rv r = Rat.divInt (eQ n) (eQ d)) := by
 have hg0 : nv g.words ≠ 0 := by
  rw [hgv]
  exact Nat.ne_of_gt (Nat.gcd_pos_of_pos_right _ (by omega))
 have gN : nv g.words ∣ nv n.words := by rw [hgv]; exact Nat.gcd_dvd_left _ _
 have gD : nv g.words ∣ nv d.words := by rw [hgv]; exact Nat.gcd_dvd_right _ _
 have hco : Nat.Coprime (nv n.words / nv g.words) (nv d.words / nv g.words) := by
  rw [hgv]; exact Nat.coprime_div_gcd_div_gcd (Nat.gcd_pos_of_pos_right _ (by omega))
 obtain ⟨n', hn'⟩ := gN
 obtain ⟨d', hd'⟩ := gD
 have en : nv n.words / nv g.words = n' := by rw [hn', Nat.mul_div_cancel_left _ (by omega)]
 have ed : nv d.words / nv g.words = d' := by rw [hd', Nat.mul_div_cancel_left _ (by omega)]
 have hd0' : d' ≠ 0 := by intro h; rw [h] at hd'; simp at hd'; exact hd0 hd'
 refine Gd.e_ (CU (a := aB.mk false n.words) (nZ.pos hn.wf hn.tp) hg rfl hg0 hzn hzg) (fun r hr => Gd.e_ (CU (a := aB.mk d.minus d.words) hd hg hdm hg0 hzd hzg) (fun t ht => ?_))
 obtain ⟨r1, r2, r3, r4⟩ := hr
 obtain ⟨t1, t2, t3, t4⟩ := ht
 simp only at r3 r4 t3 t4
 rw [en] at r4 hco
 rw [ed] at t4 hco
 have hd2 : eQ d = (nv g.words : Int) * (d' : Int) := by rw [l_ hdm, hd', F0]
 have ht2 : eQ t.1 = (d' : Int) := by rw [l_ t2, t4]
 refine Gd.ite (fun h => Gd.ret ?_) (fun h => Gd.ret ?_)
 ·have hN : nZ (aB.mk (decide (0 < (r.1.words.length : Int))) r.1.words) := ⟨r1.wf, r1.tp, fun h e => by simp only at h e; rw [e] at h; simp at h⟩
  refine ⟨⟨hN, t1, t2, by simp only; omega, by simp only; rw [r4, t4]; exact hco⟩, r3, t3, ?_⟩
  have hi : eQ (aB.mk (decide (0 < (r.1.words.length : Int))) r.1.words) = -(n' : Int) := by
   unfold eQ
   simp only
   rw [r4]
   by_cases hl : r.1.words = []
   ·rw [hl] at r4 ⊢
    have : n' = 0 := r4.symm
    rw [this]; simp
   ·have := Ki.2 hl
    rw [E_ (by simp; omega)]
  have q7 : eQ n = (nv g.words : Int) * (-(n' : Int)) := by
   unfold eQ; rw [E_ h, hn', F0, Int.mul_neg]
  unfold rv
  simp only
  rw [hi, ht2, q7, hd2, rm (by omega) (by omega)]
 ·refine ⟨⟨nZ.pos r1.wf r1.tp, t1, t2, by simp only; omega, by simp only; rw [r4, t4]; exact hco⟩, r3, t3, ?_⟩
  have hi : eQ (aB.mk false r.1.words) = (n' : Int) := by
   rw [l_ rfl]; simp only; rw [r4]
  have q7 : eQ n = (nv g.words : Int) * (n' : Int) := by
   rw [l_ h, hn', F0]
  unfold rv
  simp only
  rw [hi, ht2, q7, hd2, rm (by omega) (by omega)]
theorem wP {w : List bA} (h : decide ((w.length : Int) = 1) = true) : ∃ x, w = [x] := by
 have := Fa h
 exact Kg.1 (by omega)
theorem yK {x : bA} (hx : 0 ≤ x.n) : nv [x] = 1 ↔ x.n = 1 := by rw [tZ]; omega
theorem Bf {n d : LI} (hn : nZ n) (hd : nZ d) (hdm : d.minus = false) (hd0 : nv d.words ≠ 0) (hzn : n.words.length ≤ 900000) (hzd : d.words.length ≤ 900000) :
  Gd (jv d.minus d.words n.minus n.words) (fun r => kW r ∧ r.N.words.length ≤ n.words.length ∧ r.D.words.length ≤ d.words.length ∧ rv r = Rat.divInt (eQ n) (eQ d)) := by
 have self : Nat.gcd (nv n.words) (nv d.words) = 1 → Gd (some (aA.mk (aB.mk n.minus n.words) (aB.mk d.minus d.words))) (fun r => kW r ∧ r.N.words.length ≤ n.words.length ∧ r.D.words.length ≤ d.words.length ∧ rv r = Rat.divInt (eQ n) (eQ d)) := fun hg =>
  Gd.ret ⟨⟨hn, hd, hdm, hd0, hg⟩, FA _, FA _, rfl⟩
 have part : Gd ((kK (aB.mk n.minus n.words) (aB.mk d.minus d.words)).bind fun r135 => if decide ((r135.words.length : Int) = 1) then (idx r135.words 0 fun y160 => if decide (y160.n = 1) then (some (aA.mk (aB.mk n.minus n.words) (aB.mk d.minus d.words))) else ((bW (aB.mk false n.words) r135).bind fun r165 => (bW (aB.mk d.minus d.words) r135).bind fun r173 => if n.minus then (some (aA.mk (aB.mk (decide (0 < (r165.1.words.length : Int))) r165.1.words) r173.1)) else (some (aA.mk (aB.mk false r165.1.words) r173.1)))) else ((bW (aB.mk false n.words) r135).bind fun r143 => (bW (aB.mk d.minus d.words) r135).bind fun r151 => if n.minus then (some (aA.mk (aB.mk (decide (0 < (r143.1.words.length : Int))) r143.1.words) r151.1)) else (some (aA.mk (aB.mk false r143.1.words) r151.1))))
   (fun r => kW r ∧ r.N.words.length ≤ n.words.length ∧ r.D.words.length ≤ d.words.length ∧ rv r = Rat.divInt (eQ n) (eQ d)) := by
  refine Gd.e_ (AE (L := 900000) hn hd (by omega) hzn hzd) (fun g hg => ?_)
  obtain ⟨g1, g2, g3, g4⟩ := hg
  refine Gd.ite (fun h => ?_) (fun h => DR hn hd g1 hdm hd0 g4 hzn hzd g3)
  obtain ⟨x, hx⟩ := wP h
  have hxw := g1.wf x (by rw [hx]; simp)
  refine Gd.ix (y := x) (by omega) (by rw [hx]; rfl) (Gd.ite (fun h2 => self ?_) (fun h2 => DR hn hd g1 hdm hd0 g4 hzn hzd g3))
  rw [← g4, hx, yK hxw.1]; exact Fa h2
 unfold jv
 refine Gd.ite (fun h => ?_) (fun h => part)
 obtain ⟨x, hx⟩ := wP h
 have hxw := hd.wf x (by rw [hx]; simp)
 refine Gd.ix (y := x) (by omega) (by rw [hx]; rfl) (Gd.ite (fun h2 => self ?_) (fun h2 => part))
 have := (yK hxw.1).2 (Fa h2)
 rw [hx, this, Nat.gcd_one_right]
theorem qI {n d : LI} (hn : nZ n) (hd : nZ d) (hd0 : nv d.words ≠ 0) (hzn : n.words.length ≤ 900000) (hzd : d.words.length ≤ 900000) :
  Gd (jt n d) (fun r => kW r ∧ r.N.words.length ≤ n.words.length ∧ r.D.words.length ≤ d.words.length ∧ rv r = Rat.divInt (eQ n) (eQ d)) := by
 unfold jt
 refine Gd.ite (fun h => ?_) (fun h => Bf hn hd h hd0 hzn hzd)
 refine Gd.e_ (xJ hn (by omega)) (fun n' hn' => Gd.e_ (xJ hd (by omega)) (fun d' hd' => ?_))
 have e : nv d'.words = nv d.words := by rw [← gI, hd'.2.2, Int.natAbs_neg, gI]
 have hm : d'.minus = false := by
  have h1 := hd'.2.2
  unfold eQ at h1
  rw [E_ h] at h1
  rcases J0 d'.minus with h2 | h2
  ·rw [E_ h2] at h1; omega
  ·exact h2
 refine (Bf hn'.1 hd'.1 hm (by rw [e]; exact hd0) (by omega) (by omega)).mono (fun r hr => ⟨hr.1, by omega, by omega, ?_⟩)
 rw [hr.2.2.2, hn'.2.2, hd'.2.2]
 rw [Rat.neg_divInt_neg]
theorem C2 {r : LR} (h : kW r) : eQ r.D ≠ 0 := by rw [l_ h.pos]; have := h.nz; omega
theorem xI {a b c : LI} (h : eQ c = eQ a * eQ b) (ha : nv a.words ≠ 0) (hb : nv b.words ≠ 0) : nv c.words ≠ 0 := by
 rw [← gI, h, Int.natAbs_mul, gI, gI]
 exact Nat.mul_ne_zero ha hb
theorem p8 {a b : LR} (ha : kW a) (hb : kW b) {A B : Nat} (la : RL a A) (lb : RL b B) (hz : A + B ≤ 800000) :
  Gd (dY a b) (fun r => kW r ∧ RL r (A + B + 1) ∧ rv r = rv a + rv b) := by
 have := la.1; have := la.2; have := lb.1; have := lb.2
 unfold dY
 refine Gd.e_ (qH ha.n hb.d (by omega)) (fun x hx => Gd.e_ (qH hb.n ha.d (by omega)) (fun y hy => Gd.e_ (yw hx.1 hy.1 (by omega) (by omega)) (fun s hs => Gd.e_ (qH ha.d hb.d (by omega)) (fun z hz' => ?_))))
 refine Gd.e_ (qI hs.1 hz'.1 (xI hz'.2.2 ha.nz hb.nz) (by omega) (by omega)) (fun r hr => Gd.ret ⟨hr.1, ⟨by omega, by omega⟩, ?_⟩)
 rw [hr.2.2.2, hs.2.2, hx.2.2, hy.2.2, hz'.2.2]
 unfold rv
 rw [Rat.divInt_add_divInt _ _ (C2 ha) (C2 hb)]
theorem Ct {a : LR} (ha : kW a) {A : Nat} (la : RL a A) (hz : A ≤ 800000) :
  Gd (k0 a) (fun r => kW r ∧ RL r A ∧ rv r = -rv a) := by
 have := la.1; have := la.2
 unfold k0
 refine Gd.e_ (xJ ha.n (by omega)) (fun x hx => Gd.ret ⟨⟨hx.1, ha.d, ha.pos, ha.nz, ?_⟩, ⟨by simp only; omega, la.2⟩, ?_⟩)
 ·have e : nv x.words = nv a.N.words := by rw [← gI, hx.2.2, Int.natAbs_neg, gI]
  simp only; rw [e]; exact ha.Ec
 ·unfold rv
  simp only
  rw [hx.2.2, Rat.neg_divInt]
theorem qX {a b : LR} (ha : kW a) (hb : kW b) {A B : Nat} (la : RL a A) (lb : RL b B) (hz : A + B ≤ 800000) :
  Gd (fA a b) (fun r => kW r ∧ RL r (A + B + 1) ∧ rv r = rv a - rv b) := by
 unfold fA
 refine Gd.e_ (Ct hb lb (by omega)) (fun c hc => Gd.e_ (p8 ha hc.1 la hc.2.1 hz) (fun r hr => Gd.ret ⟨hr.1, hr.2.1, ?_⟩))
 rw [hr.2.2, hc.2.2, Rat.sub_eq_add_neg]
theorem sf {a b : LR} (ha : kW a) (hb : kW b) {A B : Nat} (la : RL a A) (lb : RL b B) (hz : A + B ≤ 800000) :
  Gd (gV a b) (fun r => kW r ∧ RL r (A + B) ∧ rv r = rv a * rv b) := by
 have := la.1; have := la.2; have := lb.1; have := lb.2
 unfold gV
 refine Gd.e_ (qH ha.n hb.n (by omega)) (fun x hx => Gd.e_ (qH ha.d hb.d (by omega)) (fun z hz' => ?_))
 refine Gd.e_ (qI hx.1 hz'.1 (xI hz'.2.2 ha.nz hb.nz) (by omega) (by omega)) (fun r hr => Gd.ret ⟨hr.1, ⟨by omega, by omega⟩, ?_⟩)
 rw [hr.2.2.2, hx.2.2, hz'.2.2]
 unfold rv
 rw [Rat.divInt_mul_divInt]
theorem yQ {r : LR} (h : kW r) : rv r = 0 ↔ nv r.N.words = 0 := by
 have hn := h.num
 rw [← gI, Int.natAbs_eq_zero, ← hn, Rat.num_eq_zero]
theorem sk {n : Int} (h : -9223372036854775808 ≤ n ∧ n ≤ 9223372036854775807) : Gd (ju n) (fun r => kW r ∧ RL r 2 ∧ rv r = (n : Rat)) := by
 unfold ju
 refine Gd.e_ (uF h) (fun x hx => Gd.e_ (uF (n := 1) (by omega)) (fun y hy => Gd.ret ?_))
 have hm : y.minus = false := by
  have h1 := hy.2.2
  unfold eQ at h1
  rcases J0 y.minus with h2 | h2
  ·rw [E_ h2] at h1; omega
  ·exact h2
 have hv : nv y.words = 1 := by rw [← gI, hy.2.2]; rfl
 refine ⟨⟨hx.1, hy.1, hm, by simp only; omega, by simp only; rw [hv]; exact Nat.coprime_one_right _⟩, ⟨hx.2.1, hy.2.1⟩, ?_⟩
 unfold rv
 simp only
 rw [hx.2.2, hy.2.2, Rat.divInt_eq_div, Rat.intCast_one]; grind
theorem yu {n d : Int} (h : -9223372036854775808 ≤ n ∧ n ≤ 9223372036854775807) (k : -9223372036854775808 ≤ d ∧ d ≤ 9223372036854775807) (h0 : d ≠ 0) :
  Gd (lK n d) (fun r => kW r ∧ RL r 2 ∧ rv r = (n : Rat) / (d : Rat)) := by
 unfold lK
 refine Gd.e_ (uF h) (fun x hx => Gd.e_ (uF k) (fun y hy => ?_))
 have hv : nv y.words ≠ 0 := by rw [← gI, hy.2.2]; omega
 refine Gd.e_ (qI hx.1 hy.1 hv (by omega) (by omega)) (fun r hr => Gd.ret ⟨hr.1, ⟨by omega, by omega⟩, ?_⟩)
 rw [hr.2.2.2, hx.2.2, hy.2.2, Rat.divInt_eq_div]
abbrev bl (s : ByteArray) : List UInt8 := s.data.toList
def ba (l : List UInt8) : ByteArray := ⟨l.toArray⟩
@[simp] theorem yl (l : List UInt8) : bl (ba l) = l := rfl
@[simp] theorem Ab (s : ByteArray) : ba (bl s) = s := by
 show (⟨s.data.toList.toArray⟩ : ByteArray) = s
 rw [Array.toArray_toList]
theorem xi {a b : ByteArray} (h : bl a = bl b) : a = b := by rw [← Ab a, h, Ab]
theorem uU (s : ByteArray) : (bl s).length = s.size := by show s.data.toList.length = s.data.size; exact Array.length_toList
theorem eA (l : List UInt8) : (ba l).size = l.length := (uU (ba l)).symm
theorem Ae (a b : ByteArray) : bl (a ++ b) = bl a ++ bl b := by show (a ++ b).data.toList = _; simp
theorem xg (a b : List UInt8) : ba a ++ ba b = ba (a ++ b) := xi (Ae _ _)
theorem qy {a b : List UInt8} (h : ba a = ba b) : a = b := by have := Fl bl h; simpa using this
theorem xh (s : ByteArray) (i j : Nat) : bl (s.extract i j) = ((bl s).take j).drop i := by
 show (s.extract i j).data.toList = (s.data.toList.take j).drop i
 simp [ByteArray.data_extract, Array.toList_extract, HV]
theorem ml (l : List UInt8) (i j : Nat) : (ba l).extract i j = ba ((l.take j).drop i) := xi (by rw [xh, yl, yl])
theorem Bm (a b : ByteArray) : (a ++ b).size = a.size + b.size := by rw [← uU, Ae, FP, uU, uU]
theorem nQ (c : UInt8) : ∀ (l : List UInt8), (c ∉ l ∧ Lib.indexByte l c = -1) ∨ ∃ a b, l = a ++ c :: b ∧ c ∉ a ∧ Lib.indexByte l c = a.length
 | [] => .inl ⟨by simp, rfl⟩
 | x :: l => by
  by_cases e : x = c
  ·subst e
   exact .inr ⟨[], l, rfl, by simp, by simp [Lib.indexByte]⟩
  ·have hb : (x == c) = false := by simpa using e
   rcases nQ c l with ⟨h1, h2⟩ | ⟨a, b, rfl, h2, h3⟩
   ·refine .inl ⟨by simp [h1]; exact fun h => e h.symm, ?_⟩
    simp [Lib.indexByte, hb, h2]
   ·refine .inr ⟨x :: a, b, rfl, by simp [h2]; exact fun h => e h.symm, ?_⟩
    simp only [Lib.indexByte, hb, h3]
    rw [E6 (by simp), E6 (by simp)]
    simp only [Fw]; omega
theorem xm (c : UInt8) : fC (ba [c]) = [⟨c.toNat⟩] := by simp [fC, ba]
theorem wz (s : ByteArray) (c : UInt8) : dX s (ba [c]) = some (Lib.indexByte (bl s) c) := by
 unfold dX dF
 by_cases e : ba [c] = s
 ·subst e
  rw [E_ (by simp)]
  simp [Lib.indexByte]
 ·rw [E6 (by simp [eA, e]), E_ (by simp [eA]), xm]
  simp [idx, Dm]
theorem y7 (l : List UInt8) : fC (ba l) = l.map fun b => (⟨b.toNat⟩ : U8) := rfl
theorem vX (l : List UInt8) : rA (l.map fun b => (⟨b.toNat⟩ : U8)) = ba l := by
 refine xi ?_
 show (List.map _ (List.map _ l)).toArray.toList = l
 rw [List.map_map, Ig]
 conv => rhs; rw [← List.map_id l]
 refine List.map_congr_left fun b _ => ?_
 simp
def uz (c : UInt8) : Prop := 48 ≤ c.toNat ∧ c.toNat ≤ 57
instance (c : UInt8) : Decidable (uz c) := by unfold uz; infer_instance
def Av (acc : Nat) : List UInt8 → Nat
 | [] => acc
 | c :: r => Av (acc * 10 + (c.toNat - 48)) r
def dv (l : List UInt8) : Nat := Av 0 l
theorem uZ : ∀ (l : List UInt8) (acc : Nat), Av acc l = acc * 10 ^ l.length + dv l
 | [], acc => by
  rw [Kh, KF, HN]; rfl
 | c :: r, acc => by
  have h2 := uZ r (0 * 10 + (c.toNat - 48))
  unfold dv Av
  rw [uZ r, h2, Fw, KE]
  have : (acc * 10 + (c.toNat - 48)) * 10 ^ r.length = acc * (10 ^ r.length * 10) + (0 * 10 + (c.toNat - 48)) * 10 ^ r.length := by
   rw [FC, GZ, FO, Ku, Kv 10]
  rw [this, Hy]
theorem tF (a b : List UInt8) : dv (a ++ b) = dv a * 10 ^ b.length + dv b := by
 have key : ∀ (a : List UInt8) (acc : Nat), Av acc (a ++ b) = Av (Av acc a) b := by
  intro a
  induction a with
  | nil => intro acc; rfl
  | cons c r ih => intro acc; exact ih _
 unfold dv
 rw [key, uZ]; rfl
theorem xt (c : UInt8) : dv [c] = c.toNat - 48 := by
 show 0 * 10 + (c.toNat - 48) = _
 omega
theorem rS (c : UInt8) (r : List UInt8) : dv (c :: r) = (c.toNat - 48) * 10 ^ r.length + dv r := by
 have := tF [c] r
 rw [xt] at this; simpa using this
theorem Ax (n : Nat) : dv (List.replicate n (48 : UInt8)) = 0 := by
 induction n with
 | zero => rfl
 | succ n ih => rw [HK, rS, ih]; simp
theorem sK : ∀ {l : List UInt8}, (∀ c ∈ l, uz c) → dv l < 10 ^ l.length
 | [], _ => by
  show 0 < 10 ^ 0
  decide
 | c :: r, h => by
  have h1 := sK (l := r) (fun z hz => h z (Fc _ hz))
  have h2 := (h c (E4 ..)).2
  rw [rS, Fw, KE, Kv (10 ^ r.length) 10]
  have : (c.toNat - 48) * 10 ^ r.length ≤ 9 * 10 ^ r.length := Fq _ (by omega)
  generalize 10 ^ r.length = P at *
  omega
theorem Aw {c : UInt8} {r : List UInt8} (hc : uz c) (h0 : c ≠ 48) : 10 ^ r.length ≤ dv (c :: r) := by
 have : 1 ≤ c.toNat - 48 := by
  have := hc.1
  have hne : c.toNat ≠ 48 := fun e => h0 (UInt8.toNat_inj.1 (by rw [e]; rfl))
  omega
 rw [rS]
 have : 1 * 10 ^ r.length ≤ (c.toNat - 48) * 10 ^ r.length := Fq _ this
 generalize 10 ^ r.length = P at *
 omega
structure w8 (l : List UInt8) : Prop where
 wg : ∀ c ∈ l, uz c
 ne : l ≠ []
 lead : l.head? = some 48 → l = [48]
theorem tM {a b : List UInt8} (h : a ≠ []) : (a ++ b).head? = a.head? := by
 cases a with
 | nil => exact absurd rfl h
 | cons x r => rfl
theorem Ar {u : Nat} (h : u < 10) : (UInt8.ofNat (48 + u)).toNat = 48 + u := by rw [UInt8.toNat_ofNat']; omega
theorem iZ (u : Nat) : w8 (Lib.decDigits u) ∧ dv (Lib.decDigits u) = u := by
 induction u using Nat.strongRecOn with
 | _ u ih =>
  by_cases h : u < 10
  ·rw [J8 h]
   have hd := Ar h
   refine ⟨⟨fun c hc => ?_, by simp, fun hh => ?_⟩, by rw [xt, hd]; omega⟩
   ·rw [Gh] at hc; subst hc; unfold uz; omega
   ·simp only [Kf, FR] at hh
    rw [hh]
  ·obtain ⟨h1, h2⟩ := ih (u / 10) (by omega)
   have e : Lib.decDigits u = Lib.decDigits (u / 10) ++ [UInt8.ofNat (48 + u % 10)] := by rw [Lib.decDigits, dif_neg h]
   have hd := Ar (u := u % 10) (by omega)
   rw [e]
   refine ⟨⟨fun c hc => ?_, by simp, fun hh => ?_⟩, ?_⟩
   ·rcases FK.1 hc with hc | hc
    ·exact h1.wg c hc
    ·rw [Gh] at hc; subst hc; unfold uz; omega
   ·rw [tM h1.ne] at hh
    have := h1.lead hh
    rw [this] at h2
    have : dv [48] = 0 := rfl
    omega
   ·rw [tF, h2, xt, hd]
    simp only [F2, Nat.pow_one]; omega
theorem yG : ∀ {a b : List UInt8}, w8 a → w8 b → dv a = dv b → a = b := by
 have zero : ∀ {a : List UInt8}, w8 a → dv a = 0 → a = [48] := by
  intro a ha h0
  cases a with
  | nil => exact absurd rfl ha.ne
  | cons c r =>
   by_cases hc : c = 48
   ·exact ha.lead (by rw [hc]; rfl)
   ·have := Aw (r := r) (ha.wg c (E4 ..)) hc
    have : 0 < 10 ^ r.length := KD (by decide)
    omega
 have eqlen : ∀ (a b : List UInt8), a.length = b.length → (∀ c ∈ a, uz c) → (∀ c ∈ b, uz c) → dv a = dv b → a = b := by
  intro a
  induction a with
  | nil => intro b hl _ _ _; cases b with | nil => rfl | cons _ _ => simp at hl
  | cons c r ih =>
   intro b hl ha hb h
   cases b with
   | nil => simp at hl
   | cons d s =>
    have hl' : r.length = s.length := by simpa using hl
    have h1 := sK (l := r) (fun z hz => ha z (Fc _ hz))
    have h2 := sK (l := s) (fun z hz => hb z (Fc _ hz))
    have hc := ha c (E4 ..)
    have hd := hb d (E4 ..)
    rw [rS, rS, ← hl'] at h
    rw [← hl'] at h2
    have hP : 0 < 10 ^ r.length := KD (by decide)
    have e1 : c.toNat - 48 = d.toNat - 48 := by
     have q1 : ((c.toNat - 48) * 10 ^ r.length + dv r) / 10 ^ r.length = c.toNat - 48 := by
      rw [HM, Nat.add_mul_div_right _ _ hP, Kn h1, FO]
     have q2 : ((d.toNat - 48) * 10 ^ r.length + dv s) / 10 ^ r.length = d.toNat - 48 := by
      rw [HM, Nat.add_mul_div_right _ _ hP, Kn h2, FO]
     rw [← q1, h, q2]
    have e2 : c = d := UInt8.toNat_inj.1 (by have := hc.1; have := hd.1; omega)
    rw [e1] at h
    rw [e2, ih s hl' (fun z hz => ha z (Fc _ hz)) (fun z hz => hb z (Fc _ hz)) (by omega)]
 intro a b ha hb h
 by_cases h0 : dv a = 0
 ·rw [zero ha h0, zero hb (by omega)]
 ·have big : ∀ {l : List UInt8}, w8 l → dv l ≠ 0 → ∃ c r, l = c :: r ∧ 10 ^ r.length ≤ dv l := by
   intro l hl hz
   cases l with
   | nil => exact absurd rfl hl.ne
   | cons c r =>
    refine ⟨c, r, rfl, Aw (hl.wg c (E4 ..)) (fun hc => hz ?_)⟩
    rw [hl.lead (by rw [hc]; rfl)]; rfl
  obtain ⟨c, r, rfl, h1⟩ := big ha h0
  obtain ⟨d, s, rfl, h2⟩ := big hb (by omega)
  have h3 := sK ha.wg
  have h4 := sK hb.wg
  refine eqlen _ _ ?_ ha.wg hb.wg h
  rw [h] at h1 h3
  have l1 : r.length < (d :: s).length := (KB (by decide)).1 (Im h1 h4)
  have l2 : s.length < (c :: r).length := (KB (by decide)).1 (Im h2 h3)
  simp only [Fw] at l1 l2 ⊢; omega
theorem pU {l : List UInt8} (h : w8 l) : Lib.decDigits (dv l) = l := yG (iZ _).1 h (iZ _).2
theorem uD {u k : Nat} (hk : 1 ≤ k) (h : u < 10 ^ k) : (Lib.decDigits u).length ≤ k := by
 obtain ⟨h1, h2⟩ := iZ u
 cases hl : Lib.decDigits u with
 | nil => simp
 | cons c r =>
  rw [hl] at h1 h2
  by_cases hc : c = 48
  ·rw [h1.lead (by rw [hc]; rfl)]; simpa using hk
  ·have := Aw (r := r) (h1.wg c (E4 ..)) hc
   rw [h2] at this
   have : r.length < k := (KB (by decide)).1 (Im this h)
   rw [Fw]; exact this
theorem tQ {u k : Nat} (h : (Lib.decDigits u).length ≤ k) : u < 10 ^ k := by
 obtain ⟨h1, h2⟩ := iZ u
 have := sK h1.wg
 rw [h2] at this
 exact Kq this (KA (by decide) h)
def pad (k : Nat) (r : Nat) : List UInt8 := List.replicate (k - (Lib.decDigits r).length) 48 ++ Lib.decDigits r
theorem Cm {k r : Nat} (hk : 1 ≤ k) (h : r < 10 ^ k) : (pad k r).length = k := by
 have := uD hk h
 unfold pad
 rw [FP, Gx]; omega
theorem Cl (k r : Nat) : ∀ c ∈ pad k r, uz c := by
 intro c hc
 rcases FK.1 hc with hc | hc
 ·rw [(Kk.1 hc).2]; exact ⟨by decide, by decide⟩
 ·exact (iZ r).1.wg c hc
theorem Df (k r : Nat) : dv (pad k r) = r := by
 unfold pad
 rw [tF, Ax, (iZ r).2]; omega
theorem BX {k q r : Nat} (hk : 1 ≤ k) (hq : 0 < q) (hr : r < 10 ^ k) : Lib.decDigits (q * 10 ^ k + r) = Lib.decDigits q ++ pad k r := by
 obtain ⟨h1, h2⟩ := iZ q
 refine yG (iZ _).1 ⟨fun c hc => ?_, by simp [h1.ne], fun hh => ?_⟩ ?_
 ·rcases FK.1 hc with hc | hc
  ·exact h1.wg c hc
  ·exact Cl _ _ c hc
 ·rw [tM h1.ne] at hh
  rw [h1.lead hh] at h2
  have : dv [48] = 0 := rfl
  omega
 ·rw [(iZ _).2, tF, h2, Cm hk hr, Df]
theorem A7 {M : Nat} (hM : M < 1844674407370955162) : ∀ (l : List UInt8) (acc : Nat), (∀ c ∈ l, uz c) → Av acc l ≤ M → acc ≤ M → Lib.parseUintM M acc l = .ok (Av acc l)
 | [], acc, _, _, _ => rfl
 | c :: r, acc, h, hl, ha => by
  have hc := h c (E4 ..)
  have hle : acc * 10 + (c.toNat - 48) ≤ M := by
   have := uZ r (acc * 10 + (c.toNat - 48))
   have h1 : Av acc (c :: r) = Av (acc * 10 + (c.toNat - 48)) r := rfl
   have hP : 1 ≤ 10 ^ r.length := KD (by decide)
   have : (acc * 10 + (c.toNat - 48)) * 1 ≤ (acc * 10 + (c.toNat - 48)) * 10 ^ r.length := Kw _ hP
   generalize 10 ^ r.length = P at *
   omega
  rw [Lib.parseUintM, E_ (show 48 ≤ c.toNat ∧ c.toNat ≤ 57 from hc), E6 (by omega), E6 (by omega)]
  exact A7 hM r _ (fun z hz => h z (Fc _ hz)) hl hle
theorem Cp {l : List UInt8} (h : ∀ c ∈ l, uz c) (hl : l.length ≤ 9) : Ba (ba l) = ((dv l : Int), false) := by
 unfold Ba
 have h1 := sK h
 have h2 : 10 ^ l.length ≤ 10 ^ 9 := KA (by decide) hl
 have e := A7 (M := 4294967295) (by decide) l 0 h (by show dv l ≤ _; omega) (by omega)
 show (match Lib.parseUintM 4294967295 0 l with | .ok v => ((v : Int), false) | .range => (4294967295, true) | _ => (0, true)) = _
 rw [e]; rfl
theorem uH (l : List UInt8) : cR (ba l) (⟨#[45]⟩) = some (decide (l.head? = some 45)) := by
 have h1 : (⟨#[45]⟩ : ByteArray).size = 1 := rfl
 unfold cR
 rw [h1, eA]
 cases l with
 | nil => rfl
 | cons c r =>
  rw [E_ (by simp; omega)]
  unfold dL
  rw [E_ (by simp only [Fw]; omega), show ((1 : Nat) : Int).toNat = 1 from rfl, ml]
  congr 1
  have e : (ba (((c :: r).take 1).drop 0) = (⟨#[45]⟩ : ByteArray)) ↔ ((c :: r).head? = some 45) := by
   rw [show (⟨#[45]⟩ : ByteArray) = ba [45] from rfl]
   constructor
   ·intro h
    have := qy h
    simp at this
    simp [this]
   ·intro h
    simp only [Kf, FR] at h
    rw [h]; rfl
  exact decide_eq_decide.2 e
theorem zj (l : List UInt8) : iV (ba l) (⟨#[45]⟩) = some (decide (l.head? = some 45)) := by
 unfold iV
 rw [uH l]; rfl
theorem rI (l : List UInt8) : f_ (ba l) (⟨#[45]⟩) = some (ba (if l.head? = some 45 then l.tail else l)) := by
 have h1 : (⟨#[45]⟩ : ByteArray).size = 1 := rfl
 unfold f_ eB
 rw [uH l]
 simp only [HS]
 by_cases h : l.head? = some 45
 ·rw [E_ (by simp [h]), E_ h, h1, eA]
  cases l with
  | nil => cases h
  | cons c r =>
   unfold dL
   rw [E_ (by simp only [Fw]; omega), show ((1 : Nat) : Int).toNat = 1 from rfl, ml]
   simp
 ·rw [E6 (by simp [h]), E6 h]; rfl
theorem nZ.plus {a : LI} (h : nZ a) (h0 : 0 ≤ eQ a) : a.minus = false := by
 cases hm : a.minus with
 | false => rfl
 | true =>
  have hne := h.sign hm
  have : nv a.words ≠ 0 := fun e => hne ((qU h.wf h.tp).1 e)
  unfold eQ at h0
  rw [E_ hm] at h0; omega
theorem BR {n : Nat} (h : 0 < n) (h2 : n ≤ 100000) : i64.wrap ((Int.tmod (i64.wrap ((n : Int) - 1)) 9) + 1) = (((n - 1) % 9 + 1 : Nat) : Int) := by
 rw [bN (n := (n : Int) - 1) ⟨by omega, by omega⟩]
 have : Int.tmod ((n : Int) - 1) 9 = (((n - 1) % 9 : Nat) : Int) := by
  rw [show (n : Int) - 1 = ((n - 1 : Nat) : Int) by omega]
  rw [Int.tmod_eq_emod_of_nonneg (by omega)]; rfl
 rw [this, bN ⟨by omega, by omega⟩]; omega
theorem zx {D n c v P : Nat} (h : D = 0 ∨ n = 9) (hP : P = 10 ^ n) : D * 10 ^ 9 + c = D * P + c := by
 rcases h with h | h
 ·rw [h, GZ, GZ]
 ·rw [hP, h]
theorem yP {ds : List UInt8} (h : ∀ c ∈ ds, uz c) (hl : ds.length ≤ 2000) (neg : Bool) :
  Gd (jZ (ba (if neg = true then 45 :: ds else ds))) (fun a => nZ a ∧ a.words.length ≤ 10000 ∧ eQ a = if neg = true then -(dv ds : Int) else dv ds) := by
 unfold jZ
 have hll : (if neg = true then 45 :: ds else ds).length ≤ 1000000 := by
  split
  ·simp only [Fw]; omega
  ·omega
 have hhd : (if neg = true then 45 :: ds else ds).head? = some 45 ↔ neg = true := by
  cases neg with
  | true => simp
  | false =>
   simp only [Gp, Ha, iff_false]
   intro hh
   cases ds with
   | nil => cases hh
   | cons c r =>
    simp only [Kf, FR] at hh
    have := (h c (E4 ..)).1
    rw [hh] at this; exact absurd this (by decide)
 have htr : (if (if neg = true then 45 :: ds else ds).head? = some 45 then (if neg = true then 45 :: ds else ds).tail else (if neg = true then 45 :: ds else ds)) = ds := by
  cases neg with
  | true => simp
  | false => rw [E6 (by rw [hhd]; simp)]; simp
 refine Gd.bind_eq (zj _) (Gd.bind_eq (rI _) ?_)
 rw [htr]
 have hdec : decide ((if neg = true then 45 :: ds else ds).head? = some 45) = neg := by
  cases neg with
  | true => simp
  | false => rw [KW (by rw [hhd]; simp)]
 rw [hdec]
 refine Gd.gC (fun (z : ByteArray × Bool × List bA) => ∃ pre suf : List UInt8, ds = pre ++ suf ∧ z.1 = ba suf ∧ z.2.1 = false ∧ nZ ⟨false, z.2.2⟩ ∧ (nv z.2.2 = dv pre) ∧ z.2.2.length ≤ 5 * pre.length ∧ (pre = [] ∨ suf.length % 9 = 0))
  (fun z => z.1.size) ?_ fR _ ⟨[], ds, rfl, rfl, rfl, ⟨Wf.nil, fun y hy => by simp at hy, fun hh => by simp at hh⟩, rfl, by simp, .inl rfl⟩ (by rw [eA]; simp only [fR]; omega)
 rintro ⟨s, c, w⟩ nx ⟨pre, suf, e1, e2, e3, e4, e5, e6, e7⟩ hnx
 simp only at e2 e3 e4 e5 e6 e7 hnx ⊢
 subst e2 e3
 have hlen : pre.length + suf.length ≤ 2000 := by rw [← FP, ← e1]; exact hl
 unfold nU
 rw [eA]
 refine Gd.ite (fun h0 => ?_) (fun h0 => ?_)
 ·have h0 : 0 < suf.length := by have := Fa h0; omega
  rw [BR h0 (by omega)]
  generalize hn : (suf.length - 1) % 9 + 1 = n
  have hn9 : n ≤ 9 := by omega
  have hns : n ≤ suf.length := by have := Nat.mod_le (suf.length - 1) 9; omega
  rw [E1, ml, ml, G5, FG (FA _), eA]
  have htl : (suf.take n).length = n := by rw [FM]; omega
  have hdg : ∀ x ∈ suf.take n, uz x := fun x hx => h x (by rw [e1]; exact Gf _ (HA hx))
  have hpu := Cp hdg (by rw [htl]; exact hn9)
  have hdl : dv (suf.take n) < 10 ^ 9 := Kq (sK hdg) (KA (by decide) (by omega))
  rw [hpu, htl]
  refine Gd.nd ⟨by omega, by omega⟩ (Gd.nd ⟨by omega, by omega, rfl⟩ ?_)
  rw [bN (n := (dv (suf.take n) : Int)) ⟨by omega, by omega⟩]
  refine Gd.e_ (uF (n := 1000000000) (by omega)) (fun t ht => Gd.e_ (qH e4 ht.1 (by simp only; omega)) (fun m hm => Gd.e_ (uF (n := (dv (suf.take n) : Int)) (by omega)) (fun u hu => Gd.e_ (yw hm.1 hu.1 (by simp only at hm; omega) (by omega)) (fun r hr => Gd.nd ⟨by omega, by omega⟩ ?_))))
  have hiv : eQ (⟨false, w⟩ : LI) = (dv pre : Int) := by unfold eQ; simp only [Gp, Ha]; rw [e5]
  have hval : eQ r = ((dv (pre ++ suf.take n) : Nat) : Int) := by
   rw [hr.2.2, hm.2.2, ht.2.2, hu.2.2, hiv, tF, htl]
   have := zx (D := dv pre) (n := n) (c := dv (suf.take n)) (v := 0) (P := 10 ^ n) (by
    rcases e7 with e7 | e7
    ·left; rw [e7]; rfl
    ·right; omega) rfl
   rw [← this]
   have e9 : (10 ^ 9 : Nat) = 1000000000 := rfl
   rw [e9]
   generalize dv pre = A
   generalize dv (suf.take n) = C
   omega
  have hrm : r.minus = false := hr.1.plus (by rw [hval]; omega)
  refine hnx _ ⟨pre ++ suf.take n, suf.drop n, by rw [FT, GN]; exact e1, rfl, hrm, ?_, ?_, ?_, ?_⟩ ?_
  ·rw [← hrm]; exact hr.1
  ·have := hval
   unfold eQ at this
   rw [E6 (by rw [hrm]; simp)] at this
   simp only; omega
  ·simp only at hm ⊢
   rw [FP, htl]; omega
  ·right; rw [GU]; omega
  ·simp only [eA, GU]; omega
 ·have h0 : ¬ 0 < suf.length := by have := Fm h0; omega
  have hs0 : suf = [] := FN (by omega)
  subst hs0
  rw [FY] at e1
  subst e1
  unfold mg
  have e4w : Wf w := e4.wf
  have e4t : pj w := e4.top
  refine Gd.ite (fun hneg => Gd.ret ⟨⟨e4.wf, e4.top, fun hm hw => ?_⟩, by simp only; omega, ?_⟩) (fun hneg => Gd.ret ⟨e4, by simp only; omega, ?_⟩)
  ·have hw : w = [] := hw
   subst hw
   simp at hm
  ·rw [E_ hneg]
   unfold eQ
   simp only [Gi]
   split
   ·rw [e5]
   ·rename_i hh
    have : w = [] := FN (by omega)
    rw [this] at e5 ⊢
    rw [← e5]; rfl
  ·rw [E6 (by rw [hneg]; simp)]
   unfold eQ
   simp only [Gp, Ha]
   rw [e5]
def pv : List bA → Nat
 | [] => 0
 | y :: l => y.n.toNat + 1000000000 * pv l
theorem yO : ∀ (a : List bA) (y : bA), pv (a ++ [y]) = pv a + 1000000000 ^ a.length * y.n.toNat
 | [], y => by
  show y.n.toNat + 1000000000 * 0 = 0 + 1000000000 ^ 0 * y.n.toNat
  rw [KF]; omega
 | x :: a, y => by
  rw [Hu, pv, yO a y, pv, Fw, KE]
  rw [Kt, ← Ku, Kv (1000000000 ^ a.length) 1000000000, Hy]
theorem Cr {l : List bA} {k : Nat} {y : bA} (h : l[k]? = some y) : pv (l.drop k) = pv (l.drop (k + 1)) * 1000000000 + y.n.toNat := by
 rw [lG h, pv]; omega
theorem Ac : (⟨#[48, 48, 48, 48, 48, 48, 48, 48, 48]⟩ : ByteArray) = ba (List.replicate 9 48) := rfl
theorem nh (n : Nat) : mK (n : Int) = ba (Lib.decDigits n) := by unfold mK; rw [Lib.itoa_nonneg]; rfl
theorem zo {n : Nat} (h : 0 < n) : mK (-(n : Int)) = ba (45 :: Lib.decDigits n) := by
 unfold mK Lib.itoa
 rw [E_ (by omega), show (-(n : Int)).natAbs = n by omega]; rfl
def zI (D : List UInt8) : List U8 := D.map fun b => ⟨b.toNat⟩
theorem qR (D : List UInt8) : fC (ba D) = zI D := y7 D
theorem Bv (a b : List UInt8) : zI a ++ zI b = zI (a ++ b) := by unfold zI; rw [GK]
theorem uV (D : List UInt8) : rA (zI D) = ba D := vX D
theorem vE (D : List UInt8) : (zI D).length = D.length := HE _
theorem Du (N : Nat) {Q : List bA} (hQ : ∀ z ∈ Q, 0 ≤ z.n ∧ z.n < 1000000000) (hl : Q.length ≤ N) : pv Q < 10 ^ (9 * N) := by
 have key : ∀ (Q : List bA), (∀ z ∈ Q, 0 ≤ z.n ∧ z.n < 1000000000) → pv Q < 1000000000 ^ Q.length := by
  intro Q
  induction Q with
  | nil => intro _; show 0 < 1000000000 ^ 0; decide
  | cons z Q ih =>
   intro hQ
   have h1 := ih (fun x hx => hQ x (Fc _ hx))
   have h2 := hQ z (E4 ..)
   rw [pv, Fw, KE, Kv]
   generalize 1000000000 ^ Q.length = X at *
   omega
 have h2 : (1000000000 : Nat) ^ Q.length ≤ 1000000000 ^ N := KA (by decide) hl
 rw [KC]
 exact Kq (key Q hQ) h2
theorem CL (n a b : Nat) (h1 : a ≤ 3 * n) (h2 : 10 * n ≤ 32 * b) : 10 ^ a ≤ WB ^ b := by
 have e1 : (10 : Nat) ^ a ≤ 10 ^ (3 * n) := KA (by decide) h1
 have e2 : ((10 : Nat) ^ 3) ^ n ≤ (2 ^ 10) ^ n := Kz (by decide) n
 have e3 : (2 : Nat) ^ (10 * n) ≤ 2 ^ (32 * b) := KA (by decide) h2
 rw [← KC, ← KC] at e2
 rw [tk b]
 exact GB e1 (GB e2 e3)
theorem yC (n a b : Nat) (h1 : a ≤ 3 * n) (h2 : 10 * n ≤ 32 * b) {w : List bA} (hw : Wf w) (ht : pj w) (hl : b < w.length) : ¬ nv w < 10 ^ a := by
 have hne : w ≠ [] := fun e => by rw [e] at hl; simp at hl
 have hge := wO hw ht hne
 have hp : WB ^ b ≤ WB ^ (w.length - 1) := KA (by decide) (by omega)
 exact Nat.not_lt.2 (GB (CL n a b h1 h2) (GB hp hge))
theorem Bk (N K : Nat) {w : List bA} (hw : Wf w) (hl : w.length ≤ N) (hK : 32 * N ≤ K) : nv w < 2 ^ K := by
 have h2 := mW hw
 have h3 : WB ^ w.length ≤ WB ^ N := KA (by decide) hl
 rw [tk N] at h3
 have h4 : (2 : Nat) ^ (32 * N) ≤ 2 ^ K := KA (by decide) hK
 exact Kq h2 (GB h3 h4)
theorem wK {m : Nat} (h : m ≤ 9) : (⟨#[48, 48, 48, 48, 48, 48, 48, 48, 48]⟩ : ByteArray).extract m ((⟨#[48, 48, 48, 48, 48, 48, 48, 48, 48]⟩ : ByteArray).size) = ba (List.replicate (9 - m) 48) := by
 rw [Ac, eA, ml, FG (FA _), List.drop_replicate]
theorem B6 {a : LI} {P : List bA} {V : Nat} (hP : ∀ y ∈ P, 0 ≤ y.n ∧ y.n < 1000000000) (hV : pv P = V) (hne : P ≠ []) (htop : ∀ y, P.getLast? = some y → y.n ≠ 0) (hl : P.length ≤ 1000) (ha : a.minus = true → V ≠ 0) :
  Gd (gC (fun s300 n => kC a P s300.1 s300.2 n) fR (i64.wrap ((P.length : Int) - 1), ([] : List U8)))
   (fun r => r.2 = decide ((Lib.decDigits V).length ≤ 2000) ∧ r.1 = mK (if a.minus = true then -(V : Int) else V) ∧ r.1.size ≤ 10000) := by
 have hpos : 0 < P.length := Ki.2 hne
 have wl : i64.wrap ((P.length : Int) - 1) = (P.length : Int) - 1 := bN ⟨by omega, by omega⟩
 rw [wl]
 refine Gd.gC (fun (z : Int × List U8) => -1 ≤ z.1 ∧ z.1 < P.length ∧ (z.1 = (P.length : Int) - 1 ∧ z.2 = [] ∨ z.1 < (P.length : Int) - 1 ∧ 0 < pv (P.drop (z.1 + 1).toNat) ∧ z.2 = zI (Lib.decDigits (pv (P.drop (z.1 + 1).toNat))) ∧ z.2.length ≤ 9 * 1000))
  (fun z => (z.1 + 1).toNat) ?_ fR _ ⟨by simp only; omega, by simp only; omega, .inl ⟨rfl, rfl⟩⟩ (by simp only [fR]; omega)
 rintro ⟨n, l⟩ nx ⟨h1, h2, h3⟩ hnx
 simp only at h1 h2 h3 hnx ⊢
 unfold kC
 refine Gd.ite (fun hn => ?_) (fun hn => ?_)
 ·have hn : 0 ≤ n := Fa hn
  obtain ⟨k, rfl⟩ : ∃ k : Nat, n = k := ⟨n.toNat, by omega⟩
  obtain ⟨y, hy⟩ : ∃ y, P[k]? = some y := ⟨_, EZ (by omega)⟩
  have hyw := hP y (Fi hy)
  obtain ⟨u, hu⟩ : ∃ u : Nat, y.n = u := ⟨y.n.toNat, by omega⟩
  have hu9 : u < 10 ^ 9 := by
   have : (10 : Nat) ^ 9 = 1000000000 := rfl
   omega
  have hkn : ((k : Int) + 1).toNat = k + 1 := by omega
  have hkk : ((k : Int) - 1 + 1).toNat = k := by omega
  refine Gd.ix (by omega) (by rw [E1]; exact hy) ?_
  rw [hu, dS (n := (u : Int)) (by omega), nh]
  refine Gd.nd ⟨by omega, by omega⟩ ?_
  rw [wl]
  have hlen : (Lib.decDigits u).length ≤ 9 := uD (by decide) hu9
  have hd := Cr hy
  have hun : y.n.toNat = u := by omega
  rw [hun] at hd
  have hwk : i64.wrap ((k : Int) - 1) = (k : Int) - 1 := bN ⟨by omega, by omega⟩
  refine Gd.ite (fun hlt => ?_) (fun hlt => ?_)
  ·have hlt : (k : Int) < (P.length : Int) - 1 := Fa hlt
   rcases h3 with ⟨h3, _⟩ | ⟨_, h3, h4, h5⟩
   ·omega
   rw [hkn] at h3 h4
   rw [eA, E1, wK hlen, qR]
   have hsz : (ba (List.replicate (9 - (Lib.decDigits u).length) (48 : UInt8))).size = 9 - (Lib.decDigits u).length := by rw [eA, Gx]
   rw [hsz]
   refine Gd.nd ⟨by omega, by show ((Lib.decDigits u).length : Int) ≤ ((9 : Nat) : Int); omega⟩ (Gd.nd (by omega) ?_)
   unfold gM
   rw [hu, dS (n := (u : Int)) (by omega), nh, hwk, qR, eA]
   rw [FP, vE, Gx]
   refine Gd.nd (by omega) ?_
   have hfin : l ++ zI (List.replicate (9 - (Lib.decDigits u).length) (48 : UInt8)) ++ zI (Lib.decDigits u) = zI (Lib.decDigits (pv (P.drop k))) := by
    have hdp := BX (k := 9) (by decide) h3 hu9
    rw [show (10 : Nat) ^ 9 = 1000000000 from rfl, ← hd] at hdp
    rw [h4, FT, Bv, Bv, hdp]
    rfl
   rw [hfin]
   have hdl := tQ (u := pv (P.drop k)) (k := (Lib.decDigits (pv (P.drop k))).length) (FA _)
   refine hnx _ ⟨by simp only; omega, by simp only; omega, .inr ⟨by simp only; omega, by simp only; rw [hkk, hd]; omega, by simp only; rw [hkk], ?_⟩⟩ (by simp only; omega)
   simp only
   rw [vE]
   have hb := Du 1000 (fun z hz => hP z (List.mem_of_mem_drop hz)) (show (P.drop k).length ≤ 1000 by rw [GU]; omega)
   exact uD (k := 9 * 1000) (by decide) hb
  ·have hlt : ¬ (k : Int) < (P.length : Int) - 1 := Fm hlt
   rcases h3 with ⟨h3, h4⟩ | ⟨h3, _⟩
   ·unfold gM
    rw [hu, dS (n := (u : Int)) (by omega), nh, hwk, qR, eA, h4]
    refine Gd.nd (by simp only [Kh]; omega) ?_
    have hlast : P.drop (k + 1) = [] := Ka (by omega)
    rw [hlast] at hd
    have hd : pv (P.drop k) = u := by rw [hd]; show 0 * 1000000000 + u = u; omega
    have hu0 : u ≠ 0 := by
     have := htop y (by rw [Ke, show P.length - 1 = k by omega]; exact hy)
     omega
    rw [He]
    refine hnx _ ⟨by simp only; omega, by simp only; omega, .inr ⟨by simp only; omega, by simp only; rw [hkk, hd]; omega, by simp only; rw [hkk, hd], ?_⟩⟩ (by simp only; omega)
    simp only
    rw [vE]; omega
   ·omega
 ·have hn : ¬ 0 ≤ n := Fm hn
  rcases h3 with ⟨h3, _⟩ | ⟨_, h3, h4, h5⟩
  ·omega
  have hz : (n + 1).toNat = 0 := by omega
  rw [hz, G5, hV] at h3 h4
  subst h4
  rw [vE] at h5 ⊢
  have hne' : (Lib.decDigits V) ≠ [] := (iZ V).1.ne
  have hp : 0 < (Lib.decDigits V).length := Ki.2 hne'
  have hsz : ((ba (Lib.decDigits V)).size : Int) = ((Lib.decDigits V).length : Int) := by rw [eA]
  have hdd : decide (((ba (Lib.decDigits V)).size : Int) ≤ 2000) = decide ((Lib.decDigits V).length ≤ 2000) := by
   rw [hsz]; exact decide_eq_decide.2 (by omega)
  refine Gd.nd hp (Gd.ite (fun hm => Gd.nd ?_ ?_) (fun hm => ?_))
  ·rw [uV, eA, show (⟨#[45]⟩ : ByteArray).size = 1 from rfl]
   unfold maxLen; omega
  ·unfold gO
   rw [uV]
   have hx : (⟨#[45]⟩ : ByteArray) ++ ba (Lib.decDigits V) = ba (45 :: Lib.decDigits V) := by
    rw [show (⟨#[45]⟩ : ByteArray) = ba [45] from rfl, xg]; rfl
   refine Gd.ret ⟨hdd, ?_, ?_⟩
   ·rw [E_ hm, zo (by have := ha hm; omega)]; exact hx
   ·simp only
    rw [hx, eA, Fw]; omega
  ·unfold gO
   rw [uV]
   refine Gd.ret ⟨hdd, ?_, ?_⟩
   ·rw [E6 (by rw [hm]; simp), nh]
   ·simp only
    rw [eA]; omega
theorem xO (K N : Nat) {p n W : Nat} (h : 1000000000 ^ p * n ≤ W) (hn : 1 ≤ n) (hW : W < 2 ^ K) (hK : K ≤ 29 * N) : p < N := by
 rcases Hf p N with hp | hp
 ·exact hp
 ·exfalso
  have h1 : ((2 : Nat) ^ 29) ^ N ≤ (1000000000 : Nat) ^ N := Kz (by decide) N
  have h2 : (1000000000 : Nat) ^ N ≤ 1000000000 ^ p := KA (by decide) hp
  have h3 : (1000000000 : Nat) ^ p * 1 ≤ 1000000000 ^ p * n := Kw _ hn
  have h4 : (2 : Nat) ^ K ≤ 2 ^ (29 * N) := KA (by decide) hK
  rw [← KC] at h1
  rw [HN] at h3
  exact absurd hW (Nat.not_lt.2 (GB h4 (GB h1 (GB h2 (GB h3 h)))))
theorem zu {V A B n : Nat} (h : V = A + B * n) : V = (A + B * (n % 1000000000)) + B * 1000000000 * (n / 1000000000) := by
 rw [Ku, Hy, ← Kt, Ks]; exact h
theorem tN {a : LI} (h : nZ a) : Gd (fV a) (fun r => r.2 = decide ((Lib.decDigits (nv a.words)).length ≤ 2000) ∧ (r.2 = true → r.1 = mK (eQ a)) ∧ r.1.size ≤ 10000) := by
 unfold fV
 refine Gd.ite (fun h0 => ?_) (fun h0 => ?_)
 ·have h0 : a.words = [] := FN (by have := Fa h0; omega)
  have hm : a.minus = false := by
   cases hm : a.minus with
   | false => rfl
   | true => exact absurd h0 (h.sign hm)
  refine Gd.ret ⟨?_, fun _ => ?_, by decide⟩
  ·rw [h0]
   have hx : (Lib.decDigits (nv [])).length ≤ 2000 := by
    show (Lib.decDigits 0).length ≤ 2000
    rw [J8 (by omega)]; simp
   rw [decide_eq_true hx]
  ·unfold eQ
   rw [E6 (by rw [hm]; simp), h0]
   show (⟨#[48]⟩ : ByteArray) = mK ((0 : Nat) : Int)
   rw [nh, J8 (by omega)]; rfl
 ·have h0 : a.words.length ≠ 0 := by have := Fm h0; omega
  have hne : a.words ≠ [] := fun e => h0 (by rw [e]; rfl)
  refine Gd.ite (fun h1 => ?_) (fun h1 => ?_)
  ·have h1 : 210 < a.words.length := by have := Fa h1; omega
   refine Gd.ret ⟨?_, fun hh => absurd hh (by simp), by decide⟩
   symm
   refine KW fun hle => ?_
   exact yC 667 2000 210 (by decide) (by decide) h.wf h.tp h1 (tQ (k := 2000) hle)
  ·have h1 : a.words.length ≤ 210 := by have := Fm h1; omega
   have hW := Bk 210 6720 h.wf h1 (by decide)
   have hnz : nv a.words ≠ 0 := fun e => hne ((qU h.wf h.tp).1 e)
   refine Gd.gC (fun (z : List bA × List bA) => (∀ y ∈ z.1, 0 ≤ y.n ∧ y.n < 1000000000) ∧ Wf z.2 ∧ pj z.2 ∧ z.2.length ≤ 210 ∧ nv a.words = pv z.1 + 1000000000 ^ z.1.length * nv z.2 ∧ z.1.length ≤ 300 ∧ (nv z.2 = 0 → z.1 ≠ [] ∧ ∀ y, z.1.getLast? = some y → y.n ≠ 0))
    (fun z => 301 - z.1.length) ?_ fR _ ⟨by simp, h.wf, h.tp, h1, ?_, by simp, fun e => absurd e hnz⟩ (by simp only [fR, Kh]; omega)
   ·rintro ⟨P, w⟩ nx ⟨i1, i2, i3, i4, i5, i6, i7⟩ hnx
    simp only at i1 i2 i3 i4 i5 i6 i7 hnx ⊢
    unfold lS
    refine Gd.ite (fun hw => ?_) (fun hw => ?_)
    ·have hw : 0 < w.length := by have := Fa hw; omega
     have hwn : w ≠ [] := fun e => by rw [e] at hw; simp at hw
     have hwz : nv w ≠ 0 := fun e => hwn ((qU i2 i3).1 e)
     have hpl := xO 6720 300 (p := P.length) (n := nv w) (W := nv a.words) (by rw [i5]; exact Nat.le_add_left _ _) (by omega) hW (by decide)
     refine Gd.e_ (wY i2 (by omega) (d := 1000000000) (by omega)) (fun r hr => ?_)
     have hdn : (1000000000 : Int).toNat = 1000000000 := rfl
     rw [hdn] at hr
     refine Gd.nd (by simp only [F2]; omega) (Gd.e_ (nI false r.1 hr.1 (by omega)) (fun q hq => ?_))
     have hrn : 0 ≤ r.2 ∧ r.2 < 1000000000 ∧ r.2.toNat = nv w % 1000000000 := by
      have := IA (nv w) (show 1000000000 > 0 by omega)
      rw [hr.2.2.2]; omega
     refine hnx _ ⟨?_, hq.1.wf, hq.1.tp, by simp only; omega, ?_, by simp only [FP, F2]; omega, fun hz => ⟨by simp, fun y hy => ?_⟩⟩ (by simp only [FP, F2]; omega)
     ·intro y hy
      rcases FK.1 hy with hy | hy
      ·exact i1 y hy
      ·rw [Gh] at hy; subst hy; simp only; omega
     ·simp only
      rw [yO, FP, F2, KE, hq.2.2.1, hr.2.2.1]
      simp only
      rw [hrn.2.2]
      exact zu i5
     ·simp only at hz hy
      rw [List.getLast?_append, List.getLast?_singleton] at hy
      simp only [Option.some_or, FR] at hy
      subst hy
      simp only
      rw [hq.2.2.1, hr.2.2.1] at hz
      have : nv w / 1000000000 = 0 := hz
      omega
    ·have hw : w = [] := FN (by have := Fm hw; omega)
     subst hw
     obtain ⟨j1, j2⟩ := i7 rfl
     have hVV : pv P = nv a.words := by
      rw [i5]
      show pv P = pv P + 1000000000 ^ P.length * 0
      rw [Kx]; rfl
     refine (B6 (a := a) i1 hVV j1 j2 (by omega) (fun _ => hnz)).mono (fun r hr => ⟨hr.1, fun _ => ?_, hr.2.2⟩)
     rw [hr.2.1]; rfl
   ·show nv a.words = 0 + 1000000000 ^ 0 * nv a.words
    rw [KF]; omega
def cl (q : Rat) : List UInt8 := Lib.itoa q.num ++ (if q.den = 1 then [] else 47 :: Lib.decDigits q.den)
def ctext (q : Rat) : ByteArray := ba (cl q)
def fits (q : Rat) : Prop := (Lib.decDigits q.num.natAbs).length ≤ 2000 ∧ (Lib.decDigits q.den).length ≤ 2000
instance (q : Rat) : Decidable (fits q) := by unfold fits; infer_instance
theorem wM {l : List UInt8} (h : ∀ c ∈ l, uz c) : (47 : UInt8) ∉ l := fun hm => absurd (h 47 hm) (by unfold uz; decide)
theorem pa (n : Int) : Lib.itoa n = if n < 0 then 45 :: Lib.decDigits n.natAbs else Lib.decDigits n.natAbs := by
 unfold Lib.itoa
 split
 ·rfl
 ·rw [show n.toNat = n.natAbs by omega]
theorem AH (u : Nat) : (Lib.decDigits u).head? ≠ some 45 := by
 obtain ⟨h, _⟩ := iZ u
 cases hl : Lib.decDigits u with
 | nil => simp
 | cons c r =>
  rw [hl] at h
  have := h.wg c (E4 ..)
  simp only [Kf, ne_eq, FR]
  rintro rfl
  exact absurd this (by unfold uz; decide)
theorem yo (q : Rat) : (cl q).head? = some 45 ↔ q.num < 0 := by
 unfold cl
 rw [pa]
 by_cases h : q.num < 0
 ·rw [E_ h]; simp [h]
 ·rw [E6 h, tM (iZ _).1.ne]
  simp only [h, iff_false]
  exact AH _
theorem BS (q : Rat) : (if (cl q).head? = some 45 then (cl q).tail else cl q) = Lib.decDigits q.num.natAbs ++ (if q.den = 1 then [] else 47 :: Lib.decDigits q.den) := by
 by_cases h : q.num < 0
 ·rw [E_ ((yo q).2 h)]
  unfold cl
  rw [pa, E_ h]; rfl
 ·rw [E6 (fun e => h ((yo q).1 e))]
  unfold cl
  rw [pa, E6 h]
theorem xA {c : UInt8} {l : List UInt8} (h : c ∉ l) : Lib.indexByte l c = -1 := by
 rcases nQ c l with ⟨_, h2⟩ | ⟨a, b, rfl, _⟩
 ·exact h2
 ·exact absurd (by simp) h
theorem wy {c : UInt8} {b : List UInt8} : ∀ {a : List UInt8}, c ∉ a → Lib.indexByte (a ++ c :: b) c = a.length
 | [], _ => by simp [Lib.indexByte]
 | x :: a, h => by
  have hx : (x == c) = false := by simp only [F8, not_or] at h; simpa using fun e => h.1 e.symm
  have ih := wy (b := b) (a := a) (fun hm => h (Fc _ hm))
  rw [Hu]
  simp only [Lib.indexByte, hx, ih]
  rw [E6 (by simp), E6 (by simp)]
  simp only [Fw]; omega
theorem v_ {l : List UInt8} (h : (47 : UInt8) ∉ l) : kx (ba l) (⟨#[47]⟩) = some (ba l, ⟨#[]⟩, false) := by
 unfold kx eU
 rw [show (⟨#[47]⟩ : ByteArray) = ba [47] from rfl, wz, yl, xA h]
 rfl
theorem wa {a b : List UInt8} (h : (47 : UInt8) ∉ a) (hs : a.length + 1 + b.length ≤ maxLen) : kx (ba (a ++ 47 :: b)) (⟨#[47]⟩) = some (ba a, ba b, true) := by
 have hsz : (ba (a ++ 47 :: b)).size = a.length + 1 + b.length := by rw [eA]; simp; omega
 unfold maxLen at hs
 unfold kx eU
 rw [show (⟨#[47]⟩ : ByteArray) = ba [47] from rfl, wz, yl, wy h]
 simp only [HS]
 rw [E_ (by simp), hsz, show (ba [47]).size = 1 from rfl, bN ⟨by omega, by omega⟩]
 unfold dL
 rw [E_ ⟨by omega, by omega⟩, E_ ⟨by omega, by omega⟩, E1, show ((a.length : Int) + ((1 : Nat) : Int)).toNat = a.length + 1 by omega, ml, ml]
 simp only [HS, G5]
 rw [Jt, FG (by simp; omega), show a ++ 47 :: b = (a ++ [47]) ++ b by simp, List.drop_left' (by simp)]
theorem nE (l : List UInt8) (hs : l.length ≤ maxLen) : Gd (kL (ba l)) (fun c => c = 0 ↔ w8 l ∧ l.length ≤ 2000) := by
 unfold kL
 refine Gd.nd (by rw [eA]; exact hs) ?_
 rw [qR]
 refine Gd.seen (fun pre _ => ∀ y ∈ pre, 48 ≤ y.n ∧ y.n ≤ 57) ?_ ?_ () (fun y hy => by cases hy)
 ·rintro i y _ nx pre ⟨post, hl⟩ hI hnx
  have hy : y ∈ zI l := by rw [hl]; simp
  obtain ⟨c, hc, rfl⟩ := Gg.1 hy
  unfold oP
  refine Gd.ite (fun hb => Gd.ret ?_) (fun hb => hnx () (fun z hz => ?_))
  ·simp only [G0, Gi] at hb
   constructor
   ·intro h; simp at h
   ·rintro ⟨h, _⟩
    have := h.wg c hc
    unfold uz at this; omega
  ·simp only [J1, KX] at hb
   rcases FK.1 hz with hz | hz
   ·exact hI z hz
   ·rw [Gh] at hz; subst hz; simp only; omega
 ·intro _ hI
  have hd : ∀ c ∈ l, uz c := fun c hc => by
   have := hI ⟨c.toNat⟩ (Gg.2 ⟨c, hc, rfl⟩)
   unfold uz; simp only at this; omega
  refine Gd.ite (fun h => Gd.ret ?_) (fun h => ?_)
  ·have h : l = [] := qy ((Fa h).trans rfl)
   constructor
   ·intro h; simp at h
   ·rintro ⟨hn, _⟩; exact absurd h hn.ne
  ·have hne : l ≠ [] := fun e => absurd (Fm h) (by rw [e]; simp [ba])
   have last : (l.head? = some 48 → l = [48]) → Gd (if decide (2000 < ((ba l).size : Int)) = true then some (2 : Int) else some 0) (fun c => c = 0 ↔ w8 l ∧ l.length ≤ 2000) := fun hlead => by
    rw [eA]
    refine Gd.ite (fun h2 => Gd.ret ?_) (fun h2 => Gd.ret ?_)
    ·have := Fa h2
     constructor
     ·intro h; simp at h
     ·rintro ⟨_, h⟩; omega
    ·have := Fm h2
     exact ⟨fun _ => ⟨⟨hd, hne, hlead⟩, by omega⟩, fun _ => rfl⟩
   refine Gd.ite (fun h1 => ?_) (fun h1 => last (fun hh => ?_))
   ·rw [eA] at h1
    have h1 := Fa h1
    cases l with
    | nil => exact absurd rfl hne
    | cons c r =>
     refine Gd.ix (y := ⟨c.toNat⟩) (by omega) rfl (Gd.ite (fun h2 => Gd.ret ?_) (fun h2 => last (fun hh => ?_)))
     ·have h2 := Fa h2
      simp only at h2
      constructor
      ·intro h; simp at h
      ·rintro ⟨hn, _⟩
       have hc : c = 48 := UInt8.toNat_inj.1 (by show c.toNat = 48; omega)
       have := hn.lead (by rw [hc]; rfl)
       rw [this] at h1; simp at h1
     ·have h2 := Fm h2
      simp only [Kf, FR] at hh
      subst hh
      exact absurd rfl h2
   ·rw [eA] at h1
    have h1 := Fm h1
    cases l with
    | nil => exact absurd rfl hne
    | cons c r =>
     have : r = [] := FN (by simp only [Fw] at h1; omega)
     subst this
     simp only [Kf, FR] at hh
     rw [hh]
theorem wR {n : List UInt8} (hn : w8 n) (l1 : n.length ≤ 2000) : Gd (jZ (ba n)) (fun a => nZ a ∧ a.words.length ≤ 10000 ∧ eQ a = dv n) := by
 have := yP hn.wg l1 false
 simpa using this
theorem Ck {n d : List UInt8} (hn : w8 n) (hd : w8 d) (l1 : n.length ≤ 2000) (l2 : d.length ≤ 2000) :
  Gd (pM (ba n) (ba d)) (fun r => r.2.2 = 0 ∧ (nZ r.1 ∧ r.1.words.length ≤ 10000 ∧ eQ r.1 = dv n) ∧ (nZ r.2.1 ∧ r.2.1.words.length ≤ 10000 ∧ eQ r.2.1 = dv d)) := by
 unfold pM
 have chk : ∀ {l : List UInt8}, w8 l → l.length ≤ 2000 → Gd (kL (ba l)) (fun c => c = 0) := fun h hl => (nE _ (by unfold maxLen; omega)).mono (fun c hc => hc.2 ⟨h, hl⟩)
 refine Gd.jK (fun m i _ => m + i = 2) (fun m i _ nx hI hnx => ?_) (fun i _ _ => ?_) _ 0 () rfl
 ·unfold pZ
  have hi : i = 0 ∨ i = 1 := by omega
  have hy : ∃ l : List UInt8, ([ba n, ba d] : List ByteArray)[i]? = some (ba l) ∧ w8 l ∧ l.length ≤ 2000 := by
   rcases hi with rfl | rfl
   ·exact ⟨n, rfl, hn, l1⟩
   ·exact ⟨d, rfl, hd, l2⟩
  obtain ⟨l, hl, h1, h2⟩ := hy
  refine Gd.ix (by omega) (by rw [E1]; exact hl) (Gd.e_ (chk h1 h2) (fun c hc => ?_))
  subst hc
  exact hnx () (by omega)
 ·exact Gd.e_ (wR hn l1) (fun a ha => Gd.e_ (wR hd l2) (fun b hb => Gd.ret ⟨rfl, ha, hb⟩))
theorem o_ : Lib.decDigits 1 = [49] := J8 (by omega)
theorem rQ : Lib.decDigits 0 = [48] := J8 (by omega)
theorem rP {a b : Nat} (h : Lib.decDigits a = Lib.decDigits b) : a = b := by
 have h1 := (iZ a).2
 rw [h, (iZ b).2] at h1; exact h1.symm
theorem yF {n d : List UInt8} (hn : w8 n) (hd : w8 d) (l1 : n.length ≤ 2000) (l2 : d.length ≤ 2000) :
  Gd (pL (ba n) (ba d)) (fun r => r.1 = (⟨#[49]⟩ : ByteArray) ↔ Nat.gcd (dv n) (dv d) = 1) := by
 unfold pL
 refine Gd.e_ (Ck hn hd l1 l2) (fun r hr => ?_)
 obtain ⟨h0, h1, h2⟩ := hr
 rw [h0]
 refine Gd.e_ (AE h1.1 h2.1 (L := 10000) (by omega) h1.2.1 h2.2.1) (fun g hg => ?_)
 have e1 : nv r.1.words = dv n := by rw [← gI, h1.2.2]; rfl
 have e2 : nv r.2.1.words = dv d := by rw [← gI, h2.2.2]; rfl
 rw [e1, e2] at hg
 unfold pY
 have hb : Gd ((fV g).bind fun r102 => if (!r102.2) = true then some ((⟨#[]⟩ : ByteArray), (2 : Int)) else some (r102.1, 0)) (fun t => t.1 = (⟨#[49]⟩ : ByteArray) ↔ Nat.gcd (dv n) (dv d) = 1) := by
  refine Gd.e_ (tN hg.1) (fun t ht => Gd.ite (fun hf => Gd.ret ?_) (fun hf => Gd.ret ?_))
  ·have hf : t.2 = false := by simpa using hf
   rw [hf, hg.2.2.2] at ht
   constructor
   ·intro h; exact absurd h (by decide)
   ·intro h
    have := ht.1
    rw [h, o_] at this; simp at this
  ·have hf : t.2 = true := by simpa using hf
   have e3 := ht.2.1 hf
   simp only
   rw [e3, l_ hg.2.1, nh, hg.2.2.2, show (⟨#[49]⟩ : ByteArray) = ba [49] from rfl]
   constructor
   ·intro h
    exact rP ((qy h).trans o_.symm)
   ·intro h; rw [h, o_]
 exact Gd.e_ hb (fun t ht => Gd.ret ht)
theorem xQ {q : Rat} (h : fits q) : kM (ctext q) = some 0 := by
 refine Gd.eq.1 ?_
 have hD := (iZ q.num.natAbs).1
 have hE := (iZ q.den).1
 unfold kM ctext
 refine Gd.bind_eq (rI _) ?_
 rw [BS]
 have hz : q.num < 0 → Lib.decDigits q.num.natAbs ≠ [48] := fun hn e => by
  rw [← rQ] at e
  have := rP e; omega
 by_cases hd : q.den = 1
 ·rw [E_ hd, FY]
  refine Gd.bind_eq (v_ (wM hD.wg)) ?_
  refine Gd.e_ (nE _ (by have := h.1; unfold maxLen; omega)) (fun c hc => ?_)
  have hc0 := hc.2 ⟨hD, h.1⟩
  subst hc0
  refine Gd.ite (fun hx => by simp at hx) (fun _ => ?_)
  unfold iF
  refine Gd.ite (fun hx => ?_) (fun _ => Gd.ret rfl)
  exfalso
  simp only [show decide ((0 : Int) = 5) = false from rfl, Bool.or_self, Bool.false_or, G7, Gi] at hx
  have h1 : Lib.decDigits q.num.natAbs = [48] := qy (hx.1.trans rfl)
  have h2 := hx.2
  rw [eA, eA] at h2
  unfold cl at h2
  rw [E_ hd, FY, pa] at h2
  split at h2
  ·rename_i hn; exact hz hn h1
  ·omega
 ·rw [E6 hd]
  refine Gd.bind_eq (wa (wM hD.wg) (by have := h.1; have := h.2; unfold maxLen; omega)) ?_
  refine Gd.e_ (nE _ (by have := h.1; unfold maxLen; omega)) (fun c hc => ?_)
  have hc0 := hc.2 ⟨hD, h.1⟩
  subst hc0
  refine Gd.ite (fun _ => ?_) (fun hx => by simp at hx)
  refine Gd.e_ (nE _ (by have := h.2; unfold maxLen; omega)) (fun c hc => ?_)
  have hc0 := hc.2 ⟨hE, h.2⟩
  subst hc0
  unfold iF
  refine Gd.ite (fun hx => ?_) (fun _ => Gd.ite (fun hx => by simp at hx) (fun _ => Gd.ite (fun _ => ?_) (fun hx => by simp at hx)))
  ·exfalso
   simp only [show decide ((0 : Int) = 5) = false from rfl, Bool.or_self, Bool.false_or, G7, Gi] at hx
   have h1 : Lib.decDigits q.num.natAbs = [48] := qy (hx.1.trans rfl)
   have h2 := hx.2
   rw [eA, eA] at h2
   unfold cl at h2
   rw [E6 hd, pa] at h2
   split at h2
   ·rename_i hn; exact hz hn h1
   ·omega
  ·refine Gd.e_ (yF hD hE h.1 h.2) (fun r hr => ?_)
   rw [(iZ q.num.natAbs).2, (iZ q.den).2] at hr
   have hr1 := hr.2 q.reduced
   refine Gd.ite (fun hx => ?_) (fun _ => Gd.ret rfl)
   exfalso
   simp only [hr1, decide_true, Bool.not_true, Bool.or_false, G0, Gi] at hx
   rcases hx with hx | hx
   ·have := rP ((qy (hx.trans rfl) : Lib.decDigits q.den = [48]).trans rQ.symm)
    exact q.den_nz this
   ·have := rP ((qy (hx.trans rfl) : Lib.decDigits q.den = [49]).trans o_.symm)
    exact hd this
theorem CT {neg : Bool} {n : List UInt8} {m : Int} (hn : w8 n) (h0 : ¬ (n = [48] ∧ neg = true)) (hm : m = if neg = true then -(dv n : Int) else dv n) :
  Lib.itoa m = (if neg = true then 45 :: n else n) ∧ m.natAbs = dv n := by
 have hz : dv n = 0 → n = [48] := fun h => by
  have e := pU hn
  rw [h, rQ] at e; exact e.symm
 rw [pa]
 cases neg with
 | false =>
  simp only [Gp, Ha] at hm ⊢
  rw [E6 (by omega), show m.natAbs = dv n by omega]
  exact ⟨pU hn, rfl⟩
 | true =>
  simp only [I9] at hm ⊢
  have hnz : dv n ≠ 0 := fun h => h0 ⟨hz h, rfl⟩
  rw [E_ (by omega), show m.natAbs = dv n by omega]
  exact ⟨by rw [pU hn], rfl⟩
theorem zv (s : ByteArray) (hs : s.size ≤ maxLen) : Gd (kM s) (fun c => c = 0 ↔ ∃ q, fits q ∧ s = ctext q) := by
 have sound : Gd (kM s) (fun c => c = 0 → ∃ q, fits q ∧ s = ctext q) := by
  obtain ⟨l, rfl⟩ : ∃ l, s = ba l := ⟨bl s, (Ab s).symm⟩
  rw [eA] at hs
  unfold kM
  refine Gd.bind_eq (rI l) ?_
  obtain ⟨neg, hneg⟩ : ∃ neg : Bool, neg = decide (l.head? = some 45) := ⟨_, rfl⟩
  generalize ht : (if l.head? = some 45 then l.tail else l) = t
  have hl : l = if neg = true then 45 :: t else t := by
   by_cases h : l.head? = some 45
   ·rw [E_ h] at ht
    rw [hneg, decide_eq_true h, E_ rfl, ← ht]
    cases l with
    | nil => cases h
    | cons c r => simp only [Kf, FR] at h; rw [h]; rfl
   ·rw [E6 h] at ht
    rw [hneg, KW h, E6 (by simp)]; exact ht
  have htl : t.length ≤ l.length := by
   rw [hl]; split
   ·simp
   ·omega
  have hsz : neg = true → (ba t).size < (ba l).size := fun h => by
   rw [eA, eA, hl, E_ h]; simp
  by_cases hsl : (47 : UInt8) ∈ t
  ·obtain ⟨a, b, e, ha, _⟩ : ∃ a b, t = a ++ 47 :: b ∧ (47 : UInt8) ∉ a ∧ True := by
    rcases nQ 47 t with ⟨h1, _⟩ | ⟨a, b, e, h2, _⟩
    ·exact absurd hsl h1
    ·exact ⟨a, b, e, h2, EY⟩
   have hab : a.length + 1 + b.length = t.length := by rw [e]; simp; omega
   rw [e]
   refine Gd.bind_eq (wa ha (by omega)) ?_
   refine Gd.e_ (nE a (by omega)) (fun c1 hc1 => Gd.ite (fun _ => ?_) (fun hx => by simp at hx))
   refine Gd.e_ (nE b (by omega)) (fun c2 hc2 => ?_)
   unfold iF
   refine Gd.ite (fun _ => Gd.ret (fun h => by simp at h)) (fun hA => Gd.ite (fun _ => Gd.ret (fun h => by simp at h)) (fun hB => Gd.ite (fun _ => ?_) (fun hx => by simp at hx)))
   simp only [J1, Bool.not_eq_false', Gi] at hB
   obtain ⟨n1, n2⟩ := hc1.1 hB.1
   obtain ⟨d1, d2⟩ := hc2.1 hB.2
   have h0 : ¬ (a = [48] ∧ neg = true) := by
    rintro ⟨ea, en⟩
    simp only [J1, Bool.and_eq_false_iff, KX] at hA
    rcases hA.2 with h | h
    ·exact h (by rw [ea]; rfl)
    ·have := hsz en; rw [e] at this; omega
   refine Gd.e_ (yF n1 d1 n2 d2) (fun r hr => Gd.ite (fun _ => Gd.ret (fun h => by simp at h)) (fun hC => Gd.ret (fun _ => ?_)))
   simp only [J1, Bool.not_eq_false', Gi, KX] at hC
   have hg := hr.1 hC.2
   have hnz : dv b ≠ 0 := fun h => hC.1.1 (by
    have := pU d1
    rw [h, rQ] at this; rw [← this]; rfl)
   have hn1 : dv b ≠ 1 := fun h => hC.1.2 (by
    have := pU d1
    rw [h, o_] at this; rw [← this]; rfl)
   obtain ⟨e1, e2⟩ := CT (neg := neg) n1 h0 rfl
   refine ⟨Rat.mk' (if neg = true then -(dv a : Int) else dv a) (dv b) hnz (by rw [e2]; exact hg), ⟨?_, ?_⟩, ?_⟩
   ·simp only; rw [e2, pU n1]; exact n2
   ·simp only; rw [pU d1]; exact d2
   ·unfold ctext cl
    simp only
    rw [e1, E6 hn1, pU d1, hl, e]
    split <;> rfl
  ·refine Gd.bind_eq (v_ hsl) ?_
   refine Gd.e_ (nE t (by omega)) (fun c1 hc1 => Gd.ite (fun hx => by simp at hx) (fun _ => ?_))
   unfold iF
   refine Gd.ite (fun _ => Gd.ret (fun h => by simp at h)) (fun hA => Gd.ite (fun _ => Gd.ret (fun h => by simp at h)) (fun hB => Gd.ite (fun hx => by simp at hx) (fun _ => Gd.ret (fun _ => ?_))))
   simp only [J1, Bool.not_eq_false', Gi] at hB
   obtain ⟨n1, n2⟩ := hc1.1 hB.1
   have h0 : ¬ (t = [48] ∧ neg = true) := by
    rintro ⟨ea, en⟩
    simp only [J1, Bool.and_eq_false_iff, KX] at hA
    rcases hA.2 with h | h
    ·exact h (by rw [ea]; rfl)
    ·have := hsz en; omega
   obtain ⟨e1, e2⟩ := CT (neg := neg) n1 h0 rfl
   refine ⟨Rat.mk' (if neg = true then -(dv t : Int) else dv t) 1 (by decide) (by rw [e2]; exact Nat.coprime_one_right _), ⟨?_, ?_⟩, ?_⟩
   ·simp only; rw [e2, pU n1]; exact n2
   ·simp only; rw [o_]; decide
   ·unfold ctext cl
    simp only
    rw [e1, E_ EY, FY, ← hl]
 obtain ⟨c, e, h⟩ := sound
 refine ⟨c, e, h, ?_⟩
 rintro ⟨q, hq, rfl⟩
 rw [xQ hq] at e
 exact (EV e).symm
theorem yq {u k : Nat} {l : List bA} (hw : Wf l) (ht : pj l) (hk : (Lib.decDigits (nv l)).length ≤ 2000) : l.length ≤ 300 := by
 rcases Hf 300 l.length with h | h
 ·exact absurd (tQ (k := 2000) hk) (yC 667 2000 300 (by decide) (by decide) hw ht h)
 ·exact h
theorem kW.small {a : LR} (h : kW a) (hf : fits (rv a)) : RL a 300 := by
 obtain ⟨h1, h2⟩ := hf
 rw [h.num, gI] at h1
 rw [h.den] at h2
 exact ⟨yq (u := 0) (k := 0) h.n.wf h.n.tp h1, yq (u := 0) (k := 0) h.d.wf h.d.tp h2⟩
theorem Bj {a : LR} (h : kW a) : Gd (kF a) (fun r => (r.2 = true ↔ fits (rv a)) ∧ (r.2 = true → r.1 = ctext (rv a))) := by
 have e1 : (rv a).num.natAbs = nv a.N.words := by rw [h.num, gI]
 have e2 : (rv a).den = nv a.D.words := h.den
 unfold kF
 refine Gd.e_ (tN h.n) (fun t ht => Gd.ite (fun hf => Gd.ret ?_) (fun hf => ?_))
 ·have hf : t.2 = false := by simpa using hf
  refine ⟨⟨fun hh => by simp at hh, fun hh => ?_⟩, fun hh => by simp at hh⟩
  have h1 := ht.1
  rw [hf] at h1
  have := hh.1
  rw [e1] at this
  exact absurd this (Fm h1.symm)
 ·have hf : t.2 = true := by simpa using hf
  have hN := ht.1
  rw [hf] at hN
  have hN := Fa hN.symm
  have hNt := ht.2.1 hf
  refine Gd.e_ (tN h.d) (fun u hu => ?_)
  have hval : eQ a.D = ((nv a.D.words : Nat) : Int) := l_ h.pos
  have hiff : (u.2 = true ↔ fits (rv a)) := by
   unfold fits
   rw [e1, e2, hu.1, Gi]
   exact ⟨fun x => ⟨hN, x⟩, fun x => x.2⟩
  have hut : u.2 = true → u.1 = ba (Lib.decDigits (rv a).den) := fun x => by rw [hu.2.1 x, hval, nh, e2]
  have hnt : t.1 = ba (Lib.itoa (rv a).num) := by rw [hNt, h.num]; rfl
  refine Gd.ite (fun h1 => Gd.ret ⟨hiff, fun hh => ?_⟩) (fun h1 => Gd.nd ?_ (Gd.nd ?_ (Gd.ret ⟨hiff, fun hh => ?_⟩)))
  ·have h1 : u.1 = (⟨#[49]⟩ : ByteArray) := Fa h1
   have := hut hh
   rw [h1] at this
   have hd : (rv a).den = 1 := rP ((qy (show ba [49] = _ from this)).symm.trans o_.symm)
   unfold ctext cl
   rw [E_ hd, FY]; exact hnt
  ·have := ht.2.2
   show t.1.size + 1 ≤ maxLen
   unfold maxLen; omega
  ·have := ht.2.2
   have := hu.2.2
   rw [Bm]
   show t.1.size + 1 + u.1.size ≤ maxLen
   unfold maxLen; omega
  ·have h1 : u.1 ≠ (⟨#[49]⟩ : ByteArray) := Fm h1
   have h2 := hut hh
   have hd : (rv a).den ≠ 1 := fun e => h1 (by rw [h2, e, o_]; rfl)
   unfold ctext cl
   rw [E6 hd]
   simp only
   rw [hnt, h2, show (⟨#[47]⟩ : ByteArray) = ba [47] from rfl, xg, xg, FT]; rfl
theorem zw {n : Int} (h : (Lib.decDigits n.natAbs).length ≤ 2000) : Gd (jZ (ba (Lib.itoa n))) (fun a => nZ a ∧ a.words.length ≤ 10000 ∧ eQ a = n) := by
 have hD := iZ n.natAbs
 have := yP hD.1.wg h (decide (n < 0))
 rw [pa]
 simp only [Gi] at this
 refine this.mono (fun a ha => ⟨ha.1, ha.2.1, ?_⟩)
 rw [ha.2.2, hD.2]
 split <;> omega
theorem B5 {n : Int} (h : (Lib.decDigits n.natAbs).length ≤ 2000) : (Lib.itoa n).length ≤ 2001 := by
 rw [pa]
 split
 ·simp only [Fw]; omega
 ·omega
theorem BZ {q : Rat} {k : Nat} (hn : q.num.natAbs < 10 ^ k) (hd : q.den < 10 ^ k) (hk : 1 ≤ k) (hk2 : k ≤ 2000) : fits q :=
 ⟨GB (uD hk hn) hk2, GB (uD hk hd) hk2⟩
theorem xq {q : Rat} (h : fits q) : (ctext q).size ≤ 10000 := by
 unfold ctext cl
 rw [eA, FP]
 have := B5 h.1
 have := h.2
 split
 ·simp; omega
 ·simp only [Fw]; omega
theorem vY {l : List ByteArray} (hs : ∀ s ∈ l, s.size ≤ maxLen) : Gd (lD l) (fun c => c = 0 ↔ ∀ s ∈ l, ∃ q, fits q ∧ s = ctext q) := by
 unfold lD
 refine Gd.seen (fun pre _ => ∀ s ∈ pre, ∃ q, fits q ∧ s = ctext q) ?_ (fun _ hI => Gd.ret ⟨fun _ => hI, fun _ => rfl⟩) () (fun s hs => by cases hs)
 rintro i y _ nx pre ⟨post, hl⟩ hI hnx
 have hy : y ∈ l := by rw [hl]; simp
 unfold mR
 refine Gd.e_ (zv y (hs y hy)) (fun c hc => Gd.ite (fun h => Gd.ret ?_) (fun h => hnx () (fun z hz => ?_)))
 ·have h : c ≠ 0 := by simpa using h
  exact ⟨fun e => absurd e h, fun e => absurd (hc.2 (e y hy)) h⟩
 ·have h : c = 0 := by simpa using h
  rcases FK.1 hz with hz | hz
  ·exact hI z hz
  ·rw [Gh] at hz; subst hz; exact hc.1 h
def RB (q : Rat) (L : Nat) : Prop := ∃ r : LR, kW r ∧ RL r L ∧ rv r = q
theorem kW.rb {r : LR} (h : kW r) {L : Nat} (hb : RB (rv r) L) : RL r L := by
 obtain ⟨s, h1, h2, h3⟩ := hb
 rw [h.ext' h1 h3.symm]; exact h2
theorem RB.mono {q : Rat} {L M : Nat} (h : RB q L) (hM : L ≤ M) : RB q M := by
 obtain ⟨s, h1, h2, h3⟩ := h
 exact ⟨s, h1, h2.mono hM, h3⟩
theorem RB.add {p q : Rat} {A B : Nat} (h : RB p A) (k : RB q B) (hz : A + B ≤ 800000) : RB (p + q) (A + B + 1) := by
 obtain ⟨a, h1, h2, h3⟩ := h; obtain ⟨b, k1, k2, k3⟩ := k
 obtain ⟨r, _, r1, r2, r3⟩ := p8 h1 k1 h2 k2 hz
 exact ⟨r, r1, r2, by rw [r3, h3, k3]⟩
theorem RB.sub {p q : Rat} {A B : Nat} (h : RB p A) (k : RB q B) (hz : A + B ≤ 800000) : RB (p - q) (A + B + 1) := by
 obtain ⟨a, h1, h2, h3⟩ := h; obtain ⟨b, k1, k2, k3⟩ := k
 obtain ⟨r, _, r1, r2, r3⟩ := qX h1 k1 h2 k2 hz
 exact ⟨r, r1, r2, by rw [r3, h3, k3]⟩
theorem RB.mul {p q : Rat} {A B : Nat} (h : RB p A) (k : RB q B) (hz : A + B ≤ 800000) : RB (p * q) (A + B) := by
 obtain ⟨a, h1, h2, h3⟩ := h; obtain ⟨b, k1, k2, k3⟩ := k
 obtain ⟨r, _, r1, r2, r3⟩ := sf h1 k1 h2 k2 hz
 exact ⟨r, r1, r2, by rw [r3, h3, k3]⟩
theorem Dq {w : List bA} (hw : Wf w) (ht : pj w) {k : Nat} (h : nv w < WB ^ k) : w.length ≤ k := by
 rcases Hf k w.length with hl | hl
 ·exfalso
  have hne : w ≠ [] := fun e => by rw [e] at hl; simp at hl
  have h1 := wO hw ht hne
  have h2 : WB ^ k ≤ WB ^ (w.length - 1) := KA (by decide) (by omega)
  exact absurd h (Nat.not_lt.2 (GB h2 h1))
 ·exact hl
theorem zH (k m : Nat) (h : 32 * k ≤ 3 * m) : WB ^ k ≤ 10 ^ m := by
 have h3 : (2 : Nat) ^ (32 * k) ≤ 2 ^ (3 * m) := KA (by decide) h
 have h5 : ((2 : Nat) ^ 3) ^ m ≤ 10 ^ m := Kz (by decide) m
 rw [← KC] at h5
 rw [tk k]
 exact GB h3 h5
theorem Bx {k : Nat} (hk : k ≤ 187) : WB ^ k ≤ 10 ^ 2000 := zH k 2000 (by omega)
theorem RB.fits {q : Rat} {L : Nat} (h : RB q L) (hL : L ≤ 187) : fits q := by
 obtain ⟨r, h1, h2, rfl⟩ := h
 have e := Bx hL
 have key : ∀ {w : List bA}, Wf w → w.length ≤ L → nv w < 10 ^ 2000 := fun hw hl =>
  Kq (mW hw) (GB (KA (by decide) hl) e)
 refine BZ (k := 2000) ?_ ?_ (by decide) (FA _)
 ·rw [h1.num, gI]; exact key h1.n.wf h2.1
 ·rw [h1.den]; exact key h1.d.wf h2.2
theorem CZ {m : Int} {k : Nat} (h : m.natAbs < WB ^ k) (hk : k ≤ 187) : ∃ a : LI, nZ a ∧ a.words.length ≤ k ∧ eQ a = m := by
 obtain ⟨a, _, h1, h2, h3⟩ := zw (n := m) (uD (by decide) (Kq h (Bx hk)))
 exact ⟨a, h1, Dq h1.wf h1.tp (by rw [← gI, h3]; exact h), h3⟩
theorem RB.ratio {m d : Int} {k : Nat} (h : m.natAbs < WB ^ k) (hd : d.natAbs < WB ^ k) (h0 : d ≠ 0) (hk : k ≤ 187) : RB ((m : Rat) / (d : Rat)) k := by
 obtain ⟨a, a1, a2, a3⟩ := CZ h hk
 obtain ⟨b, b1, b2, b3⟩ := CZ hd hk
 obtain ⟨r, _, r1, r2, r3, r4⟩ := qI a1 b1 (by rw [← gI, b3]; omega) (by omega) (by omega)
 exact ⟨r, r1, ⟨by omega, by omega⟩, by rw [r4, a3, b3, Rat.divInt_eq_div]⟩
theorem RB.int {m : Int} {k : Nat} (h : m.natAbs < WB ^ k) (h1 : 1 ≤ k) (hk : k ≤ 187) : RB (m : Rat) k := by
 have := RB.ratio (m := m) (d := 1) h (by
  have : WB ^ 1 ≤ WB ^ k := KA (by decide) h1
  have : WB ^ 1 = 4294967296 := by decide
  show 1 < WB ^ k
  omega) (by decide) hk
 have e : (m : Rat) / ((1 : Int) : Rat) = (m : Rat) := by rw [Rat.intCast_one]; grind
 rwa [e] at this
theorem RB.small {m : Int} (h : m.natAbs < 4294967296) : RB (m : Rat) 1 := RB.int (k := 1) (by show m.natAbs < 4294967296 ^ 1; omega) (by decide) (by decide)
theorem RB.Eg {m d : Int} (h : m.natAbs < 4294967296) (hd : d.natAbs < 4294967296) (h0 : d ≠ 0) : RB ((m : Rat) / (d : Rat)) 1 :=
 RB.ratio (k := 1) (by show m.natAbs < 4294967296 ^ 1; omega) (by show d.natAbs < 4294967296 ^ 1; omega) h0 (by decide)
end Go.Sim
namespace Go.Sim
open _root_.Go.IntKind (i64 u64 u32 u8)
def sm : Nat → (Nat → Rat) → Rat
 | 0, _ => 0
 | n + 1, f => sm n f + f n
def pr : Nat → (Nat → Rat) → Rat
 | 0, _ => 1
 | n + 1, f => pr n f * f n
theorem kq {f g : Nat → Rat} : ∀ {n : Nat}, (∀ i, i < n → f i = g i) → sm n f = sm n g
 | 0, _ => rfl
 | n + 1, h => by
  unfold sm
  rw [kq (fun i hi => h i (by omega)), h n (by omega)]
theorem pO {f g : Nat → Rat} : ∀ {n : Nat}, (∀ i, i < n → f i = g i) → pr n f = pr n g
 | 0, _ => rfl
 | n + 1, h => by
  unfold pr
  rw [pO (fun i hi => h i (by omega)), h n (by omega)]
theorem pf {f : Nat → Rat} : ∀ {n : Nat}, (∀ i, i < n → f i = 0) → sm n f = 0
 | 0, _ => rfl
 | n + 1, h => by
  unfold sm
  rw [pf (fun i hi => h i (by omega)), h n (by omega)]; grind
theorem qa (f g : Nat → Rat) : ∀ n : Nat, sm n (fun i => f i + g i) = sm n f + sm n g
 | 0 => by unfold sm; grind
 | n + 1 => by unfold sm; rw [qa f g n]; grind
theorem lZ (a : Rat) (f : Nat → Rat) : ∀ n : Nat, sm n (fun i => a * f i) = a * sm n f
 | 0 => by unfold sm; grind
 | n + 1 => by unfold sm; rw [lZ a f n]; grind
theorem uh {f : Nat → Rat} {p : Nat} : ∀ {n : Nat}, p < n → (∀ i, i < n → i ≠ p → f i = 0) → sm n f = f p
 | 0, h, _ => by omega
 | n + 1, h, hz => by
  unfold sm
  by_cases e : p = n
  ·subst e
   rw [pf (fun i hi => hz i (by omega) (by omega))]; grind
  ·rw [uh (by omega) (fun i hi hne => hz i (by omega) hne), hz n (by omega) (fun h => e h.symm)]; grind
theorem Bo {f : Nat → Rat} {p : Nat} : ∀ {n : Nat}, p + 1 < n → (∀ i, i < n → i ≠ p → i ≠ p + 1 → f i = 0) → sm n f = f p + f (p + 1)
 | 0, h, _ => by omega
 | n + 1, h, hz => by
  unfold sm
  by_cases e : p + 1 = n
  ·subst e
   rw [uh (p := p) (by omega) (fun i hi hne => hz i (by omega) hne (by omega))]
  ·rw [Bo (by omega) (fun i hi h1 h2 => hz i (by omega) h1 h2), hz n (by omega) (by omega) (fun h => e h.symm)]; grind
theorem nF {f : Nat → Rat} : ∀ {n : Nat}, (∀ i, i < n → 0 ≤ f i) → 0 ≤ sm n f
 | 0, _ => KN
 | n + 1, h => by
  unfold sm
  have h1 := nF (n := n) (fun i hi => h i (by omega))
  have h2 := h n (by omega)
  grind
theorem Bn {f g : Nat → Rat} : ∀ {n : Nat}, (∀ i, i < n → f i ≤ g i) → sm n f ≤ sm n g
 | 0, _ => KN
 | n + 1, h => by
  unfold sm
  have h1 := Bn (n := n) (fun i hi => h i (by omega))
  have h2 := h n (by omega)
  grind
theorem iL {f : Nat → Rat} : ∀ {n : Nat}, (∀ i, i < n → 0 ≤ f i) → 0 ≤ pr n f
 | 0, _ => by unfold pr; decide
 | n + 1, h => by
  unfold pr
  exact KT (iL (n := n) (fun i hi => h i (by omega))) (h n (by omega))
theorem lf {a b c d : Rat} (h1 : a ≤ b) (h2 : c ≤ d) (a0 : 0 ≤ a) (c0 : 0 ≤ c) : a * c ≤ b * d := by
 have x1 : a * c ≤ b * c := KS h1 c0
 have x2 : b * c ≤ b * d := Rat.mul_le_mul_of_nonneg_left h2 (by grind)
 exact KO x1 x2
theorem yL {f g : Nat → Rat} : ∀ {n : Nat}, (∀ i, i < n → 0 ≤ f i) → (∀ i, i < n → f i ≤ g i) → pr n f ≤ pr n g
 | 0, _, _ => KN
 | n + 1, h0, h => by
  unfold pr
  exact lf (yL (fun i hi => h0 i (by omega)) (fun i hi => h i (by omega))) (h n (by omega)) (iL (fun i hi => h0 i (by omega))) (h0 n (by omega))
theorem vr (f g : Nat → Rat) : ∀ n : Nat, pr n (fun i => f i * g i) = pr n f * pr n g
 | 0 => by unfold pr; grind
 | n + 1 => by unfold pr; rw [vr f g n]; grind
abbrev Mt := Nat → Nat → Rat
def skip (p i : Nat) : Nat := if i < p then i else i + 1
def minor (M : Mt) (p : Nat) : Mt := fun r c => M (skip p r) (c + 1)
def sg (i : Nat) : Rat := if i % 2 = 0 then 1 else -1
def lz : Nat → Mt → Rat
 | 0, _ => 1
 | n + 1, M => sm (n + 1) (fun i => sg i * M i 0 * lz n (minor M i))
def row (M : Mt) (p : Nat) (x : Nat → Rat) : Mt := fun r => if r = p then x else M r
theorem qS : ∀ {n : Nat} {M M' : Mt}, (∀ r c, r < n → c < n → M r c = M' r c) → lz n M = lz n M'
 | 0, _, _, _ => rfl
 | n + 1, M, M', h => by
  unfold lz
  refine kq (fun i hi => ?_)
  rw [h i 0 hi (by omega), qS (fun r c hr hc => ?_)]
  unfold minor
  exact h _ _ (by unfold skip; split <;> omega) (by omega)
theorem oQ (M : Mt) (p : Nat) (x : Nat → Rat) : minor (row M p x) p = minor M p := by
 funext r c
 unfold minor row
 rw [E6 (by unfold skip; split <;> omega)]
theorem p6 (M : Mt) {p i : Nat} (h : p < i) (x : Nat → Rat) : minor (row M p x) i = row (minor M i) p (fun c => x (c + 1)) := by
 funext r c
 unfold minor row
 by_cases e : r = p
 ·subst e
  rw [E_ (by unfold skip; rw [E_ h]), E_ rfl]
 ·rw [E6 (by unfold skip; split <;> omega), E6 e]
theorem p5 (M : Mt) {p i : Nat} (h : i < p) (x : Nat → Rat) : minor (row M p x) i = row (minor M i) (p - 1) (fun c => x (c + 1)) := by
 funext r c
 unfold minor row
 by_cases e : r = p - 1
 ·subst e
  rw [E_ (by unfold skip; split <;> omega), E_ rfl]
 ·rw [E6 (by unfold skip; split <;> omega), E6 e]
theorem rR : ∀ {n : Nat} (M : Mt) {p : Nat} (hp : p < n) (a b : Rat) (x y : Nat → Rat), lz n (row M p (fun c => a * x c + b * y c)) = a * lz n (row M p x) + b * lz n (row M p y)
 | 0, _, _, h, _, _, _, _ => by omega
 | n + 1, M, p, hp, a, b, x, y => by
  unfold lz
  rw [← lZ, ← lZ, ← qa]
  refine kq (fun i hi => ?_)
  rcases Ix i p with h | h | h
  ·rw [p5 M h, p5 M h, p5 M h, rR (minor M i) (by omega) a b (fun c => x (c + 1)) (fun c => y (c + 1))]
   unfold row
   rw [E6 (by omega), E6 (by omega), E6 (by omega)]
   grind
  ·subst h
   rw [oQ, oQ, oQ]
   unfold row
   rw [E_ rfl, E_ rfl, E_ rfl]
   grind
  ·rw [p6 M h, p6 M h, p6 M h, rR (minor M i) (by omega) a b (fun c => x (c + 1)) (fun c => y (c + 1))]
   unfold row
   rw [E6 (by omega), E6 (by omega), E6 (by omega)]
   grind
theorem Cu (i : Nat) : sg (i + 1) = - sg i := by
 unfold sg
 by_cases h : i % 2 = 0
 ·rw [E_ h, E6 (by omega)]
 ·rw [if_neg h, if_pos (by omega)]; grind
theorem s6 : ∀ {n : Nat} {M : Mt} {p : Nat}, p + 1 < n → (∀ c, c < n → M p c = M (p + 1) c) → lz n M = 0
 | 0, _, _, h, _ => by omega
 | n + 1, M, p, hp, he => by
  unfold lz
  rw [Bo (p := p) hp (fun i hi h1 h2 => ?_)]
  ·have : lz n (minor M p) = lz n (minor M (p + 1)) := qS (fun r c hr hc => by
    unfold minor skip
    by_cases e : r = p
    ·subst e
     rw [E6 (by omega), E_ (by omega)]
     exact (he (c + 1) (by omega)).symm
    ·by_cases e2 : r < p
     ·rw [E_ e2, E_ (by omega)]
     ·rw [E6 e2, E6 (by omega)])
   rw [this, Cu, he 0 (by omega)]
   grind
  ·have : lz n (minor M i) = 0 := by
    rcases Ix i p with h | h | h
    ·refine s6 (p := p - 1) (by omega) (fun c hc => ?_)
     unfold minor skip
     rw [E6 (by omega), E6 (by omega), show p - 1 + 1 = p by omega]
     exact he (c + 1) (by omega)
    ·exact absurd h h1
    ·refine s6 (p := p) (by omega) (fun c hc => ?_)
     unfold minor skip
     rw [E_ (by omega), E_ (by omega)]
     exact he (c + 1) (by omega)
   rw [this]; grind
theorem ue (M : Mt) (p : Nat) : row M p (M p) = M := by
 funext r
 unfold row
 by_cases e : r = p
 ·subst e; rw [E_ rfl]
 ·rw [E6 e]
theorem pP (M : Mt) {p q : Nat} (h : p ≠ q) (x y : Nat → Rat) : row (row M p x) q y = row (row M q y) p x := by
 funext r
 unfold row
 by_cases e : r = q
 ·subst e; rw [E_ rfl, E6 (fun e => h e.symm), E_ rfl]
 ·rw [E6 e]
  by_cases e2 : r = p
  ·rw [E_ e2, E_ e2]
  ·rw [E6 e2, E6 e2, E6 e]
theorem tD {n : Nat} (M : Mt) {p : Nat} (hp : p < n) (x y : Nat → Rat) : lz n (row M p (fun c => x c + y c)) = lz n (row M p x) + lz n (row M p y) := by
 have := rR M hp 1 1 x y
 simp only [Rat.one_mul] at this
 exact this
theorem Aq {n : Nat} (M : Mt) {p : Nat} (hp : p + 1 < n) (x y : Nat → Rat) : lz n (row (row M p x) (p + 1) y) = - lz n (row (row M p y) (p + 1) x) := by
 have two : ∀ u : Nat → Rat, lz n (row (row M p u) (p + 1) u) = 0 := fun u => s6 hp (fun c hc => by
  unfold row
  rw [E6 (by omega), E_ rfl, E_ rfl])
 have h := two (fun c => x c + y c)
 have hne : p ≠ p + 1 := by omega
 rw [tD _ hp, pP M hne, pP M hne, tD _ (by omega), tD _ (by omega), ← pP M hne, ← pP M hne, ← pP M hne, ← pP M hne, two x, two y] at h
 grind
theorem uW : ∀ (k : Nat) {n : Nat} {M : Mt} {p q : Nat}, q = p + 1 + k → q < n → (∀ c, M p c = M q c) → lz n M = 0
 | 0, n, M, p, q, hq, hn, he => by
  subst hq
  exact s6 (by omega) (fun c _ => he c)
 | k + 1, n, M, p, q, hq, hn, he => by
  have e1 : lz n M = lz n (row (row M (q - 1) (M (q - 1))) (q - 1 + 1) (M (q - 1 + 1))) := by
   rw [ue, ue]
  rw [e1, Aq M (by omega)]
  have : lz n (row (row M (q - 1) (M (q - 1 + 1))) (q - 1 + 1) (M (q - 1))) = 0 := by
   refine uW k (p := p) (q := q - 1) (by omega) (by omega) (fun c => ?_)
   unfold row
   rw [E6 (by omega), E6 (by omega), E6 (by omega), E_ rfl, show q - 1 + 1 = q by omega]
   exact he c
  rw [this]; grind
theorem Ao {n : Nat} {M : Mt} {p q : Nat} (hp : p < n) (hq : q < n) (hne : p ≠ q) (he : ∀ c, M p c = M q c) : lz n M = 0 := by
 rcases Hf p q with h | h
 ·exact uW (q - p - 1) (p := p) (q := q) (by omega) hq he
 ·exact uW (p - q - 1) (p := q) (q := p) (by omega) hp (fun c => (he c).symm)
theorem uY {n : Nat} (M : Mt) {p : Nat} (hp : p < n) : lz n (row M p (fun _ => 0)) = 0 := by
 have := rR M hp 0 0 (fun _ => 0) (fun _ => 0)
 have e : (fun c : Nat => (0 : Rat) * (fun _ : Nat => (0 : Rat)) c + 0 * (fun _ : Nat => (0 : Rat)) c) = fun _ => 0 := by funext c; grind
 rw [e] at this
 rw [this]; grind
theorem tE {n : Nat} (M : Mt) {p : Nat} (hp : p < n) (x : Nat → Rat) (Y : Mt) : ∀ k : Nat, lz n (row M p (fun c => sm k (fun j => x j * Y j c))) = sm k (fun j => x j * lz n (row M p (Y j)))
 | 0 => uY M hp
 | k + 1 => by
  have e : (fun c => sm (k + 1) (fun j => x j * Y j c)) = fun c => 1 * sm k (fun j => x j * Y j c) + x k * Y k c := by
   funext c
   show sm k (fun j => x j * Y j c) + x k * Y k c = _
   rw [Rat.one_mul]
  rw [e, rR M hp 1 (x k) (fun c => sm k (fun j => x j * Y j c)) (Y k), tE M hp x Y k]
  show _ = sm k _ + _
  grind
theorem wb {n : Nat} (M : Mt) {p : Nat} (hp : p < n) (x : Nat → Rat) : lz n (row M p (fun c => sm n (fun j => x j * M j c))) = x p * lz n M := by
 rw [tE M hp, uh hp (fun j hj hne => ?_), ue]
 have : lz n (row M p (M j)) = 0 := Ao hp hj (fun e => hne e.symm) (fun c => by
  unfold row
  rw [E_ rfl, E6 hne])
 rw [this]; grind
theorem Aj {n : Nat} {M : Mt} {x b : Nat → Rat} (h : ∀ c, c < n → sm n (fun j => x j * M j c) = b c) {p : Nat} (hp : p < n) : lz n (row M p b) = x p * lz n M := by
 rw [← wb M hp]
 refine qS (fun r c hr hc => ?_)
 unfold row
 by_cases e : r = p
 ·rw [E_ e, E_ e]; exact (h c hc).symm
 ·rw [E6 e, E6 e]
theorem wc : ∀ {n : Nat} {M : Mt}, (∀ c, c < n → M n c = 0) → lz (n + 1) M = M n n * lz n M
 | 0, M, _ => by
  show (0 : Rat) + sg 0 * M 0 0 * 1 = M 0 0 * 1
  have : sg 0 = 1 := rfl
  rw [this]; grind
 | n + 1, M, h => by
  have e1 : lz (n + 1 + 1) M = sm (n + 1) (fun i => sg i * M i 0 * lz (n + 1) (minor M i)) + sg (n + 1) * M (n + 1) 0 * lz (n + 1) (minor M (n + 1)) := rfl
  have e2 : lz (n + 1) M = sm (n + 1) (fun i => sg i * M i 0 * lz n (minor M i)) := rfl
  rw [e1, e2, h 0 (by omega), ← lZ]
  have : sm (n + 1) (fun i => sg i * M i 0 * lz (n + 1) (minor M i)) = sm (n + 1) (fun i => M (n + 1) (n + 1) * (sg i * M i 0 * lz n (minor M i))) := by
   refine kq (fun i hi => ?_)
   have hs : skip i n = n + 1 := by unfold skip; rw [E6 (by omega)]
   have hl : lz (n + 1) (minor M i) = minor M i n n * lz n (minor M i) := wc (fun c hc => by
    unfold minor
    rw [hs]
    exact h (c + 1) (by omega))
   have hm : minor M i n n = M (n + 1) (n + 1) := by unfold minor; rw [hs]
   rw [hl, hm]; grind
  rw [this]; grind
def oc (q : Rat) : Prop := ∃ z : Int, q = (z : Rat)
theorem rU {a b : Rat} (h : oc a) (k : oc b) : oc (a + b) := by
 obtain ⟨x, rfl⟩ := h; obtain ⟨y, rfl⟩ := k
 exact ⟨x + y, (Rat.intCast_add x y).symm⟩
theorem mJ {a b : Rat} (h : oc a) (k : oc b) : oc (a * b) := by
 obtain ⟨x, rfl⟩ := h; obtain ⟨y, rfl⟩ := k
 exact ⟨x * y, (KL x y).symm⟩
theorem Dn (i : Nat) : oc (sg i) := by
 unfold sg
 split
 ·exact ⟨1, rfl⟩
 ·exact ⟨-1, rfl⟩
theorem xC {f : Nat → Rat} : ∀ {n : Nat}, (∀ i, i < n → oc (f i)) → oc (sm n f)
 | 0, _ => ⟨0, rfl⟩
 | n + 1, h => by unfold sm; exact rU (xC (fun i hi => h i (by omega))) (h n (by omega))
theorem uX : ∀ {n : Nat} {M : Mt}, (∀ r c, r < n → c < n → oc (M r c)) → oc (lz n M)
 | 0, _, _ => ⟨1, rfl⟩
 | n + 1, M, h => by
  unfold lz
  exact xC (fun i hi => mJ (mJ (Dn i) (h i 0 hi (by omega))) (uX (fun r c hr hc => h _ _ (by unfold skip; split <;> omega) (by omega))))
theorem yN (v w : Nat → Rat) (hv : ∀ i, 0 ≤ v i) (hw : ∀ i, 0 ≤ w i) : ∀ n : Nat, sm (n + 1) (fun i => v i * pr n (fun r => w (skip i r))) + pr (n + 1) w ≤ pr (n + 1) (fun r => v r + w r)
 | 0 => by
  show 0 + v 0 * 1 + 1 * w 0 ≤ 1 * (v 0 + w 0)
  grind
 | n + 1 => by
  have ih := yN v w hv hw n
  have e1 : sm (n + 1 + 1) (fun i => v i * pr (n + 1) (fun r => w (skip i r))) = sm (n + 1) (fun i => v i * pr (n + 1) (fun r => w (skip i r))) + v (n + 1) * pr (n + 1) (fun r => w (skip (n + 1) r)) := rfl
  have e2 : sm (n + 1) (fun i => v i * pr (n + 1) (fun r => w (skip i r))) = w (n + 1) * sm (n + 1) (fun i => v i * pr n (fun r => w (skip i r))) := by
   rw [← lZ]
   refine kq (fun i hi => ?_)
   have : pr (n + 1) (fun r => w (skip i r)) = pr n (fun r => w (skip i r)) * w (n + 1) := by
    show pr n _ * w (skip i n) = _
    rw [show skip i n = n + 1 by unfold skip; rw [E6 (by omega)]]
   rw [this]; grind
  have e3 : pr (n + 1) (fun r => w (skip (n + 1) r)) = pr (n + 1) w := pO (fun r hr => by unfold skip; rw [E_ hr])
  have e4 : pr (n + 1 + 1) w = pr (n + 1) w * w (n + 1) := rfl
  have e5 : pr (n + 1 + 1) (fun r => v r + w r) = pr (n + 1) (fun r => v r + w r) * (v (n + 1) + w (n + 1)) := rfl
  rw [e1, e2, e3, e4, e5]
  have s0 : 0 ≤ sm (n + 1) (fun i => v i * pr n (fun r => w (skip i r))) := nF (fun i _ => KT (hv i) (iL (fun r _ => hw _)))
  have m1 := Rat.mul_le_mul_of_nonneg_right ih (show (0 : Rat) ≤ v (n + 1) + w (n + 1) by have := hv (n + 1); have := hw (n + 1); grind)
  have m2 := KT s0 (hv (n + 1))
  grind
theorem xr : ∀ {n : Nat} {M A : Mt}, (∀ r c, 0 ≤ A r c) → (∀ r c, r < n → c < n → -A r c ≤ M r c ∧ M r c ≤ A r c) → -pr n (fun r => sm n (A r)) ≤ lz n M ∧ lz n M ≤ pr n (fun r => sm n (A r))
 | 0, _, _, _, _ => by unfold lz pr; exact ⟨by decide, by decide⟩
 | n + 1, M, A, h0, h => by
  have hsplit : ∀ r, sm (n + 1) (A r) = A r 0 + sm n (fun c => A r (c + 1)) := fun r => by
   have : ∀ k, sm (k + 1) (A r) = A r 0 + sm k (fun c => A r (c + 1)) := fun k => by
    induction k with
    | zero => show 0 + A r 0 = A r 0 + 0; grind
    | succ k ih =>
     have e1 : sm (k + 1 + 1) (A r) = sm (k + 1) (A r) + A r (k + 1) := rfl
     have e2 : sm (k + 1) (fun c => A r (c + 1)) = sm k (fun c => A r (c + 1)) + A r (k + 1) := rfl
     rw [e1, e2, ih]; grind
   exact this n
  have hw : ∀ r, 0 ≤ sm n (fun c => A r (c + 1)) := fun r => nF (fun c _ => h0 r (c + 1))
  have hp := yN (fun r => A r 0) (fun r => sm n (fun c => A r (c + 1))) (fun r => h0 r 0) hw n
  have hP : pr (n + 1) (fun r => sm (n + 1) (A r)) = pr (n + 1) (fun r => A r 0 + sm n (fun c => A r (c + 1))) := pO (fun r _ => hsplit r)
  have hw1 := iL (n := n + 1) (f := fun r => sm n (fun c => A r (c + 1))) (fun r _ => hw r)
  have term : ∀ i, i < n + 1 → -(A i 0 * pr n (fun r => sm n (fun c => A (skip i r) (c + 1)))) ≤ sg i * M i 0 * lz n (minor M i) ∧ sg i * M i 0 * lz n (minor M i) ≤ A i 0 * pr n (fun r => sm n (fun c => A (skip i r) (c + 1))) := fun i hi => by
   obtain ⟨d1, d2⟩ := xr (n := n) (M := minor M i) (A := fun r c => A (skip i r) (c + 1)) (fun r c => h0 _ _) (fun r c hr hc => h _ _ (by unfold skip; split <;> omega) (by omega))
   obtain ⟨m1, m2⟩ := h i 0 hi (by omega)
   have key : ∀ a b x y : Rat, -a ≤ x → x ≤ a → -b ≤ y → y ≤ b → -(a * b) ≤ x * y ∧ x * y ≤ a * b := fun a b x y h1 h2 h3 h4 => by
    have t1 := Rat.mul_nonneg (show (0 : Rat) ≤ a - x by grind) (show (0 : Rat) ≤ b - y by grind)
    have t2 := Rat.mul_nonneg (show (0 : Rat) ≤ a + x by grind) (show (0 : Rat) ≤ b + y by grind)
    have t3 := Rat.mul_nonneg (show (0 : Rat) ≤ a - x by grind) (show (0 : Rat) ≤ b + y by grind)
    have t4 := Rat.mul_nonneg (show (0 : Rat) ≤ a + x by grind) (show (0 : Rat) ≤ b - y by grind)
    constructor <;> grind
   obtain ⟨k1, k2⟩ := key _ _ _ _ m1 m2 d1 d2
   unfold sg
   split
   ·constructor <;> grind
   ·constructor <;> grind
  rw [hP]
  have hle : sm (n + 1) (fun i => A i 0 * pr n (fun r => sm n (fun c => A (skip i r) (c + 1)))) ≤ pr (n + 1) (fun r => A r 0 + sm n (fun c => A r (c + 1))) := by grind
  have up : lz (n + 1) M ≤ sm (n + 1) (fun i => A i 0 * pr n (fun r => sm n (fun c => A (skip i r) (c + 1)))) := Bn (fun i hi => (term i hi).2)
  have lo : sm (n + 1) (fun i => (-1) * (A i 0 * pr n (fun r => sm n (fun c => A (skip i r) (c + 1))))) ≤ lz (n + 1) M := Bn (fun i hi => by have := (term i hi).1; grind)
  rw [lZ] at lo
  constructor <;> grind
theorem Ap {k : Nat} {M : Mt} {x : Nat → Rat} (hx : x k = 1) (h0 : ∀ c, c < k → sm (k + 1) (fun j => x j * M j c) = 0) : lz (k + 1) M = sm (k + 1) (fun j => x j * M j k) * lz k M := by
 have h1 := wb M (E5 k) x
 rw [hx, Rat.one_mul] at h1
 rw [← h1]
 have h2 : lz (k + 1) (row M k (fun c => sm (k + 1) (fun j => x j * M j c))) = (row M k (fun c => sm (k + 1) (fun j => x j * M j c))) k k * lz k (row M k (fun c => sm (k + 1) (fun j => x j * M j c))) := wc (fun c hc => by
  unfold row
  rw [E_ rfl]
  exact h0 c hc)
 rw [h2]
 have h3 : lz k (row M k (fun c => sm (k + 1) (fun j => x j * M j c))) = lz k M := qS (fun r c hr hc => by
  unfold row
  rw [E6 (by omega)])
 rw [h3]
 unfold row
 rw [E_ rfl]
theorem xp {k : Nat} {M : Mt} {x b : Nat → Rat} (hM : ∀ r c, r < k → c < k → oc (M r c)) (hb : ∀ c, c < k → oc (b c)) (h : ∀ c, c < k → sm k (fun j => x j * M j c) = b c) {p : Nat} (hp : p < k) : oc (x p * lz k M) := by
 rw [← Aj h hp]
 refine uX (fun r c hr hc => ?_)
 unfold row
 by_cases e : r = p
 ·rw [E_ e]; exact hb c hc
 ·rw [E6 e]; exact hM r c hr hc
theorem vw {f : Nat → Rat} : ∀ {n : Nat}, (∀ i, i < n → 1 ≤ f i) → 1 ≤ pr n f
 | 0, _ => by unfold pr; decide
 | n + 1, h => by
  unfold pr
  have h1 := vw (n := n) (fun i hi => h i (by omega))
  have h2 := h n (by omega)
  have := lf h1 h2 (by decide) (by decide)
  grind
theorem A9 {f : Nat → Rat} {s : Rat} (hs : 0 ≤ s) {p : Nat} : ∀ {n : Nat}, p < n → (∀ i, i < n → 1 ≤ f i) → pr n (fun r => if r = p then s else f r) ≤ pr n f * s
 | 0, h, _ => by omega
 | n + 1, h, h1 => by
  have hf : ∀ i, i < n + 1 → 0 ≤ f i := fun i hi => by have := h1 i hi; grind
  have hp0 := iL (n := n) (f := f) (fun i hi => hf i (by omega))
  by_cases e : p = n
  ·subst e
   show pr p (fun r => if r = p then s else f r) * (if p = p then s else f p) ≤ pr p f * f p * s
   rw [E_ rfl]
   have e2 : pr p (fun r => if r = p then s else f r) = pr p f := pO (fun i hi => E6 (by omega))
   rw [e2]
   have hps := KT hp0 hs
   have := lf (KN (a := pr p f * s)) (h1 p (by omega)) hps (by decide)
   grind
  ·show pr n (fun r => if r = p then s else f r) * (if n = p then s else f n) ≤ pr n f * f n * s
   rw [E6 (fun e2 : n = p => e e2.symm)]
   have hpn : p < n := by omega
   have ih := A9 (f := f) hs hpn (fun i hi => h1 i (Nat.lt_succ_of_lt hi))
   have := KS ih (hf n (by omega))
   grind
theorem y_ {k : Nat} {M A : Mt} {x b a : Nat → Rat} {S : Rat} (hA0 : ∀ r c, 0 ≤ A r c) (ha0 : ∀ c, 0 ≤ a c) (hM : ∀ r c, r < k → c < k → -A r c ≤ M r c ∧ M r c ≤ A r c) (hb : ∀ c, c < k → -a c ≤ b c ∧ b c ≤ a c)
  (h1 : ∀ r, r < k → 1 ≤ sm k (A r)) (hS : sm k a ≤ S) (h : ∀ c, c < k → sm k (fun j => x j * M j c) = b c) {p : Nat} (hp : p < k) : -(pr k (fun r => sm k (A r)) * S) ≤ x p * lz k M ∧ x p * lz k M ≤ pr k (fun r => sm k (A r)) * S := by
 rw [← Aj h hp]
 obtain ⟨d1, d2⟩ := xr (n := k) (M := row M p b) (A := row A p a) (fun r c => by
  unfold row
  by_cases e : r = p
  ·rw [E_ e]; exact ha0 c
  ·rw [E6 e]; exact hA0 r c) (fun r c hr hc => by
  unfold row
  by_cases e : r = p
  ·rw [E_ e, E_ e]; exact hb c hc
  ·rw [E6 e, E6 e]; exact hM r c hr hc)
 have hs0 : 0 ≤ sm k a := nF (fun c _ => ha0 c)
 have e1 : pr k (fun r => sm k (row A p a r)) = pr k (fun r => if r = p then sm k a else sm k (A r)) := pO (fun r _ => by
  unfold row
  by_cases e : r = p
  ·rw [E_ e, E_ e]
  ·rw [E6 e, E6 e])
 rw [e1] at d1 d2
 have h2 := A9 hs0 (p := p) (n := k) (f := fun r => sm k (A r)) hp h1
 have h3 := Rat.mul_le_mul_of_nonneg_left hS (iL (n := k) (f := fun r => sm k (A r)) (fun r hr => by have := h1 r hr; grind))
 have h4 := KO h2 h3
 constructor <;> grind
def dl (i j : Nat) : Rat := if i = j then 1 else 0
theorem lF (i : Nat) : dl i i = 1 := E_ rfl
theorem kY {i j : Nat} (h : i ≠ j) : dl i j = 0 := E6 h
structure Gj (n : Nat) (A : Mt) (k : Nat) (m : Mt) : Prop where
 comb : ∀ i c, i < n → c < n → m i c = sm n (fun j => m i (n + j) * A j c)
 right : ∀ i j, i < n → j < n → k ≤ j → m i (n + j) = dl i j
 left : ∀ i c, i < n → c < n → c < k → m i c = dl i c
def oE (k : Nat) (m : Mt) : Mt := fun i c => if i = k then m k c / m k k else m i c - m i k * (m k c / m k k)
theorem Gj.step {n : Nat} {A m : Mt} {k : Nat} (h : Gj n A k m) (hk : k < n) (hd : m k k ≠ 0) : Gj n A (k + 1) (oE k m) := by
 have hk0 : ∀ c, c < k → m k c = 0 := fun c hc => by rw [h.left k c hk (by omega) hc, kY (by omega)]
 have hkr : ∀ j, j < n → k + 1 ≤ j → m k (n + j) = 0 := fun j hj hkj => by rw [h.right k j hk hj (by omega), kY (by omega)]
 have hdiv : m k k / m k k = 1 := by rw [KJ]; exact KQ _ hd
 refine ⟨fun i c hi hc => ?_, fun i j hi hj hkj => ?_, fun i c hi hc hck => ?_⟩
 ·have e1 := h.comb i c hi hc
  have e2 := h.comb k c hk hc
  unfold oE
  by_cases e : i = k
  ·subst e
   simp only [I9]
   have : (fun j => m i (n + j) / m i i * A j c) = fun j => (m i i)⁻¹ * (m i (n + j) * A j c) := by funext j; rw [Rat.div_def]; grind
   rw [this, lZ, ← e2, Rat.div_def]; grind
  ·simp only [E6 e]
   have : (fun j => (m i (n + j) - m i k * (m k (n + j) / m k k)) * A j c) = fun j => m i (n + j) * A j c + (-(m i k * (m k k)⁻¹)) * (m k (n + j) * A j c) := by funext j; rw [Rat.div_def]; grind
   rw [this, qa, lZ, ← e1, ← e2, Rat.div_def]; grind
 ·unfold oE
  have e1 := hkr j hj hkj
  by_cases e : i = k
  ·subst e
   rw [if_pos rfl, e1, kY (by omega), Rat.div_def]; grind
  ·rw [if_neg e, e1, h.right i j hi hj (by omega), Rat.div_def]; grind
 ·unfold oE
  by_cases e : i = k
  ·subst e
   rw [E_ rfl]
   by_cases e2 : c = i
   ·subst e2; rw [hdiv, lF]
   ·rw [hk0 c (by omega), kY (fun e3 => e2 e3.symm), Rat.div_def]; grind
  ·rw [E6 e]
   by_cases e2 : c = k
   ·subst e2; rw [hdiv, kY e]; grind
   ·rw [hk0 c (by omega), h.left i c hi hc (by omega), Rat.div_def]; grind
def Pd (n : Nat) (A : Mt) : Prop := ∀ x : Nat → Rat, sm n (fun c => x c * sm n (fun j => x j * A j c)) = 0 → ∀ i, i < n → x i = 0
theorem Gj.C0 {n : Nat} {A m : Mt} {k : Nat} (h : Gj n A k m) (hp : Pd n A) (hk : k < n) : m k k ≠ 0 := by
 intro h0
 have h1 := hp (fun j => m k (n + j)) (pf (fun c hc => by
  have e1 := (h.comb k c hk hc).symm
  show m k (n + c) * sm n (fun j => m k (n + j) * A j c) = 0
  rw [e1]
  rcases Ix c k with hck | hck | hck
  ·rw [h.left k c hk hc hck, kY (by omega)]; grind
  ·subst hck; rw [h0]; grind
  ·rw [h.right k c hk hc (by omega), kY (by omega)]; grind)) k hk
 have h2 := h.right k k hk hk (FA k)
 have h3 : m k (n + k) = 0 := h1
 rw [h2, lF] at h3
 exact absurd h3 (by decide)
theorem Gj.Dd {n : Nat} {A m : Mt} {k : Nat} (h : Gj n A k m) (hk : k ≤ n) {i : Nat} (hi : i < n) {c : Nat} (hc : c < n) : m i c = sm k (fun j => m i (n + j) * A j c) + (if k ≤ i then A i c else 0) := by
 have key : ∀ q, k ≤ q → q ≤ n → sm q (fun j => m i (n + j) * A j c) = sm k (fun j => m i (n + j) * A j c) + (if k ≤ i ∧ i < q then A i c else 0) := by
  intro q hq
  induction q with
  | zero =>
   intro _
   obtain rfl : k = 0 := by omega
   rw [if_neg (by omega)]; grind
  | succ q ih =>
   intro hqn
   by_cases e : k = q + 1
   ·rw [← e, if_neg (by omega)]; grind
   ·have e1 : sm (q + 1) (fun j => m i (n + j) * A j c) = sm q (fun j => m i (n + j) * A j c) + m i (n + q) * A q c := rfl
    rw [e1, ih (by omega) (by omega), h.right i q hi (by omega) (by omega)]
    by_cases e2 : i = q
    ·subst e2
     rw [lF, if_neg (by omega), if_pos ⟨by omega, by omega⟩]; grind
    ·rw [kY e2]
     by_cases e3 : k ≤ i ∧ i < q
     ·rw [if_pos e3, if_pos ⟨e3.1, by omega⟩]; grind
     ·rw [if_neg e3, if_neg (by omega)]; grind
 rw [h.comb i c hi hc, key n hk (FA n)]
 by_cases e : k ≤ i
 ·rw [E_ ⟨e, hi⟩, E_ e]
 ·rw [E6 (fun e2 => e e2.1), E6 e]
theorem Gj.lz {n : Nat} {A m : Mt} {k : Nat} (h : Gj n A k m) (hk : k < n) {L : Nat → Rat} (hL : ∀ i, i < n → L i ≠ 0) : Sim.lz (k + 1) (fun r c => L r * A r c) = L k * m k k * Sim.lz k (fun r c => L r * A r c) := by
 have hc : ∀ c, c < n → sm (k + 1) (fun j => (L k * m k (n + j) / L j) * (L j * A j c)) = L k * m k c := fun c hc => by
  have e1 := h.Dd (Nat.le_of_lt hk) hk hc
  rw [E_ (FA k)] at e1
  have e2 : sm (k + 1) (fun j => (L k * m k (n + j) / L j) * (L j * A j c)) = sm (k + 1) (fun j => L k * (m k (n + j) * A j c)) := kq (fun j hj => by
   have := KQ (L j) (hL j (by omega))
   rw [Rat.div_def]; grind)
  rw [e2, lZ]
  have e3 : sm (k + 1) (fun j => m k (n + j) * A j c) = sm k (fun j => m k (n + j) * A j c) + m k (n + k) * A k c := rfl
  rw [e3, h.right k k hk hk (Nat.le_refl k), lF, e1]; grind
 have h1 := Ap (k := k) (M := fun r c => L r * A r c) (x := fun j => L k * m k (n + j) / L j) (by
  rw [h.right k k hk hk (FA k), lF, Rat.mul_one, KJ]
  exact KQ _ (hL k hk)) (fun c hck => by
  rw [hc c (by omega), h.left k c hk (by omega) hck, kY (by omega)]; grind)
 rw [h1, hc k hk]
structure zP (n : Nat) (A : Mt) (L : Nat → Rat) (B : Mt) (R : Nat → Rat) : Prop where
 li : ∀ i, i < n → oc (L i)
 l1 : ∀ i, i < n → 1 ≤ L i
 ai : ∀ i c, i < n → c < n → oc (L i * A i c)
 b0 : ∀ i c, 0 ≤ B i c
 b1 : ∀ i, i < n → 1 ≤ B i i
 ab : ∀ i c, i < n → c < n → -B i c ≤ L i * A i c ∧ L i * A i c ≤ B i c
 rs : ∀ i, i < n → sm n (B i) ≤ R i
theorem tc {f : Nat → Rat} (h : ∀ i, 0 ≤ f i) {k : Nat} : ∀ {n : Nat}, k ≤ n → sm k f ≤ sm n f
 | 0, hk => by
  obtain rfl : k = 0 := by omega
  exact KN
 | n + 1, hk => by
  by_cases e : k = n + 1
  ·subst e; exact KN
  ·have h1 := tc h (k := k) (n := n) (by omega)
   have h2 := h n
   have h3 : sm (n + 1) f = sm n f + f n := rfl
   rw [h3]
   grind
theorem C4 {f : Nat → Rat} (h : ∀ i, 0 ≤ f i) {k p : Nat} (hp : p < k) : f p ≤ sm k f := by
 have h1 := tc h (k := p + 1) (n := k) (by omega)
 have h2 := nF (n := p) (f := f) (fun i _ => h i)
 have h3 : sm (p + 1) f = sm p f + f p := rfl
 grind
theorem zP.Dw {n : Nat} {A B : Mt} {L R : Nat → Rat} (h : zP n A L B R) {k r : Nat} (hr : r < k) (hk : k ≤ n) : 1 ≤ sm k (B r) := by
 have h1 := C4 (h.b0 r) hr
 have h2 := h.b1 r (by omega)
 grind
theorem zP.R1 {n : Nat} {A B : Mt} {L R : Nat → Rat} (h : zP n A L B R) {r : Nat} (hr : r < n) : 1 ≤ R r := by
 have h1 := h.Dw hr (FA n)
 have h2 := h.rs r hr
 grind
theorem yM {f : Nat → Rat} {k : Nat} : ∀ {n : Nat}, k ≤ n → (∀ i, i < n → 1 ≤ f i) → pr k f ≤ pr n f
 | 0, hk, _ => by
  obtain rfl : k = 0 := by omega
  exact KN
 | n + 1, hk, h => by
  by_cases e : k = n + 1
  ·subst e; exact KN
  ·have h1 := yM (k := k) (n := n) (by omega) (fun i hi => h i (by omega))
   have h2 := lf (Rat.le_refl (a := pr n f)) (h n (by omega)) (iL (fun i hi => by have := h i (by omega); grind)) (by decide)
   have h3 : pr (n + 1) f = pr n f * f n := rfl
   rw [h3]
   grind
theorem zP.prod {n : Nat} {A B : Mt} {L R : Nat → Rat} (h : zP n A L B R) {k : Nat} (hk : k ≤ n) : pr k (fun r => sm k (B r)) ≤ pr n R := by
 have h1 : pr k (fun r => sm k (B r)) ≤ pr k R := yL (fun r hr => by have := h.Dw hr hk; grind) (fun r hr => Rat.le_trans (tc (h.b0 r) hk) (h.rs r (by omega)))
 exact KO h1 (yM hk (fun i hi => h.R1 hi))
theorem zP.lz {n : Nat} {A B : Mt} {L R : Nat → Rat} (h : zP n A L B R) {k : Nat} (hk : k ≤ n) : oc (Sim.lz k (fun r c => L r * A r c)) ∧ -pr n R ≤ Sim.lz k (fun r c => L r * A r c) ∧ Sim.lz k (fun r c => L r * A r c) ≤ pr n R := by
 refine ⟨uX (fun r c hr hc => h.ai r c (by omega) (by omega)), ?_⟩
 obtain ⟨d1, d2⟩ := xr (n := k) (M := fun r c => L r * A r c) (A := B) h.b0 (fun r c hr hc => h.ab r c (by omega) (by omega))
 have := h.prod hk
 constructor <;> grind
theorem Gj.num {n : Nat} {A B m : Mt} {L R : Nat → Rat} {k : Nat} (h : Gj n A k m) (s : zP n A L B R) (hk : k ≤ n) {i p : Nat} (hi : i < n) (hp : p < k) :
  ∃ N : Rat, oc N ∧ -(pr n R * R i) ≤ N ∧ N ≤ pr n R * R i ∧ (if k ≤ i then L i else 1) * m i (n + p) * Sim.lz k (fun r c => L r * A r c) = N * L p := by
 have hL : ∀ j, j < n → L j ≠ 0 := fun j hj e => by have := s.l1 j hj; rw [e] at this; exact absurd this (by decide)
 have hx : ∀ c, c < k → sm k (fun j => ((if k ≤ i then L i else 1) * m i (n + j) / L j) * ((fun r c => L r * A r c) j c)) = if k ≤ i then -(L i * A i c) else dl i c := fun c hc => by
  have e1 := h.Dd hk hi (c := c) (by omega)
  have e2 : sm k (fun j => ((if k ≤ i then L i else 1) * m i (n + j) / L j) * ((fun r c => L r * A r c) j c)) = sm k (fun j => (if k ≤ i then L i else 1) * (m i (n + j) * A j c)) := kq (fun j hj => by
   have := KQ (L j) (hL j (by omega))
   simp only [KJ]
   grind)
  rw [e2, lZ]
  have e3 := h.left i c hi (by omega) hc
  by_cases e : k ≤ i
  ·rw [E_ e, E_ e]
   rw [E_ e, e3, kY (by omega)] at e1
   grind
  ·rw [E6 e, E6 e]
   rw [E6 e, e3] at e1
   grind
 have hb : ∀ c, c < k → oc (if k ≤ i then -(L i * A i c) else dl i c) := fun c hc => by
  by_cases e : k ≤ i
  ·rw [E_ e]
   obtain ⟨z, hz⟩ := s.ai i c hi (by omega)
   exact ⟨-z, by rw [hz, KM]⟩
  ·rw [E6 e]
   unfold dl
   split
   ·exact ⟨1, rfl⟩
   ·exact ⟨0, rfl⟩
 have hB : ∀ c, c < k → -(B i c) ≤ (if k ≤ i then -(L i * A i c) else dl i c) ∧ (if k ≤ i then -(L i * A i c) else dl i c) ≤ B i c := fun c hc => by
  have h1 := s.ab i c hi (by omega)
  have h2 := s.b0 i c
  by_cases e : k ≤ i
  ·rw [E_ e]
   constructor <;> grind
  ·rw [E6 e]
   unfold dl
   split
   ·rename_i e2
    subst e2
    have := s.b1 i hi
    constructor <;> grind
   ·constructor <;> grind
 have c1 := xp (k := k) (M := fun r c => L r * A r c) (fun r c hr hc => s.ai r c (by omega) (by omega)) hb hx hp
 obtain ⟨c2, c3⟩ := y_ (k := k) (M := fun r c => L r * A r c) (A := B) (a := B i) (S := R i) s.b0 (s.b0 i) (fun r c hr hc => s.ab r c (by omega) (by omega)) hB (fun r hr => s.Dw hr hk) (KO (tc (s.b0 i) hk) (s.rs i hi)) hx hp
 have hP := Rat.mul_le_mul_of_nonneg_right (s.prod hk) (show (0 : Rat) ≤ R i by have := s.R1 hi; grind)
 refine ⟨_, c1, by grind, by grind, ?_⟩
 have := KQ (L p) (hL p (by omega))
 rw [KJ]
 grind
def qf (n : Nat) (x : Nat → Rat) (A : Mt) : Rat := sm n (fun c => x c * sm n (fun j => x j * A j c))
theorem Bc (n : Nat) (x : Nat → Rat) (A A' : Mt) : qf n x (fun j c => A j c + A' j c) = qf n x A + qf n x A' := by
 unfold qf
 rw [← qa]
 refine kq (fun c _ => ?_)
 have : sm n (fun j => x j * (A j c + A' j c)) = sm n (fun j => x j * A j c) + sm n (fun j => x j * A' j c) := by
  rw [← qa]
  exact kq (fun j _ => by grind)
 rw [this]; grind
theorem Be (n : Nat) (x e : Nat → Rat) (b : Rat) : qf n x (fun j c => b * e j * e c) = b * (sm n (fun j => x j * e j) * sm n (fun j => x j * e j)) := by
 unfold qf
 have h1 : sm n (fun c => x c * sm n (fun j => x j * (b * e j * e c))) = sm n (fun c => (b * sm n (fun j => x j * e j)) * (x c * e c)) := kq (fun c _ => by
  have : sm n (fun j => x j * (b * e j * e c)) = sm n (fun j => (b * e c) * (x j * e j)) := kq (fun j _ => by grind)
  rw [this, lZ]; grind)
 rw [h1, lZ]; grind
def dV : List (Rat × (Nat → Rat)) → Mt
 | [] => fun _ _ => 0
 | be :: l => fun j c => be.1 * be.2 j * be.2 c + dV l j c
theorem sq_nonneg (a : Rat) : 0 ≤ a * a := by
 rcases (Rat.le_total : (0 : Rat) ≤ a ∨ a ≤ 0) with h | h
 ·exact KT h h
 ·have := Rat.mul_nonneg (show (0 : Rat) ≤ -a by grind) (show (0 : Rat) ≤ -a by grind)
  grind
theorem tO (n : Nat) (x : Nat → Rat) : ∀ (l : List (Rat × (Nat → Rat))), (∀ be ∈ l, 0 < be.1) → 0 ≤ qf n x (dV l)
 | [], _ => by
  have : qf n x (dV []) = 0 := pf (fun c _ => by
   rw [pf (fun j _ => by show x j * 0 = 0; grind)]; grind)
  rw [this]; exact KN
 | be :: l, h => by
  have h1 := tO n x l (fun b hb => h b (Fc _ hb))
  have h2 := h be (E4 ..)
  have e : qf n x (dV (be :: l)) = be.1 * (sm n (fun j => x j * be.2 j) * sm n (fun j => x j * be.2 j)) + qf n x (dV l) := by
   rw [← Be, ← Bc]; rfl
  rw [e]
  have h3 := KT (Rat.le_of_lt h2) (sq_nonneg (sm n (fun j => x j * be.2 j)))
  grind
theorem wA (n : Nat) (x : Nat → Rat) : ∀ (l : List (Rat × (Nat → Rat))), (∀ be ∈ l, 0 < be.1) → qf n x (dV l) = 0 → ∀ be ∈ l, sm n (fun j => x j * be.2 j) = 0
 | [], _, _, be, hb => by simp at hb
 | be :: l, h, h0, b, hb => by
  have h1 := tO n x l (fun b hb => h b (Fc _ hb))
  have h2 := h be (E4 ..)
  have e : qf n x (dV (be :: l)) = be.1 * (sm n (fun j => x j * be.2 j) * sm n (fun j => x j * be.2 j)) + qf n x (dV l) := by
   rw [← Be, ← Bc]; rfl
  rw [e] at h0
  have h3 := KT (Rat.le_of_lt h2) (sq_nonneg (sm n (fun j => x j * be.2 j)))
  have h4 : qf n x (dV l) = 0 := by grind
  have h5 : be.1 * (sm n (fun j => x j * be.2 j) * sm n (fun j => x j * be.2 j)) = 0 := by grind
  rcases F8.1 hb with rfl | hb
  ·rcases KP.1 h5 with h6 | h6
   ·rw [h6] at h2; exact absurd h2 (Rat.lt_irrefl)
   ·rcases KP.1 h6 with h7 | h7 <;> exact h7
  ·exact wA n x l (fun b hb => h b (Fc _ hb)) h4 b hb
end Go.Sim
