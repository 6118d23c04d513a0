/-
  The proof, part F2.
-/
import Derived.Test.YtolgkppopmgmjaaGreatDoorSqF1
set_option linter.unusedVariables false
set_option linter.unusedSimpArgs false
set_option linter.unusedSectionVars false
set_option linter.unnecessarySimpa false
namespace Go.Sim
abbrev J_ := @List.Sublist.refl
abbrev Kc := @List.eq_of_mem_replicate
abbrev Kd := @List.getElem_set
abbrev Kl := @List.set_append_right
abbrev KK := @Rat.intCast_le_intCast
abbrev KR := @Rat.mul_le_mul_of_nonneg_left
end Go.Sim
namespace Go.Sim
open _root_.Go.IntKind (i64 u64 u32 u8)
inductive Lk (l : List (Rat × Nat × Nat)) (u : Nat) : Nat → Prop
 | refl : Lk l u u
 | step {b : Rat} {v w : Nat} : Lk l u v → ((b, v, w) ∈ l ∨ (b, w, v) ∈ l) → Lk l u w
def iX (F : Nat → Nat) (e : Rat × Nat × Nat) : Rat × (Nat → Rat) := (e.1, fun j => dl (F j) e.2.1 - dl (F j) e.2.2)
theorem DQ {n : Nat} {F : Nat → Nat} {l : List (Rat × Nat × Nat)} (hb : ∀ e ∈ l, 0 < e.1) (hF : ∀ i j, i < n → j < n → F i = F j → i = j)
  (hr : ∀ i, i < n → ∃ r, (∀ j, j < n → F j ≠ r) ∧ Lk l (F i) r) : Pd n (dV (l.map (iX F))) := by
 intro x h0 i hi
 have hz := wA n x (l.map (iX F)) (fun be hbe => by
  obtain ⟨e, he, rfl⟩ := Gg.1 hbe
  exact hb e he) h0
 have hd : ∀ p q : Nat, sm n (fun j => x j * (dl (F j) p - dl (F j) q)) = sm n (fun j => x j * dl (F j) p) - sm n (fun j => x j * dl (F j) q) := fun p q => by
  have h1 : sm n (fun j => x j * (dl (F j) p - dl (F j) q)) = sm n (fun j => x j * dl (F j) p + (-1) * (x j * dl (F j) q)) := kq (fun j _ => by grind)
  rw [h1, qa, lZ]; grind
 have he : ∀ (b : Rat) (p q : Nat), (b, p, q) ∈ l → sm n (fun j => x j * dl (F j) p) = sm n (fun j => x j * dl (F j) q) := fun b p q h => by
  have h1 : sm n (fun j => x j * (dl (F j) p - dl (F j) q)) = 0 := hz (iX F (b, p, q)) (Gg.2 ⟨_, h, rfl⟩)
  have h2 := hd p q
  grind
 have hl : ∀ u v, Lk l u v → sm n (fun j => x j * dl (F j) u) = sm n (fun j => x j * dl (F j) v) := fun u v h => by
  induction h with
  | refl => rfl
  | step _ h ih =>
   rcases h with h | h
   ·rw [ih]; exact he _ _ _ h
   ·rw [ih]; exact (he _ _ _ h).symm
 obtain ⟨r, hr1, hr2⟩ := hr i hi
 have h1 := hl _ _ hr2
 have h2 : sm n (fun j => x j * dl (F j) r) = 0 := pf (fun j hj => by rw [kY (hr1 j hj)]; grind)
 have h3 : sm n (fun j => x j * dl (F j) (F i)) = x i * dl (F i) (F i) := uh hi (fun j hj hne => by rw [kY (fun e => hne (hF j i hj hi e))]; grind)
 rw [h2, h3, lF] at h1
 grind
def n8 (u : Nat) : List (Rat × Nat × Nat) → Rat
 | [] => 1
 | e :: l => (if e.2.1 = u ∨ e.2.2 = u then e.1 else 1) * n8 u l
def pE : List (Rat × Nat × Nat) → Rat
 | [] => 1
 | e :: l => e.1 * pE l
theorem s8 {u : Nat} : ∀ {l : List (Rat × Nat × Nat)}, (∀ e ∈ l, oc e.1) → oc (n8 u l)
 | [], _ => ⟨1, rfl⟩
 | e :: l, h => by
  unfold n8
  refine mJ ?_ (s8 (fun e he => h e (Fc _ he)))
  split
  ·exact h e (E4 ..)
  ·exact ⟨1, rfl⟩
theorem si {u : Nat} : ∀ {l : List (Rat × Nat × Nat)}, (∀ e ∈ l, 1 ≤ e.1) → 1 ≤ n8 u l
 | [], _ => KN
 | e :: l, h => by
  unfold n8
  have h1 := si (u := u) (l := l) (fun e he => h e (Fc _ he))
  have h2 := h e (E4 ..)
  split
  ·have := lf h2 h1 (by decide) (by decide)
   grind
  ·grind
theorem tz : ∀ {l : List (Rat × Nat × Nat)}, (∀ e ∈ l, 1 ≤ e.1) → 1 ≤ pE l
 | [], _ => KN
 | e :: l, h => by
  unfold pE
  have h1 := tz (l := l) (fun e he => h e (Fc _ he))
  have h2 := h e (E4 ..)
  have := lf h2 h1 (by decide) (by decide)
  grind
theorem vz {u : Nat} : ∀ {l : List (Rat × Nat × Nat)}, (∀ e ∈ l, oc e.1 ∧ 1 ≤ e.1) → ∀ e ∈ l, (e.2.1 = u ∨ e.2.2 = u) → ∀ t : Rat, oc t → oc (n8 u l * (t / e.1))
 | [], _, e, he, _, _, _ => by simp at he
 | d :: l, h, e, he, hu, t, ht => by
  have hl : ∀ e ∈ l, oc e.1 ∧ 1 ≤ e.1 := fun e he => h e (Fc _ he)
  unfold n8
  rcases F8.1 he with rfl | he
  ·rw [E_ hu]
   have hne : e.1 ≠ 0 := fun e0 => by have := (h e (E4 ..)).2; rw [e0] at this; exact absurd this (by decide)
   have := KQ e.1 hne
   have h1 : e.1 * n8 u l * (t / e.1) = n8 u l * t := by rw [Rat.div_def]; grind
   rw [h1]
   exact mJ (s8 (fun e he => (hl e he).1)) ht
  ·have h1 := vz hl e he hu t ht
   have h2 : (if d.2.1 = u ∨ d.2.2 = u then d.1 else 1) * n8 u l * (t / e.1) = (if d.2.1 = u ∨ d.2.2 = u then d.1 else 1) * (n8 u l * (t / e.1)) := Rat.mul_assoc ..
   rw [h2]
   refine mJ ?_ h1
   split
   ·exact (h d (E4 ..)).1
   ·exact ⟨1, rfl⟩
theorem sC {F : Nat → Nat} {q : Rat} (hq : 1 ≤ q) {p : Nat} : ∀ {n : Nat}, (∀ i j, i < n → j < n → F i = F j → i = j) → pr n (fun i => if F i = p then q else 1) ≤ q
 | 0, _ => hq
 | n + 1, h => by
  have ih := sC hq (p := p) (n := n) (fun i j hi hj e => h i j (by omega) (by omega) e)
  show pr n (fun i => if F i = p then q else 1) * (if F n = p then q else 1) ≤ q
  by_cases e : F n = p
  ·rw [E_ e]
   have : pr n (fun i => if F i = p then q else 1) = pr n (fun _ => 1) := pO (fun i hi => E6 (fun e2 => by
    have := h i n (by omega) (by omega) (e2.trans e.symm)
    omega))
   rw [this]
   have h1 : ∀ k, pr k (fun _ => (1 : Rat)) = 1 := fun k => by
    induction k with
    | zero => rfl
    | succ k ih => show pr k (fun _ => (1 : Rat)) * 1 = 1; rw [ih]; grind
   rw [h1]; grind
  ·rw [if_neg e]; grind
theorem wW {n : Nat} {F : Nat → Nat} (hF : ∀ i j, i < n → j < n → F i = F j → i = j) : ∀ {l : List (Rat × Nat × Nat)}, (∀ e ∈ l, 1 ≤ e.1) → pr n (fun i => n8 (F i) l) ≤ pE l * pE l
 | [], _ => by
  have h1 : ∀ k, pr k (fun _ => (1 : Rat)) = 1 := fun k => by
   induction k with
   | zero => rfl
   | succ k ih => show pr k (fun _ => (1 : Rat)) * 1 = 1; rw [ih]; grind
  show pr n (fun _ => (1 : Rat)) ≤ 1 * 1
  rw [h1, Rat.one_mul]; exact KN
 | e :: l, h => by
  have hl : ∀ e ∈ l, 1 ≤ e.1 := fun e he => h e (Fc _ he)
  have hq := h e (E4 ..)
  have ih := wW hF hl
  have e1 : pr n (fun i => n8 (F i) (e :: l)) = pr n (fun i => if e.2.1 = F i ∨ e.2.2 = F i then e.1 else 1) * pr n (fun i => n8 (F i) l) := by rw [← vr]; rfl
  have e2 : pr n (fun i => if e.2.1 = F i ∨ e.2.2 = F i then e.1 else 1) ≤ pr n (fun i => (if F i = e.2.1 then e.1 else 1) * (if F i = e.2.2 then e.1 else 1)) := yL (fun i _ => by split <;> grind) (fun i _ => by
   have := lf hq hq (by decide) (by decide)
   by_cases a : F i = e.2.1
   ·by_cases b : F i = e.2.2
    ·rw [E_ (.inl a.symm), E_ a, E_ b]
     have := Rat.mul_le_mul_of_nonneg_left hq (show (0 : Rat) ≤ e.1 by grind)
     grind
    ·rw [if_pos (.inl a.symm), if_pos a, if_neg b]; grind
   ·by_cases b : F i = e.2.2
    ·rw [if_pos (.inr b.symm), if_neg a, if_pos b]; grind
    ·rw [if_neg (fun h => h.elim (fun h => a h.symm) (fun h => b h.symm)), if_neg a, if_neg b]; grind)
  rw [vr] at e2
  have s1 := sC (F := F) hq (p := e.2.1) hF
  have s2 := sC (F := F) hq (p := e.2.2) hF
  have n1 : 0 ≤ pr n (fun i => if F i = e.2.1 then e.1 else 1) := iL (fun i _ => by split <;> grind)
  have n2 : 0 ≤ pr n (fun i => if F i = e.2.2 then e.1 else 1) := iL (fun i _ => by split <;> grind)
  have m1 := lf s1 s2 n1 n2
  have n3 : 0 ≤ pr n (fun i => if e.2.1 = F i ∨ e.2.2 = F i then e.1 else 1) := iL (fun i _ => by split <;> grind)
  have n4 : 0 ≤ pr n (fun i => n8 (F i) l) := iL (fun i _ => by have := si (u := F i) hl; grind)
  have m2 := lf (KO e2 m1) ih n3 n4
  rw [e1]
  have e3 : pE (e :: l) = e.1 * pE l := rfl
  rw [e3]
  grind
def wt (t : Rat) (e : Rat × Nat × Nat) : Rat × Nat × Nat := (t / e.1, e.2)
def kA (F : Nat → Nat) (e : Rat × Nat × Nat) : Rat × (Nat → Rat) := (e.1, fun j => dl (F j) e.2.1 + dl (F j) e.2.2)
theorem qb (i j : Nat) : dl i j = 0 ∨ dl i j = 1 := by
 unfold dl
 split
 ·exact .inr rfl
 ·exact .inl rfl
theorem yy (F : Nat → Nat) (i c : Nat) : ∀ {l : List (Rat × Nat × Nat)}, (∀ e ∈ l, 0 < e.1) → -dV (l.map (kA F)) i c ≤ dV (l.map (iX F)) i c ∧ dV (l.map (iX F)) i c ≤ dV (l.map (kA F)) i c
 | [], _ => by
  show -(0 : Rat) ≤ 0 ∧ (0 : Rat) ≤ 0
  constructor <;> decide
 | e :: l, h => by
  obtain ⟨h1, h2⟩ := yy F i c (l := l) (fun e he => h e (Fc _ he))
  have h3 := h e (E4 ..)
  have e1 : dV ((e :: l).map (iX F)) i c = e.1 * (dl (F i) e.2.1 - dl (F i) e.2.2) * (dl (F c) e.2.1 - dl (F c) e.2.2) + dV (l.map (iX F)) i c := rfl
  have e2 : dV ((e :: l).map (kA F)) i c = e.1 * (dl (F i) e.2.1 + dl (F i) e.2.2) * (dl (F c) e.2.1 + dl (F c) e.2.2) + dV (l.map (kA F)) i c := rfl
  rw [e1, e2]
  rcases qb (F i) e.2.1 with a | a <;> rcases qb (F i) e.2.2 with b | b <;> rcases qb (F c) e.2.1 with u | u <;> rcases qb (F c) e.2.2 with v | v <;> rw [a, b, u, v] <;> constructor <;> grind
theorem qw (F : Nat → Nat) (i c : Nat) : ∀ {l : List (Rat × Nat × Nat)}, (∀ e ∈ l, 0 < e.1) → 0 ≤ dV (l.map (kA F)) i c
 | [], _ => KN
 | e :: l, h => by
  have h1 := qw F i c (l := l) (fun e he => h e (Fc _ he))
  have h3 := h e (E4 ..)
  have e2 : dV ((e :: l).map (kA F)) i c = e.1 * (dl (F i) e.2.1 + dl (F i) e.2.2) * (dl (F c) e.2.1 + dl (F c) e.2.2) + dV (l.map (kA F)) i c := rfl
  rw [e2]
  rcases qb (F i) e.2.1 with a | a <;> rcases qb (F i) e.2.2 with b | b <;> rcases qb (F c) e.2.1 with u | u <;> rcases qb (F c) e.2.2 with v | v <;> rw [a, b, u, v] <;> grind
theorem yz {F : Nat → Nat} {t : Rat} (ht : oc t) {l : List (Rat × Nat × Nat)} (hq : ∀ e ∈ l, oc e.1 ∧ 1 ≤ e.1) (i c : Nat) : ∀ {l' : List (Rat × Nat × Nat)}, (∀ e ∈ l', e ∈ l) → oc (n8 (F i) l * dV ((l'.map (wt t)).map (iX F)) i c)
 | [], _ => by
  have : n8 (F i) l * dV ((([] : List (Rat × Nat × Nat)).map (wt t)).map (iX F)) i c = 0 := by show n8 (F i) l * 0 = 0; grind
  rw [this]; exact ⟨0, rfl⟩
 | e :: l', h => by
  have h1 := yz (F := F) ht hq i c (l' := l') (fun e he => h e (Fc _ he))
  have h2 := h e (E4 ..)
  have e1 : dV (((e :: l').map (wt t)).map (iX F)) i c = (t / e.1) * (dl (F i) e.2.1 - dl (F i) e.2.2) * (dl (F c) e.2.1 - dl (F c) e.2.2) + dV ((l'.map (wt t)).map (iX F)) i c := rfl
  have hI : ∀ p q : Nat, oc (dl p q) := fun p q => by
   rcases qb p q with a | a <;> rw [a]
   ·exact ⟨0, rfl⟩
   ·exact ⟨1, rfl⟩
  have hS : ∀ {a b : Rat}, oc a → oc b → oc (a - b) := fun {a b} ⟨x, hx⟩ ⟨y, hy⟩ => ⟨x - y, by rw [hx, hy, Rat.intCast_sub]⟩
  have e2 : n8 (F i) l * ((t / e.1) * (dl (F i) e.2.1 - dl (F i) e.2.2) * (dl (F c) e.2.1 - dl (F c) e.2.2) + dV ((l'.map (wt t)).map (iX F)) i c) = (n8 (F i) l * (t / e.1)) * (dl (F i) e.2.1 - dl (F i) e.2.2) * (dl (F c) e.2.1 - dl (F c) e.2.2) + n8 (F i) l * dV ((l'.map (wt t)).map (iX F)) i c := by grind
  rw [e1, e2]
  refine rU ?_ h1
  by_cases hu : e.2.1 = F i ∨ e.2.2 = F i
  ·exact mJ (mJ (vz hq e h2 hu t ht) (hS (hI _ _) (hI _ _))) (hS (hI _ _) (hI _ _))
  ·have a : dl (F i) e.2.1 = 0 := kY (fun e0 => hu (.inl e0.symm))
   have b : dl (F i) e.2.2 = 0 := kY (fun e0 => hu (.inr e0.symm))
   rw [a, b]
   have : n8 (F i) l * (t / e.1) * (0 - 0) * (dl (F c) e.2.1 - dl (F c) e.2.2) = 0 := by grind
   rw [this]; exact ⟨0, rfl⟩
def um : List (Rat × Nat × Nat) → Rat
 | [] => 0
 | e :: l => e.1 + um l
theorem ou (i j : Nat) : 0 ≤ dl i j := by rcases qb i j with h | h <;> rw [h] <;> decide
theorem Au (i j : Nat) : dl i j ≤ 1 := by rcases qb i j with h | h <;> rw [h] <;> decide
theorem yR {F : Nat → Nat} {p : Nat} : ∀ {n : Nat}, (∀ i j, i < n → j < n → F i = F j → i = j) → sm n (fun c => dl (F c) p) ≤ 1
 | 0, _ => by unfold sm; decide
 | n + 1, h => by
  have ih := yR (F := F) (p := p) (n := n) (fun i j hi hj e => h i j (by omega) (by omega) e)
  show sm n (fun c => dl (F c) p) + dl (F n) p ≤ 1
  by_cases e : F n = p
  ·have : sm n (fun c => dl (F c) p) = 0 := pf (fun i hi => kY (fun e2 => by
    have := h i n (by omega) (by omega) (e2.trans e.symm)
    omega))
   rw [this]
   have := Au (F n) p
   grind
  ·rw [kY e]; grind
theorem yf {n : Nat} {F : Nat → Nat} (hF : ∀ i j, i < n → j < n → F i = F j → i = j) (i : Nat) : ∀ {l : List (Rat × Nat × Nat)}, (∀ e ∈ l, 0 < e.1) → sm n (dV (l.map (kA F)) i) ≤ 4 * um l
 | [], _ => by
  have : sm n (dV (([] : List (Rat × Nat × Nat)).map (kA F)) i) = 0 := pf (fun _ _ => rfl)
  rw [this]
  show (0 : Rat) ≤ 4 * 0
  grind
 | e :: l, h => by
  have ih := yf hF i (l := l) (fun e he => h e (Fc _ he))
  have h3 := h e (E4 ..)
  have e1 : sm n (dV ((e :: l).map (kA F)) i) = (e.1 * (dl (F i) e.2.1 + dl (F i) e.2.2)) * (sm n (fun c => dl (F c) e.2.1) + sm n (fun c => dl (F c) e.2.2)) + sm n (dV (l.map (kA F)) i) := by
   rw [← qa, ← lZ, ← qa]; rfl
  have e2 : um (e :: l) = e.1 + um l := rfl
  rw [e1, e2]
  have s1 := yR (F := F) (p := e.2.1) hF
  have s2 := yR (F := F) (p := e.2.2) hF
  have n1 := nF (n := n) (f := fun c => dl (F c) e.2.1) (fun c _ => ou _ _)
  have n2 := nF (n := n) (f := fun c => dl (F c) e.2.2) (fun c _ => ou _ _)
  have d1 := Au (F i) e.2.1
  have d2 := Au (F i) e.2.2
  have d3 := ou (F i) e.2.1
  have d4 := ou (F i) e.2.2
  have m0 : e.1 * (dl (F i) e.2.1 + dl (F i) e.2.2) ≤ e.1 * 2 := Rat.mul_le_mul_of_nonneg_left (by grind) (Rat.le_of_lt h3)
  have m1 : 0 ≤ e.1 * (dl (F i) e.2.1 + dl (F i) e.2.2) := Rat.mul_nonneg (Rat.le_of_lt h3) (by grind)
  have m2 := lf m0 (show sm n (fun c => dl (F c) e.2.1) + sm n (fun c => dl (F c) e.2.2) ≤ 2 by grind) m1 (by grind)
  grind
theorem Cj {n : Nat} {F : Nat → Nat} {l : List (Rat × Nat × Nat)} {t : Rat} (hF : ∀ i j, i < n → j < n → F i = F j → i = j) (ht : oc t) (t0 : 0 < t) (hq : ∀ e ∈ l, oc e.1 ∧ 1 ≤ e.1) :
  zP n (dV ((l.map (wt t)).map (iX F))) (fun i => n8 (F i) l) (fun i c => n8 (F i) l * dV ((l.map (wt t)).map (kA F)) i c + dl i c) (fun i => n8 (F i) l * (4 * um (l.map (wt t))) + 1) := by
 have hw : ∀ e ∈ l.map (wt t), 0 < e.1 := fun e he => by
  obtain ⟨d, hd, rfl⟩ := Gg.1 he
  have h1 := (hq d hd).2
  show 0 < t / d.1
  rw [KJ]
  exact Rat.mul_pos t0 (Rat.inv_pos.2 (by grind))
 have hs1 : ∀ i, 1 ≤ n8 (F i) l := fun i => si (fun e he => (hq e he).2)
 have ha0 : ∀ i c, 0 ≤ n8 (F i) l * dV ((l.map (wt t)).map (kA F)) i c := fun i c => Rat.mul_nonneg (by have := hs1 i; grind) (qw F i c hw)
 refine ⟨fun i _ => s8 (fun e he => (hq e he).1), fun i _ => hs1 i, fun i c _ _ => yz ht hq i c (fun e he => he), fun i c => ?_, fun i _ => ?_, fun i c _ _ => ?_, fun i hi => ?_⟩
 ·have := ha0 i c
  have := ou i c
  grind
 ·have := ha0 i i
  rw [lF]; grind
 ·obtain ⟨h1, h2⟩ := yy F i c hw
  have h3 : 0 ≤ n8 (F i) l := by have := hs1 i; grind
  have m1 := KR h1 h3
  have m2 := KR h2 h3
  have := ou i c
  constructor <;> grind
 ·rw [qa, lZ]
  have h1 := yf hF i hw
  have h3 : 0 ≤ n8 (F i) l := by have := hs1 i; grind
  have m1 := KR h1 h3
  have h2 : sm n (fun c => dl i c) ≤ 1 := by
   have e : sm n (fun c => dl i c) = sm n (fun c => dl ((fun x : Nat => x) c) i) := kq (fun c _ => by
    unfold dl
    by_cases a : i = c
    ·subst a; rfl
    ·rw [E6 a, E6 (fun b => a b.symm)])
   rw [e]
   exact yR (fun i j _ _ e => e)
  have e2 : sm n (fun c => dV ((l.map (wt t)).map (kA F)) i c) = sm n (dV ((l.map (wt t)).map (kA F)) i) := rfl
  rw [e2]
  grind
theorem yh {q : Rat} : ∀ {l : List (Rat × Nat × Nat)}, (∀ e ∈ l, 1 ≤ e.1 ∧ e.1 ≤ q) → pE l ≤ pr l.length (fun _ => q)
 | [], _ => KN
 | e :: l, h => by
  have h1 := yh (q := q) (l := l) (fun e he => h e (Fc _ he))
  have h2 := h e (E4 ..)
  have h3 := tz (l := l) (fun e he => (h e (Fc _ he)).1)
  have h4 := lf h1 h2.2 (by grind) (by grind)
  have e1 : pE (e :: l) = e.1 * pE l := rfl
  have e2 : pr (e :: l).length (fun _ => q) = pr l.length (fun _ => q) * q := rfl
  rw [e1, e2]; grind
theorem DO {n : Nat} {F : Nat → Nat} {l : List (Rat × Nat × Nat)} {s w : Rat} (hF : ∀ i j, i < n → j < n → F i = F j → i = j) (hq : ∀ e ∈ l, 1 ≤ e.1) (s0 : 0 ≤ s) (hs : s ≤ w) :
  pr n (fun i => n8 (F i) l * s + 1) ≤ pE l * pE l * pr n (fun _ => w + 1) := by
 have h1 : ∀ i, 1 ≤ n8 (F i) l := fun i => si hq
 have p1 : pr n (fun i => n8 (F i) l * s + 1) ≤ pr n (fun i => n8 (F i) l * (w + 1)) := yL (fun i _ => by
  have := Rat.mul_nonneg (show (0 : Rat) ≤ n8 (F i) l by have := h1 i; grind) s0
  grind) (fun i _ => by
  have := Rat.mul_le_mul_of_nonneg_left hs (show (0 : Rat) ≤ n8 (F i) l by have := h1 i; grind)
  have := h1 i
  grind)
 rw [vr] at p1
 have p2 := wW hF hq
 have n1 : 0 ≤ pr n (fun i => n8 (F i) l) := iL (fun i _ => by have := h1 i; grind)
 have n2 : 0 ≤ pr n (fun _ : Nat => w + 1) := iL (fun i _ => by grind)
 exact KO p1 (lf p2 KN n1 n2)
def rp (n : Nat) : List Nat := (List.range n).map (· + 1)
theorem p_ (n : Nat) : (rp n).length = n := by simp [rp]
theorem vA {n i : Nat} (hi : i < n) : (rp n)[i]? = some (i + 1) := by simp [rp, hi]
theorem uf {α : Type} {l : List α} {i : Nat} {a : α} (h : l[i]? = some a) : l.set i a = l := by
 apply G_
 intro j
 by_cases e : i = j
 ·subst e
  rw [FD (ET.1 h).1, h]
 ·rw [Fz e]
theorem s9 {n i : Nat} (hi : i < n) : (rp n).set i (i + 1) = rp n := uf (vA hi)
theorem wX {n i : Nat} (hi : i < n) : ((rp n).set ((i : Int)).toNat (i + 1)).set ((i : Int)).toNat (i + 1) = rp n := by
 rw [E1, s9 hi, s9 hi]
structure oh (rows : List (List LR)) (n w W : Nat) (m : Mt) : Prop where
 len : rows.length = n
 row : ∀ i, i < n → ∃ l, rows[i]? = some l ∧ l.length = w ∧ ∀ c, c < w → ∃ y, l[c]? = some y ∧ kW y ∧ RL y W ∧ rv y = m i c
theorem oh.congr {rows : List (List LR)} {n w W : Nat} {m m' : Mt} (h : oh rows n w W m) (e : ∀ i c, i < n → c < w → m i c = m' i c) : oh rows n w W m' := by
 refine ⟨h.len, fun i hi => ?_⟩
 obtain ⟨l, h1, h2, h3⟩ := h.row i hi
 refine ⟨l, h1, h2, fun c hc => ?_⟩
 obtain ⟨y, y1, y2, y3, y4⟩ := h3 c hc
 exact ⟨y, y1, y2, y3, by rw [y4, e i c hi hc]⟩
theorem oh.mono {rows : List (List LR)} {n w W W' : Nat} {m : Mt} (h : oh rows n w W m) (e : W ≤ W') : oh rows n w W' m := by
 refine ⟨h.len, fun i hi => ?_⟩
 obtain ⟨l, h1, h2, h3⟩ := h.row i hi
 refine ⟨l, h1, h2, fun c hc => ?_⟩
 obtain ⟨y, y1, y2, y3, y4⟩ := h3 c hc
 exact ⟨y, y1, y2, y3.mono e, y4⟩
theorem oh.set {rows : List (List LR)} {n w W : Nat} {m : Mt} (h : oh rows n w W m) {i c : Nat} (hi : i < n) (hc : c < w) {e : LR} (he : kW e) (hW : RL e W) :
  oh (rows.set i (((rows[i]?).getD []).set c e)) n w W (fun i' c' => if i' = i ∧ c' = c then rv e else m i' c') := by
 refine ⟨by rw [Fj]; exact h.len, fun i' hi' => ?_⟩
 obtain ⟨l, h1, h2, h3⟩ := h.row i' hi'
 by_cases e1 : i = i'
 ·subst e1
  refine ⟨l.set c e, by rw [h1, FD (by rw [h.len]; exact hi)]; rfl, by rw [Fj]; exact h2, fun c' hc' => ?_⟩
  by_cases e2 : c = c'
  ·subst e2
   exact ⟨e, by rw [FD (by omega)], he, hW, by rw [E_ ⟨rfl, rfl⟩]⟩
  ·obtain ⟨y, y1, y2, y3, y4⟩ := h3 c' hc'
   exact ⟨y, by rw [Fz e2]; exact y1, y2, y3, by rw [E6 (fun hh => e2 hh.2.symm)]; exact y4⟩
 ·refine ⟨l, by rw [Fz e1]; exact h1, h2, fun c' hc' => ?_⟩
  obtain ⟨y, y1, y2, y3, y4⟩ := h3 c' hc'
  exact ⟨y, y1, y2, y3, by rw [E6 (fun hh => e1 hh.1.symm)]; exact y4⟩
theorem yD (rows : List (List LR)) (i : Nat) : ((([] :: rows : List (List LR))[i + 1]?).getD []) = (rows[i]?).getD [] := rfl
theorem Ds (rows : List (List LR)) (i : Nat) (l : List LR) : ([] :: rows : List (List LR)).set (i + 1) l = [] :: rows.set i l := rfl
theorem oh.Bi {rows : List (List LR)} {n w W : Nat} {m : Mt} (h : oh rows n w W m) {i : Nat} (hi : i < n) : ((([] :: rows : List (List LR))[i + 1]?).getD []).length = w := by
 obtain ⟨l, h1, h2, _⟩ := h.row i hi
 rw [yD, h1]; exact h2
theorem kI {R : Type} {Q : R → Prop} {n i : Nat} (hi : i < n) {f : Nat → Option R} (h : Gd (f (i + 1)) Q) : Gd (idx (rp n) (i : Int) f) Q :=
 Gd.ix (by omega) (by rw [E1]; exact vA hi) h
theorem mZ {R : Type} {Q : R → Prop} {rows : List (List LR)} {n w W : Nat} {m : Mt} (h : oh rows n w W m) {i c : Nat} (hi : i < n) (hc : c < w) {f : LR → Option R}
  (hk : ∀ y, kW y → RL y W → rv y = m i c → Gd (f y) Q) : Gd (idx ((([] :: rows : List (List LR))[i + 1]?).getD []) (c : Int) f) Q := by
 obtain ⟨l, h1, h2, h3⟩ := h.row i hi
 obtain ⟨y, y1, y2, y3, y4⟩ := h3 c hc
 refine Gd.ix (y := y) (by omega) ?_ (hk y y2 y3 y4)
 rw [yD, h1, E1]; exact y1
theorem qM {r : LR} (h : kW r) : decide (cL r = 0) = decide (rv r = 0) := by
 unfold cL
 rw [decide_eq_decide, sign_zero h.n, yQ h]
theorem Cs {a b : LR} (ha : kW a) (hb : kW b) (h0 : rv b ≠ 0) {A B : Nat} (la : RL a A) (lb : RL b B) (hz : A + B ≤ 800000) :
  Gd (kZ a b) (fun r => kW r ∧ RL r (A + B) ∧ rv r = rv a / rv b) := by
 have := la.1; have := la.2; have := lb.1; have := lb.2
 have hb0 : nv b.N.words ≠ 0 := fun e => h0 ((yQ hb).2 e)
 unfold kZ
 refine Gd.e_ (qH ha.n hb.d (by omega)) (fun x hx => Gd.e_ (qH ha.d hb.n (by omega)) (fun z hz' => ?_))
 refine Gd.e_ (qI hx.1 hz'.1 (xI hz'.2.2 ha.nz hb0) (by omega) (by omega)) (fun r hr => Gd.ret ⟨hr.1, ⟨by omega, by omega⟩, ?_⟩)
 rw [hr.2.2.2, hx.2.2, hz'.2.2]
 unfold rv
 rw [KJ, Rat.inv_divInt, Rat.divInt_mul_divInt]
end Go.Sim
namespace Go.Sim
open Go
open _root_.Go.IntKind (i64 u64 u32 u8)
abbrev vJ := (List Nat × List (List LR)) × List Int
theorem qZ {j w : Nat} (hj : j ≤ w) (hw : w ≤ 1000) : i64.wrap ((j : Int) + 1) = ((j + 1 : Nat) : Int) := by
 rw [bN ⟨by omega, by omega⟩]; omega
theorem En {n w W k i : Nat} {l : List Int} {sg : List Nat} {p : Int} {k1 k2 : Nat} {nxO : List (List LR) → Option vJ} {f : LR} {rows : List (List LR)} {m : Mt} {F : Rat} {Q : vJ → Prop}
  (hSG : (sg.set ((l.length : Int) : Int).toNat k1).set (p : Int).toNat k2 = rp n) (hl : l.length = k) (hk : k < n) (hi : i < n) (hw : w ≤ 1000) (hkw : k ≤ w) (hW : W ≤ 100000) (hik : i ≠ k)
  (hf : kW f) (hfl : RL f W) (fv : rv f = F) (hM : oh rows n w W m) (hb : ∀ c, k ≤ c → c < w → RB (m i c - F * m k c) W)
  (hnx : ∀ rows', oh rows' n w W (fun i' c => if i' = i ∧ k ≤ c then m i c - F * m k c else m i' c) → Gd (nxO ([] :: rows')) Q) :
  Gd (gC (fun s n' => kg l sg p k1 k2 nxO i f s.1 s.2 n') fR ((k : Int), [] :: rows)) Q := by
 refine Gd.gC (fun s => ∃ (j : Nat) (rows' : List (List LR)), s = ((j : Int), [] :: rows') ∧ k ≤ j ∧ j ≤ w ∧ oh rows' n w W (fun i' c => if i' = i ∧ k ≤ c ∧ c < j then m i c - F * m k c else m i' c)) (fun s => ((w : Int) - s.1).toNat) ?_ fR _
  ⟨k, rows, rfl, FA _, hkw, hM.congr (fun i' c _ _ => by rw [E6 (by omega)])⟩ (by simp only [fR]; omega)
 rintro _ nx ⟨j, rows', rfl, hkj, hjw, hM'⟩ hnext
 show Gd (kg l sg p k1 k2 nxO i f (j : Int) ([] :: rows') nx) Q
 unfold kg
 simp only [hSG]
 refine kI hi ?_
 rw [hM'.Bi hi]
 by_cases hj : j < w
 ·refine Gd.ite (fun _ => ?_) (fun h => absurd (KX.1 h) (by simp; omega))
  rw [hl]
  refine kI hk (mZ hM' hk hj (fun y hy hyl hyv => ?_))
  rw [E6 (by omega)] at hyv
  refine Gd.ite (fun hs => ?_) (fun hs => ?_)
  ·refine kI hi (kI hi (mZ hM' hi hj (fun yi gi gil giv => kI hk (mZ hM' hk hj (fun yr gr grl grv => ?_)))))
   rw [E6 (by omega)] at giv grv
   refine Gd.e_ (sf hf gr hfl grl (by omega)) (fun mm hmm => Gd.e_ (qX gi hmm.1 gil hmm.2.1 (by omega)) (fun r hr => mZ hM' hi hj (fun _ _ _ _ => ?_)))
   have hv : rv r = m i j - F * m k j := by rw [hr.2.2, hmm.2.2, giv, grv, fv]
   have hrl : RL r W := hr.1.rb (by rw [hv]; exact hb j hkj hj)
   unfold iJ
   rw [qZ hjw hw]
   have h2 := hM'.set hi hj hr.1 hrl
   refine hnext _ ⟨j + 1, _, rfl, by omega, by omega, h2.congr (fun i' c _ _ => ?_)⟩ (by simp only; omega)
   by_cases e : i' = i ∧ c = j
   ·obtain ⟨rfl, rfl⟩ := e
    rw [E_ ⟨rfl, rfl⟩, E_ (by omega), hv]
   ·rw [E6 e]
    by_cases e2 : i' = i ∧ k ≤ c ∧ c < j
    ·rw [E_ e2, E_ (by omega)]
    ·rw [E6 e2, E6 (by omega)]
  ·have h0 : m k j = 0 := by
    have := qM hy
    rw [hyv] at this
    have hs2 : decide (cL y = 0) = true := by simpa using hs
    rw [this] at hs2
    exact Fa hs2
   unfold iJ
   rw [qZ hjw hw]
   refine hnext _ ⟨j + 1, rows', rfl, by omega, by omega, hM'.congr (fun i' c _ _ => ?_)⟩ (by simp only; omega)
   by_cases e : i' = i ∧ c = j
   ·obtain ⟨rfl, rfl⟩ := e
    rw [if_neg (by omega), if_pos (by omega), h0]; grind
   ·by_cases e2 : i' = i ∧ k ≤ c ∧ c < j
    ·rw [E_ e2, E_ (by omega)]
    ·rw [E6 e2, E6 (by omega)]
 ·refine Gd.ite (fun h => absurd (Fa h) (by omega)) (fun _ => ?_)
  unfold fJ
  refine hnx rows' (hM'.congr (fun i' c _ hc => ?_))
  by_cases e : i' = i ∧ k ≤ c
  ·rw [E_ e, E_ (by omega)]
  ·rw [E6 e, E6 (by omega)]
theorem Em {n w W k : Nat} {l : List Int} {sg : List Nat} {p : Int} {k1 k2 : Nat} {K : List (List LR) → Option vJ} {rows : List (List LR)} {m : Mt} {Q : vJ → Prop}
  (hSG : (sg.set ((l.length : Int) : Int).toNat k1).set (p : Int).toNat k2 = rp n) (hl : l.length = k) (hk : k < n) (hw : w ≤ 1000) (hkw : k < w) (hW : W ≤ 100000)
  (hM : oh rows n w W m) (hz : ∀ c, c < k → m k c = 0) (hb : ∀ i c, i < n → i ≠ k → k ≤ c → c < w → RB (m i c - m i k * m k c) W)
  (hK : ∀ rows', oh rows' n w W (fun i c => if i = k then m k c else m i c - m i k * m k c) → Gd (K ([] :: rows')) Q) :
  Gd (jK (fun kk s n' => lx l (k : Int) sg p k1 k2 kk s n') K n 0 ([] :: rows)) Q := by
 refine Gd.jK (fun M i s => i + M = n ∧ ∃ rows' : List (List LR), s = [] :: rows' ∧ oh rows' n w W (fun i' c => if i' < i ∧ i' ≠ k then m i' c - m i' k * m k c else m i' c)) ?_ ?_ n 0 _
  ⟨by omega, rows, rfl, hM.congr (fun i' c _ _ => by rw [E6 (by omega)])⟩
 ·rintro M i _ nx ⟨hiM, rows', rfl, hM'⟩ hnx
  have hi : i < n := by omega
  unfold lx
  simp only [hSG]
  rw [hl]
  refine Gd.ite (fun h => ?_) (fun h => ?_)
  ·have e : i = k := by have := Fa h; omega
   subst e
   unfold fJ
   refine hnx _ ⟨by omega, rows', rfl, hM'.congr (fun i' c _ _ => ?_)⟩
   by_cases e : i' < i ∧ i' ≠ i
   ·rw [E_ e, E_ (by omega)]
   ·rw [E6 e, E6 (by omega)]
  ·have hik : i ≠ k := fun e => by rw [e] at h; simp at h
   refine kI hi (mZ hM' hi hkw (fun y hy hyl hyv => ?_))
   rw [E6 (by omega)] at hyv
   refine Gd.ite (fun hs => ?_) (fun hs => ?_)
   ·have h0 : m i k = 0 := by
     have := qM hy
     rw [hyv] at this
     rw [this] at hs
     exact Fa hs
    unfold fJ
    refine hnx _ ⟨by omega, rows', rfl, hM'.congr (fun i' c _ _ => ?_)⟩
    by_cases e : i' = i
    ·subst e
     rw [if_neg (by omega), if_pos ⟨by omega, hik⟩, h0]; grind
    ·by_cases e2 : i' < i ∧ i' ≠ k
     ·rw [E_ e2, E_ (by omega)]
     ·rw [E6 e2, E6 (by omega)]
   ·refine kI hi (mZ hM' hi hkw (fun f hf hfl hfv => ?_))
    rw [E6 (by omega)] at hfv
    refine En (m := fun i' c => if i' < i ∧ i' ≠ k then m i' c - m i' k * m k c else m i' c) hSG hl hk hi hw (by omega) hW hik hf hfl hfv hM' (fun c h1 h2 => ?_) (fun rows'' hM'' => ?_)
    ·rw [E6 (by omega), E6 (by omega)]
     exact hb i c hi hik h1 h2
    ·refine hnx _ ⟨by omega, rows'', rfl, hM''.congr (fun i' c _ _ => ?_)⟩
     by_cases e : i' = i
     ·subst e
      rw [E_ (show i' < i' + 1 ∧ i' ≠ k from ⟨by omega, hik⟩), E6 (show ¬ (i' < i' ∧ i' ≠ k) by omega), E6 (show ¬ (k < i' ∧ k ≠ k) by omega)]
      by_cases e3 : k ≤ c
      ·rw [E_ ⟨rfl, e3⟩]
      ·rw [if_neg (by omega), hz c (by omega)]; grind
     ·rw [E6 (show ¬ (i' = i ∧ k ≤ c) from fun hh => e hh.1)]
      by_cases e2 : i' < i ∧ i' ≠ k
      ·rw [E_ e2, E_ (by omega)]
      ·rw [E6 e2, E6 (by omega)]
 ·rintro i _ ⟨hi, rows', rfl, hM'⟩
  refine hK rows' (hM'.congr (fun i' c hi' _ => ?_))
  by_cases e : i' = k
  ·subst e; rw [E6 (by omega), E_ rfl]
  ·rw [E_ ⟨by omega, e⟩, E6 e]
def Ay (k : Nat) (m : Mt) : Mt := fun i c => if i = k ∧ k ≤ c then m k c / m k k else m i c
theorem u4 {k i : Nat} (h : i ≠ k) (m : Mt) (c : Nat) : Ay k m i c = m i c := E6 (fun hh => h hh.1)
theorem xu {k c : Nat} (h : k ≤ c) (m : Mt) : Ay k m k c = m k c / m k k := E_ ⟨rfl, h⟩
theorem xv {k c : Nat} (h : c < k) (m : Mt) : Ay k m k c = m k c := E6 (fun hh => by omega)
theorem El {n w W k : Nat} {l : List Int} {sg : List Nat} {p : Int} {k1 k2 : Nat} {nx : (List Int × Int × List Nat × List (List LR)) → Option vJ} {d : LR} {rows : List (List LR)} {m : Mt} {Q : vJ → Prop}
  (hSG : (sg.set ((l.length : Int) : Int).toNat k1).set (p : Int).toNat k2 = rp n) (hl : l.length = k) (hk : k < n) (hn : n ≤ 1000) (hw : w ≤ 1000) (hkw : k < w) (hW : W ≤ 100000)
  (hd : kW d) (hdl : RL d W) (hdv : rv d = m k k) (hd0 : m k k ≠ 0) (hM : oh rows n w W m) (hz : ∀ c, c < k → m k c = 0) (hb : ∀ i c, i < n → c < w → RB (oE k m i c) W)
  (hnx : ∀ rows', oh rows' n w W (oE k m) → Gd (nx (l ++ [(k : Int)], ((k + 1 : Nat) : Int), rp n, [] :: rows')) Q) :
  Gd (gC (fun s n' => kf l (k : Int) sg nx p k1 k2 d s.1 s.2 n') fR ((k : Int), [] :: rows)) Q := by
 refine Gd.gC (fun s => ∃ (j : Nat) (rows' : List (List LR)), s = ((j : Int), [] :: rows') ∧ k ≤ j ∧ j ≤ w ∧ oh rows' n w W (fun i' c => if i' = k ∧ k ≤ c ∧ c < j then m k c / m k k else m i' c)) (fun s => ((w : Int) - s.1).toNat) ?_ fR _
  ⟨k, rows, rfl, FA _, by omega, hM.congr (fun i' c _ _ => by rw [E6 (by omega)])⟩ (by simp only [fR]; omega)
 rintro _ nxL ⟨j, rows', rfl, hkj, hjw, hM'⟩ hnext
 show Gd (kf l (k : Int) sg nx p k1 k2 d (j : Int) ([] :: rows') nxL) Q
 have hdiv : m k k / m k k = 1 := by rw [KJ]; exact KQ _ hd0
 unfold kf
 simp only [hSG]
 rw [hl]
 refine kI hk ?_
 rw [hM'.Bi hk]
 by_cases hj : j < w
 ·refine Gd.ite (fun _ => ?_) (fun h => absurd (KX.1 h) (by simp; omega))
  refine kI hk (kI hk (mZ hM' hk hj (fun y hy hyl hyv => ?_)))
  rw [E6 (by omega)] at hyv
  refine Gd.e_ (Cs hy hd (by rw [hdv]; exact hd0) hyl hdl (by omega)) (fun r hr => mZ hM' hk hj (fun _ _ _ _ => ?_))
  have hv : rv r = m k j / m k k := by rw [hr.2.2, hyv, hdv]
  have hrl : RL r W := hr.1.rb (by
   rw [hv]
   have := hb k j hk hj
   unfold oE at this
   rw [E_ rfl] at this
   exact this)
  rw [qZ hjw hw]
  refine hnext _ ⟨j + 1, _, rfl, by omega, by omega, (hM'.set hk hj hr.1 hrl).congr (fun i' c _ _ => ?_)⟩ (by simp only; omega)
  by_cases e : i' = k ∧ c = j
  ·obtain ⟨rfl, rfl⟩ := e
   rw [E_ ⟨rfl, rfl⟩, E_ (by omega), hv]
  ·rw [E6 e]
   by_cases e2 : i' = k ∧ k ≤ c ∧ c < j
   ·rw [E_ e2, E_ (by omega)]
   ·rw [E6 e2, E6 (by omega)]
 ·refine Gd.ite (fun h => absurd (Fa h) (by omega)) (fun _ => ?_)
  rw [p_, E1]
  refine Gd.nd (by omega) ?_
  refine Em (m := Ay k m) hSG hl hk hw hkw hW (hM'.congr (fun i' c _ hc => ?_)) (fun c hc => (xv hc m).trans (hz c hc)) (fun i c hi hik h1 h2 => ?_) (fun rows'' hM'' => ?_)
  ·unfold Ay
   by_cases e : i' = k ∧ k ≤ c
   ·rw [E_ e, E_ (by omega)]
   ·rw [E6 e, E6 (by omega)]
  ·rw [u4 hik, u4 hik, xu h1]
   have := hb i c hi h2
   unfold oE at this
   rw [E6 hik] at this
   exact this
  ·refine Gd.nd (by rw [show ([(k : Int)] : List Int).length = 1 from rfl]; omega) ?_
   unfold ke
   rw [qZ (show k ≤ w by omega) hw]
   refine hnx rows'' (hM''.congr (fun i c _ _ => ?_))
   unfold oE
   by_cases e : i = k
   ·subst e
    rw [E_ rfl, E_ rfl]
    by_cases e2 : i ≤ c
    ·rw [xu e2]
    ·rw [xv (by omega), hz c (by omega), Rat.div_def]; grind
   ·rw [E6 e, E6 e, u4 e, u4 e]
    by_cases e2 : k ≤ c
    ·rw [xu e2]
    ·rw [xv (by omega), hz c (by omega), Rat.div_def]; grind
theorem zy {n w W k : Nat} {cols : Int} {l : List Int} {nx : (List Int × Int × List Nat × List (List LR)) → Option vJ} {rows : List (List LR)} {m : Mt} {Q : vJ → Prop}
  (hl : l.length = k) (hk : k < n) (hc : (k : Int) < cols) (hn : n ≤ 1000) (hw : w ≤ 1000) (hkw : k < w) (hW : W ≤ 100000)
  (hd0 : m k k ≠ 0) (hM : oh rows n w W m) (hz : ∀ c, c < k → m k c = 0) (hb : ∀ i c, i < n → c < w → RB (oE k m i c) W)
  (hnx : ∀ rows', oh rows' n w W (oE k m) → Gd (nx (l ++ [(k : Int)], ((k + 1 : Nat) : Int), rp n, [] :: rows')) Q) :
  Gd (iI cols l (k : Int) (rp n) ([] :: rows) nx) Q := by
 unfold iI
 rw [hl, p_]
 refine Gd.ite (fun _ => ?_) (fun h => absurd h (by simp; omega))
 refine Gd.gC (fun s => s = (k : Int)) (fun _ => 0) ?_ fR _ rfl (by simp only [fR]; omega)
 rintro _ nx2 rfl _
 unfold mQ
 rw [p_]
 refine Gd.ite (fun _ => ?_) (fun h => absurd (KX.1 h) (by simp; omega))
 refine kI hk (mZ hM hk hkw (fun y hy hyl hyv => ?_))
 rw [qM hy, hyv]
 refine Gd.ite (fun h => absurd (Fa h) hd0) (fun _ => ?_)
 unfold ki
 rw [p_, hl]
 refine Gd.ite (fun h => absurd (Fa h) (by omega)) (fun _ => ?_)
 refine kI hk (kI hk (kI hk ?_))
 rw [wX hk, E1, s9 hk]
 refine kI hk (kI hk (mZ hM hk hkw (fun d hd hdl hdv => ?_)))
 exact El (by rw [hl]; exact wX hk) hl hk hn hw hkw hW hd hdl hdv hd0 hM hz hb hnx
def w9 (n i : Nat) : List Nat := (List.range i).map (· + 1) ++ List.replicate (n - i) 0
theorem tC (n : Nat) : w9 n 0 = List.replicate n 0 := by simp [w9]
theorem tB (n : Nat) : w9 n n = rp n := by simp [w9, rp]
theorem xj {n i : Nat} (hi : i < n) : (w9 n i)[i]? = some 0 := by
 unfold w9
 rw [FI (by simp), HC, E_ (by simp; omega)]
theorem sZ {n i : Nat} (hi : i < n) : (w9 n i).set i (i + 1) = w9 n (i + 1) := by
 unfold w9
 rw [Kl _ _ (by simp)]
 have e : n - i = (n - (i + 1)) + 1 := by omega
 rw [e, HK, IM]
 simp
theorem BO {n i : Nat} (hi : i < n) : (w9 n (i + 1))[i]? = some (i + 1) := by
 rw [← sZ hi, FD (by simp [w9]; omega)]
theorem uk {n : Nat} {rows : List (List LR)} (h : rows.length = n) : lY (rp n) ([] :: rows) = rows := by
 apply G_
 intro i
 unfold lY
 rw [FJ]
 by_cases hi : i < n
 ·rw [vA hi, G1, yD, EZ (by omega)]; rfl
 ·rw [Gb (by rw [p_]; omega), Gb (by omega)]; rfl
theorem BV {rows : List (List LR)} {n : Nat} (hl : rows.length = n) (hn : n ≤ 1000) (hr : ∀ y ∈ rows, y.length ≤ 1000) : Gd (oN rows) (fun r => r = (rp n, [] :: rows)) := by
 unfold oN
 rw [hl]
 refine Gd.nd (by omega) ?_
 rw [E1]
 refine Gd.dJ (fun i l s => ∃ pre, rows = pre ++ l ∧ pre.length = i ∧ s = (w9 n i, [] :: pre)) ?_ ?_ rows 0 _ ⟨[], rfl, rfl, by rw [tC]⟩
 ·rintro i y ys _ nx ⟨pre, hp, hpl, rfl⟩ hnx
  have hi : i < n := by rw [← hl, hp, FP, Fw]; omega
  have hy := hr y (by rw [hp]; simp)
  unfold pn
  refine Gd.nd (by simp; omega) (Gd.ix (by omega) (by rw [E1]; exact xj hi) (hnx _ ⟨pre ++ [y], by rw [hp]; simp, by simp [hpl], ?_⟩))
  rw [E1, Fw, hpl, sZ hi]
  simp
 ·rintro i _ ⟨pre, hp, hpl, rfl⟩
  rw [FY] at hp
  subst hp
  refine Gd.ret ?_
  rw [← hpl, hl, tB]
theorem oh.short {rows : List (List LR)} {n w W : Nat} {m : Mt} (h : oh rows n w W m) (hw : w ≤ 1000) : ∀ y ∈ rows, y.length ≤ 1000 := by
 intro y hy
 obtain ⟨i, hi, he⟩ := Gv.1 hy
 obtain ⟨l, h1, h2, _⟩ := h.row i (by rw [← h.len]; exact hi)
 rw [EZ hi] at h1
 have := EV h1
 rw [← he, this]; omega
theorem zz {rows : List (List LR)} {n W : Nat} {A m0 : Mt} (hn : n ≤ 400) (hW : W ≤ 100000) (hp : Pd n A) (h0 : Gj n A 0 m0) (hM : oh rows n (2 * n) W m0)
  (hB : ∀ k m, k ≤ n → Gj n A k m → ∀ i c, i < n → c < 2 * n → RB (m i c) W) :
  Gd (lL rows (n : Int)) (fun r => ∃ rows' m, r.1 = (rp n, [] :: rows') ∧ r.2.length = n ∧ Gj n A n m ∧ oh rows' n (2 * n) W m) := by
 unfold lL
 refine Gd.e_ (BV hM.len (by omega) (hM.short (by omega))) (fun r hr => ?_)
 subst hr
 refine Gd.gC (fun s => ∃ (k : Nat) (l : List Int) (rows' : List (List LR)) (m : Mt), s = (l, (k : Int), rp n, [] :: rows') ∧ l.length = k ∧ k ≤ n ∧ Gj n A k m ∧ oh rows' n (2 * n) W m) (fun s => ((n : Int) - s.2.1).toNat) ?_ fR _
  ⟨0, [], rows, m0, rfl, rfl, by omega, h0, hM⟩ (by simp only [fR]; omega)
 rintro _ nx ⟨k, l, rows', m, rfl, hl, hk, hG, hM'⟩ hnext
 show Gd (iI (n : Int) l (k : Int) (rp n) ([] :: rows') nx) _
 by_cases h : k < n
 ·have hd := hG.C0 hp h
  refine zy hl h (by omega) (by omega) (by omega) (by omega) hW hd hM' (fun c hc => ?_) (fun i c hi hc => hB (k + 1) _ (by omega) (hG.step h hd) i c hi hc) (fun rows'' hM'' => ?_)
  ·rw [hG.left k c h (by omega) hc, kY (by omega)]
  ·exact hnext _ ⟨k + 1, _, rows'', _, rfl, by simp [hl], by omega, hG.step h hd, hM''⟩ (by simp only; omega)
 ·obtain rfl : k = n := by omega
  unfold iI
  refine Gd.ite (fun h => absurd h (by simp)) (fun _ => Gd.ret ⟨rows', m, rfl, hl, hG, hM'⟩)
theorem uo {n : Nat} (hn : n ≤ 1000) : Gd (ku (n : Int)) (fun r => ∃ z, r = List.replicate n z ∧ kW z ∧ RL z 2 ∧ rv z = 0) := by
 unfold ku
 refine Gd.e_ (sk (n := 0) (by omega)) (fun z hz => Gd.nd (by simp; omega) (Gd.ret ⟨z, qJ _ _, hz.1, hz.2.1, by rw [hz.2.2]; rfl⟩))
theorem oh.snoc {rows : List (List LR)} {n w W : Nat} {m : Mt} (h : oh rows n w W m) {l : List LR} (h2 : l.length = w) (h3 : ∀ c, c < w → ∃ y, l[c]? = some y ∧ kW y ∧ RL y W ∧ rv y = m n c) : oh (rows ++ [l]) (n + 1) w W m := by
 refine ⟨by simp [h.len], fun i hi => ?_⟩
 by_cases e : i < n
 ·obtain ⟨l', a, b, c⟩ := h.row i e
  exact ⟨l', by rw [Gl (by rw [h.len]; exact e)]; exact a, b, c⟩
 ·obtain rfl : i = n := by omega
  exact ⟨l, by rw [FI (by rw [h.len]; omega), h.len, GC]; rfl, h2, h3⟩
def u5 (n : Nat) (A : Mt) : Mt := fun i c => if c < n then A i c else dl i (c - n)
theorem AA (n : Nat) (A : Mt) : Gj n A 0 (u5 n A) := by
 have e : ∀ i j, u5 n A i (n + j) = dl i j := fun i j => by unfold u5; rw [E6 (by omega)]; congr 1; omega
 refine ⟨fun i c hi hc => ?_, fun i j _ _ _ => e i j, fun i c _ _ h => by omega⟩
 have h1 : sm n (fun j => u5 n A i (n + j) * A j c) = u5 n A i (n + i) * A i c := uh (p := i) hi (fun j hj hne => by rw [e, kY (fun x => hne x.symm)]; grind)
 rw [h1, e, lF]
 unfold u5
 rw [if_pos hc]; grind
theorem B3 {n k W : Nat} {y : List LR} {z one : LR} {A : Mt} (hk : k < n) (hy : y.length = n) (hyc : ∀ c, c < n → ∃ v, y[c]? = some v ∧ kW v ∧ RL v W ∧ rv v = A k c) (hz : kW z ∧ RL z 2 ∧ rv z = 0) (ho : kW one ∧ RL one 2 ∧ rv one = 1) (hW : 2 ≤ W) :
  ((([] ++ y) ++ List.replicate n z).set (n + k) one).length = 2 * n ∧ ∀ c, c < 2 * n → ∃ v, ((([] ++ y) ++ List.replicate n z).set (n + k) one)[c]? = some v ∧ kW v ∧ RL v W ∧ rv v = u5 n A k c := by
 refine ⟨by simp [hy]; omega, fun c hc => ?_⟩
 rw [He]
 unfold u5
 by_cases h1 : c < n
 ·obtain ⟨v, a, b, d, e⟩ := hyc c h1
  refine ⟨v, ?_, b, d, by rw [E_ h1]; exact e⟩
  rw [Fz (by omega), Gl (by omega)]; exact a
 ·by_cases h2 : c = n + k
  ·subst h2
   refine ⟨one, by rw [FD (by simp [hy]; omega)], ho.1, ho.2.1.mono hW, ?_⟩
   rw [E6 h1, ho.2.2, HD, lF]
  ·refine ⟨z, ?_, hz.1, hz.2.1.mono hW, ?_⟩
   ·rw [Fz (by omega), FI (by omega), HC, E_ (by omega)]
   ·rw [E6 h1, hz.2.2, kY (by omega)]
theorem xB {rows : List (List LR)} {n W : Nat} {A : Mt} (hn : n ≤ 400) (hW : W ≤ 100000) (hW2 : 2 ≤ W) (hp : Pd n A) (hM : oh rows n n W A)
  (hB : ∀ k m, k ≤ n → Gj n A k m → ∀ i c, i < n → c < 2 * n → RB (m i c) W) :
  Gd (k8 rows) (fun r => r.2 = true ∧ ∃ m, Gj n A n m ∧ oh r.1 n n W (fun i c => m i (n + c))) := by
 unfold k8
 rw [hM.len]
 refine Gd.nd (by omega) ?_
 rw [E1]
 refine Gd.jK (fun M i s => i + M = n ∧ ∃ pre : List (List LR), s = (w9 n i, [] :: pre) ∧ oh pre i (2 * n) W (u5 n A)) ?_ ?_ n 0 _ ⟨by omega, [], by rw [tC], ⟨rfl, fun i hi => by omega⟩⟩
 ·rintro M i _ nx ⟨hiM, pre, rfl, hpre⟩ hnx
  have hi : i < n := by omega
  obtain ⟨y, y1, y2, y3⟩ := hM.row i hi
  unfold nB
  rw [hM.len]
  refine Gd.ix (y := y) (by omega) (by rw [E1]; exact y1) (Gd.nd (by simp; omega) (Gd.e_ (uo (by omega)) ?_))
  rintro _ ⟨z, rfl, hz⟩
  refine Gd.nd (by simp; omega) (Gd.ix (by omega) (by rw [E1]; exact xj hi) ?_)
  have hlen : ([] :: pre : List (List LR)).length = i + 1 := by simp [hpre.len]
  rw [hlen, E1, sZ hi]
  refine Gd.ix (by omega) (by rw [E1]; exact BO hi) (Gd.e_ (sk (n := 1) (by omega)) (fun one ho => ?_))
  have ho2 : kW one ∧ RL one 2 ∧ rv one = 1 := ⟨ho.1, ho.2.1, by rw [ho.2.2]; rfl⟩
  have hrow := B3 hi y2 y3 hz ho2 hW2
  have hat : ((([] :: pre ++ [([] ++ y) ++ List.replicate n z] : List (List LR))[i + 1]?).getD []) = ([] ++ y) ++ List.replicate n z := by
   rw [Hu, List.getElem?_cons_succ, FI (by rw [hpre.len]; omega), hpre.len, GC]; rfl
  rw [hat]
  have hwr : i64.wrap ((n : Int) + (i : Int)) = ((n + i : Nat) : Int) := by rw [bN ⟨by omega, by omega⟩]; omega
  rw [hwr]
  refine Gd.ix (y := z) (by omega) ?_ (hnx _ ⟨by omega, pre ++ [(([] ++ y) ++ List.replicate n z).set (n + i) one], ?_, hpre.snoc hrow.1 hrow.2⟩)
  ·rw [E1, He, FI (by omega), HC, E_ (by omega)]
  ·rw [E1, Hu, List.set_cons_succ, Kl _ _ (by rw [hpre.len]; omega), hpre.len, GC]
   rfl
 ·rintro i _ ⟨hi, pre, rfl, hpre⟩
  obtain rfl : i = n := by omega
  show Gd ((lL (lY (w9 i i) ([] :: pre)) (i : Int)).bind _) _
  rw [tB, uk hpre.len]
  refine Gd.e_ (zz hn hW hp (AA i A) hpre hB) ?_
  rintro ⟨⟨sg, ls⟩, pv⟩ ⟨rows', m, he, hpl, hG, hM'⟩
  obtain ⟨rfl, rfl⟩ := Prod.mk.inj he
  simp only at hpl ⊢
  rw [hpl]
  refine Gd.ite (fun h => absurd (Fa h) (by omega)) (fun _ => ?_)
  rw [p_]
  refine Gd.nd (by omega) ?_
  rw [E1]
  refine Gd.jK (fun M k s => k + M = i ∧ ∃ rs : List (List LR), s = (rp i, [] :: rs) ∧ rs.length = i ∧ ∀ q, q < i → rs[q]? = if q < k then (rows'[q]?).map (·.drop i) else rows'[q]?) ?_ ?_ i 0 _
   ⟨by omega, rows', rfl, hM'.len, fun q _ => by rw [E6 (by omega)]⟩
  ·rintro M k _ nx ⟨hkM, rs, rfl, hrl, hrs⟩ hnx
   have hk : k < i := by omega
   obtain ⟨l, l1, l2, l3⟩ := hM'.row k hk
   have hat : rs[k]? = some l := by rw [hrs k hk, E6 (by omega), l1]
   unfold nC
   rw [hM.len]
   refine kI hk ?_
   rw [yD, hat, Hj]
   refine Gd.nd (by omega) (kI hk (Gd.nd ?_ ?_))
   ·rw [E1]
    refine Ce (fun j hj => ?_)
    have hjn : j < i := by
     have := (ET.1 hj).1
     rwa [p_] at this
    rw [vA hjn] at hj
    have := EV hj
    omega
   ·rw [E1, E1, s9 hk, Ds]
    refine hnx _ ⟨by omega, _, rfl, by rw [Fj]; exact hrl, fun q hq => ?_⟩
    by_cases e : k = q
    ·subst e
     rw [FD (by omega), E_ (by omega), l1]; rfl
    ·rw [Fz e, hrs q hq]
     by_cases e2 : q < k
     ·rw [E_ e2, E_ (by omega)]
     ·rw [E6 e2, E6 (by omega)]
  ·rintro k _ ⟨hk, rs, rfl, hrl, hrs⟩
   refine Gd.ret ⟨rfl, m, hG, ?_⟩
   show oh (lY (rp i) ([] :: rs)) i i W _
   rw [uk hrl]
   refine ⟨hrl, fun q hq => ?_⟩
   obtain ⟨l, l1, l2, l3⟩ := hM'.row q hq
   refine ⟨l.drop i, by rw [hrs q hq, E_ (by omega), l1]; rfl, by rw [GU]; omega, fun c hc => ?_⟩
   obtain ⟨v, a, b, d, e⟩ := l3 (i + c) (by omega)
   exact ⟨v, by rw [FU]; exact a, b, d, e⟩
def wq (k : Nat) : Rat := (((WB ^ k : Nat) : Int) : Rat)
theorem pA (a b : Nat) : wq a * wq b = wq (a + b) := by unfold wq; rw [Ky, F0, KL]
theorem pB (a : Nat) : 1 ≤ wq a := by
 unfold wq
 have h : (1 : Nat) ≤ WB ^ a := Nat.one_le_pow _ _ (by decide)
 have h2 : (1 : Int) ≤ ((WB ^ a : Nat) : Int) := by omega
 have := KK.2 h2
 rwa [Rat.intCast_one] at this
theorem qY {a b : Nat} (h : a ≤ b) : wq a ≤ wq b := by
 unfold wq
 have h : WB ^ a ≤ WB ^ b := KA (by decide) h
 exact KK.2 (by omega)
theorem tx {x y a b : Rat} (h1 : -a ≤ x) (h2 : x ≤ a) (h3 : -b ≤ y) (h4 : y ≤ b) : -(a * b) ≤ x * y ∧ x * y ≤ a * b := by
 have e1 := Rat.mul_nonneg (show 0 ≤ a - x by grind) (show 0 ≤ b + y by grind)
 have e2 := Rat.mul_nonneg (show 0 ≤ a + x by grind) (show 0 ≤ b - y by grind)
 have e3 := Rat.mul_nonneg (show 0 ≤ a - x by grind) (show 0 ≤ b - y by grind)
 have e4 := Rat.mul_nonneg (show 0 ≤ a + x by grind) (show 0 ≤ b + y by grind)
 constructor <;> grind
theorem A0 {z : Int} {k : Nat} (h1 : -wq k ≤ (z : Rat)) (h2 : (z : Rat) ≤ wq k) : z.natAbs < WB ^ (k + 1) := by
 unfold wq at h1 h2
 rw [← KM] at h1
 have a1 := KK.1 h1
 have a2 := KK.1 h2
 have a3 : WB ^ k < WB ^ (k + 1) := Nat.pow_lt_pow_right (by decide) (by omega)
 omega
theorem se {p q : Rat} {k : Nat} (hp : oc p) (hq : oc q) (p1 : -wq k ≤ p) (p2 : p ≤ wq k) (q1 : -wq k ≤ q) (q2 : q ≤ wq k) (q0 : q ≠ 0) (hk : k ≤ 186) : RB (p / q) (k + 1) := by
 obtain ⟨a, rfl⟩ := hp
 obtain ⟨b, rfl⟩ := hq
 exact RB.ratio (A0 p1 p2) (A0 q1 q2) (fun e => q0 (by rw [e]; rfl)) (by omega)
theorem RB.zero : RB 0 1 := by
 have := RB.small (m := 0) (by decide)
 simpa using this
theorem RB.one : RB 1 1 := by
 have := RB.small (m := 1) (by decide)
 simpa using this
theorem RB.dl (i j : Nat) : RB (dl i j) 1 := by
 rcases qb i j with h | h <;> rw [h]
 ·exact RB.zero
 ·exact RB.one
theorem RB.sm {f : Nat → Rat} {a : Nat} : ∀ {n : Nat}, n * (a + 1) + 1 ≤ 700000 → (∀ j, j < n → RB (f j) a) → RB (sm n f) (n * (a + 1) + 1)
 | 0, _, _ => RB.zero.mono (by omega)
 | n + 1, hn, h => by
  have e : (n + 1) * (a + 1) = n * (a + 1) + (a + 1) := Nat.succ_mul _ _
  have h1 := RB.sm (n := n) (by omega) (fun j hj => h j (by omega))
  exact (h1.add (h n (by omega)) (by omega)).mono (by omega)
structure Nb (n : Nat) (A : Mt) (L : Nat → Rat) (B : Mt) (R : Nat → Rat) : Prop where
 s : zP n A L B R
 hP : pr n R ≤ wq 60
 hL : ∀ i, i < n → L i ≤ wq 18
theorem Nb.R {n : Nat} {A B : Mt} {L R : Nat → Rat} (h : Nb n A L B R) {i : Nat} (hi : i < n) : R i ≤ wq 60 := by
 have key : ∀ {m : Nat}, (∀ j, j < m → 1 ≤ R j) → i < m → R i ≤ pr m R := by
  intro m
  induction m with
  | zero => intro _ h; omega
  | succ m ih =>
   intro h1 hi
   have p1 : 1 ≤ pr m R := vw (fun j hj => h1 j (by omega))
   show R i ≤ pr m R * R m
   by_cases e : i = m
   ·subst e
    have := Rat.mul_le_mul_of_nonneg_right p1 (show 0 ≤ R i by have := h1 i hi; grind)
    grind
   ·have a := ih (fun j hj => h1 j (by omega)) (by omega)
    have := Rat.mul_le_mul_of_nonneg_left (h1 m (by omega)) (show 0 ≤ pr m R by grind)
    grind
 exact KO (key (fun j hj => h.s.R1 hj) hi) h.hP
theorem Nb.L0 {n : Nat} {A B : Mt} {L R : Nat → Rat} (h : Nb n A L B R) {i : Nat} (hi : i < n) : L i ≠ 0 := fun e => by
 have := h.s.l1 i hi; rw [e] at this; exact absurd this (by decide)
theorem Nb.ab {n : Nat} {A B : Mt} {L R : Nat → Rat} (h : Nb n A L B R) {i c : Nat} (hi : i < n) (hc : c < n) : -wq 60 ≤ L i * A i c ∧ L i * A i c ≤ wq 60 := by
 have h1 := h.s.ab i c hi hc
 have h2 := C4 (f := B i) (h.s.b0 i) hc
 have h3 := h.s.rs i hi
 have h4 := h.R hi
 constructor <;> grind
theorem Nb.A {n : Nat} {A B : Mt} {L R : Nat → Rat} (h : Nb n A L B R) {i c : Nat} (hi : i < n) (hc : c < n) : RB (A i c) 61 := by
 have e : A i c = (L i * A i c) / L i := by
  rw [KJ]
  have := KQ (L i) (h.L0 hi)
  grind
 rw [e]
 have l1 := h.s.l1 i hi
 have l2 := h.hL i hi
 have l3 := qY (show 18 ≤ 60 by omega)
 have w := pB 60
 exact se (h.s.ai i c hi hc) (h.s.li i hi) (h.ab hi hc).1 (h.ab hi hc).2 (by grind) (by grind) (h.L0 hi) (by omega)
def Dk (A : Mt) (L : Nat → Rat) (k : Nat) : Rat := lz k (fun r c => L r * A r c)
theorem Nb.D0 {n : Nat} {A B : Mt} {L R : Nat → Rat} (h : Nb n A L B R) (hp : Pd n A) : ∀ {k : Nat}, k ≤ n → Dk A L k ≠ 0 ∧ ∃ m, Gj n A k m
 | 0, _ => ⟨by show (1 : Rat) ≠ 0; decide, _, AA n A⟩
 | k + 1, hk => by
  obtain ⟨d, m, hG⟩ := h.D0 hp (k := k) (by omega)
  have hd := hG.C0 hp (by omega)
  refine ⟨?_, _, hG.step (by omega) hd⟩
  have e := hG.lz (k := k) (by omega) (L := L) (fun i hi => h.L0 hi)
  show Sim.lz (k + 1) (fun r c => L r * A r c) ≠ 0
  rw [e]
  intro h0
  rcases KP.1 h0 with h1 | h1
  ·rcases KP.1 h1 with h2 | h2
   ·exact h.L0 (by omega) h2
   ·exact hd h2
  ·exact d h1
theorem Nb.Db {n : Nat} {A B : Mt} {L R : Nat → Rat} (h : Nb n A L B R) {k : Nat} (hk : k ≤ n) : oc (Dk A L k) ∧ -wq 60 ≤ Dk A L k ∧ Dk A L k ≤ wq 60 := by
 obtain ⟨a, b, c⟩ := h.s.lz hk
 have := h.hP
 refine ⟨a, ?_, ?_⟩ <;> unfold Dk <;> grind
theorem Nb.num {n : Nat} {A B m : Mt} {L R : Nat → Rat} (h : Nb n A L B R) (hp : Pd n A) {k : Nat} (hG : Gj n A k m) (hk : k ≤ n) {i p : Nat} (hi : i < n) (hpk : p < k) : RB (m i (n + p)) 140 := by
 obtain ⟨N, n1, n2, n3, e⟩ := hG.num h.s hk hi hpk
 obtain ⟨d1, d2, d3⟩ := h.Db hk
 have d0 := (h.D0 hp hk).1
 have hP := h.hP
 have p1 : 1 ≤ pr n R := vw (fun j hj => h.s.R1 hj)
 have r1 := h.s.R1 hi
 have r2 := h.R hi
 have hNb : pr n R * R i ≤ wq 120 := by
  rw [← pA 60 60]
  exact lf hP r2 (by grind) (by grind)
 have lp := h.s.l1 p (by omega)
 have lp2 := h.hL p (by omega)
 have t := tx (x := N) (y := L p) (a := wq 120) (b := wq 18) (by grind) (by grind) (by have := pB 18; grind) lp2
 rw [pA] at t
 have s0 : (if k ≤ i then L i else 1) ≠ 0 := by
  split
  ·exact h.L0 hi
  ·decide
 have s1 : oc (if k ≤ i then L i else 1) := by
  split
  ·exact h.s.li i hi
  ·exact ⟨1, rfl⟩
 have s2 : 1 ≤ (if k ≤ i then L i else 1) ∧ (if k ≤ i then L i else 1) ≤ wq 18 := by
  split
  ·exact ⟨h.s.l1 i hi, h.hL i hi⟩
  ·exact ⟨KN, pB 18⟩
 generalize (if k ≤ i then L i else 1) = s at e s0 s1 s2
 have u := tx (x := s) (y := Dk A L k) (a := wq 18) (b := wq 60) (by have := pB 18; grind) s2.2 d2 d3
 rw [pA] at u
 have e2 : m i (n + p) = (N * L p) / (s * Dk A L k) := by
  have e3 : s * m i (n + p) * Dk A L k = N * L p := e
  rw [← e3, KJ]
  have h3 : s * Dk A L k ≠ 0 := fun hh => by
   rcases KP.1 hh with h1 | h1
   ·exact s0 h1
   ·exact d0 h1
  have := KQ _ h3
  grind
 rw [e2]
 have w1 := qY (show 18 + 60 ≤ 139 by omega)
 have w2 := qY (show 120 + 18 ≤ 139 by omega)
 refine se (mJ n1 (h.s.li p (by omega))) (mJ s1 d1) (by grind) (by grind) (by grind) (by grind) ?_ (by omega)
 intro hh
 rcases KP.1 hh with h1 | h1
 ·exact s0 h1
 ·exact d0 h1
theorem Nb.rb {n : Nat} {A B : Mt} {L R : Nat → Rat} (h : Nb n A L B R) (hp : Pd n A) (hn : n ≤ 24) (k : Nat) (m : Mt) (hk : k ≤ n) (hG : Gj n A k m) (i c : Nat) (hi : i < n) (hc : c < 2 * n) : RB (m i c) 6000 := by
 have right : ∀ p, p < n → RB (m i (n + p)) 140 := fun p hpn => by
  by_cases e : p < k
  ·exact h.num hp hG hk hi e
  ·rw [hG.right i p hi hpn (by omega)]
   exact (RB.dl i p).mono (by omega)
 by_cases hcn : c < n
 ·rw [hG.Dd hk hi hcn]
  have h1 : RB (sm k (fun j => m i (n + j) * A j c)) (k * 202 + 1) := RB.sm (a := 201) (by omega) (fun j hj => (right j (by omega)).mul (h.A (by omega) hcn) (by omega))
  have h2 : RB (if k ≤ i then A i c else 0) 61 := by
   split
   ·exact h.A hi hcn
   ·exact RB.zero.mono (by omega)
  exact (h1.add h2 (by omega)).mono (by omega)
 ·have e : c = n + (c - n) := by omega
  rw [e]
  exact (right (c - n) (by omega)).mono (by omega)
theorem zk (l : List Int) (p : Int) : Gd (gJ l p) (fun r => (r = -1 ∧ p ∉ l) ∨ ∃ (k : Nat) (h : k < l.length), r = k ∧ l[k] = p) := by
 unfold gJ
 refine Gd.jK (fun m i _ => i + m = l.length ∧ p ∉ l.take i) ?_ ?_ (l.length : Int).toNat 0 () ⟨by omega, by simp⟩
 ·intro m i _ nx ⟨hi, hno⟩ hnx
  unfold jN
  refine Gd.jS (by omega) (Gd.ite (fun h => Gd.ret (.inr ⟨i, by omega, rfl, ?_⟩)) (fun h => hnx () ⟨by omega, ?_⟩))
  ·have : p = l[i] := by simpa using h
   exact this.symm
  ·rw [GV (by omega), FK, Gh]
   rintro (h' | h')
   ·exact hno h'
   ·simp [h'] at h
 ·intro i _ ⟨hi, hno⟩
  rw [FG (by omega)] at hno
  exact Gd.ret (.inl ⟨rfl, hno⟩)
structure zO (M : aO) (n N : Nat) (F : Nat → Nat) (l : List (Rat × Nat × Nat)) (t : Rat) : Prop where
 hn : n ≤ 23
 free : M.kV = (List.range n).map (fun i => (F i : Int))
 inj : ∀ i j, i < n → j < n → F i = F j → i = j
 lt : ∀ i, i < n → F i < N
 hN : N ≤ 24
 ll : l.length ≤ 24
 el : ∀ e ∈ l, e.2.1 < N ∧ e.2.2 < N
 fr : M.gY = l.map (fun e => (e.2.1 : Int))
 to : M.To = l.map (fun e => (e.2.2 : Int))
 bl : M.B_.length = l.length
 b : ∀ (k : Nat) (y : LR), M.B_[k]? = some y → ∃ e, l[k]? = some e ∧ kW y ∧ RL y 2 ∧ rv y = t / e.1
def Cn : Option Nat → Int
 | none => -1
 | some i => (i : Int)
def eo (o : Option Nat) (r : Nat) : Rat := if o = some r then 1 else 0
theorem oa (i r : Nat) : eo (some i) r = dl i r := by
 unfold eo dl
 by_cases e : i = r
 ·subst e; rw [E_ rfl, E_ rfl]
 ·rw [E6 (fun h => e (EV h)), E6 e]
theorem n_ (r : Nat) : eo none r = 0 := E6 (by simp)
theorem wQ {M : aO} {n N : Nat} {F : Nat → Nat} {l : List (Rat × Nat × Nat)} {t : Rat} (h : zO M n N F l t) (u : Nat) :
  Gd (g_ M (u : Int)) (fun r => ∃ o : Option Nat, r = Cn o ∧ (∀ i, o = some i → i < n ∧ F i = u) ∧ ∀ r, r < n → eo o r = dl (F r) u) := by
 unfold g_
 refine Gd.e_ (zk _ _) (fun r hr => Gd.ret ?_)
 rw [h.free] at hr
 rcases hr with ⟨rfl, hno⟩ | ⟨k, hk, rfl, e⟩
 ·refine ⟨none, rfl, fun i hi => by simp at hi, fun r hr => ?_⟩
  rw [n_, kY]
  intro e
  exact hno (Gg.2 ⟨r, F3.2 hr, by rw [e]⟩)
 ·have hkn : k < n := by simpa using hk
  have e2 : F k = u := by simp at e; omega
  refine ⟨some k, rfl, fun i hi => by obtain rfl := EV hi; exact ⟨hkn, e2⟩, fun r hr => ?_⟩
  rw [oa]
  by_cases e3 : k = r
  ·subst e3; rw [lF, e2, lF]
  ·rw [kY e3, kY]
   intro e4
   exact e3 (h.inj k r hkn hr (by omega))
theorem oh.w6 {rows : List (List LR)} {n w W : Nat} {m : Mt} (h : oh rows n w W m) {p q : Nat} (hp : p < n) (hq : q < w) {e : LR} {d : Rat} (he : kW e) (hW : RL e W) (hv : rv e = m p q + d) :
  oh (rows.set p (((rows[p]?).getD []).set q e)) n w W (fun r c => m r c + d * (dl p r * dl q c)) := by
 refine (h.set hp hq he hW).congr (fun r c _ _ => ?_)
 by_cases e1 : r = p ∧ c = q
 ·obtain ⟨rfl, rfl⟩ := e1
  rw [if_pos ⟨rfl, rfl⟩, lF, lF, hv]; grind
 ·rw [E6 e1]
  by_cases e2 : p = r
  ·rw [kY (i := q) (fun e => e1 ⟨e2.symm, e.symm⟩)]; grind
  ·rw [kY e2]; grind
abbrev zN := List (List LR) → Option aO
theorem CX {n W : Nat} {nx : zN} {b : LR} {oi oj : Option Nat} {rows : List (List LR)} {m : Mt} {Q : aO → Prop} (hM : oh rows n n W m) (hW : W ≤ 1000) (hb : kW b) (hbl : RL b 2)
  (hi : ∀ i, oi = some i → i < n) (hj : ∀ j, oj = some j → j < n) (hne : ∀ i, oi = some i → oj ≠ some i)
  (hnx : ∀ rows', oh rows' n n (W + 3) (fun r c => m r c - rv b * (eo oi r * eo oj c) - rv b * (eo oj r * eo oi c)) → Gd (nx ([] :: rows')) Q) :
  Gd (eO (rp n) nx b (Cn oi) (Cn oj) ([] :: rows)) Q := by
 unfold eO dP
 cases oi with
 | none =>
  refine Gd.ite (fun h => absurd h (by simp [Cn])) (fun _ => hnx rows ((hM.mono (by omega)).congr (fun r c _ _ => ?_)))
  rw [n_, n_]; grind
 | some i =>
  cases oj with
  | none =>
   refine Gd.ite (fun h => absurd h (by simp [Cn])) (fun _ => hnx rows ((hM.mono (by omega)).congr (fun r c _ _ => ?_)))
   rw [n_, n_]; grind
  | some j =>
   have hi := hi i rfl
   have hj := hj j rfl
   have hij : i ≠ j := fun e => hne i rfl (by rw [e])
   show Gd (if ((decide (0 ≤ (i : Int)) && decide (0 ≤ (j : Int))) = true) then _ else _) Q
   refine Gd.ite (fun _ => ?_) (fun h => absurd h (by simp))
   show Gd (idx (rp n) (i : Int) _) Q
   refine kI hi (kI hj (kI hi (mZ hM hi hj (fun y1 a1 a2 a3 => Gd.e_ (qX a1 hb a2 hbl (by omega)) (fun r1 b1 => ?_)))))
   show Gd (idx (rp n) (j : Int) _) Q
   refine kI hj (mZ hM hj hi (fun y2 c1 c2 c3 => Gd.e_ (qX c1 hb c2 hbl (by omega)) (fun r2 d1 => ?_)))
   show Gd (idx ((([] :: rows : List (List LR))[i + 1]?).getD []) (j : Int) _) Q
   refine mZ hM hi hj (fun _ _ _ _ => ?_)
   have h2 := (hM.mono (show W ≤ W + 3 by omega)).w6 hi hj (d := -rv b) b1.1 (b1.2.1.mono (by omega)) (by rw [b1.2.2, a3]; grind)
   show Gd (idx ((([] :: (rows.set i (((rows[i]?).getD []).set j r1)) : List (List LR))[j + 1]?).getD []) (i : Int) _) Q
   refine mZ h2 hj hi (fun _ _ _ _ => ?_)
   have h3 := h2.w6 hj hi (d := -rv b) d1.1 (d1.2.1.mono (by omega)) (by
    rw [d1.2.2, c3, kY hij]; grind)
   refine hnx _ (h3.congr (fun r c _ _ => ?_))
   rw [oa, oa, oa, oa]; grind
theorem CY {n W : Nat} {nx : zN} {b : LR} {oi oj : Option Nat} {rows : List (List LR)} {m : Mt} {Q : aO → Prop} (hM : oh rows n n W m) (hW : W ≤ 900) (hb : kW b) (hbl : RL b 2)
  (hi : ∀ i, oi = some i → i < n) (hj : ∀ j, oj = some j → j < n) (hne : ∀ i, oi = some i → oj ≠ some i)
  (hnx : ∀ rows', oh rows' n n (W + 6) (fun r c => m r c + rv b * (eo oj r * eo oj c) - rv b * (eo oi r * eo oj c) - rv b * (eo oj r * eo oi c)) → Gd (nx ([] :: rows')) Q) :
  Gd (eP (rp n) nx b (Cn oi) (Cn oj) ([] :: rows)) Q := by
 unfold eP
 cases oj with
 | none =>
  refine Gd.ite (fun h => absurd h (by simp [Cn])) (fun _ => CX (oj := none) (hM.mono (show W ≤ W + 3 by omega)) (by omega) hb hbl hi hj hne (fun rows' h' => hnx rows' (h'.congr (fun r c _ _ => ?_))))
  rw [n_, n_]; grind
 | some j =>
  have hj' := hj j rfl
  show Gd (if (decide (0 ≤ (j : Int)) = true) then _ else _) Q
  refine Gd.ite (fun _ => ?_) (fun h => absurd h (by simp))
  show Gd (idx (rp n) (j : Int) _) Q
  refine kI hj' (kI hj' (mZ hM hj' hj' (fun y1 a1 a2 a3 => Gd.e_ (p8 a1 hb a2 hbl (by omega)) (fun r1 b1 => mZ hM hj' hj' (fun _ _ _ _ => ?_)))))
  have h2 := (hM.mono (show W ≤ W + 3 by omega)).w6 hj' hj' (d := rv b) b1.1 (b1.2.1.mono (by omega)) (by rw [b1.2.2, a3])
  refine CX (oj := some j) h2 (by omega) hb hbl hi hj hne (fun rows' h' => hnx rows' (h'.congr (fun r c _ _ => ?_)))
  rw [oa, oa]
theorem xD (l : List (Rat × (Nat → Rat))) (e : Rat × (Nat → Rat)) (r c : Nat) : dV (l ++ [e]) r c = dV l r c + e.1 * e.2 r * e.2 c := by
 induction l with
 | nil => show e.1 * e.2 r * e.2 c + 0 = 0 + _; grind
 | cons a l ih => show a.1 * a.2 r * a.2 c + dV (l ++ [e]) r c = a.1 * a.2 r * a.2 c + dV l r c + _; rw [ih]; grind
theorem uT {α : Type} {l : List α} {k : Nat} {e : α} (f : α → Int) (h : l[k]? = some e) : (l.map f)[k]? = some (f e) := by rw [FJ, h]; rfl
theorem DK {M : aO} {n N : Nat} {F : Nat → Nat} {l : List (Rat × Nat × Nat)} {t : Rat} (h : zO M n N F l t) {k W : Nat} {e : Rat × Nat × Nat} (he : l[k]? = some e) {b : LR} (hb : kW b) (hbl : RL b 2) (hbv : rv b = t / e.1)
  {nx : zN} {rows : List (List LR)} {pre : List (Rat × Nat × Nat)} {Q : aO → Prop} (hW : W ≤ 800) (hM : oh rows n n W (dV ((pre.map (wt t)).map (iX F))))
  (hnx : ∀ rows', oh rows' n n (W + 9) (dV (((pre ++ [e]).map (wt t)).map (iX F))) → Gd (nx ([] :: rows')) Q) :
  Gd (fS M (rp n) k b ([] :: rows) nx) Q := by
 obtain ⟨q, u, v⟩ := e
 unfold fS
 rw [h.fr, h.to]
 have f1 := uT (fun e : Rat × Nat × Nat => (e.2.1 : Int)) he
 have f2 := uT (fun e : Rat × Nat × Nat => (e.2.2 : Int)) he
 have new : ∀ r c, dV (((pre ++ [(q, u, v)]).map (wt t)).map (iX F)) r c = dV ((pre.map (wt t)).map (iX F)) r c + rv b * (dl (F r) u - dl (F r) v) * (dl (F c) u - dl (F c) v) := fun r c => by
  rw [GK, GK]
  show dV (_ ++ [_]) r c = _
  rw [xD, hbv]; rfl
 refine Gd.ix (by omega) (by rw [E1]; exact f1) ?_
 refine Gd.e_ (wQ h u) ?_
 rintro _ ⟨oi, rfl, i1, i2⟩
 refine Gd.ix (by omega) (by rw [E1]; exact f2) ?_
 refine Gd.e_ (wQ h v) ?_
 rintro _ ⟨oj, rfl, j1, j2⟩
 refine Gd.ix (by omega) (by rw [E1]; exact f1) (Gd.ix (by omega) (by rw [E1]; exact f2) ?_)
 refine Gd.ite (fun huv => ?_) (fun huv => ?_)
 ·have e1 : u = v := by have := Fa huv; simp only at this; omega
  subst e1
  unfold dP
  refine hnx rows ((hM.mono (by omega)).congr (fun r c _ _ => ?_))
  rw [new]; grind
 ·have e1 : u ≠ v := fun e => by subst e; simp at huv
  have hne : ∀ i, oi = some i → oj ≠ some i := fun i hi hj => by
   have := (i1 i hi).2
   have := (j1 i hj).2
   omega
  have fin : ∀ rows', oh rows' n n (W + 9) (fun r c => dV ((pre.map (wt t)).map (iX F)) r c + rv b * (eo oi r * eo oi c) + rv b * (eo oj r * eo oj c) - rv b * (eo oi r * eo oj c) - rv b * (eo oj r * eo oi c)) → Gd (nx ([] :: rows')) Q := fun rows' h' =>
   hnx rows' (h'.congr (fun r c hr hc => by rw [new, i2 r hr, i2 c hc, j2 r hr, j2 c hc]; grind))
  cases oi with
  | none =>
   refine Gd.ite (fun h => absurd h (by simp [Cn])) (fun _ => CY (oi := none) (hM.mono (show W ≤ W + 3 by omega)) (by omega) hb hbl (fun i hi => (i1 i hi).1) (fun j hj => (j1 j hj).1) hne (fun rows' h' => fin rows' ((h'.mono (by omega)).congr (fun r c _ _ => ?_))))
   rw [n_, n_]; grind
  | some i =>
   have hi := (i1 i rfl).1
   show Gd (if (decide (0 ≤ (i : Int)) = true) then _ else _) Q
   refine Gd.ite (fun _ => ?_) (fun h => absurd h (by simp))
   show Gd (idx (rp n) (i : Int) _) Q
   refine kI hi (kI hi (mZ hM hi hi (fun y1 a1 a2 a3 => Gd.e_ (p8 a1 hb a2 hbl (by omega)) (fun r1 b1 => mZ hM hi hi (fun _ _ _ _ => ?_)))))
   have h2 := (hM.mono (show W ≤ W + 3 by omega)).w6 hi hi (d := rv b) b1.1 (b1.2.1.mono (by omega)) (by rw [b1.2.2, a3])
   refine CY (oi := some i) h2 (by omega) hb hbl (fun i hi => (i1 i hi).1) (fun j hj => (j1 j hj).1) hne (fun rows' h' => fin rows' ((h'.mono (by omega)).congr (fun r c _ _ => ?_)))
   rw [oa, oa]
structure CO (rows : List (List LR)) (n : Nat) (A : Mt) : Prop where
 ex : ∃ m, Gj n A n m ∧ oh rows n n 6000 (fun i c => m i (n + c))
theorem zm {M : aO} {n N : Nat} {F : Nat → Nat} {l : List (Rat × Nat × Nat)} {t : Rat} (h : zO M n N F l t) {B : Mt} {L R : Nat → Rat} (hp : Pd n (dV ((l.map (wt t)).map (iX F)))) (hB : Nb n (dV ((l.map (wt t)).map (iX F))) L B R) :
  Gd (iR M) (fun M' => ∃ rows, M' = { M with lH := rows } ∧ CO rows n (dV ((l.map (wt t)).map (iX F)))) := by
 have hn := h.hn
 have hfl : M.kV.length = n := by rw [h.free]; simp
 unfold iR
 rw [hfl, E1, Gx]
 refine Gd.nd (by omega) (Gd.nd (by omega) ?_)
 rw [E1]
 refine Gd.jK (fun m i s => i + m = n ∧ ∃ pre : List (List LR), s = (w9 n i, [] :: pre) ∧ oh pre i n 2 (fun _ _ => 0)) ?_ ?_ n 0 _ ⟨by omega, [], by rw [tC], ⟨rfl, fun i hi => by omega⟩⟩
 ·rintro m i _ nx ⟨him, pre, rfl, hpre⟩ hnx
  have hi : i < n := by omega
  unfold kR
  rw [hfl]
  refine Gd.e_ (uo (by omega)) ?_
  rintro _ ⟨z, rfl, hz⟩
  refine Gd.ix (by omega) (by rw [E1]; exact xj hi) (hnx _ ⟨by omega, pre ++ [List.replicate n z], ?_, hpre.snoc (by simp) (fun c hc => ⟨z, by rw [HC, E_ hc], hz.1, hz.2.1, hz.2.2⟩)⟩)
  rw [E1, Fw, hpre.len, sZ hi]; rfl
 ·rintro i _ ⟨hi, pre, rfl, hpre⟩
  obtain rfl : i = n := by omega
  show Gd (dJ (fun k y s1523 n => fS M (w9 i i) k y s1523 n) _ 0 M.B_ ([] :: pre)) _
  rw [tB]
  refine Gd.dJ (fun k ys s => ∃ (bs : List LR) (rows : List (List LR)), M.B_ = bs ++ ys ∧ bs.length = k ∧ s = [] :: rows ∧ oh rows i i (2 + 9 * k) (dV (((l.take k).map (wt t)).map (iX F)))) ?_ ?_ M.B_ 0 _ ⟨[], pre, rfl, rfl, rfl, by rw [Ju]; exact hpre⟩
  ·rintro k y ys _ nx ⟨bs, rows, hbs, hbk, rfl, hM⟩ hnx
   have hy : M.B_[k]? = some y := by rw [hbs, FI (by omega), hbk, GC]; rfl
   obtain ⟨e, he, y1, y2, y3⟩ := h.b k y hy
   have hkl := (ET.1 he).1
   have hll := h.ll
   have e2 : l.take (k + 1) = l.take k ++ [e] := by
    rw [GV hkl, (ET.1 he).2]
   refine DK h he y1 y2 y3 (by omega) hM (fun rows' h' => hnx _ ⟨bs ++ [y], rows', by rw [hbs]; simp, by simp [hbk], rfl, ?_⟩)
   rw [e2]
   exact h'.mono (by omega)
  ·rintro k _ ⟨bs, rows, hbs, hbk, rfl, hM⟩
   have hll := h.ll
   have hbl := h.bl
   rw [FY] at hbs
   have hkl : k = l.length := by rw [← hbl, hbs, hbk]
   rw [hkl, Hq] at hM
   show Gd ((k8 (lY (rp i) ([] :: rows))).bind _) _
   rw [uk hM.len]
   refine Gd.e_ (xB (by omega) (by omega) (by omega) hp (hM.mono (by omega)) (hB.rb hp (by omega))) (fun r hr => Gd.ret ⟨r.1, rfl, ⟨hr.2⟩⟩)
abbrev Net := aJ
theorem Gd.forAll {R α σ : Type} {Q : R → Prop} {body : Nat → α → σ → (σ → Option R) → Option R} {k : σ → Option R} {l : List α} (P : α → Prop) (J : σ → Prop)
  (hb : ∀ i y s n, y ∈ l → J s → (P y → ∀ s', J s' → Gd (n s') Q) → Gd (body i y s n) Q) (hk : (∀ x ∈ l, P x) → ∀ s, J s → Gd (k s) Q) (s : σ) (hs : J s) : Gd (Sim.dJ body k 0 l s) Q := by
 have key : ∀ (ys pre : List α) (i : Nat) (s : σ), l = pre ++ ys → (∀ x ∈ pre, P x) → J s → Gd (Sim.dJ body k i ys s) Q := by
  intro ys
  induction ys with
  | nil => intro pre i s hl hp hs; exact hk (by rw [hl, FY]; exact hp) s hs
  | cons y ys ih =>
   intro pre i s hl hp hs
   refine hb i y s _ (by rw [hl]; exact Gf _ (E4 ..)) hs (fun hP s' hs' => ?_)
   exact ih (pre ++ [y]) (i + 1) s' (by rw [hl]; simp) (fun x hx => by
    rcases FK.1 hx with hx | hx
    ·exact hp x hx
    ·simp at hx; subst hx; exact hP) hs'
 exact key l [] 0 s rfl (by simp) hs
theorem wL (s : ByteArray) (h : s.size ≤ maxLen) : Gd (bZ s) (fun _ => True) := by
 unfold bZ
 refine Gd.nd h (Gd.dJ (fun _ _ _ => True) (fun i y ys s n _ hn => ?_) (fun i s _ => Gd.ret EY) _ _ _ EY)
 unfold mz
 exact Gd.ite (fun _ => Gd.ret EY) (fun _ => hn _ EY)
theorem uE (l : List ByteArray) (p : ByteArray) : Gd (aZ l p) (fun r => (r = -1 ∧ p ∉ l) ∨ ∃ (k : Nat) (h : k < l.length), r = k ∧ l[k] = p) := by
 unfold aZ
 refine Gd.jK (fun m i _ => i + m = l.length ∧ p ∉ l.take i) ?_ ?_ (l.length : Int).toNat 0 () ⟨by omega, by simp⟩
 ·intro m i _ nx ⟨hi, hno⟩ hnx
  unfold gW
  refine Gd.jS (by omega) (Gd.ite (fun h => Gd.ret (.inr ⟨i, by omega, rfl, ?_⟩)) (fun h => hnx () ⟨by omega, ?_⟩))
  ·have : p = l[i] := by simpa using h
   exact this.symm
  ·rw [GV (by omega), FK, Gh]
   rintro (h' | h')
   ·exact hno h'
   ·simp [h'] at h
 ·intro i _ ⟨hi, hno⟩
  rw [FG (by omega)] at hno
  exact Gd.ret (.inl ⟨rfl, hno⟩)
theorem rG {l : List ByteArray} {p : ByteArray} (h : p ∈ l) : ∃ k : Nat, aZ l p = some (k : Int) ∧ ∃ hk : k < l.length, l[k] = p := by
 obtain ⟨r, hr, h2⟩ := uE l p
 rcases h2 with ⟨_, hno⟩ | ⟨k, hk, rfl, e⟩
 ·exact absurd h hno
 ·exact ⟨k, hr, hk, e⟩
theorem p7 (l : List ByteArray) (p : ByteArray) : Gd (dK l p) (fun b => b = true ↔ p ∈ l) := by
 unfold dK
 refine Gd.e_ (uE l p) (fun r hr => Gd.ret ?_)
 rcases hr with ⟨rfl, hno⟩ | ⟨k, hk, rfl, e⟩
 ·simp [hno]
 ·have : p ∈ l := e ▸ Gr _
  simp [this]
theorem ot (c : aK) (name : ByteArray) (nodes : List ByteArray) (h : name.size ≤ maxLen) :
  Gd (bO c name nodes) (fun r => r.1 = 0 → ∀ x ∈ nodes, x ∈ c.nodes) := by
 unfold bO
 refine Gd.e_ (wL name h) (fun a _ => Gd.ite (fun _ => Gd.ret (fun h => by simp at h)) (fun _ => Gd.ite (fun _ => Gd.ret (fun h => by simp at h)) (fun _ => ?_)))
 refine Gd.forAll (fun x => x ∈ c.nodes) (fun _ => True) ?_ ?_ () EY
 ·intro i y s n hy _ hn
  unfold dZ
  refine Gd.e_ (p7 c.nodes y) (fun b hb => Gd.ite (fun _ => Gd.ret (fun h => by simp at h)) (fun h => hn (hb.1 (by simpa using h)) _ EY))
 ·intro hall s _
  refine Gd.ite (fun h => ?_) (fun _ => Gd.ret (fun _ => hall))
  have h2 : nodes.length = 2 := by
   have : ((nodes.length : Nat) : Int) = 2 := by simpa using h
   omega
  have e1 : (0 : Int) = ((0 : Nat) : Int) := rfl
  have e2 : (1 : Int) = ((1 : Nat) : Int) := rfl
  rw [e1, e2]
  exact Gd.jS (by omega) (Gd.jS (by omega) (Gd.ite (fun _ => Gd.ret (fun h => by simp at h)) (fun _ => Gd.ret (fun _ => hall))))
structure oZ (n : Net) : Prop where
 nd : ∀ x ∈ n.bJ, x.size ≤ maxLen
 sw : ∀ x ∈ n.cC, x.Name.size ≤ maxLen
 br : ∀ x ∈ n.bE, x.Name.size ≤ maxLen
 gn : ∀ x ∈ n.eM, x.Name.size ≤ maxLen
 ld : ∀ x ∈ n.dA, x.Name.size ≤ maxLen
 st : ∀ x ∈ n.cI, x.Name.size ≤ maxLen
structure kD (n : Net) : Prop where
 l1 : n.bJ.length ≤ 24
 l2 : n.cC.length ≤ 32
 l3 : n.bE.length ≤ 24
 l4 : n.eM.length ≤ 10
 l5 : n.dA.length ≤ 12
 sw : ∀ x ∈ n.cC, x.A ∈ n.bJ ∧ x.B_ ∈ n.bJ
 br : ∀ x ∈ n.bE, x.gY ∈ n.bJ ∧ x.To ∈ n.bJ
 gn : ∀ x ∈ n.eM, x.Node ∈ n.bJ ∧ 0 ≤ x.cH ∧ x.cH ≤ x.eN ∧ x.eN ≤ 100000
 ld : ∀ x ∈ n.dA, x.Node ∈ n.bJ ∧ 0 ≤ x.bI ∧ x.bI ≤ 100000
theorem BY (c : aK) (n : Net) (hz : oZ n) :
  Gd (dQ c n) (fun r => r.1 = 0 → (∀ x ∈ n.eM, x.Node ∈ c.nodes ∧ 0 ≤ x.cH ∧ x.cH ≤ x.eN ∧ x.eN ≤ 100000) ∧ (∀ x ∈ n.dA, x.Node ∈ c.nodes ∧ 0 ≤ x.bI ∧ x.bI ≤ 100000)) := by
 unfold dQ
 refine Gd.forAll (fun x => x.Node ∈ c.nodes ∧ 0 ≤ x.cH ∧ x.cH ≤ x.eN ∧ x.eN ≤ 100000) (fun _ => True) ?_ ?_ _ EY
 ·intro i y s nx hy _ hn
  unfold eX
  refine Gd.e_ (ot _ _ _ (hz.gn y hy)) (fun r hr => Gd.ite (fun h => Gd.ret (fun h2 => absurd h2 (by simpa using h))) (fun h => Gd.ite (fun _ => Gd.ret (fun h2 => by simp at h2)) (fun h2 => hn ?_ _ EY)))
  have h0 : r.1 = 0 := by simpa using h
  have := hr h0 y.Node (by simp)
  simp [aP, bD] at h2
  exact ⟨this, by omega, by omega, by omega⟩
 ·intro hg s _
  refine Gd.forAll (fun x => x.Node ∈ c.nodes ∧ 0 ≤ x.bI ∧ x.bI ≤ 100000) (fun _ => True) ?_ ?_ _ EY
  ·intro i y s nx hy _ hn
   unfold eY
   refine Gd.e_ (ot _ _ _ (hz.ld y hy)) (fun r hr => Gd.ite (fun h => Gd.ret (fun h2 => absurd h2 (by simpa using h))) (fun h => Gd.ite (fun _ => Gd.ret (fun h2 => by simp at h2)) (fun h2 => hn ?_ _ EY)))
   have h0 : r.1 = 0 := by simpa using h
   have := hr h0 y.Node (by simp)
   simp [aP, bD] at h2
   exact ⟨this, by omega, by omega⟩
  ·intro hl s _
   refine Gd.forAll (fun _ => True) (fun _ => True) ?_ ?_ _ EY
   ·intro i y s nx hy _ hn
    unfold eZ
    refine Gd.e_ (ot _ _ _ (hz.st y hy)) (fun r hr => Gd.ite (fun h => Gd.ret (fun h2 => absurd h2 (by simpa using h))) (fun h => Gd.ite (fun _ => Gd.ret (fun h2 => by simp at h2)) (fun _ => hn EY _ EY)))
   ·intro _ s _
    exact Gd.ret fun _ => ⟨hg, hl⟩
theorem Ag (n : Net) (hz : oZ n) : Gd (cM n) (fun e => e = 0 → kD n) := by
 unfold cM
 refine Gd.ite (fun _ => Gd.ret (fun h => by simp at h)) (fun hl => ?_)
 simp only [J1, KX, Int.not_lt] at hl
 refine Gd.forAll (fun _ => True) (fun _ => True) ?_ ?_ _ EY
 ·intro i y s nx hy _ hn
  unfold iS
  exact Gd.e_ (ot _ _ _ (hz.nd y hy)) (fun r hr => Gd.ite (fun h => Gd.ret (fun h2 => absurd h2 (by simpa using h))) (fun h => hn EY _ EY))
 intro _ s _
 refine Gd.forAll (fun x => x.A ∈ n.bJ ∧ x.B_ ∈ n.bJ) (fun _ => True) ?_ ?_ _ EY
 ·intro i y s nx hy _ hn
  unfold iT
  refine Gd.e_ (ot _ _ _ (hz.sw y hy)) (fun r hr => Gd.ite (fun h => Gd.ret (fun h2 => absurd h2 (by simpa using h))) (fun h => hn ?_ _ EY))
  have h0 : r.1 = 0 := by simpa using h
  exact ⟨hr h0 y.A (by simp), hr h0 y.B_ (by simp)⟩
 intro hsw s _
 refine Gd.forAll (fun x => x.gY ∈ n.bJ ∧ x.To ∈ n.bJ) (fun _ => True) ?_ ?_ _ EY
 ·intro i y s nx hy _ hn
  unfold iU
  refine Gd.e_ (ot _ _ _ (hz.br y hy)) (fun r hr => Gd.ite (fun h => Gd.ret (fun h2 => absurd h2 (by simpa using h))) (fun h => Gd.ite (fun h => Gd.ret (fun h2 => absurd h2 (by simpa using h))) (fun _ => hn ?_ _ EY)))
  have h0 : r.1 = 0 := by simpa using h
  exact ⟨hr h0 y.gY (by simp), hr h0 y.To (by simp)⟩
 intro hbr s _
 refine Gd.e_ (BY _ n hz) (fun r hr => Gd.ret (fun h => ?_))
 obtain ⟨hg, hl2⟩ := hr h
 exact ⟨by omega, by omega, by omega, by omega, by omega, hsw, hbr, hg, hl2⟩
def vG (N : Nat) (l : List bK) : Prop := ∀ e ∈ l, 0 ≤ e.a0 ∧ e.a0 < N ∧ 0 ≤ e.a1 ∧ e.a1 < N
structure rL (N : Nat) (many : Int) (out : List Int) : Prop where
 len : out.length = N
 BC : ∀ v ∈ out, -1 ≤ v ∧ v < many
def sY (N : Nat) (l : List Int) : Prop := ∀ a ∈ l, 0 ≤ a ∧ a < (N : Int)
def mB (out : List Int) : Nat := out.countP (fun v => decide (v < 0))
theorem rL.set {N : Nat} {many : Int} {out : List Int} (h : rL N many out) {v : Int} (hv : 0 ≤ v ∧ v < many) (i : Nat) : rL N many (out.set i v) :=
 ⟨by simp [h.len], fun x hx => by
  rcases Kj hx with hx | rfl
  ·exact h.BC x hx
  ·omega⟩
theorem wJ {out : List Int} {i : Nat} (hi : i < out.length) (hn : out[i] < 0) {v : Int} (hv : 0 ≤ v) : mB (out.set i v) + 1 = mB out := by
 unfold mB
 rw [List.countP_set hi]
 have h1 : decide (out[i] < 0) = true := decide_eq_true hn
 have h2 : decide (v < 0) = false := KW (by omega)
 rw [h1, h2]
 have hpos : 0 < out.countP (fun v => decide (v < 0)) := List.countP_pos_iff.2 ⟨_, Gr hi, h1⟩
 simp
 omega
def rl (a b : List Int) : Prop := ∀ (i : Nat) (v : Int), a[i]? = some v → 0 ≤ v → ∃ w, b[i]? = some w ∧ 0 ≤ w
theorem rl.refl (a : List Int) : rl a a := fun i v h h0 => ⟨v, h, h0⟩
theorem rl.set {a b : List Int} (h : rl a b) (i : Nat) {v : Int} (hv : 0 ≤ v) : rl a (b.set i v) := by
 intro j w hj hw
 obtain ⟨u, hu, hu0⟩ := h j w hj hw
 by_cases e : i = j
 ·subst e
  exact ⟨v, by simp [(ET.1 hu).1], hv⟩
 ·exact ⟨u, by rw [Fz e]; exact hu, hu0⟩
theorem A8 (N : Nat) (hN : N ≤ 24) (l : List bK) (hl : vG N l) (hll : l.length ≤ 64) (wo : Int) : Gd (kt N l wo) (fun r => r.length = N ∧ ∀ v ∈ r, 0 ≤ v ∧ v < N) := by
 unfold kt
 refine Gd.nd ⟨rfl, by omega, by omega⟩ (Gd.nd (by omega) ?_)
 rw [qJ]
 refine Gd.jK (fun m i s => i + m = N ∧ 0 ≤ s.2 ∧ s.2 ≤ (i : Int) ∧ rL N s.2 s.1 ∧ ∀ (j : Nat) (v : Int), j < i → s.1[j]? = some v → 0 ≤ v) ?_ ?_ (N : Int).toNat 0 (List.replicate N (-1), 0) ⟨by omega, by simp, by simp, ⟨by simp, by simp⟩, by simp⟩
 ·rintro m i ⟨out, many⟩ nx ⟨hi, h0, hmi, hp, hk⟩ hn
  simp only at h0 hmi hp hk
  have hilt : i < out.length := by rw [hp.len]; omega
  unfold lj
  refine Gd.jS hilt (Gd.ite (fun h => ?_) (fun h => ?_))
  ·have hge : 0 ≤ out[i] := by simpa using h
   unfold fH
   refine hn _ ⟨by omega, h0, by show many ≤ ((i + 1 : Nat) : Int); omega, hp, fun j v hj hv => ?_⟩
   by_cases e : j = i
   ·subst e
    rw [EZ hilt] at hv
    cases hv; exact hge
   ·exact hk j v (by omega) hv
  ·have hneg : out[i] < 0 := by simpa using h
   refine Gd.jS hilt ?_
   rw [E1]
   have hw : i64.wrap (many + 1) = many + 1 := bN ⟨by omega, by omega⟩
   have hp1 : rL N (many + 1) out := ⟨hp.len, fun v hv => by have := hp.BC v hv; omega⟩
   have hbase0 : 2 * mB (out.set i many) + [(i : Int)].length ≤ 2 * N + 1 := by
    have hc : mB (out.set i many) ≤ N := by unfold mB; rw [← hp.len, ← Fj (as := out) (i := i) (a := many)]; exact HT
    simp only [F2]; omega
   refine Gd.gC (fun (s : List Int × List Int) => rL N (many + 1) s.1 ∧ rl (out.set i many) s.1 ∧ sY N s.2 ∧ 2 * mB s.1 + s.2.length ≤ 2 * N + 1) (fun s => 2 * mB s.1 + s.2.length) ?_ fR _ ⟨hp1.set ⟨h0, by omega⟩ i, rl.refl _, by intro a ha; simp at ha; omega, hbase0⟩ ?_
   ·rintro ⟨o, todo⟩ nx2 ⟨hq, hkp, htd, htot⟩ hn2
    simp only at hq hkp htd htot
    unfold ln
    refine Gd.ite (fun hne => ?_) (fun _ => ?_)
    ·have hne : 0 < todo.length := by
      have : (0 : Int) < ((todo.length : Nat) : Int) := by simpa using hne
      omega
     obtain ⟨at_, ts, rfl⟩ : ∃ a ts, todo = a :: ts := by
      cases todo with
      | nil => simp at hne
      | cons a ts => exact ⟨a, ts, rfl⟩
     refine Gd.ix (y := at_) (by decide) rfl (Gd.nd ⟨by omega, by simp only [Fw]; omega⟩ ?_)
     have hat := htd at_ (E4 ..)
     have hsl : qk (at_ :: ts) (1 : Int).toNat (at_ :: ts).length = ts := by
      unfold qk
      rw [show (1 : Int).toNat = 1 from rfl, JQ, G5, FG (by simp)]
     rw [hsl]
     simp only [Fw] at htot
     have push : ∀ (b : List Int) (td : List Int) (q : Int) (nn : (List Int × List Int) → Option (List Int)), 0 ≤ q → q < N → rL N (many + 1) b → rl (out.set i many) b → sY N td → 2 * mB b + td.length ≤ 2 * mB o + ts.length →
       (∀ s', (rL N (many + 1) s'.1 ∧ rl (out.set i many) s'.1 ∧ sY N s'.2 ∧ 2 * mB s'.1 + s'.2.length ≤ 2 * mB o + ts.length) → Gd (nn s') (fun r => r.length = N ∧ ∀ v ∈ r, 0 ≤ v ∧ v < N)) →
       Gd (Sim.idx b q fun y7689 => if decide (y7689 < 0) then (Sim.idx b q fun y7694 => dL ((td.length + ([q]).length) * 8 ≤ 140737488355328) (cN nn (b.set (q : Int).toNat many) (td ++ ([q])))) else (cN nn b td)) (fun r => r.length = N ∧ ∀ v ∈ r, 0 ≤ v ∧ v < N) := by
      intro b td q nn q0 qN hb hkb htd2 hms hnn
      have hql : q.toNat < b.length := by rw [hb.len]; omega
      have hget : b[q.toNat]? = some b[q.toNat] := EZ hql
      unfold cN
      refine Gd.ix q0 hget (Gd.ite (fun h => Gd.ix q0 hget (Gd.nd ?_ (hnn _ ⟨hb.set ⟨h0, by omega⟩ _, hkb.set _ h0, ?_, ?_⟩))) (fun h => hnn _ ⟨hb, hkb, htd2, hms⟩))
      ·have h1 : b[q.toNat] < 0 := by simpa using h
       have hc : mB o ≤ N := by unfold mB; rw [← hq.len]; exact HT
       simp
       omega
      ·intro a ha
       rcases FK.1 ha with ha | ha
       ·exact htd2 a ha
       ·simp at ha; omega
      ·have h1 : b[q.toNat] < 0 := by simpa using h
       have := wJ hql h1 h0
       simp
       omega
     have hc : mB o ≤ N := by unfold mB; rw [← hq.len]; exact HT
     ·refine Gd.forAll (fun _ => True) (fun (s : List Int × List Int) => rL N (many + 1) s.1 ∧ rl (out.set i many) s.1 ∧ sY N s.2 ∧ 2 * mB s.1 + s.2.length ≤ 2 * mB o + ts.length) ?_ ?_ _ ⟨hq, hkp, (fun a ha => htd a (Fc _ ha) : sY N ts), FA (2 * mB o + ts.length)⟩
      ·rintro k e ⟨b, td⟩ nn he ⟨hb, hkb, htd2, hms⟩ hnn
       simp only at hb hkb htd2 hms
       obtain ⟨e1, e2, e3, e4⟩ := hl e he
       have hw1 : i64.wrap (e.a0 + e.a1) = e.a0 + e.a1 := bN ⟨by omega, by omega⟩
       have hw2 : i64.wrap (e.a0 + e.a1 - at_) = e.a0 + e.a1 - at_ := bN ⟨by omega, by omega⟩
       unfold lq
       rw [hw1, hw2]
       refine Gd.ite (fun _ => hnn EY _ ⟨hb, hkb, htd2, hms⟩) (fun _ => Gd.ite (fun h => ?_) (fun _ => Gd.ite (fun _ => hnn EY _ ⟨hb, hkb, htd2, hms⟩) (fun h => ?_)))
       ·have h : e.a0 = at_ := by simpa using h
        exact push b td _ nn (by omega) (by omega) hb hkb htd2 hms (fun s' hs' => hnn EY s' hs')
       ·have h : e.a1 = at_ := by simpa using h
        exact push b td _ nn (by omega) (by omega) hb hkb htd2 hms (fun s' hs' => hnn EY s' hs')
      ·rintro _ ⟨b, td⟩ ⟨hb, hkb, htd2, hms⟩
       simp only at hb hkb htd2 hms
       exact hn2 _ ⟨hb, hkb, htd2, by show 2 * mB b + td.length ≤ 2 * N + 1; omega⟩ (by simp only [Fw]; omega)
    ·unfold fH
     rw [hw]
     refine hn _ ⟨by omega, by show (0 : Int) ≤ many + 1; omega, by show many + 1 ≤ ((i + 1 : Nat) : Int); omega, hq, fun j v hj hv => ?_⟩
     have hjl : j < out.length := by omega
     have hbase : ∃ w, (out.set i many)[j]? = some w ∧ 0 ≤ w := by
      by_cases e : i = j
      ·subst e; exact ⟨many, by simp [hilt], h0⟩
      ·exact ⟨out[j], by rw [Fz e]; exact EZ hjl, hk j _ (by omega) (EZ hjl)⟩
     obtain ⟨w, hw1, hw0⟩ := hbase
     obtain ⟨u, hu, hu0⟩ := hkp j w hw1 hw0
     simp only at hv
     rw [hu] at hv; cases hv; exact hu0
   ·refine Im hbase0 ?_
    unfold fR; omega
 ·rintro i ⟨out, many⟩ ⟨hi, h0, hmi, hp, hk⟩
  simp only at h0 hmi hp hk
  refine Gd.ret ⟨hp.len, fun v hv => ?_⟩
  obtain ⟨j, hj, hje⟩ := Gv.1 hv
  have hj : j < out.length := hj
  have h1 := hp.BC v hv
  have h2 := hk j v (by have := hp.len; omega) (by rw [EZ hj]; exact Fl some hje)
  omega
theorem uC (N : Nat) (hN : N ≤ 24) (l : List bK) (hl : vG N l) (hll : l.length ≤ 64) : mc N l = some 0 := by
 rw [← Gd.eq]
 unfold mc
 refine Gd.ite (fun h => ?_) (fun _ => Gd.forAll (Q := fun x => x = 0) (fun _ => True) (fun _ => True) ?_ (fun _ _ _ => Gd.ret rfl) _ EY)
 ·simp at h; omega
 ·intro i e s n he _ hn
  obtain ⟨e1, e2, e3, e4⟩ := hl e he
  unfold nt
  exact Gd.ite (fun h => by simp at h; omega) (fun _ => Gd.ite (fun h => by simp at h; omega) (fun _ => Gd.ite (fun h => by simp at h; omega) (fun _ => Gd.ite (fun h => by simp at h; omega) (fun _ => hn EY _ EY))))
theorem Ai (N : Nat) (hN : N ≤ 24) (l : List bK) (hl : vG N l) (hll : l.length ≤ 64) : Gd (eT N l) (fun r => r.1.length = N ∧ sY N r.1) := by
 unfold eT
 refine Gd.bind_eq (uC N hN l hl hll) (Gd.ite (fun h => by simp at h) (fun _ => Gd.e_ (A8 N hN l hl hll (-1)) (fun r hr => Gd.ret hr)))
theorem Az (n : Net) (hn : kD n) (o : Bool) : Gd (k4 n o) (fun r => r.1.length ≤ 32 ∧ vG n.bJ.length r.1) := by
 unfold k4
 refine Gd.dJ (fun i ys s => i + ys.length = n.cC.length ∧ (∀ y ∈ ys, y ∈ n.cC) ∧ s.1.length ≤ i ∧ s.2.length ≤ i ∧ vG n.bJ.length s.1) ?_ ?_ _ _ _ ⟨by simp, fun _ h => h, by simp, by simp, by intro e he; simp at he⟩
 ·rintro i y ys ⟨a, b⟩ nx ⟨hi, hm, ha, hb, he⟩ hnx
  simp only [Fw] at hi ha hb he
  have h2 := hn.l2
  have hys : ∀ z ∈ ys, z ∈ n.cC := fun z hz => hm z (Fc _ hz)
  unfold mA jH
  refine Gd.ite (fun _ => ?_) (fun _ => hnx _ ⟨by omega, hys, by simp only; omega, by simp only; omega, he⟩)
  obtain ⟨h1, h2'⟩ := hn.sw y (hm y (E4 ..))
  obtain ⟨p, hp, hpl, _⟩ := rG h1
  obtain ⟨q, hq, hql, _⟩ := rG h2'
  refine Gd.bind_eq hp (Gd.bind_eq hq (Gd.nd (by simp; omega) (Gd.nd (by simp; omega) (hnx _ ⟨by omega, hys, by simp; omega, by simp; omega, ?_⟩))))
  intro e hme
  rcases FK.1 hme with hme | hme
  ·exact he e hme
  ·simp at hme; subst hme
   exact ⟨by simp only; omega, by simp only; omega, by simp only; omega, by simp only; omega⟩
 ·rintro i ⟨a, b⟩ ⟨hi, hm, ha, hb, he⟩
  have h2 := hn.l2
  simp only [Kh] at hi ha
  exact Gd.ret ⟨by simp only; omega, he⟩
theorem Af (n : Net) (hn : kD n) : Gd (jR n) (fun r => r.length = n.bJ.length ∧ sY n.bJ.length r) := by
 unfold jR
 refine Gd.e_ (Az n hn false) (fun r hr => ?_)
 have h1 := hn.l1
 exact Gd.e_ (Ai n.bJ.length hn.l1 r.1 hr.2 (by omega)) (fun r hr => Gd.ret hr)
structure Et (n : Net) (t : aN) : Prop where
 bl : t.iW.length = n.bJ.length
 bi : sY t.aW.length t.iW
 ii : sY t.aW.length t.aW
 il : t.aW.length ≤ 24
theorem Cg {R : Type} {Q : R → Prop} (N : Nat) (hN : N ≤ 24) (body : Nat → Int → Int → (Int → Option R) → Option R) (hb : ∀ k y n nx, body k y n nx = nx (max n (i64.wrap (y + 1)))) (K : Int → Option R) (l : List Int) (hl : sY N l)
  (hk : ∀ m : Nat, m ≤ N → sY m l → Gd (K (m : Int)) Q) : Gd (dJ body K 0 l 0) Q := by
 have key : ∀ (ys pre : List Int) (i m : Nat), l = pre ++ ys → m ≤ N → sY m pre → Gd (dJ body K i ys (m : Int)) Q := by
  intro ys
  induction ys with
  | nil => intro pre i m e hm hp; rw [FY] at e; subst e; exact hk m hm hp
  | cons y ys ih =>
   intro pre i m e hm hp
   have hy := hl y (by rw [e]; exact Gf _ (E4 ..))
   show Gd (body i y (m : Int) (fun s => dJ body K (i + 1) ys s)) Q
   rw [hb, bN ⟨by omega, by omega⟩]
   have hmx : max (m : Int) (y + 1) = ((max m (y + 1).toNat : Nat) : Int) := by omega
   rw [hmx]
   refine ih (pre ++ [y]) (i + 1) _ (by rw [e]; simp) (by omega) (fun a ha => ?_)
   rcases FK.1 ha with ha | ha
   ·have := hp a ha; omega
   ·simp at ha; subst ha; omega
 have := key l [] 0 0 rfl (by omega) (by intro a ha; simp at ha)
 exact this
abbrev BA := ByteArray
abbrev Seen := List (ByteArray × Bool)
theorem AX (l : List (ByteArray × Bool)) (k k' : ByteArray) : (lX (oV l k true) k').getD false = ((lX l k').getD false || decide (k = k')) := by
 have key : ∀ (l : List (ByteArray × Bool)) (i : Nat) , (∀ p, pR l k' i = some p → pR (l ++ [(k, true)]) k' i = some p) ∧ (pR l k' i = none → pR (l ++ [(k, true)]) k' i = if k = k' then some (i + l.length, true) else none) := by
  intro l
  induction l with
  | nil => intro i; refine ⟨fun p h => by simp [pR] at h, fun _ => ?_⟩; simp [pR]
  | cons q l ih =>
   obtain ⟨a, b⟩ := q
   intro i
   simp only [Hu, pR]
   by_cases h : a = k'
   ·simp [h]
   ·simp only [h, Ha]
    refine ⟨(ih (i + 1)).1, fun hn => ?_⟩
    rw [(ih (i + 1)).2 hn]
    simp; split
    ·simp; omega
    ·rfl
 have set_ne : ∀ (l : List (ByteArray × Bool)) (i j : Nat) (v : Bool), pR l k i = some (j, v) → lX (l.set (j - i) (k, true)) k' = if k = k' then some true else lX l k' := by
  intro l
  unfold lX
  have : ∀ (l : List (ByteArray × Bool)) (i j : Nat) (v : Bool) (q : Nat), pR l k i = some (j, v) → ((pR (l.set (j - i) (k, true)) k' q).map (·.2)) = if k = k' then some true else (pR l k' q).map (·.2) := by
   intro l
   induction l with
   | nil => intro i j v q h; simp [pR] at h
   | cons p l ih =>
    obtain ⟨a, b⟩ := p
    intro i j v q h
    simp only [pR] at h
    split at h
    ·rename_i e
     simp only [FR, IJ] at h
     obtain ⟨rfl, rfl⟩ := h
     subst e
     rw [GC, List.set_cons_zero]
     simp only [pR]
     by_cases e : a = k' <;> simp [e]
    ·rename_i e
     obtain ⟨h1, h2, _⟩ := xG h
     rw [show j - i = (j - (i + 1)) + 1 by omega, List.set_cons_succ]
     simp only [pR]
     have := ih (i + 1) j v (q + 1) h
     by_cases e2 : a = k'
     ·subst e2
      have hk : k ≠ a := fun x => e x.symm
      simp [hk]
     ·simp only [e2, Ha]; exact this
  intro i j v h
  exact this l i j v 0 h
 unfold oV
 cases h : pR l k 0 with
 | none =>
  simp only
  unfold lX
  cases h2 : pR l k' 0 with
  | none =>
   rw [(key l 0).2 h2]
   by_cases e : k = k' <;> simp [e]
  | some p =>
   rw [(key l 0).1 p h2]
   by_cases e : k = k'
   ·subst e; rw [h] at h2; cases h2
   ·simp [e]
 | some p =>
  obtain ⟨j, v⟩ := p
  simp only
  have := set_ne l 0 j v h
  rw [Jm] at this
  rw [this]
  by_cases e : k = k' <;> simp [e]
def kO (P : List BA) (s : Seen) : Prop := ∀ k : BA, (lX s k).getD false = true ↔ k ∈ P
theorem kO.nil : kO [] ([] : Seen) := fun k => by simp [lX, pR]
theorem kO.put {P : List BA} {s : Seen} (h : kO P s) (k : BA) : kO (P ++ [k]) (oV s k true) := fun k' => by
 rw [AX, G0, h k', FK, Gh, Gi]
 exact or_congr Iff.rfl ⟨fun e => e.symm, fun e => e.symm⟩
structure DC (ns P : List BA) (name : BA) (nodes : List BA) : Prop where
 nm : bZ name = some true
 nw : name ∉ P
 at_ : ∀ x ∈ nodes, x ∈ ns
 two : ∀ a b, nodes = [a, b] → a ≠ b
theorem oo {c : aK} {P : List BA} (hs : kO P c.seen) {name : BA} (nodes : List BA) (h : name.size ≤ maxLen) :
  Gd (bO c name nodes) (fun r => r.1 = 0 → DC c.nodes P name nodes ∧ kO (P ++ [name]) r.2.seen) := by
 unfold bO
 obtain ⟨b, hb, _⟩ := wL name h
 refine Gd.bind_eq hb (Gd.ite (fun _ => Gd.ret (fun h => by simp at h)) (fun hbt => Gd.ite (fun _ => Gd.ret (fun h => by simp at h)) (fun hsn => ?_)))
 have hbt : b = true := by simpa using hbt
 subst hbt
 have hnw : name ∉ P := fun hm => by rw [(hs name).2 hm] at hsn; cases hsn
 refine Gd.forAll (fun x => x ∈ c.nodes) (fun _ => True) ?_ ?_ () EY
 ·intro i y s n hy _ hn
  unfold dZ
  refine Gd.e_ (p7 c.nodes y) (fun b hb => Gd.ite (fun _ => Gd.ret (fun h => by simp at h)) (fun h => hn (hb.1 (by simpa using h)) _ EY))
 ·intro hall s _
  refine Gd.ite (fun h => ?_) (fun h2 => Gd.ret (fun _ => ⟨⟨hb, hnw, hall, fun a b e => ?_⟩, hs.put name⟩))
  ·have h2 : nodes.length = 2 := by
    have : ((nodes.length : Nat) : Int) = 2 := by simpa using h
    omega
   obtain ⟨a, b, rfl⟩ : ∃ a b, nodes = [a, b] := by
    match nodes, h2 with
    | [a, b], _ => exact ⟨a, b, rfl⟩
   refine Gd.ix (y := a) (by decide) rfl (Gd.ix (y := b) (by decide) rfl (Gd.ite (fun _ => Gd.ret (fun h => by simp at h)) (fun hne => Gd.ret (fun _ => ⟨⟨hb, hnw, hall, fun p q e => ?_⟩, hs.put name⟩))))
   have hne : a ≠ b := by simpa using hne
   simp at e
   rw [← e.1, ← e.2]; exact hne
  ·subst e
   simp at h2
theorem pF {c : aK} {P : List BA} (hs : kO P c.seen) {name : BA} {nodes : List BA} (h : DC c.nodes P name nodes) :
  bO c name nodes = some (0, ⟨oV c.seen name true, c.nodes⟩) := by
 rw [← Gd.eq]
 unfold bO
 refine Gd.bind_eq h.nm (Gd.ite (fun h => by simp at h) (fun _ => Gd.ite (fun hsn => absurd ((hs name).1 hsn) h.nw) (fun _ => ?_)))
 refine Gd.forAll (fun _ => True) (fun _ => True) ?_ ?_ () EY
 ·intro i y s n hy _ hn
  unfold dZ
  refine Gd.e_ (p7 c.nodes y) (fun b hb => Gd.ite (fun hn2 => ?_) (fun _ => hn EY _ EY))
  have := hb.2 (h.at_ y hy)
  simp [this] at hn2
 ·intro _ s _
  refine Gd.ite (fun h2 => ?_) (fun _ => Gd.ret rfl)
  have h2 : nodes.length = 2 := by
   have : ((nodes.length : Nat) : Int) = 2 := by simpa using h2
   omega
  obtain ⟨a, b, rfl⟩ : ∃ a b, nodes = [a, b] := by
   match nodes, h2 with
   | [a, b], _ => exact ⟨a, b, rfl⟩
  have hne := h.two a b rfl
  exact Gd.ix (y := a) (by decide) rfl (Gd.ix (y := b) (by decide) rfl (Gd.ite (fun e => absurd (by simpa using e) hne) (fun _ => Gd.ret rfl)))
def names (n : Net) : List BA := n.bJ ++ n.cC.map (·.Name) ++ n.bE.map (·.Name) ++ n.eM.map (·.Name) ++ n.dA.map (·.Name) ++ n.cI.map (·.Name)
theorem ov {R α : Type} {Q : R → Prop} {body : Nat → α → Seen → (Seen → Option R) → Option R} {k : Seen → Option R} {l : List α} (nm : α → BA) (P : List BA)
  (hb : ∀ (i : Nat) (y : α) (s : Seen) (n : Seen → Option R) (pre : List α), (∃ post, l = pre ++ y :: post) → kO (P ++ pre.map nm) s → Gd (n (oV s (nm y) true)) Q → Gd (body i y s n) Q) (hk : ∀ s, kO (P ++ l.map nm) s → Gd (k s) Q) (s : Seen) (hs : kO P s) : Gd (dJ body k 0 l s) Q := by
 refine Gd.seen (fun pre s => kO (P ++ pre.map nm) s) ?_ hk s (by simpa using hs)
 intro i y s n pre hpre hs hn
 refine hb i y s n pre hpre hs (hn _ ?_)
 have := hs.put (nm y)
 rw [GK, ← FT]; exact this
theorem ni {R α : Type} {Q : R → Prop} {body : Nat → α → Seen → (Seen → Option R) → Option R} {k : Seen → Option R} {l : List α} (nm : α → BA) (P : List BA) (C : α → Prop)
  (hb : ∀ (i : Nat) (y : α) (s : Seen) (n : Seen → Option R) (pre : List α), y ∈ l → kO (P ++ pre.map nm) s → (nm y ∉ P ++ pre.map nm → C y → ∀ s', kO (P ++ pre.map nm ++ [nm y]) s' → Gd (n s') Q) → Gd (body i y s n) Q)
  (hk : ∀ s, kO (P ++ l.map nm) s → (∀ x ∈ l, C x) → (P.Nodup → (P ++ l.map nm).Nodup) → Gd (k s) Q) (s : Seen) (hs : kO P s) : Gd (dJ body k 0 l s) Q := by
 refine Gd.seen (fun pre s => kO (P ++ pre.map nm) s ∧ (∀ x ∈ pre, C x) ∧ (P.Nodup → (P ++ pre.map nm).Nodup)) ?_ (fun s h => hk s h.1 h.2.1 h.2.2) s ⟨by simpa using hs, by simp, fun h => by simpa using h⟩
 rintro i y s n pre hpre ⟨h1, h2, h3⟩ hn
 refine hb i y s n pre (pz hpre).2.1 h1 (fun hnew hC s' hs' => hn s' ⟨by rw [GK, ← FT]; exact hs', fun x hx => ?_, fun hP => ?_⟩)
 ·rcases FK.1 hx with hx | hx
  ·exact h2 x hx
  ·simp at hx; subst hx; exact hC
 ·rw [GK, ← FT, GI]
  refine ⟨h3 hP, by simp, fun a ha b hb => ?_⟩
  simp at hb; subst hb
  intro e; subst e; exact hnew ha
def wv (g : dB) : Bool := !(((!(aP g.cH)) || (bD g.eN g.cH 100000)) || (!(aP g.rM)))
def uK (s : fG) : Bool := !(((!(aP s.kr)) || (!(aP s.Discharge))) || (!(aP s.l8)))
structure oS (n : Net) : Prop where
 l1 : n.bJ.length ≤ 24
 l2 : n.cC.length ≤ 32
 l3 : n.bE.length ≤ 24
 l4 : n.eM.length ≤ 10
 l5 : n.dA.length ≤ 12
 l6 : n.cI.length ≤ 4
 nd : (names n).Nodup
 vn : ∀ x ∈ n.bJ, bZ x = some true
 vs : ∀ x ∈ n.cC, bZ x.Name = some true ∧ x.A ∈ n.bJ ∧ x.B_ ∈ n.bJ ∧ x.A ≠ x.B_
 vb : ∀ x ∈ n.bE, bZ x.Name = some true ∧ x.gY ∈ n.bJ ∧ x.To ∈ n.bJ ∧ x.gY ≠ x.To ∧ fK x = 0
 vg : ∀ x ∈ n.eM, bZ x.Name = some true ∧ x.Node ∈ n.bJ ∧ wv x = true
 vl : ∀ x ∈ n.dA, bZ x.Name = some true ∧ x.Node ∈ n.bJ ∧ aP x.bI = true
 vt : ∀ x ∈ n.cI, bZ x.Name = some true ∧ x.Node ∈ n.bJ ∧ uK x = true
theorem check_sound (n : Net) (hz : oZ n) : Gd (cM n) (fun e => e = 0 → oS n) := by
 unfold cM
 refine Gd.ite (fun _ => Gd.ret (fun h => by simp at h)) (fun hl => ?_)
 simp only [J1, KX, Int.not_lt] at hl
 refine ni (id : BA → BA) [] (fun x => bZ x = some true) ?_ ?_ _ kO.nil
 ·intro i y s nx pre hy hs hn
  unfold iS
  exact Gd.e_ (oo (c := ⟨s, n.bJ⟩) hs [] (hz.nd y hy)) (fun r hr => Gd.ite (fun h => Gd.ret (fun h2 => absurd h2 (by simpa using h))) (fun h => by
   obtain ⟨h1, h2⟩ := hr (by simpa using h)
   exact hn h1.nw h1.nm _ h2))
 intro s hs hvn hnd1
 simp only [List.map_id, He] at hs hnd1
 refine ni (fun x : dE => x.Name) _ (fun x => bZ x.Name = some true ∧ x.A ∈ n.bJ ∧ x.B_ ∈ n.bJ ∧ x.A ≠ x.B_) ?_ ?_ _ hs
 ·intro i y s nx pre hy hs hn
  unfold iT
  exact Gd.e_ (oo (c := ⟨s, n.bJ⟩) hs [y.A, y.B_] (hz.sw y hy)) (fun r hr => Gd.ite (fun h => Gd.ret (fun h2 => absurd h2 (by simpa using h))) (fun h => by
   obtain ⟨h1, h2⟩ := hr (by simpa using h)
   exact hn h1.nw ⟨h1.nm, h1.at_ _ (by simp), h1.at_ _ (by simp), h1.two _ _ rfl⟩ _ h2))
 intro s hs hvs hnd2
 refine ni (fun x : cA => x.Name) _ (fun x => bZ x.Name = some true ∧ x.gY ∈ n.bJ ∧ x.To ∈ n.bJ ∧ x.gY ≠ x.To ∧ fK x = 0) ?_ ?_ _ hs
 ·intro i y s nx pre hy hs hn
  unfold iU
  exact Gd.e_ (oo (c := ⟨s, n.bJ⟩) hs [y.gY, y.To] (hz.br y hy)) (fun r hr => Gd.ite (fun h => Gd.ret (fun h2 => absurd h2 (by simpa using h))) (fun h => Gd.ite (fun h3 => Gd.ret (fun h2 => absurd h2 (by simpa using h3))) (fun h3 => by
   obtain ⟨h1, h2⟩ := hr (by simpa using h)
   exact hn h1.nw ⟨h1.nm, h1.at_ _ (by simp), h1.at_ _ (by simp), h1.two _ _ rfl, by simpa using h3⟩ _ h2)))
 intro s hs hvb hnd3
 refine Gd.e_ (P := fun r => r.1 = 0 → (∀ x ∈ n.eM, bZ x.Name = some true ∧ x.Node ∈ n.bJ ∧ wv x = true) ∧ (∀ x ∈ n.dA, bZ x.Name = some true ∧ x.Node ∈ n.bJ ∧ aP x.bI = true) ∧
  (∀ x ∈ n.cI, bZ x.Name = some true ∧ x.Node ∈ n.bJ ∧ uK x = true) ∧ (names n).Nodup) ?_ (fun r hr => Gd.ret (fun h => by
   obtain ⟨a, b, c, d⟩ := hr h
   exact ⟨by omega, by omega, by omega, by omega, by omega, by omega, d, hvn, hvs, hvb, a, b, c⟩))
 unfold dQ
 refine ni (fun x : dB => x.Name) _ (fun x => bZ x.Name = some true ∧ x.Node ∈ n.bJ ∧ wv x = true) ?_ ?_ _ hs
 ·intro i y s nx pre hy hs hn
  unfold eX
  exact Gd.e_ (oo (c := ⟨s, n.bJ⟩) hs [y.Node] (hz.gn y hy)) (fun r hr => Gd.ite (fun h => Gd.ret (fun h2 => absurd h2 (by simpa using h))) (fun h => Gd.ite (fun _ => Gd.ret (fun h2 => by simp at h2)) (fun h3 => by
   obtain ⟨h1, h2⟩ := hr (by simpa using h)
   exact hn h1.nw ⟨h1.nm, h1.at_ _ (by simp), by unfold wv; rw [h3]; rfl⟩ _ h2)))
 intro s hs hvg hnd4
 refine ni (fun x : cB => x.Name) _ (fun x => bZ x.Name = some true ∧ x.Node ∈ n.bJ ∧ aP x.bI = true) ?_ ?_ _ hs
 ·intro i y s nx pre hy hs hn
  unfold eY
  exact Gd.e_ (oo (c := ⟨s, n.bJ⟩) hs [y.Node] (hz.ld y hy)) (fun r hr => Gd.ite (fun h => Gd.ret (fun h2 => absurd h2 (by simpa using h))) (fun h => Gd.ite (fun _ => Gd.ret (fun h2 => by simp at h2)) (fun h3 => by
   obtain ⟨h1, h2⟩ := hr (by simpa using h)
   exact hn h1.nw ⟨h1.nm, h1.at_ _ (by simp), by simpa using h3⟩ _ h2)))
 intro s hs hvl hnd5
 refine ni (fun x : fG => x.Name) _ (fun x => bZ x.Name = some true ∧ x.Node ∈ n.bJ ∧ uK x = true) ?_ ?_ _ hs
 ·intro i y s nx pre hy hs hn
  unfold eZ
  exact Gd.e_ (oo (c := ⟨s, n.bJ⟩) hs [y.Node] (hz.st y hy)) (fun r hr => Gd.ite (fun h => Gd.ret (fun h2 => absurd h2 (by simpa using h))) (fun h => Gd.ite (fun _ => Gd.ret (fun h2 => by simp at h2)) (fun h3 => by
   obtain ⟨h1, h2⟩ := hr (by simpa using h)
   exact hn h1.nw ⟨h1.nm, h1.at_ _ (by simp), by unfold uK; rw [h3]; rfl⟩ _ h2)))
 intro s hs hvt hnd6
 exact Gd.ret fun _ => ⟨hvg, hvl, hvt, hnd6 (hnd5 (hnd4 (hnd3 (hnd2 (hnd1 List.nodup_nil)))))⟩
theorem zq {A B C : List BA} {x : BA} (h : (A ++ (B ++ x :: C)).Nodup) : x ∉ A ++ B := by
 rw [← FT, GI] at h
 exact fun hm => h.2.2 x hm x (E4 ..) rfl
theorem fresh {P : List BA} {α : Type} {nm : α → BA} {l pre : List α} {y : α} (h : (P ++ l.map nm).Nodup) (hp : ∃ post, l = pre ++ y :: post) : nm y ∉ P ++ pre.map nm := by
 obtain ⟨post, rfl⟩ := hp
 rw [GK, Iu] at h
 exact zq h
theorem xn (n : Net) (h : oS n) : cM n = some 0 := by
 have hnd := h.nd
 unfold names at hnd
 have n5 := (GI.1 hnd).1
 have n4 := (GI.1 n5).1
 have n3 := (GI.1 n4).1
 have n2 := (GI.1 n3).1
 have n1 := (GI.1 n2).1
 have g1 := h.l1; have g2 := h.l2; have g3 := h.l3; have g4 := h.l4; have g5 := h.l5; have g6 := h.l6
 rw [← Gd.eq]
 unfold cM
 refine Gd.ite (fun hl => ?_) (fun _ => ?_)
 ·simp only [G0, Gi] at hl
  omega
 refine ov (id : BA → BA) [] ?_ ?_ _ kO.nil
 ·intro i y s nx pre hpre hs hn
  have hy := (pz hpre).2.1
  have hf := fresh (P := []) (nm := id) (by simpa using n1) hpre
  unfold iS
  exact Gd.bind_eq (pF (c := ⟨s, n.bJ⟩) hs ⟨h.vn y hy, hf, by simp, by simp⟩) (Gd.ite (fun h => by simp at h) (fun _ => hn))
 intro s hs
 simp only [List.map_id, He] at hs
 refine ov (fun x : dE => x.Name) _ ?_ ?_ _ hs
 ·intro i y s nx pre hpre hs hn
  obtain ⟨a, b, c, d⟩ := h.vs y (pz hpre).2.1
  unfold iT
  exact Gd.bind_eq (pF (c := ⟨s, n.bJ⟩) hs ⟨a, fresh n2 hpre, by simp [b, c], fun p q e => by simp at e; rw [← e.1, ← e.2]; exact d⟩) (Gd.ite (fun h => by simp at h) (fun _ => hn))
 intro s hs
 refine ov (fun x : cA => x.Name) _ ?_ ?_ _ hs
 ·intro i y s nx pre hpre hs hn
  obtain ⟨a, b, c, d, e⟩ := h.vb y (pz hpre).2.1
  unfold iU
  exact Gd.bind_eq (pF (c := ⟨s, n.bJ⟩) hs ⟨a, fresh n3 hpre, by simp [b, c], fun p q e => by simp at e; rw [← e.1, ← e.2]; exact d⟩) (Gd.ite (fun h => by simp at h) (fun _ => Gd.ite (fun h => by simp [e] at h) (fun _ => hn)))
 intro s hs
 refine Gd.e_ (P := fun r => r.1 = 0) ?_ (fun r hr => Gd.ret hr)
 unfold dQ
 refine ov (fun x : dB => x.Name) _ ?_ ?_ _ hs
 ·intro i y s nx pre hpre hs hn
  obtain ⟨a, b, c⟩ := h.vg y (pz hpre).2.1
  unfold wv at c
  unfold eX
  exact Gd.bind_eq (pF (c := ⟨s, n.bJ⟩) hs ⟨a, fresh n4 hpre, by simp [b], by simp⟩) (Gd.ite (fun h => by simp at h) (fun _ => Gd.ite (fun h => by rw [h] at c; cases c) (fun _ => hn)))
 intro s hs
 refine ov (fun x : cB => x.Name) _ ?_ ?_ _ hs
 ·intro i y s nx pre hpre hs hn
  obtain ⟨a, b, c⟩ := h.vl y (pz hpre).2.1
  unfold eY
  exact Gd.bind_eq (pF (c := ⟨s, n.bJ⟩) hs ⟨a, fresh n5 hpre, by simp [b], by simp⟩) (Gd.ite (fun h => by simp at h) (fun _ => Gd.ite (fun h => by simp [c] at h) (fun _ => hn)))
 intro s hs
 refine ov (fun x : fG => x.Name) _ ?_ ?_ _ hs
 ·intro i y s nx pre hpre hs hn
  obtain ⟨a, b, c⟩ := h.vt y (pz hpre).2.1
  unfold uK at c
  unfold eZ
  exact Gd.bind_eq (pF (c := ⟨s, n.bJ⟩) hs ⟨a, fresh hnd hpre, by simp [b], by simp⟩) (Gd.ite (fun h => by simp at h) (fun _ => Gd.ite (fun h => by rw [h] at c; cases c) (fun _ => hn)))
 intro s hs
 exact Gd.ret rfl
def BW (n : Net) (q : Nat) : Net := { n with bE := n.bE.take q ++ n.bE.drop (q + 1) }
theorem yp {α : Type} (l : List α) (q : Nat) : (l.take q ++ l.drop (q + 1)).Sublist l := by
 have h1 : (l.drop (q + 1)).Sublist (l.drop q) := by rw [← HU]; exact List.drop_sublist _ _
 have := (J_ (l.take q)).append h1
 rwa [GN] at this
theorem oS.cut {n : Net} (h : oS n) (q : Nat) : oS (BW n q) := by
 have hs := yp n.bE q
 have hnm : (names (BW n q)).Sublist (names n) := by
  unfold names BW
  exact ((((J_ _).append (hs.map _)).append (J_ _)).append (J_ _)).append (J_ _)
 exact ⟨h.l1, h.l2, GB hs.length_le h.l3, h.l4, h.l5, h.l6, hnm.nodup h.nd, h.vn, h.vs, fun x hx => h.vb x (hs.subset hx), h.vg, h.vl, h.vt⟩
theorem oS.ok {n : Net} (h : oS n) (hz : oZ n) : kD n := by
 obtain ⟨e, he, hok⟩ := Ag n hz
 rw [xn n h] at he
 exact hok (EV he).symm
theorem oZ.cut {n : Net} (h : oZ n) (q : Nat) : oZ (BW n q) :=
 ⟨h.nd, h.sw, fun x hx => h.br x ((yp n.bE q).subset hx), h.gn, h.ld, h.st⟩
abbrev Ed := bK
def lb (o : List Int) (u : Int) : Int := if 0 ≤ u then (o[u.toNat]?).getD (-1) else -1
theorem AR {o : List Int} {u : Int} (h : 0 ≤ lb o u) : 0 ≤ u ∧ u < o.length := by
 unfold lb at h
 split at h
 ·rename_i h0
  refine ⟨h0, ?_⟩
  by_cases e : u.toNat < o.length
  ·omega
  ·rw [Gb (by omega)] at h; simp at h
 ·omega
theorem tP {o : List Int} {k : Nat} (h : k < o.length) : lb o (k : Int) = o[k] := by
 unfold lb; rw [E_ (by omega), E1, EZ h]; rfl
theorem AQ {o : List Int} {u : Int} (h0 : 0 ≤ u) (h : u.toNat < o.length) : lb o u = o[u.toNat] := by
 unfold lb; rw [E_ h0, EZ h]; rfl
theorem qB {o : List Int} {q : Int} (h0 : 0 ≤ q) (h : q.toNat < o.length) (m u : Int) : lb (o.set q.toNat m) u = if u = q then m else lb o u := by
 unfold lb
 by_cases e : u = q
 ·subst e
  rw [E_ h0, E_ rfl, FD h]; rfl
 ·rw [E6 e]
  by_cases hu : 0 ≤ u
  ·rw [E_ hu, E_ hu, Fz (by omega)]
  ·rw [E6 hu, E6 hu]
def Bz (l : List Ed) (u v : Int) : Prop := ∃ e ∈ l, (e.a0 = u ∧ e.a1 = v) ∨ (e.a1 = u ∧ e.a0 = v)
theorem Bz.symm {l : List Ed} {u v : Int} (h : Bz l u v) : Bz l v u := by
 obtain ⟨e, he, h | h⟩ := h
 ·exact ⟨e, he, .inr ⟨h.2, h.1⟩⟩
 ·exact ⟨e, he, .inl ⟨h.2, h.1⟩⟩
inductive qo (l : List Ed) (u : Int) : Int → Prop
 | refl : qo l u u
 | snoc {v w : Int} : qo l u v → Bz l v w → qo l u w
theorem qo.trans {l : List Ed} {u v w : Int} (h1 : qo l u v) (h2 : qo l v w) : qo l u w := by
 induction h2 with
 | refl => exact h1
 | snoc _ h ih => exact .snoc ih h
theorem qo.symm {l : List Ed} {u v : Int} (h : qo l u v) : qo l v u := by
 induction h with
 | refl => exact .refl
 | snoc _ h ih => exact (qo.snoc .refl h.symm).trans ih
structure DV (N : Nat) (l : List Ed) (many : Int) (out : List Int) : Prop where
 pt : rL N many out
 cls : ∀ u v, Bz l u v → 0 ≤ lb out u → lb out v = lb out u
 Eu : ∀ u v, 0 ≤ lb out u → lb out u = lb out v → qo l u v
 Ee : ∀ c, 0 ≤ c → c < many → ∃ u, lb out u = c
theorem rL.lt {N : Nat} {many : Int} {out : List Int} (h : rL N many out) (hm : 0 ≤ many) (u : Int) : -1 ≤ lb out u ∧ lb out u < many := by
 by_cases h0 : 0 ≤ lb out u
 ·obtain ⟨a, b⟩ := AR h0
  have : u.toNat < out.length := by omega
  rw [AQ a this]
  exact h.BC _ (Gr _)
 ·refine ⟨?_, by omega⟩
  unfold lb
  split
  ·by_cases e : u.toNat < out.length
   ·rw [EZ e]
    exact (h.BC _ (Gr e)).1
   ·rw [Gb (by omega)]; simp
  ·omega
structure uu (N : Nat) (l : List Ed) (m : Int) (i : Int) (out o : List Int) : Prop where
 pt : rL N (m + 1) o
 rH : ∀ u, 0 ≤ lb out u → lb o u = lb out u
 new : ∀ u, lb out u < 0 → 0 ≤ lb o u → lb o u = m ∧ qo l i u
 st : lb o i = m
theorem uu.put {N : Nat} {l : List Ed} {m i : Int} {out o : List Int} (h : uu N l m i out o) (hc : DV N l m out) (h0 : 0 ≤ m) {a q : Int} (ha : lb o a = m) (hadj : Bz l a q) (q0 : 0 ≤ q) (qN : q < N) (hq : lb o q < 0) : uu N l m i out (o.set q.toNat m) := by
 have hql : q.toNat < o.length := by rw [h.pt.len]; omega
 have ca : qo l i a := by
  by_cases e : 0 ≤ lb out a
  ·have h1 := h.rH a e
   have h2 := (hc.pt.lt h0 a).2
   omega
  ·exact (h.new a (by omega) (by omega)).2
 refine ⟨h.pt.set ⟨h0, by omega⟩ _, fun u hu => ?_, fun u hu hn => ?_, ?_⟩
 ·rw [qB q0 hql]
  have h1 := h.rH u hu
  rw [E6 (fun e => by subst e; omega)]
  exact h1
 ·rw [qB q0 hql] at hn ⊢
  by_cases e : u = q
  ·subst e
   rw [E_ rfl]
   exact ⟨rfl, ca.snoc hadj⟩
  ·rw [E6 e] at hn ⊢
   exact h.new u hu hn
 ·rw [qB q0 hql]
  split
  ·rfl
  ·exact h.st
theorem uu.mono {N : Nat} {m : Int} {o : List Int} (hl : o.length = N) (h0 : 0 ≤ m) {q : Int} (q0 : 0 ≤ q) (qN : q < N) {u : Int} (hu : 0 ≤ lb o u) : 0 ≤ lb (o.set q.toNat m) u := by
 rw [qB q0 (by omega)]
 split
 ·exact h0
 ·exact hu
theorem uu.done {N : Nat} {l : List Ed} {m i : Int} {out o : List Int} (h : uu N l m i out o) (hc : DV N l m out) (h0 : 0 ≤ m) (hp : ∀ u, lb o u = m → ∀ v, Bz l u v → 0 ≤ lb o v) : DV N l (m + 1) o := by
 refine ⟨h.pt, fun u v huv hu => ?_, fun u v hu huv => ?_, fun c c0 c1 => ?_⟩
 ·by_cases e : 0 ≤ lb out u
  ·have h1 := h.rH u e
   have h2 := hc.cls u v huv e
   have h3 := h.rH v (by omega)
   omega
  ·obtain ⟨h1, _⟩ := h.new u (by omega) hu
   have h2 := hp u h1 v huv
   by_cases e2 : 0 ≤ lb out v
   ·have := hc.cls v u huv.symm e2
    omega
   ·have := (h.new v (by omega) h2).1
    omega
 ·by_cases e : 0 ≤ lb out u
  ·have h1 := h.rH u e
   have h2 := (hc.pt.lt h0 u).2
   by_cases e2 : 0 ≤ lb out v
   ·exact hc.Eu u v e (by have := h.rH v e2; omega)
   ·have := (h.new v (by omega) (by omega)).1
    omega
  ·obtain ⟨h1, h2⟩ := h.new u (by omega) hu
   by_cases e2 : 0 ≤ lb out v
   ·have h3 := h.rH v e2
    have h4 := (hc.pt.lt h0 v).2
    omega
   ·exact h2.symm.trans (h.new v (by omega) (by omega)).2
 ·by_cases e : c < m
  ·obtain ⟨u, hu⟩ := hc.Ee c c0 e
   exact ⟨u, by rw [h.rH u (by omega)]; exact hu⟩
  ·exact ⟨i, by rw [h.st]; omega⟩
structure yV (N : Nat) (l : List Ed) (r : List Int) (many : Nat) : Prop where
 len : r.length = N
 all : ∀ u : Int, 0 ≤ u → u < N → 0 ≤ lb r u ∧ lb r u < many
 mN : many ≤ N
 iff : ∀ u v : Int, 0 ≤ u → u < N → 0 ≤ v → v < N → (lb r u = lb r v ↔ qo l u v)
 Ee : ∀ c : Int, 0 ≤ c → c < many → ∃ u : Int, 0 ≤ u ∧ u < N ∧ lb r u = c
theorem xM (N : Nat) (hN : N ≤ 24) (l : List Ed) (hl : vG N l) (hll : l.length ≤ 64) : Gd (kt N l (-1)) (fun r => ∃ many : Nat, yV N l r many) := by
 unfold kt
 refine Gd.nd ⟨rfl, by omega, by omega⟩ (Gd.nd (by omega) ?_)
 rw [qJ]
 have hrep : ∀ u, lb (List.replicate N (-1)) u = -1 := fun u => by
  unfold lb
  split
  ·by_cases e : u.toNat < N
   ·rw [EZ (by simpa using e)]; simp
   ·rw [Gb (by simpa using e)]; rfl
  ·rfl
 refine Gd.jK (fun m i (s : List Int × Int) => i + m = N ∧ 0 ≤ s.2 ∧ s.2 ≤ (i : Int) ∧ DV N l s.2 s.1 ∧ ∀ j : Nat, j < i → 0 ≤ lb s.1 (j : Int)) ?_ ?_ (N : Int).toNat 0 (List.replicate N (-1), 0)
  ⟨by omega, by simp, by simp, ⟨⟨by simp, by simp⟩, fun u v _ h => by rw [hrep] at h; omega, fun u v h _ => by rw [hrep] at h; omega, fun c h1 h2 => by omega⟩, by simp⟩
 ·rintro m i ⟨out, many⟩ nx ⟨hi, h0, hmi, hc, hk⟩ hn
  simp only at h0 hmi hc hk
  have hilt : i < out.length := by rw [hc.pt.len]; omega
  have hwm : i64.wrap (many + 1) = many + 1 := bN ⟨by omega, by omega⟩
  unfold lj
  refine Gd.jS hilt (Gd.ite (fun h => ?_) (fun h => ?_))
  ·have hge : 0 ≤ out[i] := by simpa using h
   unfold fH
   refine hn _ ⟨by omega, h0, by show many ≤ ((i + 1 : Nat) : Int); omega, hc, fun j hj => ?_⟩
   by_cases e : j = i
   ·subst e; simp only; rw [tP hilt]; exact hge
   ·exact hk j (by omega)
  ·have hneg : out[i] < 0 := by simpa using h
   refine Gd.jS hilt ?_
   rw [E1]
   have hnegl : lb out (i : Int) < 0 := by rw [tP hilt]; exact hneg
   have hset : ∀ u, lb (out.set i many) u = if u = (i : Int) then many else lb out u := fun u => by
    have := qB (o := out) (q := (i : Int)) (by omega) (by simpa using hilt) many u
    rwa [E1] at this
   have hp1 : rL N (many + 1) out := ⟨hc.pt.len, fun v hv => by have := hc.pt.BC v hv; omega⟩
   have hbase : 2 * mB (out.set i many) + [(i : Int)].length ≤ 2 * N + 1 := by
    have hcn : mB (out.set i many) ≤ N := by unfold mB; rw [← hc.pt.len, ← Fj (as := out) (i := i) (a := many)]; exact HT
    simp only [F2]; omega
   have hf0 : uu N l many (i : Int) out (out.set i many) := by
    refine ⟨hp1.set ⟨h0, by omega⟩ i, fun u hu => ?_, fun u hu hn2 => ?_, by rw [hset, E_ rfl]⟩
    ·rw [hset, E6 (fun e => by subst e; omega)]
    ·rw [hset] at hn2 ⊢
     by_cases e : u = (i : Int)
     ·subst e; rw [E_ rfl]; exact ⟨rfl, .refl⟩
     ·rw [E6 e] at hn2; omega
   refine Gd.gC (fun (s : List Int × List Int) => uu N l many (i : Int) out s.1 ∧ (∀ a ∈ s.2, lb s.1 a = many) ∧ (∀ u, lb s.1 u = many → u ∉ s.2 → ∀ v, Bz l u v → 0 ≤ lb s.1 v) ∧ 2 * mB s.1 + s.2.length ≤ 2 * N + 1)
    (fun s => 2 * mB s.1 + s.2.length) ?_ fR _ ⟨hf0, fun a ha => ?_, fun u hu hnu => ?_, hbase⟩ ?_
   ·rintro ⟨o, todo⟩ nx2 ⟨hf, htd, hpr, htot⟩ hn2
    simp only at hf htd hpr htot
    have hol := hf.pt.len
    unfold ln
    refine Gd.ite (fun hne => ?_) (fun hze => ?_)
    ·obtain ⟨at_, ts, rfl⟩ : ∃ a ts, todo = a :: ts := by
      cases todo with
      | nil => simp at hne
      | cons a ts => exact ⟨a, ts, rfl⟩
     simp only [Fw] at htot
     refine Gd.ix (y := at_) (by decide) rfl (Gd.nd ⟨by omega, by simp only [Fw]; omega⟩ ?_)
     have hat := htd at_ (E4 ..)
     obtain ⟨at0, atN⟩ := AR (by omega : 0 ≤ lb o at_)
     have hsl : qk (at_ :: ts) (1 : Int).toNat (at_ :: ts).length = ts := by
      unfold qk
      rw [show (1 : Int).toNat = 1 from rfl, JQ, G5, FG (by simp)]
     rw [hsl]
     let J : List Ed → List Int × List Int → Prop := fun pre s => uu N l many (i : Int) out s.1 ∧ (∀ a ∈ s.2, lb s.1 a = many) ∧ lb s.1 at_ = many ∧ (∀ u, lb s.1 u = many → u ∉ s.2 → u ≠ at_ → ∀ v, Bz l u v → 0 ≤ lb s.1 v) ∧
      (∀ e ∈ pre, (e.a0 = at_ → 0 ≤ lb s.1 e.a1) ∧ (e.a1 = at_ → 0 ≤ lb s.1 e.a0)) ∧ 2 * mB s.1 + s.2.length ≤ 2 * mB o + ts.length
     have push : ∀ (pre : List Ed) (e : Ed) (b td : List Int) (q : Int) (nn : List Int × List Int → Option (List Int)), e ∈ l → J pre (b, td) → Bz l at_ q → 0 ≤ q → q < N → ((e.a0 = at_ ∧ e.a1 = q) ∨ (e.a1 = at_ ∧ e.a0 = q)) →
       (∀ s', J (pre ++ [e]) s' → Gd (nn s') (fun r => ∃ many : Nat, yV N l r many)) →
       Gd (Sim.idx b q fun y7689 => if decide (y7689 < 0) then (Sim.idx b q fun y7694 => dL ((td.length + ([q]).length) * 8 ≤ 140737488355328) (cN nn (b.set (q : Int).toNat many) (td ++ ([q])))) else (cN nn b td)) (fun r => ∃ many : Nat, yV N l r many) := by
      intro pre e b td q nn hel ⟨j1, j2, j3, j4, j5, j6⟩ hadj q0 qN hends hnn
      simp only at j1 j2 j3 j4 j5 j6
      have hbl := j1.pt.len
      have hql : q.toNat < b.length := by omega
      have hget : b[q.toNat]? = some b[q.toNat] := EZ hql
      have hlq : lb b q = b[q.toNat] := AQ q0 hql
      have hno : mB o ≤ N := by unfold mB; rw [← hol]; exact HT
      unfold cN
      refine Gd.ix q0 hget (Gd.ite (fun h => Gd.ix q0 hget (Gd.nd ?_ (hnn _ ?_))) (fun h => hnn _ ⟨j1, j2, j3, j4, fun d hd => ?_, j6⟩))
      ·simp; omega
      ·have h1 : b[q.toNat] < 0 := by simpa using h
       have hlt : lb b q < 0 := by omega
       have up : ∀ {u : Int}, 0 ≤ lb b u → 0 ≤ lb (b.set q.toNat many) u := fun {u} hu => uu.mono hbl h0 q0 qN hu
       have hqs : lb (b.set q.toNat many) q = many := by rw [qB q0 hql, E_ rfl]
       have same : ∀ {u : Int}, lb b u = many → lb (b.set q.toNat many) u = many := fun {u} hu => by
        rw [qB q0 hql]; split
        ·rfl
        ·exact hu
       refine ⟨j1.put hc h0 j3 hadj q0 qN hlt, fun a ha => ?_, same j3, fun u hu hnu hua v hv => ?_, fun d hd => ?_, ?_⟩
       ·rcases FK.1 ha with ha | ha
        ·exact same (j2 a ha)
        ·simp at ha; subst ha; exact hqs
       ·simp only at hu hnu
        by_cases e2 : u = q
        ·subst e2
         exact absurd (Gf _ (List.mem_singleton_self _)) hnu
        ·rw [qB q0 hql, E6 e2] at hu
         exact up (j4 u hu (fun hm => hnu (E0 _ hm)) hua v hv)
       ·rcases FK.1 hd with hd | hd
        ·obtain ⟨x1, x2⟩ := j5 d hd
         exact ⟨fun hh => up (x1 hh), fun hh => up (x2 hh)⟩
        ·simp at hd; subst hd
         have hat2 : 0 ≤ lb (b.set q.toNat many) at_ := up (by omega)
         have hq2 : 0 ≤ lb (b.set q.toNat many) q := by omega
         rcases hends with ⟨x1, x2⟩ | ⟨x1, x2⟩
         ·exact ⟨fun _ => by rw [x2]; exact hq2, fun _ => by rw [x1]; exact hat2⟩
         ·exact ⟨fun _ => by rw [x1]; exact hat2, fun _ => by rw [x2]; exact hq2⟩
       ·have := wJ hql h1 h0
        simp only [FP, F2]
        omega
      ·have h1 : 0 ≤ b[q.toNat] := by simpa using h
       rcases FK.1 hd with hd | hd
       ·exact j5 d hd
       ·simp at hd; subst hd
        rcases hends with ⟨x1, x2⟩ | ⟨x1, x2⟩
        ·exact ⟨fun _ => by rw [x2]; simp only; omega, fun _ => by rw [x1]; simp only; omega⟩
        ·exact ⟨fun _ => by rw [x1]; simp only; omega, fun _ => by rw [x2]; simp only; omega⟩
     refine Gd.seen J ?_ ?_ _ ⟨hf, fun a ha => htd a (Fc _ ha), hat, fun u hu hnu hua v hv => hpr u hu (fun hm => (F8.1 hm).elim hua hnu) v hv, by simp, FA (2 * mB o + ts.length)⟩
     ·rintro k e ⟨b, td⟩ nn pre hpre hJ hnn
      obtain ⟨_, hel, _⟩ := pz hpre
      obtain ⟨e1, e2, e3, e4⟩ := hl e hel
      have hw1 : i64.wrap (e.a0 + e.a1) = e.a0 + e.a1 := bN ⟨by omega, by omega⟩
      have hw2 : i64.wrap (e.a0 + e.a1 - at_) = e.a0 + e.a1 - at_ := bN ⟨by omega, by omega⟩
      unfold lq
      rw [hw1, hw2]
      refine Gd.ite (fun h => by simp at h) (fun _ => Gd.ite (fun h => ?_) (fun h => Gd.ite (fun h2 => ?_) (fun h2 => ?_)))
      ·have h : e.a0 = at_ := by simpa using h
       have hq : e.a0 + e.a1 - at_ = e.a1 := by omega
       rw [hq]
       exact push pre e b td _ nn hel hJ ⟨e, hel, .inl ⟨h, rfl⟩⟩ e3 e4 (.inl ⟨h, rfl⟩) hnn
      ·have h1 : e.a0 ≠ at_ := by simpa using h
       have h2 : e.a1 ≠ at_ := by simpa using h2
       obtain ⟨j1, j2, j3, j4, j5, j6⟩ := hJ
       refine hnn _ ⟨j1, j2, j3, j4, fun d hd => ?_, j6⟩
       rcases FK.1 hd with hd | hd
       ·exact j5 d hd
       ·simp at hd; subst hd
        exact ⟨fun hh => absurd hh h1, fun hh => absurd hh h2⟩
      ·have h2 : e.a1 = at_ := by simpa using h2
       have hq : e.a0 + e.a1 - at_ = e.a0 := by omega
       rw [hq]
       exact push pre e b td _ nn hel hJ ⟨e, hel, .inr ⟨h2, rfl⟩⟩ e1 e2 (.inr ⟨h2, rfl⟩) hnn
     ·rintro ⟨b, td⟩ ⟨j1, j2, j3, j4, j5, j6⟩
      simp only at j1 j2 j3 j4 j5 j6
      refine hn2 _ ⟨j1, j2, fun u hu hnu v hv => ?_, by show 2 * mB b + td.length ≤ 2 * N + 1; omega⟩ (by simp only [Fw]; omega)
      by_cases e : u = at_
      ·subst e
       obtain ⟨d, hd, hh | hh⟩ := hv
       ·have := (j5 d hd).1 hh.1
        rw [hh.2] at this; exact this
       ·have := (j5 d hd).2 hh.1
        rw [hh.2] at this; exact this
      ·exact j4 u hu hnu e v hv
    ·have htn : todo = [] := by
      cases todo with
      | nil => rfl
      | cons a ts => simp at hze
     subst htn
     unfold fH
     rw [hwm]
     refine hn _ ⟨by omega, by show (0 : Int) ≤ many + 1; omega, by show many + 1 ≤ ((i + 1 : Nat) : Int); omega, hf.done hc h0 (fun u hu v hv => hpr u hu (by simp) v hv), fun j hj => ?_⟩
     by_cases e : j = i
     ·subst e; show 0 ≤ lb o (j : Int); rw [hf.st]; exact h0
     ·have h1 := hk j (by omega)
      show 0 ≤ lb o (j : Int)
      rw [hf.rH _ h1]; exact h1
   ·simp only [Gh] at ha
    subst ha
    exact hf0.st
   ·exfalso
    rw [hset] at hu
    by_cases e : u = (i : Int)
    ·subst e; simp at hnu
    ·rw [E6 e] at hu
     have := (hc.pt.lt h0 u).2
     omega
   ·refine Im hbase ?_
    unfold fR; omega
 ·rintro i ⟨out, many⟩ ⟨hi, h0, hmi, hc, hk⟩
  simp only at h0 hmi hc hk
  have hge : ∀ u : Int, 0 ≤ u → u < N → 0 ≤ lb out u := fun u u0 uN => by
   have := hk u.toNat (by omega)
   rwa [show ((u.toNat : Nat) : Int) = u by omega] at this
  refine Gd.ret ⟨many.toNat, hc.pt.len, fun u u0 uN => ⟨hge u u0 uN, by have h1 := hge u u0 uN; have h2 := (hc.pt.lt h0 u).2; show lb out u < ((many.toNat : Nat) : Int); omega⟩, by omega, fun u v u0 uN v0 vN => ⟨fun e => hc.Eu u v (hge u u0 uN) e, fun e => ?_⟩, fun c c0 c1 => ?_⟩
  ·clear vN v0
   induction e with
   | refl => rfl
   | snoc _ h ih =>
    rename_i p q _
    have ih : lb out u = lb out p := ih
    have hp : 0 ≤ lb out p := by have := hge u u0 uN; omega
    show lb out u = lb out q
    rw [ih]
    exact (hc.cls p q h hp).symm
  ·obtain ⟨u, hu⟩ := hc.Ee c c0 (by omega)
   obtain ⟨a, b⟩ := AR (by omega : 0 ≤ lb out u)
   exact ⟨u, a, by have := hc.pt.len; omega, hu⟩
theorem xo (N : Nat) (hN : N ≤ 24) (l : List Ed) (hl : vG N l) (hll : l.length ≤ 64) : Gd (eT N l) (fun r => r.2 = 0 ∧ ∃ many : Nat, yV N l r.1 many) := by
 unfold eT
 refine Gd.bind_eq (uC N hN l hl hll) (Gd.ite (fun h => by simp at h) (fun _ => Gd.e_ (xM N hN l hl hll) (fun r hr => Gd.ret ⟨rfl, hr⟩)))
theorem Cf (N : Nat) (hN : N ≤ 24) (l : List Int) (hl : sY N l) : ∃ m : Nat, m ≤ N ∧ sY m l ∧ (∀ c : Nat, sY c l → m ≤ c) ∧
  ∀ {R : Type} (body : Nat → Int → Int → (Int → Option R) → Option R) (hb : ∀ k y n nx, body k y n nx = nx (max n (i64.wrap (y + 1)))) (K : Int → Option R), dJ body K 0 l 0 = K (m : Int) := by
 have key : ∀ (ys pre : List Int) (m : Nat), l = pre ++ ys → m ≤ N → sY m pre → (∀ c : Nat, sY c pre → m ≤ c) → ∃ m2 : Nat, m2 ≤ N ∧ sY m2 l ∧ (∀ c : Nat, sY c l → m2 ≤ c) ∧
   ∀ {R : Type} (body : Nat → Int → Int → (Int → Option R) → Option R) (hb : ∀ k y n nx, body k y n nx = nx (max n (i64.wrap (y + 1)))) (K : Int → Option R) (i : Nat), dJ body K i ys (m : Int) = K (m2 : Int) := by
  intro ys
  induction ys with
  | nil =>
   intro pre m e hm hp hmin
   rw [FY] at e; subst e
   exact ⟨m, hm, hp, hmin, fun _ _ _ _ => rfl⟩
  | cons y ys ih =>
   intro pre m e hm hp hmin
   have hy := hl y (by rw [e]; exact Gf _ (E4 ..))
   have hw : i64.wrap (y + 1) = y + 1 := bN ⟨by omega, by omega⟩
   have hmx : max (m : Int) (y + 1) = ((max m (y + 1).toNat : Nat) : Int) := by omega
   obtain ⟨m2, h1, h2, h3, h4⟩ := ih (pre ++ [y]) (max m (y + 1).toNat) (by rw [e]; simp) (by omega) (fun a ha => by
    rcases FK.1 ha with ha | ha
    ·have := hp a ha; omega
    ·simp at ha; subst ha; omega) (fun c hc => by
     have c1 := hmin c (fun a ha => hc a (E0 _ ha))
     have c2 := hc y (Gf _ (List.mem_singleton_self _))
     omega)
   refine ⟨m2, h1, h2, h3, fun {R} body hb K i => ?_⟩
   show body i y (m : Int) (fun s => dJ body K (i + 1) ys s) = _
   rw [hb, hw, hmx]
   exact h4 body hb K (i + 1)
 obtain ⟨m2, h1, h2, h3, h4⟩ := key l [] 0 rfl (by omega) (by intro a ha; simp at ha) (fun c _ => by omega)
 exact ⟨m2, h1, h2, h3, fun {R} body hb K => h4 body hb K 0⟩
def pos (n : Net) (s : BA) : Nat := ((aZ n.bJ s).getD 0).toNat
theorem Jo {n : Net} {s : BA} (h : s ∈ n.bJ) : aZ n.bJ s = some (pos n s : Int) ∧ pos n s < n.bJ.length := by
 obtain ⟨k, hk, hl, _⟩ := rG h
 unfold pos
 rw [hk]
 exact ⟨rfl, hl⟩
def z_ (n : Net) (bus : List Int) (b : cA) : Ed := ⟨bus.getD (pos n b.gY) 0, bus.getD (pos n b.To) 0⟩
theorem Aa {n : Net} (hn : kD n) {bus : List Int} {m : Nat} (hbl : bus.length = n.bJ.length) (hm : sY m bus) : vG m (n.bE.map (z_ n bus)) := fun e he => by
 obtain ⟨b, hb, rfl⟩ := Gg.1 he
 obtain ⟨h1, h2⟩ := hn.br b hb
 have p1 := (Jo h1).2
 have p2 := (Jo h2).2
 have q : ∀ k, k < bus.length → 0 ≤ bus.getD k 0 ∧ bus.getD k 0 < m := fun k hk => by
  rw [FH, EZ hk]
  exact hm _ (Gr hk)
 exact ⟨(q _ (by omega)).1, (q _ (by omega)).2, (q _ (by omega)).1, (q _ (by omega)).2⟩
theorem B2 {n : Net} (hn : kD n) {bus : List Int} (hbus : jR n = some bus) (hbl : bus.length = n.bJ.length) {m : Nat} (hm24 : m ≤ 24) (hm : sY m bus)
  (hmost : ∀ {R : Type} (body : Nat → Int → Int → (Int → Option R) → Option R) (hb : ∀ k y n nx, body k y n nx = nx (max n (i64.wrap (y + 1)))) (K : Int → Option R), dJ body K 0 bus 0 = K (m : Int)) :
  Gd (cK n) (fun t => t.iW = bus ∧ ∃ c : Nat, yV m (n.bE.map (z_ n bus)) t.aW c) := by
 have l3 := hn.l3
 unfold cK
 refine Gd.bind_eq hbus ?_
 rw [hmost _ (fun k y n nx => by unfold mU; rfl)]
 refine Gd.seen (fun pre out => out = pre.map (z_ n bus)) ?_ ?_ _ rfl
 ·rintro i y out nn pre hpre rfl hnx
  obtain ⟨hpl, hyl, _⟩ := pz hpre
  obtain ⟨h1, h2⟩ := hn.br y hyl
  obtain ⟨p1, p2⟩ := Jo h1
  obtain ⟨q1, q2⟩ := Jo h2
  have g : ∀ k (hk : k < bus.length), bus[k] = bus.getD k 0 := fun k hk => by
   rw [FH, EZ hk]; rfl
  unfold mV
  refine Gd.bind_eq p1 (Gd.jS (by omega) (Gd.bind_eq q1 (Gd.jS (by omega) (Gd.nd ?_ (hnx _ ?_)))))
  ·simp only [HE, F2]; omega
  ·rw [GK, g _ (by omega), g _ (by omega)]; rfl
 ·rintro out rfl
  exact Gd.e_ (xo m hm24 _ (Aa hn hbl hm) (by simp; omega)) (fun r ⟨_, hr⟩ => Gd.ret ⟨rfl, hr⟩)
section
variable {ν : Type}
def AM (l : List (Int × ν)) (k : Int) : Option ν := (l.find? (fun p => p.1 = k)).map (·.2)
theorem xH (l : List (Int × ν)) (k : Int) : lX l k = AM l k := by
 unfold lX AM
 have : ∀ (l : List (Int × ν)) (i : Nat), (pR l k i).map (·.2) = (l.find? (fun p => p.1 = k)).map (·.2) := by
  intro l
  induction l with
  | nil => intro i; rfl
  | cons p l ih =>
   obtain ⟨a, v⟩ := p
   intro i
   simp only [pR, List.find?_cons]
   by_cases e : a = k
   ·simp [e]
   ·simp only [e, Ha, JP]; exact ih (i + 1)
 exact this l 0
theorem AW {l : List (Int × ν)} {k : Int} : ∀ {i j : Nat} {v : ν}, pR l k i = some (j, v) → ∃ q, j = i + q ∧ l[q]? = some (k, v) := by
 induction l with
 | nil => intro i j v h; simp [pR] at h
 | cons p l ih =>
  obtain ⟨a, u⟩ := p
  intro i j v h
  simp only [pR] at h
  split at h
  ·rename_i e
   simp only [FR, IJ] at h
   obtain ⟨rfl, rfl⟩ := h
   exact ⟨0, rfl, by rw [e]; rfl⟩
  ·obtain ⟨q, rfl, h2⟩ := ih h
   exact ⟨q + 1, by omega, h2⟩
theorem AV {l : List (Int × ν)} {k : Int} : ∀ {i : Nat}, pR l k i = none → ∀ p ∈ l, p.1 ≠ k := by
 induction l with
 | nil => intro i _ p hp; cases hp
 | cons p l ih =>
  obtain ⟨a, u⟩ := p
  intro i h
  simp only [pR] at h
  split at h
  ·cases h
  ·rename_i e
   intro q hq
   rcases F8.1 hq with rfl | hq
   ·exact e
   ·exact ih h q hq
def vF (l : List (Int × ν)) : Prop := (l.map (·.1)).Nodup
theorem vF.find {l : List (Int × ν)} (h : vF l) {k : Int} {v : ν} : lX l k = some v ↔ (k, v) ∈ l := by
 rw [xH]
 unfold AM vF at *
 induction l with
 | nil => simp
 | cons p l ih =>
  obtain ⟨a, u⟩ := p
  simp only [Iu, Ir] at h
  rw [List.find?_cons]
  by_cases e : a = k
  ·subst e
   simp only [decide_true, G1, FR, F8, IJ, true_and]
   constructor
   ·intro h1; exact .inl h1.symm
   ·rintro (h1 | h1)
    ·exact h1.symm
    ·exact absurd (Gg.2 ⟨_, h1, rfl⟩) h.1
  ·simp only [e, JP, F8, IJ]
   rw [ih h.2]
   constructor
   ·exact fun h1 => .inr h1
   ·rintro (⟨h1, _⟩ | h1)
    ·exact absurd h1.symm e
    ·exact h1
theorem vF.put {l : List (Int × ν)} (h : vF l) (k : Int) (v : ν) : vF (oV l k v) ∧ ∀ p, p ∈ oV l k v ↔ p = (k, v) ∨ (p ∈ l ∧ p.1 ≠ k) := by
 unfold oV
 cases hm : pR l k 0 with
 | none =>
  have hno := AV hm
  refine ⟨?_, fun p => ?_⟩
  ·show ((l ++ [(k, v)]).map (·.1)).Nodup
   rw [GK, GI]
   refine ⟨h, by simp, ?_⟩
   intro a ha b hb
   obtain ⟨p, hp, rfl⟩ := Gg.1 ha
   simp at hb
   subst hb
   exact hno p hp
  ·simp only [FK, Gh]
   constructor
   ·rintro (h1 | h1)
    ·exact .inr ⟨h1, hno p h1⟩
    ·exact .inl h1
   ·rintro (h1 | ⟨h1, _⟩)
    ·exact .inr h1
    ·exact .inl h1
 | some q =>
  obtain ⟨j, u⟩ := q
  obtain ⟨i, rfl, hi⟩ := AW hm
  obtain ⟨hil, hie⟩ := ET.1 hi
  simp only [FO]
  have hmap : (l.set i (k, v)).map (·.1) = l.map (·.1) := by
   rw [List.map_set]
   apply uf
   rw [FJ, hi]; rfl
  refine ⟨by unfold vF; rw [hmap]; exact h, fun p => ?_⟩
  have huniq : ∀ (a : Nat) (x : Int × ν), l[a]? = some x → x.1 = k → a = i := fun a x ha hx => by
   obtain ⟨hal, hae⟩ := ET.1 ha
   unfold vF at h
   rw [List.nodup_iff_pairwise_ne, Iz] at h
   rcases Ix a i with hlt | heq | hgt
   ·exact (h a i (by simpa using hal) (by simpa using hil) hlt (by rw [Hv, Hv, hae, hie, hx])).elim
   ·exact heq
   ·exact (h i a (by simpa using hil) (by simpa using hal) hgt (by rw [Hv, Hv, hae, hie, hx])).elim
  constructor
  ·intro hp
   obtain ⟨a, ha, hae⟩ := Gv.1 hp
   rw [Kd] at hae
   split at hae
   ·exact .inl hae.symm
   ·rename_i hne
    have hal : a < l.length := by simpa using ha
    refine .inr ⟨by rw [← hae]; exact Gr hal, fun hk => ?_⟩
    exact hne (huniq a p (by rw [EZ hal, hae]) hk).symm
  ·rintro (rfl | ⟨hp, hk⟩)
   ·exact Gv.2 ⟨i, by simpa using hil, by simp⟩
   ·obtain ⟨a, ha, hae⟩ := Gv.1 hp
    have hne : i ≠ a := fun e => by
     subst e
     rw [hie] at hae
     exact hk (by rw [← hae])
    exact Gv.2 ⟨a, by simpa using ha, by rw [List.getElem_set_ne hne]; exact hae⟩
theorem vF.yv {l : List (Int × ν)} (h : vF l) (k k' : Int) (v : ν) : lX (oV l k v) k' = if k' = k then some v else lX l k' := by
 obtain ⟨h1, h2⟩ := h.put k v
 split
 ·rename_i e
  rw [h1.find, h2]; exact .inl (by rw [e])
 ·rename_i e
  cases hg : lX l k' with
  | some u =>
   rw [h1.find, h2]
   exact .inr ⟨h.find.1 hg, e⟩
  | none =>
   cases hg2 : lX (oV l k v) k' with
   | none => rfl
   | some u =>
    rcases (h2 _).1 (h1.find.1 hg2) with h3 | ⟨h3, _⟩
    ·exact absurd (Prod.mk.inj h3).1 e
    ·rw [h.find.2 h3] at hg; cases hg
theorem vF.nil : vF ([] : List (Int × ν)) := by unfold vF; simp
end
structure oC (n : Net) (t : aN) : Prop where
 bl : t.iW.length = n.bJ.length
 BB : t.aW.length ≤ 24
 bi : sY t.aW.length t.iW
 comp : ∃ c : Nat, yV t.aW.length (n.bE.map (z_ n t.iW)) t.aW c
theorem Cy {n : Net} (hn : kD n) : ∃ t, cK n = some t ∧ oC n t := by
 have g1 := hn.l1
 obtain ⟨bus, hbus, hbl, hbin⟩ := Af n hn
 obtain ⟨m, hm1, hmin, _, hmost⟩ := Cf n.bJ.length hn.l1 bus hbin
 obtain ⟨t, ht, htb, c, hc⟩ := B2 hn hbus hbl (by omega) hmin hmost
 have hl := hc.len
 refine ⟨t, ht, ⟨by rw [htb]; exact hbl, by omega, by rw [htb, hl]; exact hmin, c, ?_⟩⟩
 rw [htb, hl]
 exact hc
def fr (isl : List Int) : List Nat := (List.range isl.length).filter (fun i => (List.range i).any (fun j => decide (isl[j]? = isl[i]?)))
theorem xx {isl : List Int} {i : Nat} : i ∈ fr isl ↔ i < isl.length ∧ ∃ j : Nat, j < i ∧ isl[j]? = isl[i]? := by
 unfold fr
 simp
theorem AD (isl : List Int) : (fr isl).Nodup := List.Pairwise.filter _ List.nodup_range
theorem u_ {isl : List Int} (h : isl.length ≤ 24) : (fr isl).length ≤ 23 := by
 have h1 : (fr isl).length ≤ ((List.range isl.length).filter (fun i => decide (0 < i))).length := by
  unfold fr
  rw [← List.countP_eq_length_filter, ← List.countP_eq_length_filter]
  refine List.countP_mono_left (fun i _ hi => ?_)
  simp at hi
  obtain ⟨j, hj, _⟩ := hi
  simp; omega
 have h2 : ∀ m, ((List.range m).filter (fun i => decide (0 < i))).length ≤ m - 1 := by
  intro m
  induction m with
  | zero => simp
  | succ m ih =>
   rw [IM, Jk, FP]
   cases m with
   | zero => simp
   | succ m => simp at ih ⊢; omega
 have := h2 isl.length
 omega
def ur (isl : List Int) (i : Nat) : Nat := (fr isl).getD i 0
theorem u7 {isl : List Int} {i : Nat} (h : i < (fr isl).length) : (fr isl)[i]? = some (ur isl i) := by
 unfold ur
 rw [FH, EZ h]; rfl
theorem u9 {isl : List Int} {i : Nat} (h : i < (fr isl).length) : ur isl i ∈ fr isl := Fi (u7 h)
theorem rT {isl : List Int} {i j : Nat} (hi : i < (fr isl).length) (hj : j < (fr isl).length) (e : ur isl i = ur isl j) : i = j := by
 have a := u7 hi
 have b := u7 hj
 rw [e] at a
 have nd := AD isl
 obtain ⟨_, ha⟩ := ET.1 a
 obtain ⟨_, hb⟩ := ET.1 b
 exact (List.getElem_inj nd).1 (ha.trans hb.symm)
theorem DJ (isl : List Int) : (fr isl).map (fun x : Nat => (x : Int)) = (List.range (fr isl).length).map (fun i => (ur isl i : Int)) := by
 apply G_
 intro i
 rw [FJ, FJ]
 by_cases h : i < (fr isl).length
 ·rw [u7 h, Ic h]; rfl
 ·rw [Gb (by omega), Gb (by simp; omega)]; rfl
def ym (n : Net) (bus : List Int) (b : cA) : Rat × Nat × Nat := (((b.X * b.qn : Int) : Rat), (z_ n bus b).a0.toNat, (z_ n bus b).a1.toNat)
def sL (n : Net) (bus : List Int) : List (Rat × Nat × Nat) := n.bE.map (ym n bus)
structure D2 (b : cA) : Prop where
 x : 1 ≤ b.X ∧ b.X ≤ 10000
 t : 500 ≤ b.qn ∧ b.qn ≤ 1500
 s : -1000 ≤ b.Shift ∧ b.Shift ≤ 1000
 l : 0 ≤ b.ky ∧ b.ky ≤ 100000
theorem BN {n : Net} (h : oS n) {b : cA} (hb : b ∈ n.bE) : D2 b := by
 obtain ⟨_, _, _, _, h5⟩ := h.vb b hb
 unfold fK at h5
 split at h5
 ·omega
 ·rename_i h6
  simp [bD] at h6
  exact ⟨by omega, by omega, by omega, by omega⟩
theorem D2.q {b : cA} (h : D2 b) : 500 ≤ b.X * b.qn ∧ b.X * b.qn ≤ 15000000 := by
 have h1 := h.x; have h2 := h.t
 have a : 1 * 500 ≤ b.X * b.qn := Int.mul_le_mul h1.1 h2.1 (by omega) (by omega)
 have c : b.X * b.qn ≤ 10000 * 1500 := Int.mul_le_mul h1.2 h2.2 (by omega) (by omega)
 omega
structure DW (N : Nat) (l : List (Rat × Nat × Nat)) : Prop where
 ll : l.length ≤ 24
 el : ∀ e ∈ l, e.2.1 < N ∧ e.2.2 < N
 q : ∀ e ∈ l, ∃ z : Int, e.1 = (z : Rat) ∧ 500 ≤ z ∧ z ≤ 15000000
theorem tG {n : Net} (h : oS n) (hn : kD n) {t : aN} (ht : oC n t) : DW t.aW.length (sL n t.iW) := by
 refine ⟨by unfold sL; rw [HE]; exact h.l3, fun e he => ?_, fun e he => ?_⟩
 ·obtain ⟨b, hb, rfl⟩ := Gg.1 he
  have := Aa hn ht.bl ht.bi (z_ n t.iW b) (Gg.2 ⟨b, hb, rfl⟩)
  show (z_ n t.iW b).a0.toNat < _ ∧ (z_ n t.iW b).a1.toNat < _
  omega
 ·obtain ⟨b, hb, rfl⟩ := Gg.1 he
  exact ⟨_, rfl, (BN h hb).q.1, (BN h hb).q.2⟩
theorem sd {N : Nat} {l : List (Rat × Nat × Nat)} (h : DW N l) {e : Rat × Nat × Nat} (he : e ∈ l) : oc e.1 ∧ 500 ≤ e.1 ∧ e.1 ≤ 15000000 := by
 obtain ⟨z, hz, h1, h2⟩ := h.q e he
 have a := KK.2 h1
 have b := KK.2 h2
 rw [← hz] at a b
 exact ⟨⟨z, hz⟩, a, b⟩
abbrev tq : Rat := ((1000000 : Int) : Rat)
abbrev B7 (F : Nat → Nat) (l : List (Rat × Nat × Nat)) : Mt := dV ((l.map (wt tq)).map (iX F))
theorem Bu : 0 < tq := by
 have : ((0 : Int) : Rat) < ((1000000 : Int) : Rat) := Rat.intCast_lt_intCast.2 (by decide)
 simpa using this
theorem A_ {a : Nat} {c : Rat} (h0 : 0 ≤ c) (h : c ≤ (((2 ^ a : Nat) : Int) : Rat)) : ∀ k : Nat, 0 ≤ pr k (fun _ => c) ∧ pr k (fun _ => c) ≤ (((2 ^ (a * k) : Nat) : Int) : Rat)
 | 0 => by
  refine ⟨by show (0 : Rat) ≤ 1; decide, ?_⟩
  show (1 : Rat) ≤ _
  rw [Kx, KF]
  exact KN
 | k + 1 => by
  obtain ⟨h1, h2⟩ := A_ h0 h k
  refine ⟨KT h1 h0, ?_⟩
  show pr k (fun _ => c) * c ≤ _
  have e : a * (k + 1) = a * k + a := Nat.mul_succ a k
  rw [e, Ky, F0, KL]
  exact lf h2 h h1 h0
theorem Dz {a b : Nat} (h : a ≤ 32 * b) : (((2 ^ a : Nat) : Int) : Rat) ≤ wq b := by
 unfold wq
 rw [tk]
 have : 2 ^ a ≤ 2 ^ (32 * b) := KA (by decide) h
 exact KK.2 (by omega)
theorem C1 {a c : Nat} {x : Rat} (h0 : 0 ≤ x) (h : x ≤ (((2 ^ a : Nat) : Int) : Rat)) (k : Nat) (hk : a * k ≤ 32 * c) : pr k (fun _ => x) ≤ wq c :=
 KO (A_ h0 h k).2 (Dz hk)
theorem yj {N : Nat} {l : List (Rat × Nat × Nat)} (h : DW N l) : 1 ≤ pE l ∧ pE l ≤ wq 18 := by
 have h1 := h.ll
 refine ⟨tz (fun e he => by have := sd h he; grind), ?_⟩
 refine Rat.le_trans (yh (q := 15000000) (fun e he => by have := sd h he; constructor <;> grind)) (C1 (a := 24) (by decide) ?_ l.length (by omega))
 have : ((15000000 : Int) : Rat) ≤ (((2 ^ 24 : Nat) : Int) : Rat) := KK.2 (by decide)
 exact this
theorem wV {u : Nat} : ∀ {l : List (Rat × Nat × Nat)}, (∀ e ∈ l, 1 ≤ e.1) → n8 u l ≤ pE l
 | [], _ => KN
 | e :: l, h => by
  have ih := wV (u := u) (l := l) (fun e he => h e (Fc _ he))
  have h1 := h e (E4 ..)
  have h2 := si (u := u) (l := l) (fun e he => h e (Fc _ he))
  unfold n8 pE
  refine lf ?_ ih ?_ (by grind)
  ·split <;> grind
  ·split <;> grind
theorem yT {N : Nat} : ∀ {l : List (Rat × Nat × Nat)}, (∀ e ∈ l, 500 ≤ e.1) → 0 ≤ um (l.map (wt tq)) ∧ um (l.map (wt tq)) ≤ 2000 * (((l.length : Nat) : Int) : Rat)
 | [], _ => ⟨KN, by
  show (0 : Rat) ≤ 2000 * ((((0 : Nat) : Int)) : Rat)
  simp⟩
 | e :: l, h => by
  obtain ⟨a, b⟩ := yT (N := N) (l := l) (fun e he => h e (Fc _ he))
  have h1 := h e (E4 ..)
  have e1 : um ((e :: l).map (wt tq)) = tq / e.1 + um (l.map (wt tq)) := rfl
  have p : 0 < e.1⁻¹ := Rat.inv_pos.2 (by grind)
  have i1 := Rat.mul_inv_cancel e.1 (by grind)
  have i2 := KS h1 (Rat.le_of_lt p)
  have t1 : tq = 1000000 := rfl
  have e2 : (((e :: l).length : Nat) : Int) = (((l.length : Nat) : Int)) + 1 := by simp
  rw [e1, KJ, t1, e2, Rat.intCast_add, Rat.intCast_one]
  constructor <;> grind
theorem xK {N n : Nat} {F : Nat → Nat} {l : List (Rat × Nat × Nat)} (h : DW N l) (hn : n ≤ 23) (hF : ∀ i j, i < n → j < n → F i = F j → i = j) :
  Nb n (B7 F l) (fun i => n8 (F i) l) (fun i c => n8 (F i) l * dV ((l.map (wt tq)).map (kA F)) i c + dl i c) (fun i => n8 (F i) l * (4 * um (l.map (wt tq))) + 1) := by
 have h1 := h.ll
 have hq1 : ∀ e ∈ l, 1 ≤ e.1 := fun e he => by have := sd h he; grind
 have ws := yT (N := N) (fun e he => (sd h he).2.1)
 have hlc : (((l.length : Nat) : Int) : Rat) ≤ 24 := KK.2 (show ((l.length : Nat) : Int) ≤ 24 by omega)
 refine ⟨Cj hF ⟨_, rfl⟩ Bu (fun e he => ⟨(sd h he).1, hq1 e he⟩), ?_, fun i _ => KO (wV hq1) (yj h).2⟩
 have a := DO (n := n) (F := F) (l := l) (s := 4 * um (l.map (wt tq))) (w := 192000) hF hq1 (by grind) (by grind)
 have b := yj h
 have c : pr n (fun _ => (192000 : Rat) + 1) ≤ wq 13 := C1 (a := 18) (by grind) (by
  have : ((192001 : Int) : Rat) ≤ (((2 ^ 18 : Nat) : Int) : Rat) := KK.2 (by decide)
  have e : (192000 : Rat) + 1 = ((192001 : Int) : Rat) := by grind
  rw [e]; exact this) n (by omega)
 have d : pE l * pE l ≤ wq 36 := by
  rw [← pA 18 18]
  exact lf b.2 b.2 (by grind) (by grind)
 have c0 : 0 ≤ pr n (fun _ => (192000 : Rat) + 1) := iL (fun _ _ => by grind)
 have f : pE l * pE l * pr n (fun _ => (192000 : Rat) + 1) ≤ wq 49 := by
  rw [← pA 36 13]
  exact lf d c (Rat.mul_nonneg (by grind) (by grind)) c0
 exact KO a (KO f (qY (by omega)))
theorem AB (isl : List Int) : ∀ i : Nat, ∃ r, r ≤ i ∧ isl[r]? = isl[i]? ∧ ∀ j, j < r → isl[j]? ≠ isl[i]? := by
 intro i
 induction i using Nat.strongRecOn with
 | ind i ih =>
  by_cases h : ∃ j, j < i ∧ isl[j]? = isl[i]?
  ·obtain ⟨j, hj, e⟩ := h
   obtain ⟨r, h1, h2, h3⟩ := ih j hj
   exact ⟨r, by omega, h2.trans e, fun q hq hh => h3 q hq (hh.trans e.symm)⟩
  ·exact ⟨i, FA _, rfl, fun j hj e => h ⟨j, hj, e⟩⟩
theorem BU {n : Net} {t : aN} {u v : Int} (h : qo (n.bE.map (z_ n t.iW)) u v) : Lk ((sL n t.iW).map (wt tq)) u.toNat v.toNat := by
 induction h with
 | refl => exact .refl
 | snoc _ ha ih =>
  obtain ⟨e, he, hh⟩ := ha
  obtain ⟨b, hb, rfl⟩ := Gg.1 he
  have hm : wt tq (ym n t.iW b) ∈ (sL n t.iW).map (wt tq) := Gg.2 ⟨_, Gg.2 ⟨b, hb, rfl⟩, rfl⟩
  rcases hh with ⟨rfl, rfl⟩ | ⟨rfl, rfl⟩
  ·exact .step ih (.inl hm)
  ·exact .step ih (.inr hm)
theorem xL {n : Net} (h : oS n) (hn : kD n) {t : aN} (ht : oC n t) : Pd (fr t.aW).length (B7 (ur t.aW) (sL n t.iW)) := by
 have hE := tG h hn ht
 obtain ⟨c, hc⟩ := ht.comp
 refine DQ (fun e he => ?_) (fun i j hi hj e => rT hi hj e) (fun i hi => ?_)
 ·obtain ⟨d, hd, rfl⟩ := Gg.1 he
  have := sd hE hd
  show 0 < tq / d.1
  rw [KJ]
  exact Rat.mul_pos Bu (Rat.inv_pos.2 (by grind))
 ·have hm := xx.1 (u9 hi)
  obtain ⟨r, h1, h2, h3⟩ := AB t.aW (ur t.aW i)
  refine ⟨r, fun j hj e => ?_, ?_⟩
  ·have hm2 := xx.1 (u9 hj)
   rw [e] at hm2
   obtain ⟨_, q, hq, hqe⟩ := hm2
   exact h3 q hq (hqe.trans h2)
  ·have hl : ∀ (a : Nat), a < t.aW.length → lb t.aW (a : Int) = t.aW[a]! := fun a ha => by
    rw [tP ha]; simp [ha]
   have hcon : qo (n.bE.map (z_ n t.iW)) ((ur t.aW i : Nat) : Int) ((r : Nat) : Int) := by
    refine (hc.iff _ _ (by omega) (by omega) (by omega) (by omega)).1 ?_
    have hr : r < t.aW.length := by omega
    rw [tP hm.1, tP hr]
    rw [EZ hr, EZ hm.1] at h2
    exact (EV h2).symm
   have := BU hcon
   simpa using this
structure Md (n : Net) (t : aN) (M : aO) : Prop where
 top : M.pj = t
 md : zO M (fr t.aW).length t.aW.length (ur t.aW) (sL n t.iW) tq
 cl : M.C.length = n.bE.length
 c : ∀ (k : Nat) (y : LR), M.C[k]? = some y → ∃ b, n.bE[k]? = some b ∧ kW y ∧ RL y 4 ∧ rv y = (tq / ((b.X * b.qn : Int) : Rat)) * (((0 - b.Shift : Int) : Rat) / ((1000 : Int) : Rat))
 inv : CO M.lH (fr t.aW).length (B7 (ur t.aW) (sL n t.iW))
theorem yS {α β : Type} {P : α → β → Prop} {l : List α} {m : List β} (hl : l.length = m.length) (h : ∀ (k : Nat) (y : α), l[k]? = some y → ∃ b, m[k]? = some b ∧ P y b) {x : α} {b : β} (hx : P x b) : ∀ (k : Nat) (y : α), (l ++ [x])[k]? = some y → ∃ b', (m ++ [b])[k]? = some b' ∧ P y b' := by
 intro k y hk
 by_cases e : k < l.length
 ·rw [Gl e] at hk
  obtain ⟨b', h1, h2⟩ := h k y hk
  exact ⟨b', by rw [Gl (by omega)]; exact h1, h2⟩
 ·have hk2 := (ET.1 hk).1
  rw [FP, F2] at hk2
  obtain rfl : k = l.length := by omega
  rw [FI (FA _), GC] at hk
  obtain rfl := EV hk
  exact ⟨b, by rw [hl, FI (FA _), GC]; rfl, hx⟩
theorem xk {n : Net} (hn : kD n) {t : aN} (ht : oC n t) {k : Nat} (hk : k < n.bJ.length) : ∃ v : Nat, t.iW[k]? = some (v : Int) ∧ v = (t.iW.getD k 0).toNat := by
 have hkl : k < t.iW.length := by rw [ht.bl]; exact hk
 have h1 := ht.bi _ (Gr hkl)
 refine ⟨(t.iW[k]).toNat, ?_, ?_⟩
 ·rw [EZ hkl]; congr 1; omega
 ·rw [FH, EZ hkl]; rfl
theorem wG {n : Net} (h : oS n) (hn : kD n) {t : aN} (hg : cK n = some t) (ht : oC n t) : Gd (ox n) (fun o => ∃ M, o = some M ∧ Md n t M) := by
 have hE := tG h hn ht
 have hll := h.l3
 have hN := ht.BB
 unfold ox
 refine Gd.bind_eq hg ?_
 refine Gd.dJ (fun k ys s => ∃ pre, n.bE = pre ++ ys ∧ pre.length = k ∧ s.1 = pre.map (fun b => ((ym n t.iW b).2.1 : Int)) ∧ s.2.1 = pre.map (fun b => ((ym n t.iW b).2.2 : Int)) ∧ s.2.2.1.length = pre.length ∧ s.2.2.2.length = pre.length ∧
  (∀ (k : Nat) (y : LR), s.2.2.1[k]? = some y → ∃ b, pre[k]? = some b ∧ (kW y ∧ RL y 2 ∧ rv y = tq / ((b.X * b.qn : Int) : Rat))) ∧
  (∀ (k : Nat) (y : LR), s.2.2.2[k]? = some y → ∃ b, pre[k]? = some b ∧ (kW y ∧ RL y 4 ∧ rv y = (tq / ((b.X * b.qn : Int) : Rat)) * (((0 - b.Shift : Int) : Rat) / ((1000 : Int) : Rat))))) ?_ ?_ n.bE 0 _
  ⟨[], rfl, rfl, rfl, rfl, rfl, rfl, fun k y hy => by simp at hy, fun k y hy => by simp at hy⟩
 ·rintro k b ys ⟨l1, l2, l3, l4⟩ nx ⟨pre, hp, hpk, e1, e2, e3, e4, hB, hC⟩ hnx
  simp only at e1 e2 e3 e4 hB hC
  subst e1 e2
  have hb : b ∈ n.bE := by rw [hp]; simp
  have hkl : pre.length < 24 := by
   have : n.bE.length = pre.length + (ys.length + 1) := by rw [hp]; simp
   omega
  obtain ⟨_, m1, m2, _⟩ := h.vb b hb
  obtain ⟨p1, p2⟩ := Jo m1
  obtain ⟨q1, q2⟩ := Jo m2
  obtain ⟨u, u1, u2⟩ := xk hn ht p2
  obtain ⟨v, v1, v2⟩ := xk hn ht q2
  have V := BN h hb
  have hq := V.q
  have hx := V.x; have htp := V.t; have hs := V.s
  unfold pV
  have w1 : i64.wrap (b.X * b.qn) = b.X * b.qn := bN ⟨by omega, by omega⟩
  have w2 : i64.wrap (0 - b.Shift) = 0 - b.Shift := bN ⟨by omega, by omega⟩
  rw [w1, w2]
  refine Gd.bind_eq p1 (Gd.ix (by omega) (by rw [E1]; exact u1) (Gd.nd (by simp; omega) (Gd.bind_eq q1 (Gd.ix (by omega) (by rw [E1]; exact v1) (Gd.nd (by simp; omega) ?_)))))
  refine Gd.e_ (yu (by omega) (by omega) (by omega)) (fun s hs' => Gd.nd (by simp; omega) (Gd.e_ (yu (by omega) (by omega) (by omega)) (fun f hf => Gd.e_ (sf hs'.1 hf.1 hs'.2.1 hf.2.1 (by omega)) (fun c hc => Gd.nd (by simp; omega) ?_))))
  refine hnx _ ⟨pre ++ [b], by rw [hp]; simp, by simp [hpk], ?_, ?_, by simp [e3], by simp [e4], ?_, ?_⟩
  ·simp only [GK, Iu, List.map_nil]
   rw [u2]; rfl
  ·simp only [GK, Iu, List.map_nil]
   rw [v2]; rfl
  ·exact yS e3 hB ⟨hs'.1, hs'.2.1, hs'.2.2⟩
  ·exact yS e4 hC ⟨hc.1, hc.2.1, by rw [hc.2.2, hs'.2.2, hf.2.2]⟩
 ·rintro k ⟨l1, l2, l3, l4⟩ ⟨pre, hp, hpk, e1, e2, e3, e4, hB, hC⟩
  simp only at e1 e2 e3 e4 hB hC
  rw [FY] at hp
  subst hp
  subst e1 e2
  refine Gd.dJ (fun i ys s => ∃ pre, t.aW = pre ++ ys ∧ pre.length = i ∧ vF s.1 ∧ (∀ k : Int, (lX s.1 k).getD false = true ↔ k ∈ pre) ∧
   s.2 = ((List.range i).filter (fun i => (List.range i).any (fun j => decide (t.aW[j]? = t.aW[i]?)))).map (fun x : Nat => (x : Int))) ?_ ?_ t.aW 0 _
   ⟨[], rfl, rfl, vF.nil, fun k => by simp [lX, pR], rfl⟩
  ·rintro i y ys ⟨seen, free⟩ nx ⟨pre, hp, hpi, hk, hs, e⟩ hnx
   simp only at hk hs e
   subst e
   have hi : t.aW[i]? = some y := by rw [hp, FI (by omega), hpi, GC]; rfl
   have hil := (ET.1 hi).1
   have hmem : y ∈ pre ↔ (List.range i).any (fun j => decide (t.aW[j]? = t.aW[i]?)) = true := by
    rw [List.any_eq_true]
    constructor
    ·intro hy
     obtain ⟨j, hj, he⟩ := Gv.1 hy
     refine ⟨j, F3.2 (by omega), ?_⟩
     rw [hi, hp, Gl hj, EZ hj, he]; simp
    ·rintro ⟨j, hj, he⟩
     have hj := F3.1 hj
     have he := Fa he
     rw [hi, hp, Gl (by omega)] at he
     exact Fi he
   have hfl : ((List.range i).filter (fun i => (List.range i).any (fun j => decide (t.aW[j]? = t.aW[i]?)))).length ≤ i := by
    have := List.length_filter_le (fun i => (List.range i).any (fun j => decide (t.aW[j]? = t.aW[i]?))) (List.range i)
    simpa using this
   have hput : vF (oV seen y true) ∧ ∀ k : Int, (lX (oV seen y true) k).getD false = true ↔ k ∈ pre ++ [y] := by
    refine ⟨(hk.put y true).1, fun k => ?_⟩
    rw [hk.yv, FK, Gh]
    split
    ·rename_i e; simp [e]
    ·rename_i e; rw [hs k]; simp [e]
   unfold pW
   refine Gd.ite (fun hc => ?_) (fun hc => ?_)
   ·have hc2 := hmem.1 ((hs y).1 hc)
    unfold lJ
    refine Gd.nd (by simp only [HE, F2]; omega) (hnx _ ⟨pre ++ [y], by rw [hp]; simp, by simp [hpi], hput.1, hput.2, ?_⟩)
    simp only
    rw [IM, Jk, GK, List.filter_cons, E_ hc2]
    rfl
   ·have hc2 : ¬ (List.range i).any (fun j => decide (t.aW[j]? = t.aW[i]?)) = true := fun hh => by
     have := (hs y).2 (hmem.2 hh)
     rw [this] at hc; cases hc
    unfold lJ
    refine hnx _ ⟨pre ++ [y], by rw [hp]; simp, by simp [hpi], hput.1, hput.2, ?_⟩
    simp only
    rw [IM, Jk, GK, List.filter_cons, E6 hc2]
    simp
  ·rintro i ⟨seen, free⟩ ⟨pre, hp, hpi, hk, hs, e⟩
   simp only at e
   rw [FY] at hp
   subst e
   have hi : i = t.aW.length := by rw [← hpi, ← hp]
   subst hi
   have hmd : zO (aO.mk t (n.bE.map (fun b => ((ym n t.iW b).2.1 : Int))) (n.bE.map (fun b => ((ym n t.iW b).2.2 : Int))) l3 l4 ((fr t.aW).map (fun x : Nat => (x : Int))) []) (fr t.aW).length t.aW.length (ur t.aW) (sL n t.iW) tq := by
    refine ⟨u_ hN, DJ _, fun i j hi hj e => rT hi hj e, fun i hi => (xx.1 (u9 hi)).1, hN, hE.ll, hE.el, ?_, ?_, by show l3.length = _; rw [e3]; simp [sL], fun k y hy => ?_⟩
    ·simp [sL]
    ·simp [sL]
    ·obtain ⟨b, hb, y1, y2, y3⟩ := hB k y hy
     exact ⟨ym n t.iW b, by unfold sL; rw [FJ, hb]; rfl, y1, y2, y3⟩
   have hinv := zm hmd (xL h hn ht) (xK hE (u_ hN) (fun i j hi hj e => rT hi hj e))
   refine Gd.e_ hinv ?_
   rintro _ ⟨rows, rfl, hI⟩
   refine Gd.ret ⟨_, rfl, ⟨rfl, ?_, e4, hC, hI⟩⟩
   exact ⟨hmd.hn, hmd.free, hmd.inj, hmd.lt, hmd.hN, hmd.ll, hmd.el, hmd.fr, hmd.to, hmd.bl, hmd.b⟩
def NL (l : List LR) (N : Nat) (P : Nat → LR → Prop) : Prop := l.length = N ∧ ∀ (b : Nat) (y : LR), l[b]? = some y → P b y
theorem NL.mono {l : List LR} {N : Nat} {P P' : Nat → LR → Prop} (h : NL l N P) (k : ∀ b y, b < N → P b y → P' b y) : NL l N P' :=
 ⟨h.1, fun b y hb => k b y (by rw [← h.1]; exact (ET.1 hb).1) (h.2 b y hb)⟩
theorem NL.set {l : List LR} {N : Nat} {P : Nat → LR → Prop} (h : NL l N P) {b : Nat} {y : LR} (hy : P b y) : NL (l.set b y) N P := by
 refine ⟨by rw [Fj]; exact h.1, fun b' y' hb => ?_⟩
 by_cases e : b = b'
 ·subst e
  have hl : b < l.length := by
   have := (ET.1 hb).1
   rwa [Fj] at this
  rw [FD hl] at hb
  obtain rfl := EV hb
  exact hy
 ·rw [Fz e] at hb
  exact h.2 b' y' hb
theorem NL.snoc {l : List LR} {N : Nat} {P : Nat → LR → Prop} (h : NL l N P) {y : LR} (hy : P N y) : NL (l ++ [y]) (N + 1) P := by
 refine ⟨by simp [h.1], fun b y' hb => ?_⟩
 by_cases e : b < l.length
 ·rw [Gl e] at hb
  exact h.2 b y' hb
 ·have hk2 := (ET.1 hb).1
  rw [FP, F2] at hk2
  obtain rfl : b = l.length := by omega
  rw [FI (FA _), GC] at hb
  obtain rfl := EV hb
  rw [h.1]; exact hy
theorem NL.get {R : Type} {Q : R → Prop} {l : List LR} {N : Nat} {P : Nat → LR → Prop} (h : NL l N P) {b : Nat} (hb : b < N) {f : LR → Option R} (hk : ∀ y, P b y → Gd (f y) Q) : Gd (idx l (b : Int) f) Q := by
 have hl : b < l.length := by rw [h.1]; exact hb
 exact Gd.jS hl (hk _ (h.2 b _ (EZ hl)))
theorem Cv {n : Net} {t : aN} {M : aO} (hM : Md n t M) (ht : oC n t) (hn : kD n) {p : List Int} (hp : p.length = n.bJ.length) (hb : ∀ z ∈ p, -100000 ≤ z ∧ z ≤ 100000) :
  Gd (jV M p) (fun r => NL r t.aW.length (fun _ y => kW y ∧ RL y 2 ∧ ∃ z : Int, rv y = (z : Rat) ∧ -2400000 ≤ z ∧ z ≤ 2400000)) := by
 have h24 := hn.l1
 have hN := ht.BB
 unfold jV bY
 rw [hM.top]
 refine Gd.nd (by omega) ?_
 rw [E1]
 refine Gd.dJ (fun i ys s => ∃ pre, p = pre ++ ys ∧ pre.length = i ∧ s.length = t.aW.length ∧ ∀ z ∈ s, -100000 * (i : Int) ≤ z ∧ z ≤ 100000 * (i : Int)) ?_ ?_ p 0 _ ⟨[], rfl, rfl, by simp, fun z hz => by
  have := Kc hz
  omega⟩
 ·rintro i y ys s nx ⟨pre, hpp, hpi, hsl, hs⟩ hnx
  have hi : i < n.bJ.length := by rw [← hp, hpp]; simp; omega
  have hy := hb y (by rw [hpp]; simp)
  obtain ⟨v, v1, v2⟩ := xk hn ht hi
  have hv : v < t.aW.length := by
   have := ht.bi _ (Fi v1)
   omega
  have hvs : v < s.length := by omega
  unfold lB
  rw [hM.top]
  refine Gd.ix (by omega) (by rw [E1]; exact v1) (Gd.jS hvs (Gd.jS hvs ?_))
  have hz := hs _ (Gr hvs)
  have hw : i64.wrap (s[v] + y) = s[v] + y := bN ⟨by omega, by omega⟩
  rw [hw, E1]
  refine hnx _ ⟨pre ++ [y], by rw [hpp]; simp, by simp [hpi], by rw [Fj]; exact hsl, fun z hz' => ?_⟩
  rcases Kj hz' with h1 | h1
  ·have := hs z h1; omega
  ·subst h1; omega
 ·rintro i s ⟨pre, hpp, hpi, hsl, hs⟩
  rw [FY] at hpp
  have hil : i ≤ 24 := by rw [← hpi, ← hpp, hp]; exact h24
  refine Gd.dJ (fun k ys r => ∃ pre, s = pre ++ ys ∧ pre.length = k ∧ NL r k (fun _ y => kW y ∧ RL y 2 ∧ ∃ z : Int, rv y = (z : Rat) ∧ -2400000 ≤ z ∧ z ≤ 2400000)) ?_ ?_ s 0 _ ⟨[], rfl, rfl, rfl, fun b y hb => by simp at hb⟩
  ·rintro k y ys r nx ⟨pre, hps, hpk, hr⟩ hnx
   have hy := hs y (by rw [hps]; simp)
   have hkl : s.length = pre.length + (ys.length + 1) := by rw [hps]; simp
   have hrl := hr.1
   unfold lC
   refine Gd.e_ (sk (by omega)) (fun w hw => Gd.nd (by simp; omega) (hnx _ ⟨pre ++ [y], by rw [hps]; simp, by simp [hpk], hr.snoc ⟨hw.1, hw.2.1, y, hw.2.2, by omega, by omega⟩⟩))
  ·rintro k r ⟨pre, hps, hpk, hr⟩
   rw [FY] at hps
   have hkn : k = t.aW.length := by rw [← hpk, ← hps, hsl]
   subst hkn
   exact Gd.ret hr
theorem De {a b : List LR} {n W : Nat} {A B : Nat → Rat} (hn : n ≤ 24) (hW : W ≤ 6000) (ha : NL a n (fun j y => kW y ∧ RL y W ∧ rv y = A j)) (hb : NL b n (fun j y => kW y ∧ RL y W ∧ rv y = B j)) :
  Gd (nM a b) (fun r => kW r ∧ rv r = sm n (fun j => A j * B j)) := by
 unfold nM
 refine Gd.e_ (sk (n := 0) (by omega)) (fun z hz => ?_)
 rw [ha.1, E1]
 refine Gd.jK (fun m k s => k + m = n ∧ ∃ r : LR, s = (r.N.minus, r.N.words, r.D.minus, r.D.words) ∧ kW r ∧ RL r (2 + (2 * W + 1) * k) ∧ rv r = sm k (fun j => A j * B j)) ?_ ?_ n 0 _ ⟨by omega, z, rfl, hz.1, hz.2.1, by rw [hz.2.2]; rfl⟩
 ·rintro m k _ nx ⟨hk, r, rfl, hr, hrl, hv⟩ hnx
  have hkn : k < n := by omega
  have hbig : (2 * W + 1) * k ≤ (2 * W + 1) * 23 := Kw _ (by omega)
  have hsucc : (2 * W + 1) * (k + 1) = (2 * W + 1) * k + (2 * W + 1) := Nat.mul_succ _ _
  unfold oG
  refine ha.get hkn (fun y hy => ?_)
  have skip : A k * B k = 0 → Gd (iD nx r.N.minus r.N.words r.D.minus r.D.words) (fun r => kW r ∧ rv r = sm n (fun j => A j * B j)) := fun h0 => by
   unfold iD
   refine hnx _ ⟨by omega, r, rfl, hr, hrl.mono (by omega), ?_⟩
   rw [hv]
   show _ = sm k (fun j => A j * B j) + A k * B k
   rw [h0]; grind
  rw [qM hy.1, hy.2.2]
  refine Gd.ite (fun h => skip (by rw [of_decide_eq_true h]; grind)) (fun _ => hb.get hkn (fun u hu => ?_))
  rw [qM hu.1, hu.2.2]
  refine Gd.ite (fun _ => ha.get hkn (fun y2 hy2 => hb.get hkn (fun u2 hu2 => ?_))) (fun h => skip (by
   have h1 : decide (B k = 0) = true := by simpa using h
   rw [of_decide_eq_true h1]; grind))
  refine Gd.e_ (sf hy2.1 hu2.1 hy2.2.1 hu2.2.1 (by omega)) (fun c hc => Gd.e_ (p8 (a := ⟨⟨r.N.minus, r.N.words⟩, ⟨r.D.minus, r.D.words⟩⟩) hr hc.1 hrl hc.2.1 (by omega)) (fun d hd => ?_))
  unfold iD
  refine hnx _ ⟨by omega, d, rfl, hd.1, hd.2.1.mono (by omega), ?_⟩
  rw [hd.2.2, hc.2.2, hy2.2.2, hu2.2.2]
  show rv r + _ = sm k (fun j => A j * B j) + A k * B k
  rw [hv]
 ·rintro k _ ⟨hk, r, rfl, hr, hrl, hv⟩
  obtain rfl : k = n := by omega
  exact Gd.ret ⟨hr, hv⟩
theorem BQ {q s : Int} (hq : 500 ≤ q) (hs : -1000 ≤ s ∧ s ≤ 1000) : -2000 ≤ (tq / (q : Rat)) * ((s : Rat) / ((1000 : Int) : Rat)) ∧ (tq / (q : Rat)) * ((s : Rat) / ((1000 : Int) : Rat)) ≤ 2000 ∧ (tq / (q : Rat)) * ((s : Rat) / ((1000 : Int) : Rat)) = (((1000 * s : Int) : Rat)) / (q : Rat) := by
 have h1 : ((500 : Int) : Rat) ≤ (q : Rat) := KK.2 hq
 have h2 : ((-1000 : Int) : Rat) ≤ (s : Rat) := KK.2 hs.1
 have h3 : (s : Rat) ≤ ((1000 : Int) : Rat) := KK.2 hs.2
 have e1 : ((500 : Int) : Rat) = 500 := rfl
 have e2 : ((-1000 : Int) : Rat) = -1000 := by rw [KM]; rfl
 have e3 : ((1000 : Int) : Rat) = 1000 := rfl
 have e4 : tq = 1000000 := rfl
 rw [e1] at h1; rw [e2] at h2; rw [e3] at h3 ⊢
 have p : 0 < ((q : Rat))⁻¹ := Rat.inv_pos.2 (by grind)
 have i1 := Rat.mul_inv_cancel (q : Rat) (by grind)
 have i2 := KS h1 (Rat.le_of_lt p)
 have i3 : (q : Rat)⁻¹ ≤ 1 / 500 := by grind
 have e5 : (tq / (q : Rat)) * ((s : Rat) / 1000) = (1000 * (s : Rat)) * (q : Rat)⁻¹ := by rw [e4, Rat.div_def, Rat.div_def]; grind
 have m := tx (x := 1000 * (s : Rat)) (y := (q : Rat)⁻¹) (a := 1000000) (b := 1 / 500) (by grind) (by grind) (by grind) i3
 refine ⟨by rw [e5]; grind, by rw [e5]; grind, ?_⟩
 rw [e5, KL, e3, KJ]
def Lg (l : List (Rat × Nat × Nat)) (W : Nat) (C : Rat) (b : Nat) (y : LR) : Prop := kW y ∧ RL y W ∧ oc (n8 b l * rv y) ∧ -C ≤ rv y ∧ rv y ≤ C
theorem Lg.mono {l : List (Rat × Nat × Nat)} {W W' : Nat} {C C' : Rat} {b : Nat} {y : LR} (h : Lg l W C b y) (hW : W ≤ W') (hC : C ≤ C') : Lg l W' C' b y :=
 ⟨h.1, h.2.1.mono hW, h.2.2.1, by have := h.2.2.2.1; grind, by have := h.2.2.2.2; grind⟩
theorem yx {a : Rat} (h : oc a) : oc (-a) := by
 obtain ⟨z, rfl⟩ := h
 exact ⟨-z, by rw [KM]⟩
theorem Lg.sub {l : List (Rat × Nat × Nat)} {W : Nat} {C : Rat} {b : Nat} {y c : LR} (h : Lg l W C b y) (hc : Lg l 4 2000 b c) (hW : W ≤ 1000) : Gd (fA y c) (Lg l (W + 5) (C + 2000) b) := by
 obtain ⟨a1, a2, a3, a4, a5⟩ := h
 obtain ⟨c1, c2, c3, c4, c5⟩ := hc
 refine (qX a1 c1 a2 c2 (by omega)).mono (fun r hr => ⟨hr.1, hr.2.1.mono (by omega), ?_, ?_, ?_⟩)
 ·rw [hr.2.2]
  have e : n8 b l * (rv y - rv c) = n8 b l * rv y + -(n8 b l * rv c) := by grind
  rw [e]; exact rU a3 (yx c3)
 ·rw [hr.2.2]; grind
 ·rw [hr.2.2]; grind
theorem Lg.add {l : List (Rat × Nat × Nat)} {W : Nat} {C : Rat} {b : Nat} {y c : LR} (h : Lg l W C b y) (hc : Lg l 4 2000 b c) (hW : W ≤ 1000) : Gd (dY y c) (Lg l (W + 5) (C + 2000) b) := by
 obtain ⟨a1, a2, a3, a4, a5⟩ := h
 obtain ⟨c1, c2, c3, c4, c5⟩ := hc
 refine (p8 a1 c1 a2 c2 (by omega)).mono (fun r hr => ⟨hr.1, hr.2.1.mono (by omega), ?_, ?_, ?_⟩)
 ·rw [hr.2.2]
  have e : n8 b l * (rv y + rv c) = n8 b l * rv y + n8 b l * rv c := by grind
  rw [e]; exact rU a3 c3
 ·rw [hr.2.2]; grind
 ·rw [hr.2.2]; grind
theorem AU {n : Net} {t : aN} {M : aO} (hM : Md n t M) {k : Nat} {b : cA} (hb : n.bE[k]? = some b) :
  M.gY[k]? = some ((ym n t.iW b).2.1 : Int) ∧ M.To[k]? = some ((ym n t.iW b).2.2 : Int) ∧ (sL n t.iW)[k]? = some (ym n t.iW b) := by
 have e : (sL n t.iW)[k]? = some (ym n t.iW b) := by unfold sL; rw [FJ, hb]; rfl
 refine ⟨?_, ?_, e⟩
 ·rw [hM.md.fr]; exact uT (fun e : Rat × Nat × Nat => (e.2.1 : Int)) e
 ·rw [hM.md.to]; exact uT (fun e : Rat × Nat × Nat => (e.2.2 : Int)) e
theorem Eb {n : Net} {t : aN} {M : aO} (h : oS n) (hn : kD n) (hM : Md n t M) (ht : oC n t) {k : Nat} {c : LR} (hc : M.C[k]? = some c) :
  ∃ b, n.bE[k]? = some b ∧ Lg (sL n t.iW) 4 2000 (ym n t.iW b).2.1 c ∧ Lg (sL n t.iW) 4 2000 (ym n t.iW b).2.2 c := by
 obtain ⟨b, hb, c1, c2, c3⟩ := hM.c k c hc
 have V := BN h (Fi hb)
 have hE := tG h hn ht
 obtain ⟨_, _, e⟩ := AU hM hb
 have hm := Fi e
 have hs := V.s
 obtain ⟨d1, d2, d3⟩ := BQ (q := b.X * b.qn) (s := 0 - b.Shift) V.q.1 (by omega)
 rw [← c3] at d1 d2 d3
 have I := fun (u : Nat) hu => vz (u := u) (l := sL n t.iW) (fun e he => ⟨(sd hE he).1, by have := (sd hE he).2.1; grind⟩) _ hm hu (((1000 * (0 - b.Shift) : Int)) : Rat) ⟨_, rfl⟩
 refine ⟨b, hb, ⟨c1, c2, ?_, d1, d2⟩, ⟨c1, c2, ?_, d1, d2⟩⟩
 ·rw [d3]; exact I _ (.inl rfl)
 ·rw [d3]; exact I _ (.inr rfl)
theorem sr (k : Nat) : (((k + 1 : Nat) : Int) : Rat) = ((k : Int) : Rat) + 1 := by rw [J6, Rat.intCast_add]; rfl
theorem Cc {n : Net} {t : aN} {M : aO} (h : oS n) (hn : kD n) (hM : Md n t M) (ht : oC n t) {p : List LR}
  (hp : NL p t.aW.length (fun _ y => kW y ∧ RL y 2 ∧ ∃ z : Int, rv y = (z : Rat) ∧ -2400000 ≤ z ∧ z ≤ 2400000)) {Q : List LR → Prop} {K : List LR → Option (List LR)} (hK : ∀ s, NL s t.aW.length (Lg (sL n t.iW) 300 2500000) → Gd (K s) Q) :
  Gd (dJ (fun k y s n => iY M k y s n) K 0 M.C p) Q := by
 have hE := tG h hn ht
 have hcl := hM.cl
 have h24 := h.l3
 refine Gd.dJ (fun k ys s => ∃ pre, M.C = pre ++ ys ∧ pre.length = k ∧ NL s t.aW.length (Lg (sL n t.iW) (2 + 10 * k) (2400000 + 4000 * ((k : Int) : Rat)))) ?_ ?_ M.C 0 p ⟨[], rfl, rfl, hp.mono (fun b y hb hy => ?_)⟩
 ·rintro k c ys s nx ⟨pre, hpc, hpk, hs⟩ hnx
  have hck : M.C[k]? = some c := by rw [hpc, FI (by omega), hpk, GC]; rfl
  obtain ⟨b, hb, g1, g2⟩ := Eb h hn hM ht hck
  obtain ⟨f1, f2, f3⟩ := AU hM hb
  have hlt := hE.el _ (Fi f3)
  have hk24 : k < 24 := by have := (ET.1 hck).1; omega
  generalize ym n t.iW b = e at g1 g2 f1 f2 f3 hlt
  unfold iY
  refine Gd.ix (by omega) (by rw [E1]; exact f1) (Gd.ix (by omega) (by rw [E1]; exact f1) (hs.get hlt.1 (fun y hy => Gd.e_ (hy.sub g1 (by omega)) (fun r hr => hs.get hlt.1 (fun _ _ => ?_)))))
  have c0 : (2400000 + 4000 * ((k : Int) : Rat)) ≤ (2400000 + 4000 * ((k : Int) : Rat)) + 2000 := by grind
  have hs2 := (hs.mono (P' := Lg (sL n t.iW) (2 + 10 * k + 5) (2400000 + 4000 * ((k : Int) : Rat) + 2000)) (fun b y _ hy => hy.mono (by omega) c0)).set (b := e.2.1) hr
  refine Gd.ix (by omega) (by rw [E1]; exact f2) (Gd.ix (by omega) (by rw [E1]; exact f2) ?_)
  rw [E1, E1]
  refine hs2.get hlt.2 (fun y2 hy2 => Gd.e_ (hy2.add g2 (by omega)) (fun r2 hr2 => hs2.get hlt.2 (fun _ _ => ?_)))
  have c1 : (2400000 + 4000 * ((k : Int) : Rat)) + 2000 ≤ 2400000 + 4000 * (((k + 1 : Nat) : Int) : Rat) := by rw [sr]; grind
  have c2 : (2400000 + 4000 * ((k : Int) : Rat)) + 2000 + 2000 ≤ 2400000 + 4000 * (((k + 1 : Nat) : Int) : Rat) := by rw [sr]; grind
  exact hnx _ ⟨pre ++ [c], by rw [hpc]; simp, by simp [hpk], (hs2.mono (fun b y _ hy => hy.mono (by omega) c1)).set (hr2.mono (by omega) c2)⟩
 ·rintro k s ⟨pre, hpc, hpk, hs⟩
  rw [FY] at hpc
  have hk24 : k ≤ 24 := by rw [← hpk, ← hpc]; omega
  have hc : ((k : Int) : Rat) ≤ ((24 : Int) : Rat) := KK.2 (by omega)
  have e24 : ((24 : Int) : Rat) = 24 := rfl
  rw [e24] at hc
  exact hK s (hs.mono (fun b y _ hy => hy.mono (by omega) (by grind)))
 ·obtain ⟨y1, y2, z, y3, y4, y5⟩ := hy
  have e0 : (((0 : Nat) : Int) : Rat) = 0 := rfl
  have a := KK.2 y4
  have b := KK.2 y5
  have e1 : ((2400000 : Int) : Rat) = 2400000 := rfl
  rw [KM, e1] at a
  rw [e1] at b
  refine ⟨y1, y2, ?_, ?_, ?_⟩
  ·rw [y3]
   exact mJ (s8 (fun e he => (sd hE he).1)) ⟨z, rfl⟩
  ·rw [y3, e0]; grind
  ·rw [y3, e0]; grind
def An (D : Rat) (y : LR) : Prop := kW y ∧ ∃ T, oc T ∧ -wq 140 ≤ T ∧ T ≤ wq 140 ∧ rv y = T / D
structure Dv (D : Rat) : Prop where
 i : oc D
 z : D ≠ 0
 a : -wq 60 ≤ D
 b : D ≤ wq 60
theorem AI : oc 0 := ⟨0, rfl⟩
theorem An.rb {D : Rat} (hD : Dv D) {y : LR} (h : An D y) : RB (rv y) 141 := by
 obtain ⟨_, T, t1, t2, t3, e⟩ := h
 rw [e]
 have := qY (show 60 ≤ 140 by omega)
 have h1 := hD.a
 have h2 := hD.b
 exact se t1 hD.i t2 t3 (by grind) (by grind) hD.z (by omega)
theorem An.zero {D : Rat} {y : LR} (hy : kW y) (h0 : rv y = 0) : An D y := ⟨hy, 0, AI, by have := pB 140; grind, by have := pB 140; grind, by rw [h0, Rat.div_def]; grind⟩
theorem C3 {f : Nat → Rat} {b : Rat} (hb : 0 ≤ b) : ∀ {n : Nat}, (∀ i, i < n → -b ≤ f i ∧ f i ≤ b) → -(((n : Int) : Rat) * b) ≤ sm n f ∧ sm n f ≤ ((n : Int) : Rat) * b
 | 0, _ => by
  show -((((0 : Nat) : Int) : Rat) * b) ≤ 0 ∧ 0 ≤ ((((0 : Nat) : Int) : Rat) * b)
  have e : ((((0 : Nat) : Int)) : Rat) = 0 := rfl
  rw [e]; grind
 | n + 1, h => by
  have h1 := C3 hb (n := n) (fun i hi => h i (by omega))
  have h2 := h n (by omega)
  rw [sr]
  show _ ≤ sm n f + f n ∧ sm n f + f n ≤ _
  grind
theorem z6 {n : Nat} {A B m : Mt} {L R : Nat → Rat} (h : Nb n A L B R) (hp : Pd n A) (hn : n ≤ 23) (hG : Gj n A n m) {i : Nat} (hi : i < n) {x : Nat → Rat} (hx : ∀ p, p < n → oc (L p * x p) ∧ -2500000 ≤ x p ∧ x p ≤ 2500000) {y : LR} (hy : kW y)
  (e : rv y = sm n (fun p => m i (n + p) * x p)) : An (Dk A L n) y := by
 have d0 := (h.D0 hp (FA n)).1
 have key : ∀ p, p < n → ∃ T, oc T ∧ -wq 139 ≤ T ∧ T ≤ wq 139 ∧ m i (n + p) * x p = T * (Dk A L n)⁻¹ := fun p hpn => by
  obtain ⟨N, n1, n2, n3, e1⟩ := hG.num h.s (FA n) hi hpn
  rw [E6 (by omega)] at e1
  have e1' : m i (n + p) * Dk A L n = N * L p := by
   have e2 : 1 * m i (n + p) * Dk A L n = N * L p := e1
   grind
  obtain ⟨x1, x2, x3⟩ := hx p hpn
  have hP := h.hP
  have p1 : 1 ≤ pr n R := vw (fun j hj => h.s.R1 hj)
  have r1 := h.s.R1 hi
  have r2 := h.R hi
  have hNb : pr n R * R i ≤ wq 120 := by
   rw [← pA 60 60]
   exact lf hP r2 (by grind) (by grind)
  have l1 := h.s.l1 p hpn
  have l2 := h.hL p hpn
  have w1 : (2500000 : Rat) ≤ wq 1 := by
   have : ((2500000 : Int) : Rat) ≤ (((WB ^ 1 : Nat) : Int) : Rat) := KK.2 (by decide)
   exact this
  have q1 := tx (x := L p) (y := x p) (a := wq 18) (b := wq 1) (by have := pB 18; grind) l2 (by grind) (by grind)
  rw [pA] at q1
  have q2 := tx (x := N) (y := L p * x p) (a := wq 120) (b := wq (18 + 1)) (by grind) (by grind) q1.1 q1.2
  rw [pA] at q2
  refine ⟨N * (L p * x p), mJ n1 x1, q2.1, q2.2, ?_⟩
  have i1 := KQ _ d0
  have e3 : m i (n + p) = N * L p * (Dk A L n)⁻¹ := by rw [← e1']; grind
  rw [e3]; grind
 have : ∃ T : Nat → Rat, ∀ p, p < n → oc (T p) ∧ -wq 139 ≤ T p ∧ T p ≤ wq 139 ∧ m i (n + p) * x p = (Dk A L n)⁻¹ * T p := by
  refine ⟨fun p => m i (n + p) * x p * Dk A L n, fun p hpn => ?_⟩
  obtain ⟨T, t1, t2, t3, t4⟩ := key p hpn
  have i1 := KQ _ d0
  have e2 : m i (n + p) * x p * Dk A L n = T := by rw [t4]; grind
  simp only
  rw [e2]
  exact ⟨t1, t2, t3, by rw [t4]; grind⟩
 obtain ⟨T, hT⟩ := this
 have hs : sm n (fun p => m i (n + p) * x p) = (Dk A L n)⁻¹ * sm n T := by
  rw [← lZ]
  exact kq (fun p hp => (hT p hp).2.2.2)
 have hb := C3 (f := T) (b := wq 139) (by have := pB 139; grind) (n := n) (fun p hp => ⟨(hT p hp).2.1, (hT p hp).2.2.1⟩)
 have hn2 : ((n : Int) : Rat) * wq 139 ≤ wq 140 := by
  have e1 : wq 1 * wq 139 = wq 140 := pA 1 139
  rw [← e1]
  have h1 : ((n : Int) : Rat) ≤ wq 1 := KK.2 (show (n : Int) ≤ ((WB ^ 1 : Nat) : Int) by
   have : ((WB ^ 1 : Nat) : Int) = 4294967296 := by decide
   rw [this]; omega)
  exact Rat.mul_le_mul_of_nonneg_right h1 (by have := pB 139; grind)
 refine ⟨hy, sm n T, xC (fun p hp => (hT p hp).1), by grind, by grind, ?_⟩
 rw [e, hs, Rat.div_def]; grind
theorem An.mk' {D : Rat} (hD : Dv D) {y z : LR} (h : An D y) (k : An D z) : RB (rv y - rv z) 142 := by
 obtain ⟨_, T, t1, t2, t3, e⟩ := h
 obtain ⟨_, U, u1, u2, u3, f⟩ := k
 have e1 : rv y - rv z = (T + -U) / D := by rw [e, f, Rat.div_def, Rat.div_def, Rat.div_def]; grind
 have w : wq 140 + wq 140 ≤ wq 141 := by
  have e2 : wq 1 * wq 140 = wq 141 := pA 1 140
  rw [← e2]
  have h1 : ((2 : Int) : Rat) ≤ wq 1 := KK.2 (by decide)
  have h2 : ((2 : Int) : Rat) = 2 := rfl
  rw [h2] at h1
  have := Rat.mul_le_mul_of_nonneg_right h1 (show 0 ≤ wq 140 by have := pB 140; grind)
  grind
 rw [e1]
 have w2 := qY (show 60 ≤ 141 by omega)
 have d1 := hD.a
 have d2 := hD.b
 exact se (rU t1 (yx u1)) hD.i (by grind) (by grind) (by grind) (by grind) hD.z (by omega)
def DH (n : Net) (t : aN) : Rat := Dk (B7 (ur t.aW) (sL n t.iW)) (fun i => n8 (ur t.aW i) (sL n t.iW)) (fr t.aW).length
theorem Al {n : Net} (h : oS n) (hn : kD n) {t : aN} (ht : oC n t) : Dv (DH n t) := by
 have hE := tG h hn ht
 have hNb := xK hE (u_ ht.BB) (fun i j hi hj e => rT hi hj e)
 have hp := xL h hn ht
 obtain ⟨a, b, c⟩ := hNb.Db (FA _)
 exact ⟨a, (hNb.D0 hp (FA _)).1, b, c⟩
theorem y0 {n : Net} {t : aN} {M : aO} (h : oS n) (hn : kD n) (hM : Md n t M) (ht : oC n t) {s : List LR} (hs : NL s t.aW.length (Lg (sL n t.iW) 300 2500000)) :
  Gd (iQ M s) (fun r => NL r t.aW.length (fun _ y => An (DH n t) y)) := by
 have hE := tG h hn ht
 have hnf := u_ ht.BB
 have hNb := xK hE hnf (fun i j hi hj e => rT hi hj e)
 have hp := xL h hn ht
 have hfl : M.kV.length = (fr t.aW).length := by rw [hM.md.free]; simp
 have hfr : ∀ k (y : Int), M.kV[k]? = some y → k < (fr t.aW).length ∧ y = (ur t.aW k : Int) := fun k y hk => by
  have hk1 := (ET.1 hk).1
  rw [hM.md.free, FJ, Ic (by omega)] at hk
  exact ⟨by omega, (EV hk).symm⟩
 obtain ⟨m, hG, hR⟩ := hM.inv.ex
 unfold iQ
 rw [hfl, E1]
 refine Gd.nd (by omega) ?_
 refine Gd.dJ (fun k ys r => ∃ pre, M.kV = pre ++ ys ∧ pre.length = k ∧ r.length = (fr t.aW).length ∧ ∀ j, j < k → r[j]? = s[ur t.aW j]?) ?_ ?_ M.kV 0 _ ⟨[], rfl, rfl, by simp, fun j hj => by omega⟩
 ·rintro k y ys r nx ⟨pre, hpf, hpk, hrl, hr⟩ hnx
  obtain ⟨hk, rfl⟩ := hfr k y (by rw [hpf, FI (by omega), hpk, GC]; rfl)
  have hlt := hM.md.lt k hk
  unfold kP
  refine Gd.jS (by rw [hs.1]; exact hlt) (Gd.jS (by omega) ?_)
  rw [E1]
  refine hnx _ ⟨pre ++ [(ur t.aW k : Int)], by rw [hpf]; simp, by simp [hpk], by rw [Fj]; exact hrl, fun j hj => ?_⟩
  by_cases e : k = j
  ·subst e
   rw [FD (by omega), EZ]
  ·rw [Fz e]; exact hr j (by omega)
 ·rintro k r ⟨pre, hpf, hpk, hrl, hr⟩
  rw [FY] at hpf
  have hk : k = (fr t.aW).length := by rw [← hpk, ← hpf, hfl]
  subst hk
  unfold bY
  rw [hM.top]
  refine Gd.e_ (uo (by have := ht.BB; omega)) ?_
  rintro _ ⟨z, rfl, z1, z2, z3⟩
  have hx : ∀ j, j < (fr t.aW).length → ∃ y, r[j]? = some y ∧ Lg (sL n t.iW) 300 2500000 (ur t.aW j) y := fun j hj => by
   have hlt := hM.md.lt j hj
   have hl : ur t.aW j < s.length := by rw [hs.1]; exact hlt
   have hsj := EZ hl
   exact ⟨s[ur t.aW j], by rw [hr j hj, hsj], hs.2 _ _ hsj⟩
  have hb : NL r (fr t.aW).length (fun j y => kW y ∧ RL y 6000 ∧ rv y = ((r[j]?).map rv).getD 0) := ⟨hrl, fun j y hj => by
   have hj1 := (ET.1 hj).1
   obtain ⟨y2, e, g⟩ := hx j (by omega)
   rw [hj] at e
   obtain rfl := EV e
   exact ⟨g.1, g.2.1.mono (by omega), by rw [hj]; rfl⟩⟩
  have hxx : ∀ p, p < (fr t.aW).length → oc (n8 (ur t.aW p) (sL n t.iW) * ((r[p]?).map rv).getD 0) ∧ -2500000 ≤ ((r[p]?).map rv).getD 0 ∧ ((r[p]?).map rv).getD 0 ≤ 2500000 := fun p hp => by
   obtain ⟨y2, e, g⟩ := hx p hp
   rw [e]
   exact ⟨g.2.2.1, g.2.2.2.1, g.2.2.2.2⟩
  refine Gd.dJ (fun k ys o => ∃ pre, M.kV = pre ++ ys ∧ pre.length = k ∧ NL o t.aW.length (fun _ y => An (DH n t) y)) ?_ ?_ M.kV 0 _ ⟨[], rfl, rfl, ⟨by simp, fun b y hb => by
   have := Kc (Fi hb)
   subst this
   exact An.zero z1 z3⟩⟩
  ·rintro k y ys o nx ⟨pre, hpf, hpk, ho⟩ hnx
   obtain ⟨hk, rfl⟩ := hfr k y (by rw [hpf, FI (by omega), hpk, GC]; rfl)
   have hlt := hM.md.lt k hk
   obtain ⟨row, w1, w2, w3⟩ := hR.row k hk
   have ha : NL row (fr t.aW).length (fun j y => kW y ∧ RL y 6000 ∧ rv y = m k ((fr t.aW).length + j)) := ⟨w2, fun j y hj => by
    have hj1 := (ET.1 hj).1
    obtain ⟨y2, e, g⟩ := w3 j (by omega)
    rw [hj] at e
    obtain rfl := EV e
    exact g⟩
   unfold kQ
   refine Gd.ix (by omega) (by rw [E1]; exact w1) (Gd.e_ (De (by omega) (by omega) ha hb) (fun d hd => ho.get hlt (fun _ _ => ?_)))
   rw [E1]
   exact hnx _ ⟨pre ++ [(ur t.aW k : Int)], by rw [hpf]; simp, by simp [hpk], ho.set (z6 hNb hp hnf hG hk hxx hd.1 hd.2)⟩
  ·rintro k o ⟨_, _, _, ho⟩
   exact Gd.ret ho
theorem yU {n : Net} {t : aN} {M : aO} (h : oS n) (hn : kD n) (hM : Md n t M) (ht : oC n t) {p : List LR}
  (hp : NL p t.aW.length (fun _ y => kW y ∧ RL y 2 ∧ ∃ z : Int, rv y = (z : Rat) ∧ -2400000 ≤ z ∧ z ≤ 2400000)) : Gd (iP M p) (fun r => NL r t.aW.length (fun _ y => An (DH n t) y)) := by
 have h1 := ht.BB
 have h2 := hp.1
 unfold iP
 exact Gd.nd (by omega) (Cc h hn hM ht hp (fun s hs => Gd.e_ (y0 h hn hM ht hs) (fun r hr => Gd.ret hr)))
theorem zL {n : Net} {t : aN} {M : aO} (h : oS n) (hn : kD n) (hM : Md n t M) (ht : oC n t) {a : List LR} (ha : NL a t.aW.length (fun _ y => An (DH n t) y)) :
  Gd (jD M a) (fun r => NL r n.bE.length (fun _ y => kW y ∧ fits (rv y))) := by
 have hE := tG h hn ht
 have hD := Al h hn ht
 have hcl := hM.cl
 have h24 := h.l3
 unfold jD
 refine Gd.dJ (fun k ys r => ∃ pre, M.C = pre ++ ys ∧ pre.length = k ∧ NL r k (fun _ y => kW y ∧ fits (rv y))) ?_ ?_ M.C 0 _ ⟨[], rfl, rfl, rfl, fun b y hb => by simp at hb⟩
 ·rintro k c ys r nx ⟨pre, hpc, hpk, hr⟩ hnx
  have hck : M.C[k]? = some c := by rw [hpc, FI (by omega), hpk, GC]; rfl
  have hk24 : k < 24 := by have := (ET.1 hck).1; omega
  obtain ⟨b, hb, c1, c2, c3⟩ := hM.c k c hck
  obtain ⟨f1, f2, f3⟩ := AU hM hb
  have hlt := hE.el _ (Fi f3)
  have hbl : k < M.B_.length := by rw [hM.md.bl]; exact (ET.1 f3).1
  obtain ⟨e, e1, b1, b2, b3⟩ := hM.md.b k M.B_[k] (EZ hbl)
  rw [f3] at e1
  obtain rfl := EV e1
  obtain ⟨q, q1, q2, q3⟩ := hE.q _ (Fi f3)
  have hBR : RB (rv M.B_[k]) 1 := by
   rw [b3, q1]
   exact RB.Eg (by decide) (by omega) (by omega)
  have hrl := hr.1
  unfold k_
  refine Gd.ix (by omega) (by rw [E1]; exact EZ hbl) (Gd.ix (by omega) (by rw [E1]; exact f1) (ha.get hlt.1 (fun y hy => Gd.ix (by omega) (by rw [E1]; exact f2) (ha.get hlt.2 (fun z hz => ?_)))))
  refine Gd.e_ (qX hy.1 hz.1 (hy.1.rb (hy.rb hD)) (hz.1.rb (hz.rb hD)) (by omega)) (fun d hd => ?_)
  have hdR : RB (rv d) 142 := by rw [hd.2.2]; exact hy.mk' hD hz
  refine Gd.e_ (sf b1 hd.1 (b1.rb hBR) (hd.1.rb hdR) (by omega)) (fun f hf => ?_)
  refine Gd.e_ (p8 hf.1 c1 hf.2.1 c2 (by omega)) (fun g hg => Gd.nd (by simp; omega) (hnx _ ⟨pre ++ [c], by rw [hpc]; simp, by simp [hpk], hr.snoc ⟨hg.1, ?_⟩⟩))
  exact RB.fits ⟨g, hg.1, hg.2.1, rfl⟩ (by omega)
 ·rintro k r ⟨pre, hpc, hpk, hr⟩
  rw [FY] at hpc
  have hk : k = n.bE.length := by rw [← hpk, ← hpc, hcl]
  subst hk
  exact Gd.ret hr
theorem w4 {l : List LR} (hl : l.length ≤ 1000) (h : ∀ y ∈ l, kW y ∧ fits (rv y)) : Gd (jA l) (fun r => r = (l.map (fun y => ctext (rv y)), 0)) := by
 unfold jA
 refine Gd.e_ (P := fun r => r = (l.map (fun y => ctext (rv y)), true)) ?_ (fun r hr => by subst hr; exact Gd.ite (fun h => by simp at h) (fun _ => Gd.ret rfl))
 unfold nH
 refine Gd.nd (by omega) ?_
 rw [E1]
 refine Gd.dJ (fun k ys s => ∃ pre, l = pre ++ ys ∧ pre.length = k ∧ s = pre.map (fun y => ctext (rv y)) ++ List.replicate ys.length (⟨#[]⟩ : ByteArray)) ?_ ?_ l 0 _ ⟨[], rfl, rfl, by simp⟩
 ·rintro k y ys _ nx ⟨pre, hp, hpk, rfl⟩ hnx
  obtain ⟨y1, y2⟩ := h y (by rw [hp]; simp)
  unfold nA
  refine Gd.e_ (Bj y1) (fun r hr => ?_)
  have h2 := hr.1.2 y2
  refine Gd.ite (fun hh => by rw [h2] at hh; simp at hh) (fun _ => ?_)
  refine Gd.ix (y := ⟨#[]⟩) (by omega) ?_ (hnx _ ⟨pre ++ [y], by rw [hp]; simp, by simp [hpk], ?_⟩)
  ·rw [E1, FI (by simp [hpk]), HE, hpk, GC, Fw, HK]; rfl
  ·rw [E1, Kl _ _ (by simp [hpk]), HE, hpk, GC, Fw, HK, List.set_cons_zero, hr.2 h2]
   simp
 ·rintro k _ ⟨pre, hp, hpk, rfl⟩
  rw [FY] at hp
  subst hp
  exact Gd.ret (by simp)
structure C7 (n : Net) (t : aN) (s : i_) : Prop where
 al : s.lA.length = t.aW.length
 fl : s.oB.length = n.bE.length
 a : ∀ x ∈ s.lA, ∃ q, fits q ∧ x = ctext q
 f : ∀ x ∈ s.oB, ∃ q, fits q ∧ x = ctext q
theorem NL.all {l : List LR} {N : Nat} {P : LR → Prop} (h : NL l N (fun _ y => P y)) : ∀ y ∈ l, P y := fun y hy => by
 obtain ⟨i, hi, rfl⟩ := Gv.1 hy
 exact h.2 i _ (EZ hi)
theorem Bp {n : Net} {p : List Int} (h : oS n) (hn : kD n) {t : aN} (hg : cK n = some t) (ht : oC n t) (hp : p.length = n.bJ.length) (hb : ∀ z ∈ p, -100000 ≤ z ∧ z ≤ 100000) (hc : iC n p = some 0) :
  Gd (jW n p) (fun r => r.2 = 0 ∧ C7 n t r.1) := by
 have hN := ht.BB
 have h24 := h.l3
 unfold jW
 refine Gd.bind_eq hc (Gd.ite (fun h => by simp at h) (fun _ => ?_))
 refine Gd.e_ (wG h hn hg ht) ?_
 rintro _ ⟨M, rfl, hM⟩
 simp only [zt]
 refine Gd.e_ (Cv hM ht hn hp hb) (fun sm hsm => Gd.e_ (yU h hn hM ht hsm) (fun a ha => ?_))
 have hD := Al h hn ht
 have hl1 := ha.1
 refine Gd.e_ (w4 (by omega) (fun y hy => ⟨(ha.all y hy).1, (An.rb hD (ha.all y hy)).fits (by omega)⟩)) ?_
 rintro _ rfl
 refine Gd.e_ (zL h hn hM ht ha) (fun f hf => ?_)
 have hl2 := hf.1
 refine Gd.e_ (w4 (by omega) (fun y hy => hf.all y hy)) ?_
 rintro _ rfl
 refine Gd.ite (fun h => by simp at h) (fun _ => Gd.ret ⟨rfl, by simp [hl1], by simp [hl2], fun x hx => ?_, fun x hx => ?_⟩)
 ·obtain ⟨y, hy, rfl⟩ := Gg.1 hx
  exact ⟨_, (An.rb hD (ha.all y hy)).fits (by omega), rfl⟩
 ·obtain ⟨y, hy, rfl⟩ := Gg.1 hx
  exact ⟨_, (hf.all y hy).2, rfl⟩
def acc {α : Type} (f : α → Int) (p : α → Nat) (k : Nat) : List α → Int
 | [] => 0
 | x :: xs => (if p x = k then f x else 0) + acc f p k xs
theorem uS {α : Type} {f : α → Int} {p : α → Nat} {k : Nat} : ∀ {l : List α}, (∀ x ∈ l, 0 ≤ f x) → 0 ≤ acc f p k l
 | [], _ => H4 _
 | x :: xs, h => by
  have h1 := h x (E4 ..)
  have h2 := uS (f := f) (p := p) (k := k) (l := xs) fun y hy => h y (Fc _ hy)
  unfold acc
  split <;> omega
theorem xe {α : Type} {f : α → Int} {p : α → Nat} {k : Nat} {B : Int} (hB : 0 ≤ B) : ∀ {l : List α}, (∀ x ∈ l, f x ≤ B) → acc f p k l ≤ B * l.length
 | [], _ => by simp [acc]
 | x :: xs, h => by
  have h1 := h x (E4 ..)
  have h2 := xe (f := f) (p := p) (k := k) (B := B) hB (l := xs) fun y hy => h y (Fc _ hy)
  unfold acc
  rw [Fw, J6, J3]
  split <;> omega
theorem yg {α : Type} {f : α → Int} {p : α → Nat} {k : Nat} : ∀ (a b : List α), acc f p k (a ++ b) = acc f p k a + acc f p k b
 | [], b => by show acc f p k b = 0 + acc f p k b; omega
 | x :: xs, b => by
  have := yg (f := f) (p := p) (k := k) xs b
  show (if p x = k then f x else 0) + acc f p k (xs ++ b) = (if p x = k then f x else 0) + acc f p k xs + acc f p k b
  omega
theorem rO {α : Type} {f : α → Int} {p : α → Nat} {k : Nat} (a : List α) (x : α) : acc f p k (a ++ [x]) = acc f p k a + (if p x = k then f x else 0) := by
 rw [yg]
 show _ + ((if p x = k then f x else 0) + 0) = _
 omega
def nD (pl : Nat → Nat) (k : Nat) : Nat → List Int → Int
 | _, [] => 0
 | i, x :: xs => (if pl i = k then x else 0) + nD pl k (i + 1) xs
theorem wH (pl : Nat → Nat) (k : Nat) : ∀ (a b : List Int) (i : Nat), nD pl k i (a ++ b) = nD pl k i a + nD pl k (i + a.length) b
 | [], b, i => by show nD pl k i b = 0 + nD pl k (i + 0) b; rw [GY]; omega
 | x :: xs, b, i => by
  have := wH pl k xs b (i + 1)
  have e : i + (x :: xs).length = i + 1 + xs.length := by simp; omega
  rw [e]
  show (if pl i = k then x else 0) + nD pl k (i + 1) (xs ++ b) = (if pl i = k then x else 0) + nD pl k (i + 1) xs + _
  omega
theorem tW (pl : Nat → Nat) (k : Nat) (y : Int) : ∀ (l : List Int) (i j : Nat) (h : j < l.length), nD pl k i (l.set j y) = nD pl k i l + (if pl (i + j) = k then y - l[j] else 0)
 | [], _, _, h => by simp at h
 | x :: xs, i, 0, _ => by
  rw [List.set_cons_zero, GY, List.getElem_cons_zero]
  show (if pl i = k then y else 0) + nD pl k (i + 1) xs = (if pl i = k then x else 0) + nD pl k (i + 1) xs + _
  split <;> omega
 | x :: xs, i, j + 1, h => by
  have h' : j < xs.length := by simpa using h
  have := tW pl k y xs (i + 1) j h'
  have e : i + 1 + j = i + (j + 1) := by omega
  rw [e] at this
  rw [List.set_cons_succ, List.getElem_cons_succ]
  show (if pl i = k then x else 0) + nD pl k (i + 1) (xs.set j y) = (if pl i = k then x else 0) + nD pl k (i + 1) xs + _
  rw [this]; omega
theorem wI (pl : Nat → Nat) (k : Nat) : ∀ (m i : Nat), nD pl k i (List.replicate m 0) = 0
 | 0, _ => rfl
 | m + 1, i => by
  show (if pl i = k then (0 : Int) else 0) + nD pl k (i + 1) (List.replicate m 0) = 0
  rw [wI pl k m (i + 1)]; split <;> rfl
theorem yE (pl : Nat → Nat) (k : Nat) {B : Int} (hB : 0 ≤ B) : ∀ (l : List Int) (i : Nat), (∀ z ∈ l, -B ≤ z ∧ z ≤ B) → -(B * l.length) ≤ nD pl k i l ∧ nD pl k i l ≤ B * l.length
 | [], _, _ => by simp [nD]
 | x :: xs, i, h => by
  have h1 := h x (E4 ..)
  have h2 := yE pl k hB xs (i + 1) (fun z hz => h z (Fc _ hz))
  show -(B * (x :: xs).length) ≤ (if pl i = k then x else 0) + nD pl k (i + 1) xs ∧ (if pl i = k then x else 0) + nD pl k (i + 1) xs ≤ B * (x :: xs).length
  rw [Fw, J6, J3]
  split <;> omega
def vq (t : aN) (i : Nat) : Nat := ((t.aW[((t.iW[i]?).getD 0).toNat]?).getD 0).toNat
theorem xN {n : Net} {t : aN} (ht : oC n t) {i : Nat} (hi : i < n.bJ.length) : ∃ v : Nat, t.iW[i]? = some (v : Int) ∧ v < t.aW.length ∧ t.aW[v]? = some (vq t i : Int) ∧ vq t i < t.aW.length := by
 have hil : i < t.iW.length := by rw [ht.bl]; exact hi
 have h1 := ht.bi _ (Gr hil)
 obtain ⟨c, hc⟩ := ht.comp
 have hv : (t.iW[i]).toNat < t.aW.length := by omega
 have e1 : t.iW[i]? = some (((t.iW[i]).toNat : Nat) : Int) := by rw [EZ hil]; congr 1; omega
 have h2 := hc.all ((t.iW[i]).toNat : Int) (by omega) (by omega)
 rw [tP hv] at h2
 have hm := hc.mN
 refine ⟨(t.iW[i]).toNat, e1, hv, ?_, ?_⟩
 ·unfold vq
  rw [e1, Hj, E1, EZ hv, Hj]
  congr 1; omega
 ·unfold vq
  rw [e1, Hj, E1, EZ hv, Hj]
  omega
def rj (n : Net) (t : aN) (s : BA) : Nat := vq t (pos n s)
theorem uc {n : Net} {t : aN} (ht : oC n t) {s : BA} (hs : s ∈ n.bJ) : iM n t s = some (rj n t s : Int) ∧ rj n t s < t.aW.length := by
 obtain ⟨p1, p2⟩ := Jo hs
 obtain ⟨v, v1, v2, v3, v4⟩ := xN ht p2
 refine ⟨?_, v4⟩
 rw [← Gd.eq]
 unfold iM
 exact Gd.bind_eq p1 (Gd.ix (by omega) (by rw [E1]; exact v1) (Gd.ix (by omega) (by rw [E1]; exact v3) (Gd.ret rfl)))
theorem zr {n : Net} {t : aN} (hg : cK n = some t) (ht : oC n t) : ∃ N : Nat, hO n = some (N : Int) ∧ N ≤ 24 ∧ ∀ s ∈ n.bJ, rj n t s < N := by
 obtain ⟨c, hc⟩ := ht.comp
 have hm := hc.mN
 have hII : sY t.aW.length t.aW := fun a ha => by
  obtain ⟨k, hk, rfl⟩ := Gv.1 ha
  have := hc.all (k : Int) (by omega) (by omega)
  rw [tP hk] at this
  omega
 have h : Gd (hO n) (fun r => ∃ N : Nat, r = N ∧ N ≤ 24 ∧ sY N t.aW) := by
  unfold hO
  refine Gd.bind_eq hg (Cg t.aW.length ht.BB _ (fun k y n nx => by unfold lR; rfl) _ t.aW hII (fun m hm hbm => Gd.ret ⟨m, rfl, by have := ht.BB; omega, hbm⟩))
 obtain ⟨r, hr, N, rfl, h1, h2⟩ := h
 refine ⟨N, hr, h1, fun s hs => ?_⟩
 obtain ⟨v, _, _, v3, _⟩ := xN ht (Jo hs).2
 have := h2 _ (Fi v3)
 show vq t (pos n s) < N
 omega
abbrev zc (n : Net) (t : aN) (k : Nat) : Int := acc cB.bI (fun l : cB => rj n t l.Node) k n.dA
theorem Am {n : Net} (hn : kD n) (t : aN) (k : Nat) : 0 ≤ zc n t k ∧ zc n t k ≤ 1200000 := by
 have h1 := uS (f := cB.bI) (p := fun l : cB => rj n t l.Node) (k := k) (l := n.dA) (fun l hl => (hn.ld l hl).2.1)
 have h2 := xe (f := cB.bI) (p := fun l : cB => rj n t l.Node) (k := k) (B := 100000) (by omega) (l := n.dA) (fun l hl => (hn.ld l hl).2.2)
 have := hn.l5
 have h3 : zc n t k ≤ 100000 * (n.dA.length : Int) := h2
 exact ⟨h1, by omega⟩
theorem AJ {n : Net} {t : aN} (hn : kD n) (hg : cK n = some t) (ht : oC n t) {N : Nat} (hN : hO n = some (N : Int)) (h24 : N ≤ 24) (hpl : ∀ s ∈ n.bJ, rj n t s < N) :
  Gd (kE n) (fun r => r.length = N ∧ ∀ k (hk : k < r.length), r[k].bI = zc n t k) := by
 have h4 := hn.l4
 have h5 := hn.l5
 unfold kE
 refine Gd.bind_eq hg (Gd.bind_eq hN (Gd.nd ⟨by omega, by omega⟩ ?_))
 rw [E1]
 refine Gd.dJ (fun i ys s => (∀ y ∈ ys, y ∈ n.eM) ∧ s.length = N ∧ ∀ k (hk : k < s.length), s[k].bI = 0) ?_ ?_ _ _ _ ⟨fun _ h => h, by simp, ?_⟩
 ·rintro i y ys s nx ⟨hm, hl, hk⟩ hnx
  have hy := hm y (E4 ..)
  obtain ⟨hp, _⟩ := uc ht (hn.gn y hy).1
  have hlt : rj n t y.Node < s.length := by have := hpl _ (hn.gn y hy).1; omega
  unfold mM
  refine Gd.bind_eq hp (Gd.jS hlt ?_)
  rw [E1, List.set_set]
  refine hnx _ ⟨fun z hz => hm z (Fc _ hz), by simp [hl], fun k hkl => ?_⟩
  rw [Fj] at hkl
  rw [Kd]
  split
  ·exact hk _ hlt
  ·exact hk k hkl
 ·rintro i s ⟨_, hl, hk⟩
  refine Gd.dJ (fun i ys s => ∃ pre, n.dA = pre ++ ys ∧ s.length = N ∧ ∀ k (hk : k < s.length), s[k].bI = acc cB.bI (fun l : cB => rj n t l.Node) k pre) ?_ ?_ _ _ _ ⟨[], rfl, hl, hk⟩
  ·rintro i y ys s nx ⟨pre, hp, hl, hk⟩ hnx
   have hy : y ∈ n.dA := by rw [hp]; simp
   obtain ⟨hpp, _⟩ := uc ht (hn.ld y hy).1
   have hlt : rj n t y.Node < s.length := by have := hpl _ (hn.ld y hy).1; omega
   have hyd := hn.ld y hy
   have hb1 := uS (f := cB.bI) (p := fun l : cB => rj n t l.Node) (k := rj n t y.Node) (l := pre) (fun l hl => (hn.ld l (by rw [hp]; simp [hl])).2.1)
   have hb2 := xe (f := cB.bI) (p := fun l : cB => rj n t l.Node) (k := rj n t y.Node) (B := 100000) (by omega) (l := pre) (fun l hl => (hn.ld l (by rw [hp]; simp [hl])).2.2)
   have hpre : pre.length ≤ 12 := by
    have : n.dA.length = pre.length + (ys.length + 1) := by rw [hp]; simp
    omega
   have hkk := hk _ hlt
   have hw1 : i64.wrap (s[rj n t y.Node].bI + y.bI) = s[rj n t y.Node].bI + y.bI := bN ⟨by omega, by omega⟩
   unfold mO
   refine Gd.bind_eq hpp (Gd.jS hlt (Gd.jS hlt ?_))
   rw [hw1, E1]
   refine hnx _ ⟨pre ++ [y], by rw [hp]; simp, by simp [hl], fun k hkl => ?_⟩
   rw [Fj] at hkl
   rw [Kd, rO]
   by_cases e : rj n t y.Node = k
   ·subst e
    rw [E_ rfl, E_ rfl, hkk]
   ·rw [E6 e, E6 e, hk k hkl]; omega
  ·rintro i s ⟨pre, hp, hl, hk⟩
   rw [FY] at hp
   subst hp
   exact Gd.ret ⟨hl, hk⟩
 ·intro k hk
  have e : (List.replicate N ({ cH := 0, eN := 0, bI := 0 } : aE))[k] = { cH := 0, eN := 0, bI := 0 } := List.getElem_replicate _
  rw [e]
theorem B4 (l : List Int) : Gd (cE l) (fun b => b = true ↔ ∃ v ∈ l, 0 < v) := by
 unfold cE cW
 refine Gd.e_ (P := fun r => 0 ≤ r ↔ ∃ v ∈ l, 0 < v) ?_ (fun r hr => Gd.ret (by simpa using hr))
 refine Gd.jK (fun m i _ => i + m = l.length ∧ ∀ v ∈ l.take i, v ≤ 0) ?_ ?_ (l.length : Int).toNat 0 () ⟨by omega, by simp⟩
 ·intro m i _ nx ⟨hi, hno⟩ hnx
  unfold dH jX
  refine Gd.jS (by omega) (Gd.ite (fun h => Gd.ret ⟨fun _ => ⟨l[i], Gr _, by simpa using h⟩, fun _ => by omega⟩) (fun h => hnx () ⟨by omega, ?_⟩))
  rw [GV (by omega)]
  intro v hv
  rcases FK.1 hv with hv | hv
  ·exact hno v hv
  ·simp at hv; subst hv; simpa using h
 ·intro i _ ⟨hi, hno⟩
  rw [FG (by omega)] at hno
  exact Gd.ret ⟨fun h => by omega, fun ⟨v, hv, h⟩ => by have := hno v hv; omega⟩
abbrev wu (n : Net) (t : aN) (k : Nat) (l : List (dB × Int)) : Int := acc (fun z : dB × Int => z.2) (fun z : dB × Int => rj n t z.1.Node) k l
structure D8 (n : Net) (t : aN) (p : List Int) : Prop where
 len : p.length = n.eM.length
 each : ∀ z ∈ n.eM.zip p, 0 ≤ z.2 ∧ z.2 ≤ 100000 ∧ (z.2 = 0 ∨ z.1.cH ≤ z.2 ∧ z.2 ≤ z.1.eN)
 Ea : ∀ k, wu n t k (n.eM.zip p) = zc n t k
theorem zn {n : Net} {t : aN} (hn : kD n) (hg : cK n = some t) (ht : oC n t) (hc : cM n = some 0) :
  Gd (gS n) (fun x => (x.2 = 14 ∧ x.1 = []) ∨ (x.2 = 0 ∧ D8 n t x.1)) := by
 obtain ⟨N, hN, h24, hpl⟩ := zr hg ht
 have h4 := hn.l4
 have h5 := hn.l5
 obtain ⟨r, hr, hlen, hk⟩ := AJ hn hg ht hN h24 hpl
 unfold gS
 refine Gd.bind_eq hc (Gd.ite (fun h => by simp at h) (fun _ => Gd.bind_eq hg (Gd.bind_eq hr ?_)))
 refine Gd.dJ (fun i ys s => i + ys.length = r.length ∧ ys = r.drop i ∧ s = (r.take i).map aE.bI) ?_ ?_ _ _ _ ⟨by simp, by simp, by simp⟩
 ·rintro i y ys s nx ⟨hi, hys, rfl⟩ hnx
  simp only [Fw] at hi
  have hlt : i < r.length := by omega
  rw [GJ hlt] at hys
  obtain ⟨rfl, rfl⟩ := List.cons.inj hys
  unfold mo
  refine Gd.nd (by simp; omega) (hnx _ ⟨by omega, rfl, ?_⟩)
  rw [GV hlt, GK]; rfl
 rintro i s ⟨hi, _, rfl⟩
 rw [FG (by simp at hi; omega)]
 refine Gd.dJ (fun i ys (s : List Int × List Int) => ∃ pre, n.eM = pre ++ ys ∧ pre.length = i ∧ s.1.length = N ∧ s.2.length = pre.length ∧ (∀ v ∈ s.1, 0 ≤ v) ∧ (∀ z ∈ pre.zip s.2, 0 ≤ z.2 ∧ z.2 ≤ 100000 ∧ (z.2 = 0 ∨ z.1.cH ≤ z.2 ∧ z.2 ≤ z.1.eN)) ∧
   (∀ k (hk : k < s.1.length), s.1[k] + wu n t k (pre.zip s.2) = zc n t k)) ?_ ?_ _ _ _
  ⟨[], rfl, rfl, by simp [hlen], rfl, ?_, by simp, ?_⟩
 ·rintro i y ys ⟨rest, out⟩ nx ⟨pre, hp, hpi, hl1, hl2, h0, he, hb⟩ hnx
  simp only at hl1 hl2 h0 he hb
  have hy : y ∈ n.eM := by rw [hp]; simp
  obtain ⟨hpp, _⟩ := uc ht (hn.gn y hy).1
  have hlp : rj n t y.Node < rest.length := by have := hpl _ (hn.gn y hy).1; omega
  have hgy := hn.gn y hy
  have hr0 := h0 rest[rj n t y.Node] (Gr _)
  have hb0 := hb _ hlp
  have hd := Am hn t (rj n t y.Node)
  have hge : 0 ≤ wu n t (rj n t y.Node) (pre.zip out) := uS (fun z hz => (he z hz).1)
  have hpl10 : pre.length < 10 := by
   have : n.eM.length = pre.length + (ys.length + 1) := by rw [hp]; simp
   omega
  have step : ∀ p : Int, 0 ≤ p → p ≤ rest[rj n t y.Node] → p ≤ y.eN → (p = 0 ∨ y.cH ≤ p ∧ p ≤ y.eN) →
    Gd (iA rest out nx (rj n t y.Node : Int) rest[rj n t y.Node] p) (fun x => (x.2 = 14 ∧ x.1 = []) ∨ (x.2 = 0 ∧ D8 n t x.1)) := by
   intro p p0 pr pm pe
   have hw : i64.wrap (rest[rj n t y.Node] - p) = rest[rj n t y.Node] - p := bN ⟨by omega, by omega⟩
   have hz : (pre ++ [y]).zip (out ++ [p]) = pre.zip out ++ [(y, p)] := by rw [List.zip_append hl2.symm]; rfl
   unfold iA
   rw [hw, E1]
   refine Gd.nd (by simp; omega) (hnx _ ⟨pre ++ [y], by rw [hp]; simp, by simp [hpi], by simp [hl1], by simp [hl2], ?_, ?_, ?_⟩)
   ·intro v hv
    rcases Kj hv with hv | rfl
    ·exact h0 v hv
    ·omega
   ·simp only
    rw [hz]
    intro z hzz
    rcases FK.1 hzz with h1 | h1
    ·exact he z h1
    ·rw [Gh] at h1
     subst h1
     exact ⟨p0, by simp only; omega, pe⟩
   ·intro k hkl
    simp only [Fj] at hkl
    simp only
    rw [hz]
    unfold wu
    rw [rO, Kd]
    have hbk := hb k hkl
    unfold wu at hbk
    by_cases e : rj n t y.Node = k
    ·subst e
     rw [E_ rfl, E_ rfl]
     simp only; omega
    ·rw [E6 e, E6 e]; omega
  unfold mq
  refine Gd.bind_eq hpp (Gd.jS hlp (Gd.ite (fun hle => ?_) (fun _ => step 0 (by omega) (by omega) (by omega) (.inl rfl))))
  have hle : y.cH ≤ rest[rj n t y.Node] := by simpa using hle
  exact step (min y.eN rest[rj n t y.Node]) (by omega) (by omega) (by omega) (.inr ⟨by omega, by omega⟩)
 ·rintro i ⟨rest, out⟩ ⟨pre, hp, hpi, hl1, hl2, h0, he, hb⟩
  simp only at hl1 hl2 h0 he hb
  rw [FY] at hp
  subst hp
  refine Gd.e_ (B4 rest) (fun b hb2 => Gd.ite (fun _ => Gd.ret (.inl ⟨rfl, rfl⟩)) (fun h => Gd.ret (.inr ⟨rfl, hl2, he, fun k => ?_⟩)))
  have hno : ∀ v ∈ rest, v = 0 := fun v hv => by
   have h1 := h0 v hv
   by_cases e : 0 < v
   ·have := hb2.2 ⟨v, hv, e⟩
    rw [this] at h; cases h
   ·omega
  by_cases hkN : k < rest.length
  ·have := hb k hkN
   rw [hno _ (Gr _)] at this
   show wu n t k (n.eM.zip out) = _
   omega
  ·have none : ∀ {α : Type} (f : α → Int) (p : α → Nat) (l : List α), (∀ x ∈ l, p x < N) → acc f p k l = 0 := by
    intro α f p l
    induction l with
    | nil => intro _; rfl
    | cons x l ih =>
     intro hx
     have h1 := hx x (E4 ..)
     have h2 := ih (fun x h => hx x (Fc _ h))
     show (if p x = k then f x else 0) + acc f p k l = 0
     rw [E6 (by omega), h2]; rfl
   rw [show zc n t k = 0 from none _ _ _ (fun l hl => hpl _ (hn.ld l hl).1)]
   exact none _ _ _ (fun z hz => hpl _ (hn.gn _ (List.of_mem_zip hz).1).1)
 ·intro v hv
  obtain ⟨s, hs, rfl⟩ := Gg.1 hv
  obtain ⟨k, hk2, rfl⟩ := Gv.1 hs
  rw [hk k hk2]; exact (Am hn t k).1
 ·intro k hkl
  simp only [HE] at hkl
  simp only [Hv]
  rw [hk k hkl]
  show zc n t k + 0 = _
  omega
theorem w7 {α β : Type} {y : α} {v : β} : ∀ {pre : List α} {p : List β}, p[pre.length]? = some v → (pre ++ [y]).zip p = pre.zip p ++ [(y, v)]
 | [], [], h => by simp at h
 | [], b :: p, h => by
  have : b = v := by simpa using h
  subst this
  simp
 | a :: pre, [], h => by simp at h
 | a :: pre, b :: p, h => by
  have h2 : p[pre.length]? = some v := by simpa using h
  have := w7 (y := y) h2
  simp [this]
structure zM (n : Net) (t : aN) (p : List Int) : Prop where
 len : p.length = n.bJ.length
 BC : ∀ z ∈ p, -100000 ≤ z ∧ z ≤ 100000
 Ea : ∀ k, nD (vq t) k 0 p = 0
theorem xw {n : Net} {t : aN} (h : oS n) (hn : kD n) (hg : cK n = some t) (ht : oC n t) (hc : cM n = some 0) {p : List Int} (hp : D8 n t p) :
  Gd (mb n p (List.replicate n.cI.length 0)) (fun x => (x.2 = 4 ∧ x.1 = []) ∨ (x.2 = 0 ∧ zM n t x.1)) := by
 have l1 := hn.l1
 have l4 := hn.l4
 have l5 := hn.l5
 have l6 := h.l6
 unfold mb
 refine Gd.bind_eq hc (Gd.ite (fun h => by simp at h) (fun _ => ?_))
 refine Gd.ite (fun h => absurd h (by simp [hp.len])) (fun _ => Gd.nd (by omega) ?_)
 rw [E1]
 refine Gd.dJ (fun i ys s => ∃ pre, n.eM = pre ++ ys ∧ pre.length = i ∧ s.length = n.bJ.length ∧ (∀ k, nD (vq t) k 0 s = wu n t k (pre.zip p)) ∧ ∀ z ∈ s, -(100000 * (i : Int)) ≤ z ∧ z ≤ 100000 * (i : Int)) ?_ ?_ n.eM 0 _
  ⟨[], rfl, rfl, by simp, fun k => wI _ _ _ _, fun z hz => by have := Kc hz; omega⟩
 ·rintro i y ys s nx ⟨pre, hpp, hpi, hsl, hb, hs⟩ hnx
  have hy : y ∈ n.eM := by rw [hpp]; simp
  obtain ⟨q1, q2⟩ := Jo (hn.gn y hy).1
  have hil : i < n.eM.length := by rw [hpp]; simp; omega
  have hip : i < p.length := by rw [hp.len]; exact hil
  have hpi2 := EZ hip
  have hzip := w7 (y := y) (pre := pre) (p := p) (v := p[i]) (by rw [hpi]; exact hpi2)
  have hmem : (y, p[i]) ∈ n.eM.zip p := by
   refine Gv.2 ⟨i, by simp [hp.len]; omega, ?_⟩
   rw [List.getElem_zip]
   congr 1
   have : n.eM[i]? = some y := by rw [hpp, FI (by omega), hpi, GC]; rfl
   rw [EZ hil] at this
   exact EV this
  have he := hp.each _ hmem
  simp only at he
  have hps : pos n y.Node < s.length := by omega
  have hz := hs _ (Gr hps)
  have fin : Gd (nx (s.set ((pos n y.Node : Int)).toNat (i64.wrap (s[pos n y.Node] + p[i])))) (fun x => (x.2 = 4 ∧ x.1 = []) ∨ (x.2 = 0 ∧ zM n t x.1)) := by
   have hw : i64.wrap (s[pos n y.Node] + p[i]) = s[pos n y.Node] + p[i] := bN ⟨by omega, by omega⟩
   rw [hw, E1]
   refine hnx _ ⟨pre ++ [y], by rw [hpp]; simp, by simp [hpi], by simp [hsl], fun k => ?_, fun z hz2 => ?_⟩
   ·rw [tW _ _ _ _ _ _ hps, hb k, hzip]
    unfold wu
    rw [rO, FO]
    show _ + (if rj n t y.Node = k then _ else _) = _
    split <;> omega
   ·rcases Kj hz2 with h1 | h1
    ·have := hs z h1; omega
    ·subst h1; omega
  unfold nj
  refine Gd.jS hip (Gd.ite (fun h0 => ?_) (fun h0 => ?_))
  ·exact Gd.bind_eq q1 (Gd.jS hps (Gd.jS hip (Gd.jS hps fin)))
  ·have h0 : p[i] ≠ 0 := Fm h0
   refine Gd.jS hip (Gd.ite (fun h1 => ?_) (fun _ => Gd.jS hip (Gd.ite (fun h1 => ?_) (fun _ => Gd.bind_eq q1 (Gd.jS hps (Gd.jS hip (Gd.jS hps fin)))))))
   ·have := Fa h1; omega
   ·have := Fa h1; omega
 ·rintro i s ⟨pre, hpp, hpi, hsl, hb, hs⟩
  rw [FY] at hpp
  subst hpp
  have hb2 : ∀ k, nD (vq t) k 0 s = zc n t k := fun k => (hb k).trans (hp.Ea k)
  have hs2 : ∀ z ∈ s, -1000000 ≤ z ∧ z ≤ 1000000 := fun z hz => by have := hs z hz; omega
  clear hb hs
  refine Gd.dJ (fun i ys s' => ∃ pre, n.cI = pre ++ ys ∧ pre.length = i ∧ s' = s) ?_ ?_ n.cI 0 _ ⟨[], rfl, rfl, rfl⟩
  ·rintro i y ys s nx ⟨pre, hpp, hpi, rfl⟩ hnx
   have hy : y ∈ n.cI := by rw [hpp]; simp
   obtain ⟨_, v2, v3⟩ := h.vt y hy
   obtain ⟨q1, q2⟩ := Jo v2
   have hil : i < n.cI.length := by rw [hpp]; simp; omega
   have hst : (List.replicate n.cI.length (0 : Int))[i]? = some 0 := by rw [HC, E_ hil]
   have hps : pos n y.Node < s.length := by omega
   have hz := hs2 _ (Gr hps)
   have hch : 0 ≤ y.kr ∧ y.kr ≤ 100000 ∧ 0 ≤ y.Discharge ∧ y.Discharge ≤ 100000 := by
    simp [uK, aP, bD] at v3
    omega
   have hw : i64.wrap (0 - y.kr) = 0 - y.kr := bN ⟨by omega, by omega⟩
   have hw2 : i64.wrap (s[pos n y.Node] + 0) = s[pos n y.Node] := by rw [bN ⟨by omega, by omega⟩]; omega
   unfold nk
   rw [hw]
   refine Gd.ix (by omega) (by rw [E1]; exact hst) (Gd.ite (fun h1 => ?_) (fun _ => Gd.ix (by omega) (by rw [E1]; exact hst) (Gd.ite (fun h1 => ?_) (fun _ => Gd.bind_eq q1 (Gd.jS hps (Gd.ix (by omega) (by rw [E1]; exact hst) (Gd.jS hps ?_)))))))
   ·have := Fa h1; omega
   ·have := Fa h1; omega
   ·rw [hw2, E1]
    exact hnx _ ⟨pre ++ [y], by rw [hpp]; simp, by simp [hpi], uf (EZ hps)⟩
  ·rintro i _ ⟨_, _, _, rfl⟩
   refine Gd.dJ (fun i ys s' => ∃ pre, n.dA = pre ++ ys ∧ pre.length = i ∧ s'.length = n.bJ.length ∧ (∀ k, nD (vq t) k 0 s' = zc n t k - acc cB.bI (fun l : cB => rj n t l.Node) k pre) ∧ ∀ z ∈ s', -(1000000 + 100000 * (i : Int)) ≤ z ∧ z ≤ 1000000) ?_ ?_ n.dA 0 _
    ⟨[], rfl, rfl, hsl, fun k => by rw [hb2 k]; show _ = zc n t k - 0; omega, fun z hz => by have := hs2 z hz; omega⟩
   ·rintro i y ys s' nx ⟨pre, hpp, hpi, hsl', hb', hs'⟩ hnx
    have hy : y ∈ n.dA := by rw [hpp]; simp
    obtain ⟨q1, q2⟩ := Jo (hn.ld y hy).1
    have hd := (hn.ld y hy).2
    have hil : i < n.dA.length := by rw [hpp]; simp; omega
    have hps : pos n y.Node < s'.length := by omega
    have hz := hs' _ (Gr hps)
    have hw : i64.wrap (s'[pos n y.Node] - y.bI) = s'[pos n y.Node] - y.bI := bN ⟨by omega, by omega⟩
    unfold np
    refine Gd.bind_eq q1 (Gd.jS hps (Gd.jS hps ?_))
    rw [hw, E1]
    refine hnx _ ⟨pre ++ [y], by rw [hpp]; simp, by simp [hpi], by simp [hsl'], fun k => ?_, fun z hz2 => ?_⟩
    ·rw [tW _ _ _ _ _ _ hps, hb' k, rO, FO]
     show _ + (if rj n t y.Node = k then _ else _) = _
     split <;> omega
    ·rcases Kj hz2 with h1 | h1
     ·have := hs' z h1; omega
     ·subst h1; omega
   ·rintro i s' ⟨pre, hpp, hpi, hsl', hb', hs'⟩
    rw [FY] at hpp
    subst hpp
    refine Gd.dJ (fun i ys _ => ∃ pre, s' = pre ++ ys ∧ ∀ z ∈ pre, -100000 ≤ z ∧ z ≤ 100000) ?_ ?_ s' 0 _ ⟨[], rfl, fun z hz => by simp at hz⟩
    ·rintro i y ys _ nx ⟨pre, hpp, hr⟩ hnx
     unfold nq
     refine Gd.ite (fun _ => Gd.ret (.inl ⟨rfl, rfl⟩)) (fun h1 => hnx () ⟨pre ++ [y], by rw [hpp]; simp, fun z hz => ?_⟩)
     simp only [J1, KX] at h1
     rcases FK.1 hz with h2 | h2
     ·exact hr z h2
     ·rw [Gh] at h2
      subst h2; omega
    ·rintro i _ ⟨pre, hpp, hr⟩
     rw [FY] at hpp
     subst hpp
     exact Gd.ret (.inr ⟨rfl, hsl', hr, fun k => by rw [hb' k]; show zc n t k - zc n t k = 0; omega⟩)
theorem zl {n : Net} {t : aN} (h : oS n) (hn : kD n) (hg : cK n = some t) (ht : oC n t) (hc : cM n = some 0) :
  Gd (fT n) (fun x => (x.2 ≠ 0 ∧ x.1 = []) ∨ (x.2 = 0 ∧ zM n t x.1)) := by
 have l6 := h.l6
 unfold fT
 refine Gd.e_ (zn hn hg ht hc) (fun x hx => ?_)
 rcases hx with ⟨e, _⟩ | ⟨e, hb⟩
 ·rw [e]
  exact Gd.ite (fun _ => Gd.ret (.inl ⟨by simp, rfl⟩)) (fun h => by simp at h)
 ·rw [e]
  refine Gd.ite (fun h => by simp at h) (fun _ => Gd.nd (by omega) ?_)
  rw [E1]
  refine Gd.e_ (xw h hn hg ht hc hb) (fun y hy => Gd.ret ?_)
  rcases hy with ⟨e1, e2⟩ | hy
  ·exact .inl ⟨by simp only; omega, e2⟩
  ·exact .inr hy
theorem zg {n : Net} {t : aN} (hg : cK n = some t) (ht : oC n t) (hn : kD n) (hc : cM n = some 0) {p : List Int} (hp : zM n t p) : iC n p = some 0 := by
 have l1 := hn.l1
 rw [← Gd.eq]
 unfold iC
 refine Gd.bind_eq hc (Gd.ite (fun h => by simp at h) (fun _ => Gd.ite (fun h => absurd h (by simp [hp.len])) (fun _ => Gd.bind_eq hg ?_)))
 refine Gd.dJ (fun i ys (l : List (Int × Int)) => ∃ pre, p = pre ++ ys ∧ pre.length = i ∧ vF l ∧ (∀ z ∈ l, ∃ k : Nat, z.1 = (k : Int)) ∧ ∀ k : Nat, (lX l (k : Int)).getD 0 = nD (vq t) k 0 pre) ?_ ?_ p 0 _ ⟨[], rfl, rfl, vF.nil, fun z hz => by simp at hz, fun k => by simp [lX, pR, nD]⟩
 ·rintro i y ys l nx ⟨pre, hpp, hpi, hk, hkey, hs⟩ hnx
  have hy := hp.BC y (by rw [hpp]; simp)
  have hpl : p.length = pre.length + (ys.length + 1) := by rw [hpp]; simp
  have hpn := hp.len
  obtain ⟨v, v1, v2, v3, v4⟩ := xN ht (show i < n.bJ.length by omega)
  have hbd := yE (vq t) (vq t i) (B := 100000) (by omega) pre 0 (fun z hz => hp.BC z (by rw [hpp]; simp [hz]))
  have hw : i64.wrap ((lX l (vq t i : Int)).getD 0 + y) = (lX l (vq t i : Int)).getD 0 + y := by
   rw [hs (vq t i)]
   exact bN ⟨by omega, by omega⟩
  unfold nR
  refine Gd.ite (fun h => ?_) (fun _ => Gd.ix (by omega) (by rw [E1]; exact v1) (Gd.ix (by omega) (by rw [E1]; exact v3) ?_))
  ·exfalso
   simp only [G0, Gi] at h
   omega
  ·rw [hw]
   refine hnx _ ⟨pre ++ [y], by rw [hpp]; simp, by simp [hpi], (hk.put _ _).1, fun z hz => ?_, fun k => ?_⟩
   ·rcases ((hk.put _ _).2 z).1 hz with h1 | h1
    ·exact ⟨vq t i, by rw [h1]⟩
    ·exact hkey z h1.1
   ·rw [hk.yv, wH]
    show _ = _ + ((if vq t (0 + pre.length) = k then y else 0) + 0)
    rw [FO, hpi]
    by_cases e : vq t i = k
    ·subst e
     rw [E_ rfl, E_ rfl, Hj, hs]; omega
    ·rw [E6 (by omega), E6 e, hs]; omega
 ·rintro i l ⟨pre, hpp, hpi, hk, hkey, hs⟩
  rw [FY] at hpp
  subst hpp
  have : (l.any fun p => !decide (p.2 = 0)) = false := by
   rw [List.any_eq_false]
   intro z hz
   obtain ⟨k, hk2⟩ := hkey z hz
   have h1 : lX l (k : Int) = some z.2 := hk.find.2 (by rw [← hk2]; exact hz)
   have h2 := hs k
   rw [h1, Hj, hp.Ea k] at h2
   simp [h2]
  rw [this]
  exact Gd.ret rfl
theorem Bw (l : List ByteArray) : cZ l l = some true := by
 rw [← Gd.eq]
 unfold cZ
 refine Gd.ite (fun h => by simp at h) (fun _ => ?_)
 refine Gd.jK (Q := fun x => x = true) (fun m i (_ : Unit) => i + m = l.length) ?_ (fun _ _ _ => Gd.ret rfl) ((l.length : Int)).toNat 0 () (by omega)
 intro m i _ nx hi hnx
 unfold gB
 exact Gd.jS (by omega) (Gd.jS (by omega) (Gd.ite (fun h => by simp at h) (fun _ => hnx () (by omega))))
theorem Ak {s : ByteArray} (h : ∃ q, fits q ∧ s = ctext q) : s.size ≤ maxLen := by
 obtain ⟨q, hq, rfl⟩ := h
 have := xq hq
 unfold maxLen; omega
theorem zG {n : Net} {p : List Int} (h : oS n) (hn : kD n) {t : aN} (hg : cK n = some t) (ht : oC n t) (hc : iC n p = some 0) {s : i_} (hs : C7 n t s) (hr : jW n p = some (s, 0)) : k6 n p s = some 0 := by
 have hN := ht.BB
 have h24 := h.l3
 rw [← Gd.eq]
 unfold k6
 refine Gd.bind_eq hc (Gd.ite (fun h => by simp at h) (fun _ => ?_))
 refine Gd.e_ (wG h hn hg ht) ?_
 rintro _ ⟨M, rfl, hM⟩
 simp only [zt]
 unfold bY
 rw [hM.top, hs.al, hs.fl]
 refine Gd.ite (fun _ => Gd.ite (fun h => by simp at h) (fun _ => ?_)) (fun h => by simp at h)
 refine Gd.seen (l := [s.lA, s.oB]) (fun _ _ => True) ?_ ?_ () EY
 ·rintro i y _ nx pre hpre _ hnx
  have hy := (pz hpre).2.1
  unfold nr
  have hcv : kn y = some 0 := by
   rw [← Gd.eq]
   have hlen : y.length ≤ 24 ∧ ∀ x ∈ y, ∃ q, fits q ∧ x = ctext q := by
    rcases F8.1 hy with rfl | hy
    ·exact ⟨by rw [hs.al]; exact hN, hs.a⟩
    ·rw [Gh] at hy
     subst hy
     exact ⟨by rw [hs.fl]; exact h24, hs.f⟩
   unfold kn
   refine Gd.ite (fun h => absurd (Fa h) (by omega)) (fun _ => Gd.e_ (vY (fun x hx => Ak (hlen.2 x hx))) (fun c hc => Gd.ret (hc.2 hlen.2)))
  exact Gd.bind_eq hcv (Gd.ite (fun h => by simp at h) (fun _ => hnx () EY))
 ·rintro _ _
  refine Gd.bind_eq hr (Gd.ite (fun _ => ?_) (fun h => by simp at h))
  exact Gd.bind_eq (Bw _) (Gd.ite (fun _ => Gd.bind_eq (Bw _) (Gd.ite (fun h => by simp at h) (fun _ => Gd.ret rfl))) (fun h => by simp at h))
theorem pI : eI = some true := by kernel_rfl
theorem oZ.Ef {n : Net} (h : oZ n) (a b : Nat) : oZ (aJ.mk n.bJ n.cC n.bE (qk n.eM 0 a) (qk n.dA 0 b) n.cI) :=
 ⟨h.nd, h.sw, h.br, fun x hx => h.gn x (by unfold qk at hx; simp at hx; exact HA hx), fun x hx => h.ld x (by unfold qk at hx; simp at hx; exact HA hx), h.st⟩
theorem vc (n : Net) (hz : oZ n) : (∃ e, e ≠ 0 ∧ fT n = some ([], e)) ∨
  (∃ t p s, oS n ∧ kD n ∧ cK n = some t ∧ oC n t ∧ zM n t p ∧ fT n = some (p, 0) ∧ iC n p = some 0 ∧ jW n p = some (s, 0) ∧ C7 n t s ∧ k6 n p s = some 0) := by
 obtain ⟨e, he, hok⟩ := check_sound n hz
 by_cases h0 : e = 0
 ·subst h0
  have hV := hok rfl
  have hn := hV.ok hz
  obtain ⟨t, hg, ht⟩ := Cy hn
  obtain ⟨⟨p, x⟩, hi, hx⟩ := zl hV hn hg ht he
  rcases hx with ⟨hne, hp⟩ | ⟨hx, hb⟩
  ·left
   simp only at hne hp
   subst hp
   exact ⟨x, hne, hi⟩
  ·right
   simp only at hx hb
   subst hx
   have hc := zg hg ht hn he hb
   obtain ⟨⟨s, y⟩, hs, hy, hst⟩ := Bp hV hn hg ht hb.len hb.BC hc
   simp only at hy hst
   subst hy
   exact ⟨t, p, s, hV, hn, hg, ht, hb, hi, hc, hs, hst, zG hV hn hg ht hc hst hs⟩
 ·left
  refine ⟨e, h0, ?_⟩
  have hsh : gS n = some ([], e) := by
   rw [← Gd.eq]
   unfold gS
   exact Gd.bind_eq he (Gd.ite (fun _ => Gd.ret rfl) (fun h => absurd (by simpa using h) h0))
  rw [← Gd.eq]
  unfold fT
  exact Gd.bind_eq hsh (Gd.ite (fun _ => Gd.ret rfl) (fun h => absurd (by simpa using h) h0))
theorem qq (n : Net) (hz : oZ n) : cY n = some true := by
 rw [← Gd.eq]
 unfold cY kB
 refine Gd.e_ (P := fun r => oZ r) (Gd.nd (by omega) (Gd.nd (by omega) (Gd.ret (hz.Ef _ _)))) (fun r hr => ?_)
 rcases vc r hr with ⟨e, h0, hi⟩ | ⟨t, p, s, hV, hn, hg, ht, hb, hi, hc, hs, hst, hv⟩
 ·refine Gd.bind_eq hi (Gd.ite (fun _ => Gd.bind_eq pI (Gd.ret (by simp))) (fun h => absurd (by simpa using h) h0))
 ·refine Gd.bind_eq hi (Gd.ite (fun h => by simp at h) (fun _ => Gd.bind_eq hs (Gd.bind_eq pI (Gd.ite (fun _ => Gd.bind_eq hc (Gd.ite (fun _ => Gd.ite (fun _ => Gd.bind_eq hv (Gd.ret (by simp))) (fun h => by simp at h)) (fun h => by simp at h))) (fun h => by simp at h)))))
end Go.Sim
