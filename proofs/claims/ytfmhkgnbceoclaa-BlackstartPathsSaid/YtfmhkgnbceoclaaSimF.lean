/-
  Small lemmas that the printed proofs name.
-/
import Derived.Test.YtfmhkgnbceoclaaSimE
namespace Go.Sim
open Go Go.RowKit

structure U8 where
  n : Int
  deriving DecidableEq
structure U16 where
  n : Int
  deriving DecidableEq
structure U32 where
  n : Int
  deriving DecidableEq
structure U64 where
  n : Int
  deriving DecidableEq
structure I32 where
  n : Int
  deriving DecidableEq
instance : Rep U8 where
  sz := 1
  E _ cs x := cs = [.int .u8 x.n]
  len h := by rw [h]; rfl
  mono _ h := h
  one h c hc := by rw [h] at hc; simp at hc; subst hc; rfl
instance : Rep U16 where
  sz := 1
  E _ cs x := cs = [.int .u16 x.n]
  len h := by rw [h]; rfl
  mono _ h := h
  one h c hc := by rw [h] at hc; simp at hc; subst hc; rfl
instance : Rep U32 where
  sz := 1
  E _ cs x := cs = [.int .u32 x.n]
  len h := by rw [h]; rfl
  mono _ h := h
  one h c hc := by rw [h] at hc; simp at hc; subst hc; rfl
instance : Rep U64 where
  sz := 1
  E _ cs x := cs = [.int .u64 x.n]
  len h := by rw [h]; rfl
  mono _ h := h
  one h c hc := by rw [h] at hc; simp at hc; subst hc; rfl
instance : Rep I32 where
  sz := 1
  E _ cs x := cs = [.int .i32 x.n]
  len h := by rw [h]; rfl
  mono _ h := h
  one h c hc := by rw [h] at hc; simp at hc; subst hc; rfl

theorem RdS.nil {α : Type} [Rep α] {H : Hp} : RdS H (.slice none 0 0) ([] : List α) := .inl ⟨⟨_, rfl⟩, rfl⟩
theorem RdS.cells {α : Type} [Rep α] {H : Hp} {v : Value} {xs : List α} (h : RdS H v xs) : v.cells = [v].toArray := by
  obtain ⟨a, c, rfl, _⟩ := h.len; rfl
theorem RdS.one1 {α : Type} [Rep α] {H : Hp} {v : Value} {xs : List α} (h : RdS H v xs) : v.oneCell' = true := by
  obtain ⟨a, c, rfl, _⟩ := h.len; rfl
theorem all_nil : ∀ c ∈ ([] : List Value), c.oneCell' = true := by intro c hc; cases hc
theorem all_cons {v : Value} {l : List Value} (h : v.oneCell' = true) (k : ∀ c ∈ l, c.oneCell' = true) : ∀ c ∈ v :: l, c.oneCell' = true := by
  intro c hc
  rcases List.mem_cons.1 hc with rfl | hc
  · exact h
  · exact k c hc
theorem HCells.one {H : Hp} {ad : Addr} {cs : List Value} (h : HCells H ad cs) (j : Nat) {c : Value} (hc : cs[j]? = some c) : HCell H (ad.add j) c := h j c hc
/-- A part of a run of cells. -/
theorem HCells.part {H : Hp} {ad : Addr} {cs ds : List Value} {k : Nat} (h : HCells H ad cs) (hd : (cs.drop k).take ds.length = ds) : HCells H (ad.add k) ds := by
  intro j c hc
  have hj : j < ds.length := (List.getElem?_eq_some_iff.1 hc).1
  have : cs[k + j]? = some c := by
    rw [← hd, List.getElem?_take, if_pos hj, List.getElem?_drop] at hc; exact hc
  have := h (k + j) c this
  have e : (ad.add k).add j = ad.add (k + j) := by
    unfold Addr.add
    by_cases h1 : k = 0
    · subst h1; simp
    · by_cases h2 : j = 0
      · subst h2; simp
      · simp [h1, h2, Nat.add_assoc]
  rw [e]; exact this
theorem own_part {x : Cx} {H : Hp} {M : List Res} {b k : Nat} {l ds : List Value} {T : TypeId} {fz : Nat × Nat}
    (hm : Res.obj b (.cells l.toArray T fz) ∈ M) (hd : (l.drop k).take ds.length = ds) : CellsAt x H M ⟨b, k, none⟩ ds := by
  intro j c hc
  have hj : j < ds.length := (List.getElem?_eq_some_iff.1 hc).1
  rw [Addr.add_lit]
  refine own_at hm ?_
  rw [← hd, List.getElem?_take, if_pos hj, List.getElem?_drop] at hc; exact hc

theorem E_keepJ {x : Cx} {e : Exit} {Q : Post} {H : Hp} {M M' : List Res} {L L' : Env} (k : E x e Q H M' L') (hM : M.Perm M') (hL : Kept L L') : E x e Q H M L := E_keep hL hM k

def phi (l : List (Hp → Value → Prop)) (i : Nat) : Hp → Value → Prop := l.getD i (fun _ _ => True)
def Mono (p : Hp → Value → Prop) : Prop := ∀ H1 H2 v, H1.le H2 → p H1 v → p H2 v
def MonoL : List (Hp → Value → Prop) → Prop
  | [] => True
  | p :: l => Mono p ∧ MonoL l
theorem phi_mono {l : List (Hp → Value → Prop)} (h : MonoL l) : ∀ i H1 H2 v, H1.le H2 → phi l i H1 v → phi l i H2 v := by
  induction l with
  | nil => intro i H1 H2 v _ _; exact trivial
  | cons p l ih =>
    intro i H1 H2 v hle hp
    cases i with
    | zero => exact h.1 H1 H2 v hle hp
    | succ i => exact ih h.2 i H1 H2 v hle hp
theorem eq_mono (c : Value) : Mono (fun _ v => v = c) := fun _ _ _ _ h => h
theorem ite_t' {α : Type} {b : Bool} {p q r : α} (hb : b = true) (h : (if b = true then p else q) = r) : p = r := by rw [if_pos hb] at h; exact h
theorem ite_f' {α : Type} {b : Bool} {p q r : α} (hb : b = false) (h : (if b = true then p else q) = r) : q = r := by rw [if_neg (by simp [hb])] at h; exact h

section
variable {P : Program} {N B : Nat} {w0 : World} {fn : Func} {H H0 : Hp} {M : List Res} {L : Env}
theorem end1_s {φ : Value → Prop} {t : Nat} {v : Value} (hr : fn.results = #[.tmp t]) (hl : lk L t = some v) (hle : H0.le H) (h : φ v) :
    E ⟨P, N, B, w0⟩ .ret (bodyPost P fn (Ret B w0 fun H' M' v => H0 = H' ∧ M = M' ∧ φ v)) H M L :=
  fun a w hs ht => ⟨hs.dfr, v, by rw [results_tmp hr]; simp [Array.getD_eq_getD_getElem?, hs.get t v hl], H0, M, ht.weak hle, rfl, rfl, h⟩
theorem end2_s {φ : Value → Prop} {t u : Nat} {v1 v2 : Value} (hr : fn.results = #[.tmp t, .tmp u]) (hl : lk L t = some v1) (hl2 : lk L u = some v2) (hle : H0.le H) (h : φ (.tuple #[v1, v2])) :
    E ⟨P, N, B, w0⟩ .ret (bodyPost P fn (Ret B w0 fun H' M' v => H0 = H' ∧ M = M' ∧ φ v)) H M L :=
  fun a w hs ht => ⟨hs.dfr, .tuple #[v1, v2], by rw [results_tmp2 hr]; simp [Array.getD_eq_getD_getElem?, hs.get t v1 hl, hs.get u v2 hl2], H0, M, ht.weak hle, rfl, rfl, h⟩
theorem end3_s {φ : Value → Prop} {t u s : Nat} {v1 v2 v3 : Value} (hr : fn.results = #[.tmp t, .tmp u, .tmp s]) (hl : lk L t = some v1) (hl2 : lk L u = some v2) (hl3 : lk L s = some v3) (hle : H0.le H) (h : φ (.tuple #[v1, v2, v3])) :
    E ⟨P, N, B, w0⟩ .ret (bodyPost P fn (Ret B w0 fun H' M' v => H0 = H' ∧ M = M' ∧ φ v)) H M L :=
  fun a w hs ht => ⟨hs.dfr, .tuple #[v1, v2, v3], by simp [results, hr, Array.getD_eq_getD_getElem?, hs.get t v1 hl, hs.get u v2 hl2, hs.get s v3 hl3], H0, M, ht.weak hle, rfl, rfl, h⟩
end
end Go.Sim
