/-
  Small lemmas that the printed proofs of calls, results and tokens name.
-/
import Derived.Test.YtfmhkgnbceoclaaSimS
namespace Go.Sim
open Go Go.RowKit
set_option linter.unusedVariables false
set_option linter.unusedSimpArgs false
set_option linter.unusedSectionVars false
set_option linter.unnecessarySimpa false

section
variable {x : Cx} {ops : Array Oper} {Q : Post} {rest : List Oper} {H : Hp} {M M' : List Res} {L L' : Env}
theorem W_as {M'} (h : M = M') (k : W x ops Q rest H M' L) : W x ops Q rest H M L := h ▸ k
theorem C_as {c : Code} {M'} (h : M = M') (k : C x c Q H M' L) : C x c Q H M L := h ▸ k
theorem E_as {e : Exit} {M'} (h : M = M') (k : E x e Q H M' L) : E x e Q H M L := h ▸ k
theorem E_perm {e : Exit} (hM : M.Perm M') (k : E x e Q H M' L) : E x e Q H M L := fun a w hs ht => k a w hs (ht.perm hM)
theorem C_perm {c : Code} (hM : M.Perm M') (k : C x c Q H M' L) : C x c Q H M L := fun a w hs ht => k a w hs (ht.perm hM)
/-- A row is not longer than any slice can be. -/
theorem C_rowMax {c : Code} {v : Value} {T : TypeId} {sz n : Nat} {xs : List Value} (hm : Res.row v T sz n xs ∈ M) (k : n ≤ maxLen → C x c Q H M L) : C x c Q H M L := fun a w hs ht => by
  have hok : OwnsR w T sz v n xs := ht.ok _ hm
  refine k ?_ a w hs ht
  rcases hok.2 with ⟨_, rfl⟩ | ⟨g, off, cap, cur, rfl, hg, hnc, hcm, _⟩
  · unfold maxLen; omega
  · omega
theorem E_rowMax {e : Exit} {v : Value} {T : TypeId} {sz n : Nat} {xs : List Value} (hm : Res.row v T sz n xs ∈ M) (k : n ≤ maxLen → E x e Q H M L) : E x e Q H M L := fun a w hs ht => by
  have hok : OwnsR w T sz v n xs := ht.ok _ hm
  refine k ?_ a w hs ht
  rcases hok.2 with ⟨_, rfl⟩ | ⟨g, off, cap, cur, rfl, hg, hnc, hcm, _⟩
  · unfold maxLen; omega
  · omega
/-- Heap facts may be forgotten, before a way's end. -/
theorem E_weak {e : Exit} {H0 : Hp} (hle : H0.le H) (k : E x e Q H0 M L) : E x e Q H M L := fun a w hs ht => k a w hs (ht.weak hle)
end

section
variable {P : Program} {N B : Nat} {w0 : World} {fn : Func} {Φ : Hp → List Res → Value → Prop} {H : Hp} {M : List Res} {L : Env}
theorem E_off (k : E ⟨P, N, B, w0⟩ .ret (bodyPost P fn (Ret B w0 Φ)) H M L) : E ⟨P, N, B, w0⟩ .normal (bodyPost P fn (Ret B w0 Φ)) H M L := fun a w hs ht => k a w hs ht
theorem end0 (hr : fn.results = #[]) (h : Φ H M (.tuple #[])) : E ⟨P, N, B, w0⟩ .ret (bodyPost P fn (Ret B w0 Φ)) H M L :=
  fun a w hs ht => ⟨hs.dfr, .tuple #[], by simp [results, hr], H, M, ht, h⟩
theorem end3 {t u s : Nat} {v1 v2 v3 : Value} (hr : fn.results = #[.tmp t, .tmp u, .tmp s]) (hl : lk L t = some v1) (hl2 : lk L u = some v2) (hl3 : lk L s = some v3) (h : Φ H M (.tuple #[v1, v2, v3])) : E ⟨P, N, B, w0⟩ .ret (bodyPost P fn (Ret B w0 Φ)) H M L :=
  fun a w hs ht => ⟨hs.dfr, .tuple #[v1, v2, v3], by simp [results, hr, Array.getD_eq_getD_getElem?, hs.get t v1 hl, hs.get u v2 hl2, hs.get s v3 hl3], H, M, ht, h⟩
theorem end4 {t u s q : Nat} {v1 v2 v3 v4 : Value} (hr : fn.results = #[.tmp t, .tmp u, .tmp s, .tmp q]) (hl : lk L t = some v1) (hl2 : lk L u = some v2) (hl3 : lk L s = some v3) (hl4 : lk L q = some v4) (h : Φ H M (.tuple #[v1, v2, v3, v4])) : E ⟨P, N, B, w0⟩ .ret (bodyPost P fn (Ret B w0 Φ)) H M L :=
  fun a w hs ht => ⟨hs.dfr, .tuple #[v1, v2, v3, v4], by simp [results, hr, Array.getD_eq_getD_getElem?, hs.get t v1 hl, hs.get u v2 hl2, hs.get s v3 hl3, hs.get q v4 hl4], H, M, ht, h⟩
end

/-- Data without slices inside: the heap facts do not matter. -/
class Flat (α : Type) [Rep α] : Prop where
  ind : ∀ {H H' : Hp} {cs : List Value} {x : α}, Rep.E H cs x → Rep.E H' cs x
instance : Flat Int := ⟨fun h => h⟩
instance : Flat Bool := ⟨fun h => h⟩
instance : Flat ByteArray := ⟨fun h => h⟩
instance : Flat U8 := ⟨fun h => h⟩
instance : Flat U16 := ⟨fun h => h⟩
instance : Flat U32 := ⟨fun h => h⟩
instance : Flat U64 := ⟨fun h => h⟩
instance : Flat I32 := ⟨fun h => h⟩
theorem RdC.flat {α : Type} [Rep α] [Flat α] {H H' : Hp} : ∀ {cs : List Value} {ys : List α}, RdC H cs ys → RdC H' cs ys
  | _, [], h => h
  | _, _ :: _, ⟨c, r, e, h, k⟩ => ⟨c, r, e, Flat.ind h, RdC.flat k⟩
def RwF {α : Type} [Rep α] (v : Value) (xs : List Value) (l : List α) : Prop := ∀ H, Rw H v xs l
def RdCF {α : Type} [Rep α] (xs : List Value) (l : List α) : Prop := ∀ H, RdC H xs l
theorem Rw.toF {α : Type} [Rep α] [Flat α] {H : Hp} {v : Value} {xs : List Value} {l : List α} (h : Rw H v xs l) : RwF v xs l := fun H' => ⟨h.rd.flat, h.sl⟩
theorem RdC.toF {α : Type} [Rep α] [Flat α] {H : Hp} {xs : List Value} {l : List α} (h : RdC H xs l) : RdCF xs l := fun H' => h.flat

/-- What is in an option. -/
def optC {α R : Type} (o : Option α) (a : R) (f : α → R) : R := match o with
  | none => a
  | some s => f s
theorem optC_n {α R : Type} {o : Option α} {a : R} {f : α → R} {r : R} (h : o = none) (k : optC o a f = r) : a = r := by subst h; exact k
theorem optC_s {α R : Type} {o : Option α} {a : R} {f : α → R} {s : α} {r : R} (h : o = some s) (k : optC o a f = r) : f s = r := by subst h; exact k

def phiT (l : List (Hp → List Res → Value → Prop)) (i : Nat) : Hp → List Res → Value → Prop := l.getD i (fun _ _ _ => True)
def MonoT (p : Hp → List Res → Value → Prop) : Prop := ∀ H1 H2 rs v, H1.le H2 → p H1 rs v → p H2 rs v
def MonoTL : List (Hp → List Res → Value → Prop) → Prop
  | [] => True
  | p :: l => MonoT p ∧ MonoTL l
theorem phiT_mono {l : List (Hp → List Res → Value → Prop)} (h : MonoTL l) : ∀ i H1 H2 rs v, H1.le H2 → phiT l i H1 rs v → phiT l i H2 rs v := by
  induction l with
  | nil => intro i H1 H2 rs v _ _; exact trivial
  | cons p l ih =>
    intro i H1 H2 rs v hle hp
    cases i with
    | zero => exact h.1 H1 H2 rs v hle hp
    | succ i => exact ih h.2 i H1 H2 rs v hle hp
theorem eq_monoT (rs0 : List Res) (c : Value) : MonoT (fun _ rs v => rs0 = rs ∧ c = v) := fun _ _ _ _ _ h => h
/-- The two ends of an order of strings. -/
theorem Kept_self : ∀ (L : Env), Kept L [] := fun _ => trivial
end Go.Sim
