/-
  The basis of the walk: heap facts H, owned resources M, slot facts L; the state assertion and how it moves.
-/
import Derived.WalkKit
import Derived.WalkSpells
import Derived.WalkLawsBesides
namespace Go.Sim
open Go Go.RowKit

abbrev Hp := Nat → Option Obj
def Hp.le (H H' : Hp) : Prop := ∀ b o, H b = some o → H' b = some o
theorem Hp.le_refl (H : Hp) : H.le H := fun _ _ h => h
theorem Hp.le_trans {A B C : Hp} (h : A.le B) (k : B.le C) : A.le C := fun b o x => k b o (h b o x)
def Hp.add (H : Hp) (b : Nat) (o : Obj) : Hp := fun c => if c = b then some o else H c
theorem Hp.le_add {H : Hp} {b : Nat} {o : Obj} (h : H b = none) : H.le (H.add b o) := by
  intro c x hx
  unfold Hp.add
  split
  · rename_i e; subst e; rw [h] at hx; cases hx
  · exact hx
theorem Hp.add_self (H : Hp) (b : Nat) (o : Obj) : H.add b o b = some o := by simp [Hp.add]
/-- The heap of a world as facts. -/
def snap (w : World) : Hp := fun b => w.heap[b]?

/-- A slice that is nil, or lies in a block of its own (from some place on). -/
def OwnsR (w : World) (T : TypeId) (sz : Nat) (v : Value) (n : Nat) (xs : List Value) : Prop :=
  xs.length = n * sz ∧
  ((v = .slice none 0 0 ∧ n = 0) ∨
   ∃ g off cap cur, v = .slice (some ⟨g, off, none⟩) n cap ∧ w.heap[g]? = some (.cells cur T (0, 0)) ∧ n ≤ cap ∧ cap ≤ maxLen ∧ off + cap * sz ≤ cur.size ∧ (cur.toList.drop off).take (n * sz) = xs)

theorem OwnsR.lt {w : World} {T : TypeId} {sz : Nat} {v : Value} {n : Nat} {xs : List Value} (h : OwnsR w T sz v n xs) {k : Nat} (hk : v.ownBlock = some k) : k < w.heap.size := by
  rcases h.2 with ⟨rfl, _⟩ | ⟨g, off, cap, cur, rfl, hg, _⟩
  · simp [Value.ownBlock] at hk
  · simp only [Value.ownBlock, Option.some.injEq] at hk
    subst hk
    exact (Array.getElem?_eq_some_iff.1 hg).1

theorem OwnsR.kept {w w' : World} {T : TypeId} {sz : Nat} {v : Value} {n : Nat} {xs : List Value} {row : Option Nat} (h : OwnsR w T sz v n xs) (hg : w.grownBy w' row)
    (hne : ∀ b, v.ownBlock = some b → row ≠ some b) : OwnsR w' T sz v n xs := by
  refine ⟨h.1, ?_⟩
  rcases h.2 with hn | ⟨g, off, cap, cur, rfl, hgg, rest⟩
  · exact .inl hn
  · refine .inr ⟨g, off, cap, cur, rfl, ?_, rest⟩
    rw [hg.block g (Array.getElem?_eq_some_iff.1 hgg).1 (fun e => hne g rfl e.symm)]
    exact hgg

theorem OwnsR.nil (w : World) (T : TypeId) (sz : Nat) : OwnsR w T sz (.slice none 0 0) 0 [] := ⟨by simp, .inl ⟨rfl, rfl⟩⟩

inductive Res where
  | obj (b : Nat) (o : Obj)
  | row (v : Value) (T : TypeId) (sz n : Nat) (xs : List Value)

def Res.foot : Res → Option Nat
  | .obj b _ => some b
  | .row v _ _ _ _ => v.ownBlock

def Res.ok (w : World) : Res → Prop
  | .obj b o => w.heap[b]? = some o
  | .row v T sz n xs => OwnsR w T sz v n xs

theorem Res.foot_lt {w : World} {r : Res} (h : r.ok w) {b : Nat} (hb : r.foot = some b) : b < w.heap.size := by
  cases r with
  | obj c o =>
    simp only [Res.foot, Option.some.injEq] at hb
    subst hb
    simp only [Res.ok] at h
    exact (Array.getElem?_eq_some_iff.1 h).1
  | row v T sz n xs => exact OwnsR.lt h hb

theorem Res.kept {w w' : World} {r : Res} {row : Option Nat} (h : r.ok w) (hg : w.grownBy w' row) (hne : ∀ b, r.foot = some b → row ≠ some b) : r.ok w' := by
  cases r with
  | obj c o =>
    simp only [Res.ok] at h ⊢
    rw [hg.block c (Array.getElem?_eq_some_iff.1 h).1 (fun e => hne c rfl e.symm)]
    exact h
  | row v T sz n xs =>
    exact OwnsR.kept h hg hne

structure St (B : Nat) (w0 : World) (H : Hp) (M : List Res) (w : World) : Prop where
  below : Below B w0 w
  le : B ≤ w.heap.size
  hin : ∀ b o, H b = some o → w.heap[b]? = some o
  ok : ∀ r ∈ M, r.ok w
  lo : ∀ r ∈ M, ∀ b, r.foot = some b → B ≤ b ∧ H b = none
  nd : (M.filterMap Res.foot).Nodup

section
variable {B : Nat} {w0 w w' : World} {H H' : Hp} {M M' : List Res}

theorem St.lt (h : St B w0 H M w) {b : Nat} {o : Obj} (hb : H b = some o) : b < w.heap.size := (Array.getElem?_eq_some_iff.1 (h.hin b o hb)).1

theorem St.perm (h : St B w0 H M w) (p : M.Perm M') : St B w0 H M' w :=
  ⟨h.below, h.le, h.hin, fun r hr => h.ok r (p.mem_iff.2 hr), fun r hr => h.lo r (p.mem_iff.2 hr), (p.filterMap _).nodup_iff.1 h.nd⟩

theorem St.sub (h : St B w0 H M w) (p : M'.Sublist M) : St B w0 H M' w :=
  ⟨h.below, h.le, h.hin, fun r hr => h.ok r (p.subset hr), fun r hr => h.lo r (p.subset hr), h.nd.sublist (p.filterMap _)⟩

theorem St.tail {r : Res} (h : St B w0 H (r :: M) w) : St B w0 H M w := h.sub (List.sublist_cons_self _ _)

/-- Only the count of draws has moved. -/
theorem St.drewN (h : St B w0 H M w) (n : Nat) : St B w0 H M { w with drawn := n } :=
  ⟨⟨h.below.os, h.below.tape, h.below.output, h.below.size, h.below.block⟩, h.le, h.hin, fun r hr => by
    have := h.ok r hr
    cases r <;> exact this, h.lo, h.nd⟩

/-- Memory that nobody owns here may grow; nothing of ours turns. -/
theorem St.grow (h : St B w0 H M w) (hg : w.grownBy w' none) : St B w0 H M w' :=
  ⟨h.below.grown hg h.le (fun _ e => by cases e), Nat.le_trans h.le hg.size,
   fun b o hb => by rw [hg.block b (h.lt hb) (by simp)]; exact h.hin b o hb,
   fun r hr => Res.kept (h.ok r hr) hg (by simp), h.lo, h.nd⟩

/-- The head resource is written, or replaced by one in new memory. -/
theorem St.upd {r r' : Res} (h : St B w0 H (r :: M) w) (hg : w.grownBy w' r.foot) (hok : r'.ok w')
    (hf : ∀ b, r'.foot = some b → r.foot = some b ∨ w.heap.size ≤ b) : St B w0 H (r' :: M) w' := by
  have hnd := h.nd
  refine ⟨h.below.grown hg h.le (fun k e => (h.lo r (List.mem_cons_self ..) k e).1), Nat.le_trans h.le hg.size, ?_, ?_, ?_, ?_⟩
  · intro b o hb
    rw [hg.block b (h.lt hb) (fun e => by have := (h.lo r (List.mem_cons_self ..) b e.symm).2; rw [this] at hb; cases hb)]
    exact h.hin b o hb
  · intro s hs
    rcases List.mem_cons.1 hs with rfl | hs
    · exact hok
    · refine Res.kept (h.ok s (List.mem_cons_of_mem _ hs)) hg ?_
      intro b hb e
      simp only [List.filterMap_cons, e, List.nodup_cons] at hnd
      exact hnd.1 (List.mem_filterMap.2 ⟨s, hs, hb⟩)
  · intro s hs b hb
    rcases List.mem_cons.1 hs with rfl | hs
    · rcases hf b hb with e | e
      · exact h.lo r (List.mem_cons_self ..) b e
      · refine ⟨Nat.le_trans h.le e, ?_⟩
        cases hh : H b with
        | none => rfl
        | some o => exact absurd (h.lt hh) (by omega)
    · exact h.lo s (List.mem_cons_of_mem _ hs) b hb
  · have hm : (M.filterMap Res.foot).Nodup := (h.tail).nd
    cases hr' : r'.foot with
    | none => simp only [List.filterMap_cons, hr']; exact hm
    | some b =>
      simp only [List.filterMap_cons, hr', List.nodup_cons]
      refine ⟨fun hmem => ?_, hm⟩
      obtain ⟨s, hs, hb⟩ := List.mem_filterMap.1 hmem
      rcases hf b hr' with e | e
      · simp only [List.filterMap_cons, e, List.nodup_cons] at hnd
        exact hnd.1 (List.mem_filterMap.2 ⟨s, hs, hb⟩)
      · have := Res.foot_lt (h.ok s (List.mem_cons_of_mem _ hs)) hb
        omega

/-- A new resource in new memory. -/
theorem St.add {r' : Res} (h : St B w0 H M w) (hg : w.grownBy w' none) (hok : r'.ok w') (hf : ∀ b, r'.foot = some b → w.heap.size ≤ b) :
    St B w0 H (r' :: M) w' := by
  have h1 : St B w0 H (.row (.slice none 0 0) 0 1 0 [] :: M) w := by
    refine ⟨h.below, h.le, h.hin, ?_, ?_, ?_⟩
    · intro r hr
      rcases List.mem_cons.1 hr with rfl | hr
      · exact OwnsR.nil _ _ _
      · exact h.ok r hr
    · intro r hr
      rcases List.mem_cons.1 hr with rfl | hr
      · intro b hb; simp [Res.foot, Value.ownBlock] at hb
      · exact h.lo r hr
    · simpa [List.filterMap_cons, Res.foot, Value.ownBlock] using h.nd
  exact h1.upd hg hok (fun b hb => .inr (hf b hb))

theorem St.nilRow (h : St B w0 H M w) (T : TypeId) (sz : Nat) : St B w0 H (.row (.slice none 0 0) T sz 0 [] :: M) w :=
  h.add ⟨rfl, rfl, rfl, Nat.le_refl _, fun _ _ _ => rfl⟩ (OwnsR.nil _ _ _) (by intro b hb; simp [Res.foot, Value.ownBlock] at hb)

theorem St.alloc (h : St B w0 H M w) (o : Obj) : St B w0 H (.obj w.heap.size o :: M) (w.alloc o) :=
  h.add (World.grownBy_alloc w o none) (heap_alloc_new w o) (by intro b hb; simp only [Res.foot, Option.some.injEq] at hb; omega)

theorem St.obj_ok {b : Nat} {o : Obj} (h : St B w0 H M w) (hm : Res.obj b o ∈ M) : w.heap[b]? = some o := h.ok _ hm

theorem St.freeze {b : Nat} {o : Obj} (h : St B w0 H (.obj b o :: M) w) : H.le (H.add b o) ∧ St B w0 (H.add b o) M w := by
  have hb := h.lo _ (List.mem_cons_self ..) b rfl
  refine ⟨Hp.le_add hb.2, h.below, h.le, ?_, h.tail.ok, ?_, h.tail.nd⟩
  · intro c x hx
    unfold Hp.add at hx
    split at hx
    · rename_i e; subst e; cases hx; exact h.ok _ (List.mem_cons_self ..)
    · exact h.hin c x hx
  · intro r hr c hc
    refine ⟨(h.tail.lo r hr c hc).1, ?_⟩
    unfold Hp.add
    split
    · rename_i e; subst e
      have hnd := h.nd
      simp only [List.filterMap_cons, Res.foot, List.nodup_cons] at hnd
      exact absurd (List.mem_filterMap.2 ⟨r, hr, hc⟩) hnd.1
    · exact (h.tail.lo r hr c hc).2

/-- What was borrowed comes back. -/
theorem St.thaw {b : Nat} {o : Obj} (h : St B w0 H' M w) (hB : B ≤ b) (hle : H.le H') (hb : H b = none) (ho : H' b = some o) : St B w0 H (.obj b o :: M) w := by
  refine ⟨h.below, h.le, fun c x hx => h.hin c x (hle c x hx), ?_, ?_, ?_⟩
  · intro r hr
    rcases List.mem_cons.1 hr with rfl | hr
    · exact h.hin b o ho
    · exact h.ok r hr
  · intro r hr c hc
    rcases List.mem_cons.1 hr with rfl | hr
    · simp only [Res.foot, Option.some.injEq] at hc; subst hc; exact ⟨hB, hb⟩
    · refine ⟨(h.lo r hr c hc).1, ?_⟩
      cases hh : H c with
      | none => rfl
      | some x => have := hle c x hh; rw [(h.lo r hr c hc).2] at this; cases this
  · simp only [List.filterMap_cons, Res.foot, List.nodup_cons]
    refine ⟨fun hm => ?_, h.nd⟩
    obtain ⟨r, hr, hc⟩ := List.mem_filterMap.1 hm
    have := (h.lo r hr b hc).2
    rw [this] at ho; cases ho

/-- Fewer facts. -/
theorem St.weak (h : St B w0 H' M w) (hle : H.le H') : St B w0 H M w :=
  ⟨h.below, h.le, fun b o hb => h.hin b o (hle b o hb), h.ok, fun r hr b hb => ⟨(h.lo r hr b hb).1, by
    cases hh : H b with
    | none => rfl
    | some x => have := hle b x hh; rw [(h.lo r hr b hb).2] at this; cases this⟩, h.nd⟩

theorem St.begin (w : World) : St w.heap.size w (snap w) [] w :=
  ⟨Below.refl _ _, Nat.le_refl _, fun _ _ h => h, by simp, by simp, by simp⟩
end

end Go.Sim
