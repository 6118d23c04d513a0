/-
  Struct literals and slice literals.
-/
import Derived.Test.YtfmhkgnbceoclaaSimG
namespace Go.Sim
open Go Go.RowKit

/-- Each value's cells. -/
def CellsL : List Value → List (List Value) → Prop
  | [], [] => True
  | v :: vs, c :: cs => v.cells = c.toArray ∧ CellsL vs cs
  | _, _ => False

/-- The parts laid over the zero. -/
def laid (places : List (Nat × Nat)) : List Value → List (Nat × List Value) → Option (List Value)
  | z, [] => some z
  | z, (i, c) :: r => match places[i]? with
    | none => none
    | some (off, size) => if Nat.beq c.length size && Nat.ble (off + c.length) z.length then laid places (over z off c) r else none

theorem foldl_over : ∀ (c : List Value) (z : List Value) (off k : Nat), (c.zipIdx k).foldl (fun cs (p : Value × Nat) => cs.setIfInBounds (off + p.2) p.1) z.toArray = (over z (off + k) c).toArray
  | [], z, off, k => rfl
  | v :: c, z, off, k => by
    rw [List.zipIdx_cons, List.foldl_cons]
    simp only [List.setIfInBounds_toArray]
    rw [foldl_over c _ off (k + 1), over]
    rfl

theorem fill_laid {place : Nat → Option (Nat × Nat)} {places : List (Nat × Nat)} (hp : ∀ i o, places[i]? = some o → place i = some o) :
    ∀ (is : List Nat) (vs : List Value) (css : List (List Value)) (z out : List Value), CellsL vs css → is.length = vs.length → laid places z (is.zip css) = some out →
      Instr.fill place z.toArray (is.zip vs) = some out.toArray
  | [], [], _, z, out, _, _, h => by simp [laid] at h; simp [Instr.fill, h]
  | [], _ :: _, _, _, _, _, hl, _ => by simp at hl
  | _ :: _, [], _, _, _, _, hl, _ => by simp at hl
  | i :: is, v :: vs, [], _, _, hc, _, _ => hc.elim
  | i :: is, v :: vs, c :: css, z, out, ⟨hv, hc⟩, hl, h => by
    simp only [List.zip_cons_cons, laid] at h
    cases hpl : places[i]? with
    | none => simp [hpl] at h
    | some o =>
      obtain ⟨off, size⟩ := o
      simp only [hpl] at h
      split at h
      · rename_i hb
        simp only [Bool.and_eq_true, Nat.ble_eq] at hb
        have hsz : c.length = size := Nat.eq_of_beq_eq_true hb.1
        simp only [List.zip_cons_cons, Instr.fill, hp i _ hpl, hv]
        have h1 : ((c.toArray.size ≠ size || off + c.toArray.size > z.toArray.size : Bool)) = false := by
          simp [hsz]; rw [← hsz]; exact hb.2
        rw [if_neg (by simp only [h1]; simp)]
        have h2 := foldl_over c z off 0
        have h3 : c.toArray.zipIdx.foldl (fun cs (p : Value × Nat) => cs.setIfInBounds (off + p.2) p.1) z.toArray = (over z off c).toArray := by
          rw [← Array.foldl_toList]
          simpa using h2
        have ih := fill_laid hp is vs css (over z off c) out hc (by simpa using hl) h
        rw [← ih]
        exact congrArg (fun q => Instr.fill place q (is.zip vs)) h3
      · cases h

theorem rngN_t {k m : Nat} {e : Int} (hd : k + m = e.toNat) (hb : decide ((k : Int) < e) = true) : ∃ m', m = m' + 1 ∧ k + 1 + m' = e.toNat ∧ k < e.toNat := by
  have := of_decide_eq_true hb
  exact ⟨m - 1, by omega, by omega, by omega⟩
theorem rngN_f {k m : Nat} {e : Int} (hd : k + m = e.toNat) (hb : decide ((k : Int) < e) = false) : m = 0 := by
  have := of_decide_eq_false hb
  omega
theorem toNat_max {e : Int} (h : e ≤ 9223372036854775807) : e.toNat ≤ maxLen := by unfold maxLen; omega
theorem wrap_max (n : Int) : IntKind.i64.wrap n ≤ 9223372036854775807 := by
  simp only [IntKind.wrap, IntKind.bits, IntKind.signed, Bool.true_and]
  split <;> rename_i h <;> simp at h <;> omega
theorem len_max {α : Type} {xs : List α} (h : xs.length ≤ maxLen) : (xs.length : Int) ≤ 9223372036854775807 := by unfold maxLen at h; omega

section
variable {x : Cx} {ops : Array Oper} {Q : Post} {rest : List Oper} {H : Hp} {M M' : List Res} {L L' : Env}
variable {d : Nat} {ty : TypeId} {pos : String} {aft : Array Edge} {g : Option (Nat × Bool)}

theorem evs_zip {N : Nat} {a : Act} (hs : Sl N L a) {ps : List (Nat × Operand)} {vs : List Value} (hv : evs L (ps.map (·.2)) = some vs) :
    (ps.toArray.map fun (p : Nat × Operand) => (p.1, a.eval p.2)) = ((ps.map (·.1)).zip vs).toArray := by
  have h := hs.evs hv
  subst h
  clear hv
  simp only [List.map_map, List.map_toArray]
  congr 1
  induction ps with
  | nil => rfl
  | cons p ps ih => simp only [List.map_cons, List.zip_cons_cons, Function.comp, ih]

/-- A struct literal. -/
theorem W_build {T : TypeId} {ps : List (Nat × Operand)} {vs : List Value} {css : List (List Value)} {z : Value} {zs out : List Value} {fs : Array Field} {places : List (Nat × Nat)}
    (hg : gd ops L ⟨some d, .build T ps.toArray, ty, pos, aft, g⟩ = some true) (hN : Nat.blt d x.N = true)
    (hv : evs L (ps.map (·.2)) = some vs) (hc : CellsL vs css)
    (hz : ∀ w, (zeroValue T).run x.P w = .ok z w) (hzs : z.cells = zs.toArray) (hT : ∀ w, (underlying T).run x.P w = .ok (.struct fs) w)
    (hp : ∀ w, (fs.mapM fun f => do pure (f.offset, ← sizeOf f.type) : Sem (Array (Nat × Nat))).run x.P w = .ok places.toArray w)
    (ho : laid places zs ((ps.map (·.1)).zip css) = some out)
    (k : W x ops Q rest H M ((d, .agg out.toArray) :: L)) :
    W x ops Q (⟨some d, .build T ps.toArray, ty, pos, aft, g⟩ :: rest) H M L :=
  W_pure rfl hg hN (fun a w hs ht => by
    have hl : (ps.map (·.1)).length = vs.length := by rw [← hs.evs hv]; simp
    have hf := fill_laid (place := fun i : Nat => places[i]?) (places := places) (fun _ _ h => h) (ps.map (·.1)) vs css zs out hc hl ho
    have hps := evs_zip hs hv
    simp only [execOp, Instr.build, Sem.run_bind, hz, Result.andThen_ok, hT, hzs]
    rw [hp]
    simp only [Result.andThen_ok]
    have e : (fun i : Nat => places.toArray[i]?) = fun i : Nat => places[i]? := by funext i; simp
    simp only [hps, e, hf, Sem.run_pure, Result.andThen_ok]) k

/-- A slice literal: it lies in new memory that from now on only is read. -/
theorem W_buildSlice {α : Type} [Rep α] {T e : TypeId} {n : Nat} {ps : List (Nat × Operand)} {vs : List Value} {css : List (List Value)} {z : Value} {zs out : List Value} {places : List (Nat × Nat)} {ys : List α}
    (hg : gd ops L ⟨some d, .buildSlice T n ps.toArray, ty, pos, aft, g⟩ = some true) (hN : Nat.blt d x.N = true)
    (hv : evs L (ps.map (·.2)) = some vs) (hc : CellsL vs css)
    (hT : ∀ w, (underlying T).run x.P w = .ok (.slice e) w) (hs : ∀ w, (sizeOf e).run x.P w = .ok (Rep.sz α) w) (hs0 : Nat.blt 0 (Rep.sz α) = true)
    (hz : ∀ w, (zeroValue e).run x.P w = .ok z w) (hzs : (Array.range (n * Rep.sz α)).map (z.cells[· % z.cells.size]!) = zs.toArray)
    (hpl : places = (List.range n).map fun i => (i * Rep.sz α, Rep.sz α)) (hn : Nat.ble (n * Rep.sz α) 16777216 = true) (hnn : Nat.blt 0 n = true)
    (ho : laid places zs ((ps.map (·.1)).zip css) = some out) (hr : RdC H out ys) (hyn : ys.length = n)
    (k : ∀ b v H', v = .slice (some ⟨b, 0, none⟩) n n → H.le H' → RdS H' v ys → W x ops Q rest H' M ((d, v) :: L)) :
    W x ops Q (⟨some d, .buildSlice T n ps.toArray, ty, pos, aft, g⟩ :: rest) H M L := by
  refine W_run rfl hg hN fun a w hsl ht => ?_
  have hl : (ps.map (·.1)).length = vs.length := by rw [← hsl.evs hv]; simp
  have hs0' : 0 < Rep.sz α := by simpa [Nat.blt_eq] using hs0
  have hn' : n * Rep.sz α ≤ 16777216 := by simpa [Nat.ble_eq] using hn
  have hnn' : 0 < n := by simpa [Nat.blt_eq] using hnn
  have hpos : 0 < n * Rep.sz α := Nat.mul_pos hnn' hs0'
  have hf := fill_laid (place := fun i => some (i * Rep.sz α, Rep.sz α)) (places := places) (fun i o h => by
    rw [hpl, List.getElem?_map] at h
    cases hh : (List.range n)[i]? with
    | none => rw [hh] at h; cases h
    | some j =>
      rw [hh] at h
      have : j = i := by
        have := List.getElem?_eq_some_iff.1 hh
        simpa using this.2.symm
      subst this
      simpa using h) (ps.map (·.1)) vs css zs out hc hl ho
  have hps := evs_zip hsl hv
  have hsz : out.length = n * Rep.sz α := by rw [hr.len, hyn]
  refine ⟨.slice (some ⟨w.heap.size, 0, none⟩) n n, w.alloc (.cells out.toArray e), ?_, H.add w.heap.size (.cells out.toArray e), M, (ht.alloc _).freeze.2, ?_⟩
  · have h1 : ¬ (2 ^ 24 < n * Rep.sz α) := by omega
    have h2 : ¬ (n * Rep.sz α = 0) := by omega
    simp only [execOp, Instr.buildSlice, Sem.run_bind, hT, Result.andThen_ok, hs, gt_iff_lt, h1, h2, if_false, hz, Sem.run_pure]
    simp only [hps]
    have hf' : Instr.fill (fun i => some (i * Rep.sz α, Rep.sz α)) ((Array.range (n * Rep.sz α)).map (z.cells[· % z.cells.size]!)) ((List.map (fun x => x.fst) ps).zip vs) = some out.toArray := by
      rw [hzs]; exact hf
    simp only [hf', newRow, newObj, Sem.run_bind, Sem.run_pure, Sem.run, Result.andThen_ok, World.alloc]
  · refine k w.heap.size _ _ rfl (ht.alloc _).freeze.1 (.inr ⟨w.heap.size, 0, n, out.toArray, e, (0, 0), by rw [hyn], by omega, ?_, Hp.add_self _ _ _, by simp [hsz], ?_⟩)
    · unfold maxLen
      have : n ≤ n * Rep.sz α := Nat.le_mul_of_pos_right _ hs0'
      omega
    · intro j el hel
      obtain ⟨c, q1, q2⟩ := (hr.mono (ht.alloc (.cells out.toArray e)).freeze.1).get j el hel
      exact ⟨c, q1, fun i u hu => by simpa using q2 i u hu⟩
end
end Go.Sim
