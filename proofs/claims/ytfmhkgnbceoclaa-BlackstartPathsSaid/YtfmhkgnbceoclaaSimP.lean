/-
  Strings: their bytes, parts, joins.
-/
import Derived.Test.YtfmhkgnbceoclaaSimO
namespace Go.Sim
open Go Go.RowKit
set_option linter.unusedVariables false
set_option linter.unusedSimpArgs false
set_option linter.unusedSectionVars false
set_option linter.unnecessarySimpa false

/-- A string's bytes. -/
def bytesL (s : ByteArray) : List U8 := s.data.toList.map fun b => ⟨b.toNat⟩

section
variable {x : Cx} {ops : Array Oper} {Q : Post} {rest : List Oper} {H : Hp} {M M' : List Res} {L L' : Env}
variable {d : Nat} {ty : TypeId} {pos : String} {aft : Array Edge} {g : Option (Nat × Bool)}

def bcells (s : ByteArray) (cap : Nat) : Array Value := s.data.map (fun b : UInt8 => Value.int .u8 b.toNat) ++ Array.replicate (cap - s.size) (Value.int .u8 0)
theorem freeze_alloc (w : World) (c : Array Value) (e : TypeId) : (w.alloc (.cells c e)).freeze ⟨w.heap.size, c.size, none⟩ 1 = w.alloc (.cells c e (c.size, c.size + 1)) := by
  have key : ∀ (f : Obj → Obj), f (.cells c e) = .cells c e (c.size, c.size + 1) → (w.heap.push (.cells c e)).modify w.heap.size f = w.heap.push (.cells c e (c.size, c.size + 1)) := by
    intro f hf
    apply Array.ext_getElem?
    intro i
    rw [Array.getElem?_modify, Array.getElem?_push, Array.getElem?_push]
    by_cases h : w.heap.size = i
    · subst h; simp [hf]
    · rw [if_neg h, if_neg (fun q => h q.symm), if_neg (fun q => h q.symm)]
  unfold World.freeze
  rw [if_neg (by omega)]
  show ({ w with heap := (w.heap.push (.cells c e)).modify w.heap.size _ } : World) = { w with heap := w.heap.push (.cells c e (c.size, c.size + 1)) }
  rw [key _ (by simp)]
theorem bytesL_len (s : ByteArray) : (bytesL s).length = s.size := by unfold bytesL; rw [List.length_map, Array.length_toList]; rfl
theorem run_stringToBytes {P : Program} {w : World} {e : TypeId} {s : ByteArray} :
    (Conv.stringToBytes e s).run P w = .ok (.slice (some ⟨w.heap.size, 0, none⟩) s.size (grownCap w s.size 0 e))
      (w.drew.alloc (.cells (bcells s (grownCap w s.size 0 e)) e ((bcells s (grownCap w s.size 0 e)).size, (bcells s (grownCap w s.size 0 e)).size + 1))) := by
  have hch : (choose (.appendCap s.size 0 e)).run P w = .ok (grownCap w s.size 0 e) w.drew := by
    simp only [choose, Sem.run, Question.forced, Bool.false_eq_true, if_false]; rfl
  have hnr : ∀ (c : Array Value) (w : World), (newRow e c).run P w = .ok ⟨w.heap.size, 0, none⟩ (w.alloc (.cells c e)) := fun c w => by
    simp only [newRow, newObj, Sem.run_bind, Sem.run_pure, Sem.run, Result.andThen_ok, World.alloc]
  have hms : ∀ (c : Array Value) (w : World), (markStringish ⟨w.heap.size, 0, none⟩).run P (w.alloc (.cells c e)) = .ok () (w.alloc (.cells c e (c.size, c.size + 1))) := fun c w => by
    have hsh : (w.alloc (.cells c e)).shape? w.heap.size = some (e, c.size) := by
      have : (w.alloc (.cells c e)).heap[w.heap.size]? = some (.cells c e) := heap_alloc_new w _
      simp only [World.shape?, this]
    simp only [markStringish, shape, Sem.run_bind, Sem.run, hsh, Result.andThen_ok, Go.freeze, freeze_alloc]
  simp only [Conv.stringToBytes, Sem.run_bind, hch, Result.andThen_ok, hnr]
  have := hms (bcells s (grownCap w s.size 0 e)) w.drew
  simp only [bcells] at this ⊢
  rw [show (w.drew.heap.size) = w.heap.size from rfl] at this ⊢
  rw [this]
  rfl
theorem W_convBytes {t u e : TypeId} {y : Operand} {s : ByteArray} (hg : gd ops L ⟨some d, .convert t u y, ty, pos, aft, g⟩ = some true) (hN : Nat.blt d x.N = true)
    (ht : ∀ w, (underlying t).run x.P w = .ok .string w) (hu : ∀ w, (underlying u).run x.P w = .ok (.slice e) w) (he : ∀ w, (underlying e).run x.P w = .ok (.int .u8) w)
    (hy : ev L y = some (.string s)) (hs : s.size ≤ maxLen)
    (k : ∀ v H', H.le H' → RdS H' v (bytesL s) → W x ops Q rest H' M ((d, v) :: L)) :
    W x ops Q (⟨some d, .convert t u y, ty, pos, aft, g⟩ :: rest) H M L := by
  refine W_run rfl hg hN fun a w hsl h => ?_
  have hge := grownCap_ge w s.size 0 e
  have hcm : grownCap w s.size 0 e ≤ maxLen := grownCap_le_maxLen w s.size 0 e hs
  have h' : St x.B x.w0 H M w.drew := h.drewN (w.drawn + 1)
  generalize hcap : grownCap w s.size 0 e = cap at hge hcm
  have ha := (h'.alloc (.cells (bcells s cap) e ((bcells s cap).size, (bcells s cap).size + 1))).freeze
  refine ⟨.slice (some ⟨w.heap.size, 0, none⟩) s.size cap, w.drew.alloc (.cells (bcells s cap) e ((bcells s cap).size, (bcells s cap).size + 1)), ?_, _, M, ha.2, k _ _ ha.1 (.inr ⟨w.heap.size, 0, cap, _, e, _, ?_, ?_, hcm, Hp.add_self _ _ _, ?_, ?_⟩)⟩
  · have hr := run_stringToBytes (P := x.P) (w := w) (e := e) (s := s)
    rw [hcap] at hr
    simp only [execOp, hsl.ev hy, convert, Sem.run_bind, ht, hu, he, Result.andThen_ok, hr, Sem.run_pure]
  · rw [bytesL_len]
  · rw [bytesL_len]; exact hge
  · have e0 : s.size = s.data.size := rfl
    simp [Rep.sz, bcells]
    omega
  · intro j el hel
    refine ⟨[.int .u8 el.n], rfl, fun i c hc => ?_⟩
    have hi : i = 0 := by
      have := (List.getElem?_eq_some_iff.1 hc).1
      simp at this; omega
    subst hi
    simp at hc; subst hc
    have hj := (List.getElem?_eq_some_iff.1 hel).1
    simp [bytesL] at hel hj
    obtain ⟨b, hb, rfl⟩ := hel
    simp only [Rep.sz, Nat.zero_add, Nat.mul_one, Nat.add_zero, bcells]
    rw [Array.getElem?_append_left (by simpa using hj), Array.getElem?_map, hb]
    rfl

theorem run_equalNil {P : Program} {w : World} {t e : TypeId} {o : Option Addr} {n c : Nat} (hT : ∀ w, (underlying t).run P w = .ok (.slice e) w) : (Op.equal t (.slice o n c) (.slice none 0 0)).run P w = .ok o.isNone w := by
  have key : ∀ k, (Op.equalIn (k + 1) t (.slice o n c) (.slice none 0 0)).run P w = .ok o.isNone w := fun k => by
    unfold Op.equalIn
    cases o <;> simp [hT]
  exact key 9999
theorem W_eqNil {t e u : TypeId} {y z : Operand} {o : Option Addr} {n c : Nat} (hg : gd ops L ⟨some d, .binOp .eql t y z u, ty, pos, aft, g⟩ = some true) (hN : Nat.blt d x.N = true)
    (hT : ∀ w, (underlying t).run x.P w = .ok (.slice e) w) (hy : ev L y = some (.slice o n c)) (hz : ev L z = some (.slice none 0 0))
    (k : W x ops Q rest H M ((d, .bool o.isNone) :: L)) :
    W x ops Q (⟨some d, .binOp .eql t y z u, ty, pos, aft, g⟩ :: rest) H M L :=
  W_pure rfl hg hN (fun a w hs _ => by
    simp only [execOp, hs.ev hy, hs.ev hz, Sem.run_bind, eqGuard, binOp, run_equalNil hT, Result.andThen_ok, Sem.run_pure]
    rfl) k
theorem W_neNil {t e u : TypeId} {y z : Operand} {o : Option Addr} {n c : Nat} (hg : gd ops L ⟨some d, .binOp .neq t y z u, ty, pos, aft, g⟩ = some true) (hN : Nat.blt d x.N = true)
    (hT : ∀ w, (underlying t).run x.P w = .ok (.slice e) w) (hy : ev L y = some (.slice o n c)) (hz : ev L z = some (.slice none 0 0))
    (k : W x ops Q rest H M ((d, .bool (!o.isNone)) :: L)) :
    W x ops Q (⟨some d, .binOp .neq t y z u, ty, pos, aft, g⟩ :: rest) H M L :=
  W_pure rfl hg hN (fun a w hs _ => by
    simp only [execOp, hs.ev hy, hs.ev hz, Sem.run_bind, eqGuard, binOp, run_equalNil hT, Result.andThen_ok, Sem.run_pure]
    rfl) k
end
end Go.Sim
