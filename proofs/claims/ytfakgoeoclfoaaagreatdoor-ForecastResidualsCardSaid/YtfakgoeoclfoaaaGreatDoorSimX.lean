/-
  Parts of a row as values; cells that are lent as they are; what slices.Delete and slices.Repeat need.
-/
import Derived.Test.YtfakgoeoclfoaaaGreatDoorSimV
import Derived.Lib.Bytealg
import Derived.Laws.Externs
namespace Go.Sim
open Go Go.RowKit
set_option linter.unusedVariables false
set_option linter.unusedSimpArgs false
set_option linter.unusedSectionVars false
set_option linter.unnecessarySimpa false

/-- A slice whose cells are known. -/
def SlC (H : Hp) (v : Value) (n sz : Nat) (xs : List Value) : Prop :=
  xs.length = n * sz ∧ (∀ u ∈ xs, u.oneCell' = true) ∧
  (((∃ a, v = .slice a 0 0) ∧ n = 0) ∨ ∃ b off cap arr T fz, v = .slice (some ⟨b, off, none⟩) n cap ∧ H b = some (.cells arr T fz) ∧ ∀ j u, xs[j]? = some u → arr[off + j]? = some u)
theorem SlC.shape {H : Hp} {v : Value} {n sz : Nat} {xs : List Value} (h : SlC H v n sz xs) : ∃ o c, v = .slice o n c := by
  rcases h.2.2 with ⟨⟨a, rfl⟩, rfl⟩ | ⟨b, off, cap, arr, T, fz, rfl, _⟩ <;> exact ⟨_, _, rfl⟩
theorem SlC.isNil {H : Hp} {n m c sz : Nat} {xs : List Value} (h : SlC H (.slice none m c) n sz xs) : n = 0 ∧ xs = [] := by
  rcases h.2.2 with ⟨_, h0⟩ | ⟨b, off, cap, arr, T, fz, h0, _⟩
  · subst h0; exact ⟨rfl, List.eq_nil_of_length_eq_zero (by rw [h.1, Nat.zero_mul])⟩
  · cases h0

section
variable {B : Nat} {w0 w : World} {H : Hp} {M : List Res}
end

section
variable {x : Cx} {ops : Array Oper} {Q : Post} {rest : List Oper} {H : Hp} {M M' : List Res} {L L' : Env}
variable {d : Nat} {ty : TypeId} {pos : String} {aft : Array Edge} {g : Option (Nat × Bool)}

end
/-! ### copy -/
section
variable {x : Cx} {ops : Array Oper} {Q : Post} {rest : List Oper} {H : Hp} {M M' : List Res} {L L' : Env}
variable {d : Nat} {ty : TypeId} {pos : String} {aft : Array Edge} {g : Option (Nat × Bool)}

theorem C_rowSome {c : Code} {v : Value} {e : TypeId} {sz n : Nat} {xs : List Value} (h0 : 0 < n)
    (k : ∀ gb off cap, v = .slice (some ⟨gb, off, none⟩) n cap → n ≤ cap → Go.Sim.C x c Q H (.row v e sz n xs :: M) L) : Go.Sim.C x c Q H (.row v e sz n xs :: M) L := by
  intro a w hs ht
  have hok : OwnsR w e sz v n xs := ht.ok _ (List.mem_cons_self ..)
  rcases hok.2 with ⟨_, h⟩ | ⟨gb, off, cap, cur, he, _, hnc, _⟩
  · omega
  · exact k gb off cap he hnc a w hs ht
end

/-- A call of a function that the model itself answers. -/
theorem W_extern {x : Cx} {ops : Array Oper} {Q : Post} {rest : List Oper} {H : Hp} {M : List Res} {L : Env} {d : Nat} {f : FuncId} {args : List Operand} {tys : Array TypeId} {ty : TypeId} {pos : String} {aft : Array Edge} {g : Option (Nat × Bool)} {vs : List Value} {v : Value}
    (hx : ∀ w, (callFunc f vs.toArray).run x.P w = .ok (.value v) w)
    (hg : gd ops L ⟨some d, .call ⟨.value (.func f), args.toArray, tys⟩, ty, pos, aft, g⟩ = some true) (hN : Nat.blt d x.N = true)
    (hv : evs L args = some vs) (k : W x ops Q rest H M ((d, v) :: L)) :
    W x ops Q (⟨some d, .call ⟨.value (.func f), args.toArray, tys⟩, ty, pos, aft, g⟩ :: rest) H M L :=
  W_pure rfl hg hN (fun a w hs ht => by
    have hargs : args.toArray.map a.eval = vs.toArray := by simp [hs.evs hv]
    simp only [execOp, resolve, hargs, Act.eval, Deferred.ofValue, Sem.run_bind, Sem.run_pure, Result.andThen_ok, invoke]
    simp [hx]) k
/-- What strings.IndexByte and the count of a byte answer. -/
def idxB (s : ByteArray) (c : Int) : Int := Go.Lib.indexByte s.data.toList c.toNat.toUInt8
theorem idxB_extern {P : Program} {f : FuncId} {fn : Func} (hf : P.funcs[f]? = some fn) (h1 : (fn.name == "runtime.NumGoroutine") = false) (h2 : fn.body.isNone = true) (h3 : Extern.findNext fn = none) (h4 : Extern.find fn = some Extern.BytealgIndexByte.indexByte) (s : ByteArray) (c : Int) :
    ∀ w, (callFunc f [.string s, .int .u8 c].toArray).run P w = .ok (.value (.int .i64 (idxB s c))) w := fun w => by
  rw [run_callFunc_extern hf h1 h2 h3 h4, show [Value.string s, .int .u8 c].toArray = #[.string s, .int .u8 c] from rfl, Go.Lib.run_indexByteString]
  rfl
section
variable {x : Cx} {ops : Array Oper} {Q : Post} {rest : List Oper} {H : Hp} {M M' : List Res} {L L' : Env}
variable {d : Nat} {ty : TypeId} {pos : String} {aft : Array Edge} {g : Option (Nat × Bool)}
end
/-! ### What slices.Repeat makes -/
end Go.Sim
