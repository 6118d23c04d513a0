/-
  The proof, part C1.
-/
import Derived.KernelRfl
import Derived.Shelf.Strconv.Itoa0
import Derived.Shelf.Strconv.Itoa1
import Derived.Shelf.LaysM
import Derived.Shelf.Strconv.Itoa2
import Derived.Shelf.Strconv.Itoa3
import Derived.Shelf.Strconv.Clone
import Derived.Shelf.Strconv.SyntaxError
import Derived.Shelf.LaysC
import Derived.Shelf.Strconv.ToError
import Derived.Shelf.Strconv.Lower
import Derived.Shelf.Strconv.ParseUint10
import Derived.Shelf.Strconv.ParseUint10Empty
import Derived.Shelf.Strconv.ParseUint10Any
import Derived.Shelf.Strconv.RangeError
import Derived.Shelf.Strconv.ToErrorRange
import Derived.Shelf.Strconv.ParseUintEmpty
import Derived.Shelf.Strconv.ParseUint10b64
import Derived.Shelf.Strconv.ParseUint10b32
import Derived.Shelf.Strconv.ParseUint10b16
import Derived.Shelf.Strconv.ParseUint10b8
import Derived.Test.YtolgkppopmgmjaaGreatDoorProg
import Derived.Test.YtolgkppopmgmjaaGreatDoorRows
import Derived.Test.YtolgkppopmgmjaaGreatDoorSqA2
set_option linter.unusedVariables false
set_option linter.unusedSimpArgs false
set_option linter.unusedSectionVars false
set_option linter.unnecessarySimpa false
namespace Go.Sim
abbrev Fk := @Int.natCast_nonneg
abbrev I6 := @List.Perm.refl
abbrev IV := @List.length_eq_one_iff
abbrev IL := @List.length_nil
abbrev IN := @Nat.and_two_pow_sub_one_eq_mod
abbrev Jn := @Go.Proofs.Tryz.call30
abbrev FB := @congrFun
abbrev HW := @Go.Proofs.Tryz.isAgg22
abbrev GO := @Go.Proofs.Tryz.isAgg29
abbrev Fy := @Go.Proofs.Tryz.isAgg3
abbrev GX := @Go.Proofs.Tryz.isAgg31
abbrev H9 := @Go.Proofs.Tryz.isAgg4
abbrev G8 := @Go.Proofs.Tryz.isAgg9
abbrev JG := @Go.Proofs.Tryz.runUnderlying104
abbrev Ii := @Go.Proofs.Tryz.runUnderlying108
abbrev G9 := @Go.Proofs.Tryz.runUnderlying109
abbrev IE := @Go.Proofs.Tryz.runUnderlying141
abbrev Ij := @Go.Proofs.Tryz.runUnderlying150
abbrev Gm := @Go.Proofs.Tryz.runUnderlying22
abbrev IS := @Go.Proofs.Tryz.runUnderlying23
abbrev HG := @Go.Proofs.Tryz.runUnderlying24
abbrev G6 := @Go.Proofs.Tryz.runUnderlying25
abbrev Hs := @Go.Proofs.Tryz.runUnderlying26
abbrev Is := @Go.Proofs.Tryz.runUnderlying27
abbrev Fp := @Go.Proofs.Tryz.runUnderlying29
abbrev GW := @Go.Proofs.Tryz.runUnderlying3
abbrev E3 := @Go.Proofs.Tryz.runUnderlying31
abbrev JU := @Go.Proofs.Tryz.runUnderlying5
abbrev GS := @Go.Proofs.Tryz.runUnderlying63
abbrev Gz := @Go.Proofs.Tryz.runUnderlying73
abbrev HJ := @Go.Proofs.Tryz.runUnderlying80
abbrev H_ := @Go.Proofs.Tryz.runUnderlying82
abbrev GA := @Go.Proofs.Tryz.runUnderlying84
abbrev It := @Go.Proofs.Tryz.runUnderlying86
abbrev FV := @Go.Proofs.Tryz.runUnderlying9
abbrev Jp := @Go.Proofs.Tryz.sizeOf104
abbrev Jq := @Go.Proofs.Tryz.sizeOf109
abbrev Hw := @Go.Proofs.Tryz.sizeOf22
abbrev Jb := @Go.Proofs.Tryz.sizeOf25
abbrev JH := @Go.Proofs.Tryz.sizeOf26
abbrev Gu := @Go.Proofs.Tryz.sizeOf29
abbrev Ff := @Go.Proofs.Tryz.sizeOf3
abbrev Gk := @Go.Proofs.Tryz.sizeOf31
abbrev F9 := @Go.Proofs.Tryz.sizeOf4
abbrev Ia := @Go.Proofs.Tryz.sizeOf63
abbrev Il := @Go.Proofs.Tryz.sizeOf73
abbrev IZ := @Go.Proofs.Tryz.sizeOf82
abbrev I0 := @Go.Proofs.Tryz.sizeOf84
abbrev Gy := @Go.Proofs.Tryz.sizeOf9
abbrev Hh := @Go.Proofs.Tryz.underlying31
abbrev Js := @Go.Proofs.Tryz.zeroValue109
abbrev HB := @Go.Proofs.Tryz.zeroValue3
abbrev JD := @Go.Proofs.Tryz.zeroValue63
abbrev JE := @Go.Proofs.Tryz.zeroValue73
abbrev JV := @Go.Proofs.Tryz.zeroValue82
abbrev JW := @Go.Proofs.Tryz.zeroValue84
abbrev Jw := @Go.Proofs.Tryz.zeroValue9
end Go.Sim
namespace Go.Sim
open Go
open _root_.Go.IntKind (i64 u64 u32 u8)
theorem G {α : Sort _} {a : α} : a = a := rfl
section
variable {x : Cx} {ops : Array Oper} {Q : jL} {rest : List Oper} {H : Hp} {M : List bP} {L : Env} {e : Exit} {c : Code}
theorem q8 (k : W x ops Q rest H M L) : W x ops Q rest H M L := k
theorem D1 (k : E x e Q H M L) : E x e Q H M L := k
theorem DZ (k : Go.Sim.C x c Q H M L) : Go.Sim.C x c Q H M L := k
end
theorem wo {P Q : Prop} (k : Q) (h : Q → P := by
  intro k
  repeat first
   | (with_reducible refine q8 ?_); first
    | refine bX rfl rfl rfl ?_
    | refine aU rfl rfl rfl ?_
    | refine yY rfl rfl rfl ?_
    | refine n6 rfl rfl rfl rfl rfl ?_
    | refine qu rfl rfl rfl rfl ?_
    | refine jO rfl rfl rfl rfl ?_
    | refine gZ rfl rfl rfl ?_
    | refine uB rfl rfl ?_
  exact k) : P := h k
theorem go {P Q : Prop} (k : Q) (h : Q → P := by
  intro k
  repeat first
   | (with_reducible refine q8 ?_); first
    | refine bX rfl rfl rfl ?_
    | refine aU rfl rfl rfl ?_
    | refine yY rfl rfl rfl ?_
    | refine n6 rfl rfl rfl rfl rfl ?_
    | refine qu rfl rfl rfl rfl ?_
    | refine jO rfl rfl rfl rfl ?_
    | refine gZ rfl rfl rfl ?_
    | refine uB rfl rfl ?_
    | refine bF ?_
   | (with_reducible refine D1 ?_); first
    | with_reducible refine aV ?_
    | with_reducible refine fF ?_
    | with_reducible refine aH ?_
    | with_reducible refine nb ?_
    | with_reducible refine oY ?_
    | with_reducible refine kN ?_
    | refine oX rfl ?_
   | (with_reducible refine DZ ?_); first
    | with_reducible refine bM ?_
    | with_reducible refine eS ?_
    | with_reducible refine pS ?_
    | with_reducible refine oW ?_
  exact k) : P := h k
theorem gj {P Q : Prop} (k : Q) (h : Q → P := by
  intro k
  repeat first
   | (with_reducible refine q8 ?_); first
    | refine bX rfl rfl rfl ?_
    | refine aU rfl rfl rfl ?_
    | refine yY rfl rfl rfl ?_
    | refine n6 rfl rfl rfl rfl rfl ?_
    | refine qu rfl rfl rfl rfl ?_
    | refine jO rfl rfl rfl rfl ?_
    | refine gZ rfl rfl rfl ?_
    | refine uB rfl rfl ?_
    | refine bF ?_
   | (with_reducible refine D1 ?_); first
    | with_reducible refine fF ?_
    | with_reducible refine aH ?_
    | with_reducible refine nb ?_
    | with_reducible refine oY ?_
    | with_reducible refine kN ?_
    | refine oX rfl ?_
   | (with_reducible refine DZ ?_); first
    | with_reducible refine bM ?_
    | with_reducible refine eS ?_
    | with_reducible refine pS ?_
    | with_reducible refine oW ?_
  exact k) : P := h k
theorem gs {P Q : Prop} (k : Q) (h : Q → P := by
  intro k
  repeat first
   | (with_reducible refine q8 ?_); first
    | refine bX rfl rfl rfl ?_
    | refine aU rfl rfl rfl ?_
    | refine yY rfl rfl rfl ?_
    | refine n6 rfl rfl rfl rfl rfl ?_
    | refine qu rfl rfl rfl rfl ?_
    | refine jO rfl rfl rfl rfl ?_
    | refine gZ rfl rfl rfl ?_
    | refine uB rfl rfl ?_
    | refine bF ?_
   | (with_reducible refine D1 ?_); first
    | with_reducible refine aV ?_
    | with_reducible refine fF ?_
    | with_reducible refine aH ?_
    | with_reducible refine nb ?_
    | with_reducible refine oY ?_
    | with_reducible refine kN ?_
    | refine oX rfl ?_
   | (with_reducible refine DZ ?_); first
    | with_reducible refine bM ?_
    | with_reducible refine eS ?_
    | with_reducible refine pS ?_
    | with_reducible refine oW ?_
  refine cU ?_
  repeat first
   | (with_reducible refine q8 ?_); first
    | refine bX rfl rfl rfl ?_
    | refine aU rfl rfl rfl ?_
    | refine yY rfl rfl rfl ?_
    | refine n6 rfl rfl rfl rfl rfl ?_
    | refine qu rfl rfl rfl rfl ?_
    | refine jO rfl rfl rfl rfl ?_
    | refine gZ rfl rfl rfl ?_
    | refine uB rfl rfl ?_
    | refine bF ?_
   | (with_reducible refine D1 ?_); first
    | with_reducible refine aV ?_
    | with_reducible refine fF ?_
    | with_reducible refine aH ?_
    | with_reducible refine nb ?_
    | with_reducible refine oY ?_
    | with_reducible refine kN ?_
    | refine oX rfl ?_
   | (with_reducible refine DZ ?_); first
    | with_reducible refine bM ?_
    | with_reducible refine eS ?_
    | with_reducible refine pS ?_
    | with_reducible refine oW ?_
  exact k) : P := h k
abbrev ph (a : Value) : Hp → List bP → Value → Prop := fun _ rs v => [] = rs ∧ a = v
def nn (n : Nat) : List (List Nat) := List.replicate n []
section
variable {x : Cx} {ops : Array Oper} {Q : jL} {H H' : Hp} {M : List bP} {L : Env} {t : Nat} {ps : Option Nat} {v : Value} {φ : Hp → List bP → Value → Prop}
theorem o0 (h : φ H [] v) : W x ops (uO x H M L (some t) ps φ) [] H M ((t, v) :: L) := bF (dD [] (EX _) h)
theorem oe (rs : List bP) (hle : H.le H') (h : φ H' rs v) : W x ops (uO x H M L (some t) ps φ) [] H' (rs ++ M) ((t, v) :: L) := bF (dD rs hle h)
end
theorem om {P : Prop} (h : P := by
  intro HX hX X Rest hR
  repeat (rintro _ _ ⟨rfl, rfl⟩)
  intro hU hUp
  repeat first
   | (with_reducible refine q8 ?_); first
    | refine bX rfl rfl rfl ?_
    | refine aU rfl rfl rfl ?_
    | refine yY rfl rfl rfl ?_
    | refine n6 rfl rfl rfl rfl rfl ?_
    | refine qu rfl rfl rfl rfl ?_
    | refine jO rfl rfl rfl rfl ?_
    | refine gZ rfl rfl rfl ?_
    | refine uB rfl rfl ?_
  exact o0 ⟨rfl, rfl⟩) : P := h
theorem dr {P Q : Prop} (k : Q) (h : Q → P := by
  intro k
  repeat (rintro _ _ ⟨rfl, rfl⟩)
  exact k) : P := h k
theorem dz {P Q : Prop} (k : Q) (h : Q → P := by
  intro k
  repeat (rintro _ _ ⟨rfl, rfl⟩)
  refine q8 ?_
  exact k) : P := h k
theorem ma {P : Prop} (h : P := by
    repeat' first
      | exact EY
      | exact dT _ _
      | refine ⟨?_, ?_⟩
      | (intro H1 H2 rs v hle
         repeat' first
           | exact fun h => h
           | exact fun h => aL.mono hle h
           | exact fun h => Rw.mono hle h
           | exact fun h => lQ.mono hle h
           | exact fun h => bU.mono hle h
           | exact fun h => Mx.mono h hle
           | refine Exists.imp (fun _ => ?_)
           | refine And.imp ?_ ?_)) : P := h
theorem xT {x : Cx} {l : List Oper} {Q : jL} {H : Hp} {M : List bP} {L : Env} {id : Nat} (hmix : x.P.follows .mixedOrders = true) (m : Nat) (F : List (Hp → List bP → Value → Prop)) (C U : List (List Nat)) (I : List (List bP)) (live : List Nat)
  (hop : rk x l (sV F) C U [] (w_ m I) H M L 0 (l.take m))
  (k : ∀ H', H.le H' → qc l (sV F) H' (List.range m) L (w_ m I) (fun L' R => W x l.toArray Q (l.drop m) H' (n9 live R M) L'))
  (hB : py l m = true := by kernel_rfl) (hml : Nat.ble m l.length = true := by rfl) (hD : su l m L = true := by rfl) (hNd : sx l m = true := by rfl)
  (hT : zF l m (m + I.length) C U live = true := by kernel_rfl) (hmono : uM F := by exact ma) : Go.Sim.C x (.region id l.toArray true) Q H (I.flatten ++ M) L :=
 l7 m (sV F) C U I live hmix hB hml hD hNd hT (oy hmono) hop k
theorem nO {x : Cx} {l : List Oper} {Q : jL} {H : Hp} {M : List bP} {L : Env} {id : Nat} (hmix : x.P.follows .mixedOrders = true) (m : Nat) (F : List (Hp → List bP → Value → Prop))
  (hop : rk x l (sV F) (nn m) (nn m) [] (w_ m []) H M L 0 (l.take m))
  (k : ∀ H', H.le H' → qc l (sV F) H' (List.range m) L (w_ m []) (fun L' R => W x l.toArray Q (l.drop m) H' (n9 (List.range m) R M) L'))
  (hB : py l m = true := by kernel_rfl) (hml : Nat.ble m l.length = true := by rfl) (hD : su l m L = true := by rfl) (hNd : sx l m = true := by rfl)
  (hT : zF l m m (nn m) (nn m) (List.range m) = true := by kernel_rfl) (hmono : uM F := by exact ma) : Go.Sim.C x (.region id l.toArray true) Q H M L :=
 l7 m (sV F) (nn m) (nn m) [] (List.range m) hmix hB hml hD hNd hT (oy hmono) hop k
theorem cV {α σ R : Type} {B : Nat → α → σ → (σ → Option R) → Option R} {K : σ → Option R} {l : List α} {s : σ} {r : Option R} {i : Nat} (h : dJ B K i l s = r) :
  ∃ F : Nat → List α → σ → Option R, (∀ i y ys s, F i (y :: ys) s = B i y s (F (i + 1) ys)) ∧ (∀ i s, F i [] s = K s) ∧ F i l s = r := ⟨dJ B K, fun _ _ _ _ => rfl, fun _ _ => rfl, h⟩
theorem jJ {σ R : Type} {B : Nat → σ → (σ → Option R) → Option R} {K : σ → Option R} {m : Nat} {s : σ} {r : Option R} {i : Nat} (h : jK B K m i s = r) :
  ∃ F : Nat → Nat → σ → Option R, (∀ m i s, F (m + 1) i s = B i s (F m (i + 1))) ∧ (∀ i s, F 0 i s = K s) ∧ F m i s = r := ⟨jK B K, fun _ _ _ => rfl, fun _ _ => rfl, h⟩
theorem jT {σ R : Type} {B : σ → (σ → Option R) → Option R} {m : Nat} {s : σ} {r : Option R} (h : gC B m s = r) :
  ∃ F : Nat → σ → Option R, (∀ m s, F (m + 1) s = B s (F m)) ∧ (∀ s, F 0 s = none) ∧ F m s = r := ⟨gC B, fun _ _ => rfl, fun _ => rfl, h⟩
section
variable {x : Cx} {Q : jL} {H : Hp} {M M' : List bP} {L L' : Env} {e : Exit} {c : Code}
theorem kj (k : E x e Q H M L') (hL : Kept L L' := by repeat first | exact EY | refine ⟨rfl, ?_⟩) : E x e Q H M L := xa hL (I6 _) k
theorem kp (k : E x e Q H M' L') (hM : M.Perm M') (hL : Kept L L' := by repeat first | exact EY | refine ⟨rfl, ?_⟩) : E x e Q H M L := xa hL hM k
theorem l9 (S : vH) (n : Nat) (h0 : S n H M L') (step : ∀ n H M L, S n H M L → Go.Sim.C x c (Exit.then (BD x S n) Q) H M L) (hL : Kept L L' := by repeat first | exact EY | refine ⟨rfl, ?_⟩) : Go.Sim.C x (.loop c) Q H M L :=
 tg hL (I6 _) (th S n h0 step)
theorem Dc (hM : M.Perm M') (S : vH) (n : Nat) (h0 : S n H M' L') (step : ∀ n H M L, S n H M L → Go.Sim.C x c (Exit.then (BD x S n) Q) H M L) (hL : Kept L L' := by repeat first | exact EY | refine ⟨rfl, ?_⟩) : Go.Sim.C x (.loop c) Q H M L :=
 tg hL hM (th S n h0 step)
theorem cd {α : Type} {o : Operand} {p q : Code} {b : Bool} {u v r : α} (hm : (if b = true then u else v) = r) (hb : ev L o = some (.bool b)) (k1 : b = true → u = r → Go.Sim.C x p Q H M L) (k2 : b = false → v = r → Go.Sim.C x q Q H M L) : Go.Sim.C x (.cond o p q) Q H M L :=
 bS hb (fun h => k1 h (eG h hm)) (fun h => k2 h (eF h hm))
theorem cT {o : Operand} {p q : Code} (hb : ev L o = some (.bool true)) (k : Go.Sim.C x p Q H M L) : Go.Sim.C x (.cond o p q) Q H M L := bS hb (fun _ => k) (fun h => Bool.noConfusion h)
theorem cF {o : Operand} {p q : Code} (hb : ev L o = some (.bool false)) (k : Go.Sim.C x q Q H M L) : Go.Sim.C x (.cond o p q) Q H M L := bS hb (fun h => Bool.noConfusion h) (fun _ => k)
end
theorem sb {a b : Bool} (h : a = b) : some (Value.bool a) = some (Value.bool b) := by rw [h]
theorem mI : (∀ b, (b && true) = b) ∧ (∀ b, (true && b) = b) ∧ (∀ b, (false && b) = false) ∧ (∀ b, (b && false) = false) ∧ (∀ b, (b || true) = true) ∧ (∀ b, (true || b) = true) ∧ (∀ b, (b || false) = b) ∧ (∀ b, (false || b) = b) ∧ (!true) = false ∧ (!false) = true := by
 refine ⟨?_, ?_, ?_, ?_, ?_, ?_, ?_, ?_, rfl, rfl⟩ <;> intro b <;> cases b <;> rfl
section
variable {x : Cx} {ops : Array Oper} {Q : jL} {rest : List Oper} {H : Hp} {M : List bP} {L : Env} {d : Nat} {ty : TypeId} {pos : String} {aft : Array Edge} {g : Option (Nat × Bool)}
theorem lo {T b i U : Nat} {fz : Nat × Nat} {y : Operand} {l : List Value} {v : Value} (hT : ∀ w, (isAgg T).run x.P w = .ok false w) (hy : ev L y = some (.pointer (some ⟨b, i, none⟩))) (hm : bP.obj b (.cells l.toArray U fz) ∈ M) (hc : l[i]? = some v)
  (k : W x ops Q rest H M ((d, v) :: L)) (hg : gd ops L ⟨some d, .load T y, ty, pos, aft, g⟩ = some true := by rfl) (hN : Nat.blt d x.N = true := by rfl) : W x ops Q (⟨some d, .load T y, ty, pos, aft, g⟩ :: rest) H M L :=
 aI hg hN hT hy (bQ hm hc) k
theorem la {T b U n : Nat} {fz : Nat × Nat} {y : Operand} {l : List Value} (hT : ∀ w, (isAgg T).run x.P w = .ok true w) (hn : ∀ w, (sizeOf T).run x.P w = .ok n w) (hy : ev L y = some (.pointer (some ⟨b, 0, none⟩))) (hm : bP.obj b (.cells l.toArray U fz) ∈ M) (hl : l.length = n)
  (k : W x ops Q rest H M ((d, .agg l.toArray) :: L)) (hg : gd ops L ⟨some d, .load T y, ty, pos, aft, g⟩ = some true := by rfl) (hN : Nat.blt d x.N = true := by rfl) : W x ops Q (⟨some d, .load T y, ty, pos, aft, g⟩ :: rest) H M L :=
 aR hg hN hT hn hy (eC hm) hl k
theorem fi {T : TypeId} {y : Operand} {ad : Addr} {f n : Nat} {fs : Array Field} {fd : Field} (o : Nat) (hT : ∀ w, (underlying T).run x.P w = .ok (.struct fs) w) (hf : fs[f]? = some fd) (hn : ∀ w, (sizeOf fd.type).run x.P w = .ok n w) (hy : ev L y = some (.pointer (some ad)))
  (k : W x ops Q rest H M ((d, .pointer (some (ad.add o))) :: L)) (ho : fd.offset = o := by rfl) (hn0 : Nat.beq n 0 = false := by rfl) (hg : gd ops L ⟨some d, .fieldAddr T y f, ty, pos, aft, g⟩ = some true := by rfl) (hN : Nat.blt d x.N = true := by rfl) :
  W x ops Q (⟨some d, .fieldAddr T y f, ty, pos, aft, g⟩ :: rest) H M L := o9 hg hN hT hf hn hn0 ho hy k
end
end Go.Sim
namespace Go.Proofs
open Go.Shelf
open _root_.Go.IntKind (i64 u64 u32 u8)
def Tryz.wB : Go.Shelf.Ren := ⟨fun | 283 => 108 | n => n, fun | 3 => 3 | 9 => 9 | 4 => 4 | n => n, fun | n => n⟩
theorem Tryz.B9 : Go.Proofs.Lays.n283 Tryz.prog Tryz.wB := {
 mixed := by kernel_rfl
 f283 := Tryz.func108.trans (congrArg some (by kernel_rfl))
 t3 := Tryz.underlying3
 a3 := Tryz.isAgg3
 z3 := Tryz.sizeOf3
 v3 := Tryz.zeroValue3
 t4 := Tryz.underlying4
 a4 := Tryz.isAgg4
 z4 := Tryz.sizeOf4
 v4 := Tryz.zeroValue4
 t9 := Tryz.underlying9
 a9 := Tryz.isAgg9
 z9 := Tryz.sizeOf9
 v9 := Tryz.zeroValue9 }
open Go.Lib in
theorem Tryz.internal_strconv_small (i : Nat) (h : i < 100) (w : World) :
  Calls Tryz.prog 108 #[.int .i64 i] w fun e w' => e = .returned (.string ⟨(Lib.decDigits i).toArray⟩) ∧ w' = w := Any.internal_strconv_small Tryz.B9 i h w
def Tryz.ve : Go.Shelf.Ren := ⟨fun | 284 => 109 | 129 => 120 | 317 => 119 | 318 => 121 | n => n, fun | 53 => 139 | 3 => 3 | 212 => 201 | 0 => 0 | 4 => 4 | 46 => 141 | 5 => 5 | 9 => 9 | n => n, fun | 17 => 1 | n => n⟩
theorem Tryz.AP : Go.Proofs.LaysM.n284 Tryz.prog Tryz.ve := {
 mixed := by kernel_rfl
 f129 := Tryz.func120.trans (congrArg some (by kernel_rfl))
 f284 := Tryz.func109.trans (congrArg some (by kernel_rfl))
 f317 := Tryz.func119.trans (congrArg some (by kernel_rfl))
 f318 := Tryz.func121.trans (congrArg some (by kernel_rfl))
 t0 := Tryz.underlying0
 a0 := Tryz.isAgg0
 z0 := Tryz.sizeOf0
 v0 := Tryz.zeroValue0
 t3 := Tryz.underlying3
 a3 := Tryz.isAgg3
 z3 := Tryz.sizeOf3
 v3 := Tryz.zeroValue3
 t4 := Tryz.underlying4
 a4 := Tryz.isAgg4
 z4 := Tryz.sizeOf4
 v4 := Tryz.zeroValue4
 t5 := Tryz.underlying5
 a5 := Tryz.isAgg5
 z5 := Tryz.sizeOf5
 v5 := Tryz.zeroValue5
 t9 := Tryz.underlying9
 a9 := Tryz.isAgg9
 z9 := Tryz.sizeOf9
 v9 := Tryz.zeroValue9
 t46 := Tryz.underlying141
 a46 := Tryz.isAgg141
 z46 := Tryz.sizeOf141
 v46 := Tryz.zeroValue141
 t53 := Tryz.underlying139
 a53 := Tryz.isAgg139
 z53 := Tryz.sizeOf139
 v53 := Tryz.zeroValue139
 t212 := Tryz.underlying201
 a212 := Tryz.isAgg201
 z212 := Tryz.sizeOf201
 v212 := Tryz.zeroValue201
 g17 := by kernel_rfl
 i0 := by kernel_rfl
 i3 := by kernel_rfl
 i4 := by kernel_rfl
 i5 := by kernel_rfl
 i9 := by kernel_rfl
 i46 := by kernel_rfl
 i53 := by kernel_rfl
 i212 := by kernel_rfl
 m17 := by kernel_rfl }
open Go.Lib in
theorem Tryz.internal_strconv_numDigits (u : Nat) (h1 : 1 ≤ u) (h2 : u < 18446744073709551616) (w : World) (htab : Lib.TabIs Tryz.prog w "internal/strconv.uint64pow10" .u64 Lib.pow10Tab) :
  Calls Tryz.prog 109 #[.int .u64 u] w fun e w' => e = .returned (.int .i64 (Lib.nDigits u)) ∧ w' = w := Any.internal_strconv_numDigits Tryz.AP u h1 h2 w htab
def Tryz.wC : Go.Shelf.Ren := ⟨fun | 285 => 110 | n => n, fun | 37 => 150 | 53 => 139 | 3 => 3 | 4 => 4 | 51 => 135 | 9 => 9 | 5 => 5 | 0 => 0 | n => n, fun | n => n⟩
theorem Tryz.Ca : Go.Proofs.Lays.n285 Tryz.prog Tryz.wC := {
 mixed := by kernel_rfl
 f285 := Tryz.func110.trans (congrArg some (by kernel_rfl))
 t0 := Tryz.underlying0
 a0 := Tryz.isAgg0
 z0 := Tryz.sizeOf0
 v0 := Tryz.zeroValue0
 t3 := Tryz.underlying3
 a3 := Tryz.isAgg3
 z3 := Tryz.sizeOf3
 v3 := Tryz.zeroValue3
 t4 := Tryz.underlying4
 a4 := Tryz.isAgg4
 z4 := Tryz.sizeOf4
 v4 := Tryz.zeroValue4
 t5 := Tryz.underlying5
 a5 := Tryz.isAgg5
 z5 := Tryz.sizeOf5
 v5 := Tryz.zeroValue5
 t9 := Tryz.underlying9
 a9 := Tryz.isAgg9
 z9 := Tryz.sizeOf9
 v9 := Tryz.zeroValue9
 t37 := Tryz.underlying150
 a37 := Tryz.isAgg150
 z37 := Tryz.sizeOf150
 v37 := Tryz.zeroValue150
 t51 := Tryz.underlying135
 a51 := Tryz.isAgg135
 z51 := Tryz.sizeOf135
 v51 := Tryz.zeroValue135
 t53 := Tryz.underlying139
 a53 := Tryz.isAgg139
 z53 := Tryz.sizeOf139
 v53 := Tryz.zeroValue139 }
open Go.RowKit Go.Sort Go.Lib in
theorem Tryz.internal_strconv_formatBase10 (blk off cap : Nat) (u : Nat) (d : Array UInt8) (w : World) (hH : Holds (fun (b : UInt8) => Value.int .u8 (b.toNat : Int)) w blk off d) (hu : u < 10 ^ d.size) (hu64 : u < 18446744073709551616) (hsz : d.size < 4611686018427387904) :
  Calls Tryz.prog 110 #[.slice (some ⟨blk, off, none⟩) d.size cap, .int .u64 u] w fun e w' =>
   e = .returned (.tuple #[]) ∧ ∃ (n v' : Nat) (dk : Array UInt8), w' = (putRow (fun (b : UInt8) => Value.int .u8 (b.toNat : Int)) w blk off dk).drewN n ∧ FmtInv d.size u 0 v' dk := Any.internal_strconv_formatBase10 Tryz.Ca blk off cap u d w hH hu hu64 hsz
def Tryz.wD : Go.Shelf.Ren := ⟨fun | 287 => 126 | 321 => 130 | 322 => 131 | n => n, fun | 9 => 9 | 3 => 3 | 53 => 139 | 75 => 171 | 4 => 4 | 167 => 206 | 5 => 5 | 46 => 141 | 37 => 150 | 0 => 0 | 21 => 21 | 80 => 174 | n => n, fun | n => n⟩
theorem Tryz.Cb : Go.Proofs.Lays.n287 Tryz.prog Tryz.wD := {
 mixed := by kernel_rfl
 f287 := Tryz.func126.trans (congrArg some (by kernel_rfl))
 f321 := Tryz.func130.trans (congrArg some (by kernel_rfl))
 f322 := Tryz.func131.trans (congrArg some (by kernel_rfl))
 t0 := Tryz.underlying0
 a0 := Tryz.isAgg0
 z0 := Tryz.sizeOf0
 v0 := Tryz.zeroValue0
 t3 := Tryz.underlying3
 a3 := Tryz.isAgg3
 z3 := Tryz.sizeOf3
 v3 := Tryz.zeroValue3
 t4 := Tryz.underlying4
 a4 := Tryz.isAgg4
 z4 := Tryz.sizeOf4
 v4 := Tryz.zeroValue4
 t5 := Tryz.underlying5
 a5 := Tryz.isAgg5
 z5 := Tryz.sizeOf5
 v5 := Tryz.zeroValue5
 t9 := Tryz.underlying9
 a9 := Tryz.isAgg9
 z9 := Tryz.sizeOf9
 v9 := Tryz.zeroValue9
 t21 := Tryz.underlying21
 a21 := Tryz.isAgg21
 z21 := Tryz.sizeOf21
 v21 := Tryz.zeroValue21
 t37 := Tryz.underlying150
 a37 := Tryz.isAgg150
 z37 := Tryz.sizeOf150
 v37 := Tryz.zeroValue150
 t46 := Tryz.underlying141
 a46 := Tryz.isAgg141
 z46 := Tryz.sizeOf141
 v46 := Tryz.zeroValue141
 t53 := Tryz.underlying139
 a53 := Tryz.isAgg139
 z53 := Tryz.sizeOf139
 v53 := Tryz.zeroValue139
 t75 := Tryz.underlying171
 a75 := Tryz.isAgg171
 z75 := Tryz.sizeOf171
 v75 := Tryz.zeroValue171
 t167 := Tryz.underlying206
 a167 := Tryz.isAgg206
 z167 := Tryz.sizeOf206
 v167 := Tryz.zeroValue206 }
open Go.RowKit in
theorem Tryz.internal_strconv_ParseUint_10_b32 (t : ByteArray) (hne : t.size ≠ 0) (hmax : t.size ≤ 9223372036854775806) (w : World) :
  Calls Tryz.prog 126 #[.string t, .int .i64 10, .int .i64 32] w fun e w' => e = .returned (Lib.uintTupleM 206 4294967295 (Lib.parseUintM 4294967295 0 t.data.toList)) ∧ w' = Lib.bytesWorld w 5 t := Any.internal_strconv_ParseUint_10_b32 Tryz.Cb t hne hmax w
end Go.Proofs
namespace Go.Sim
open Go Go.Proofs.Tryz
open _root_.Go.IntKind (i64 u64 u32 u8)
set_option maxRecDepth 100000
set_option maxHeartbeats 4000000
theorem fm : Proofs.Tryz.prog.follows .mixedOrders = true := by kernel_rfl
theorem x_.mixed : Proofs.Tryz.prog.follows .mixedOrders = true := fm
class cP (B : Nat) (w0 : World) : Prop where
 lt : 6 ≤ B
 t1 : Lib.TabIs Proofs.Tryz.prog w0 "internal/strconv.uint64pow10" .u64 DY
 t2 : Lib.TabIs Proofs.Tryz.prog w0 "math/bits.deBruijn32tab" .u8 Eh
 t3 : Lib.TabIs Proofs.Tryz.prog w0 "math/bits.deBruijn64tab" .u8 Ei
 e4 : ∃ T p, w0.var? Proofs.Tryz.prog "strconv.ErrSyntax" = some #[.iface T p]
 e5 : ∃ T p, w0.var? Proofs.Tryz.prog "strconv.ErrRange" = some #[.iface T p]
theorem cP.below {B : Nat} {w0 : World} [h : cP B w0] {g : Nat} (hg : Nat.blt g 6 = true) : g < B := by
 have := h.lt;have : g < 6 := by simpa [Gw] using hg
 omega
theorem Ev : Proofs.Tryz.prog.globalNamed "internal/strconv.uint64pow10" = some 1 := by kernel_rfl
theorem Ex : Proofs.Tryz.prog.globalNamed "math/bits.deBruijn32tab" = some 2 := by kernel_rfl
theorem Ey : Proofs.Tryz.prog.globalNamed "math/bits.deBruijn64tab" = some 3 := by kernel_rfl
theorem Ez : Proofs.Tryz.prog.globalNamed "strconv.ErrSyntax" = some 4 := by kernel_rfl
theorem Ew : Proofs.Tryz.prog.globalNamed "strconv.ErrRange" = some 5 := by kernel_rfl
theorem qi {B : Nat} {w0 w : World} [cP B w0] {H : Hp} {M : List bP} {p0_n : aJ} {v0 v1 v2 v3 v4 v5 : Value} {r : aJ} (hm : kB p0_n = some r) (h0 : aL H v0 p0_n.bJ) (h1 : aL H v1 p0_n.cC) (h2 : aL H v2 p0_n.bE) (h3 : aL H v3 p0_n.eM) (h4 : aL H v4 p0_n.dA) (h5 : aL H v5 p0_n.cI) (ht : St B w0 H (M) w) :
    Calls prog 4 [.agg [v0, v1, v2, v3, v4, v5].toArray].toArray w (gA B w0 fun H' M' v => H.le H' ∧ ∃ qv0 qv1 qv2 qv3 qv4 qv5 : Value, M = M' ∧ .agg [qv0, qv1, qv2, qv3, qv4, qv5].toArray = v ∧ aL H' qv0 r.bJ ∧ aL H' qv1 r.cC ∧ aL H' qv2 r.bE ∧ aL H' qv3 r.eM ∧ aL H' qv4 r.dA ∧ aL H' qv5 r.cI) := by
 unfold kB at hm;refine enter func4 G G G ht (gs ?_);refine dW (cs := [v0, v1, v2, v3, v4, v5]) G G G G (fun a4 => ?_);refine bR (cs := [.slice none 0 0, .slice none 0 0, .slice none 0 0, .slice none 0 0, .slice none 0 0, .slice none 0 0]) G G zeroValue29 G (fun a5 => ?_);refine gs ?_;refine fi 4 Fp G JH G ?_;refine lo isAgg26 G (.tail _ (.head _)) G ?_;refine fi 4 Fp G JH G ?_;refine lo isAgg26 G (.tail _ (.head _)) G ?_;refine bB G G Hs G h4 ?_;refine zU G G G G ?_;obtain ⟨a6, hm⟩ := aY hm;refine tw (α := cB) (l := 0) (h := (min (p0_n.dA.length : Int) 4 : Int).toNat) (xs := p0_n.dA) G G Hs IZ G h4 (by omega) (by omega) (.inl G) (fun cap hcap => by rw [E_ G]; exact (.inl ⟨G, G⟩)) (fun m hmm => (.inr ⟨_, _, _, G, G, by omega, by omega, G⟩)) (.inl ⟨G, G⟩) ?_
 intro a0 a2 a7;refine fi 4 Fp G JH G ?_;refine a_ (.swap _ _ _) ?_;refine aM (cs := [a0]) (out := [v0, v1, v2, v3, a0, v5]) G JH G G (aL.cells a2) G G (EU (aL.b_ a2) E8) G (gs ?_);refine fi 3 Fp G Jb G ?_;refine lo isAgg25 G (.head _) G ?_;refine fi 3 Fp G Jb G ?_;refine lo isAgg25 G (.head _) G ?_;refine bB G G G6 G h3 ?_;refine zU G G G G ?_;obtain ⟨a8, hm⟩ := aY hm;refine tw (α := dB) (l := 0) (h := (min (p0_n.eM.length : Int) 4 : Int).toNat) (xs := p0_n.eM) G G G6 Il G h3 (by omega) (by omega) (.inl G) (fun cap hcap => by rw [E_ G]; exact (.inl ⟨G, G⟩)) (fun m hmm => (.inr ⟨_, _, _, G, G, by omega, by omega, G⟩)) (.inl ⟨G, G⟩) ?_
 intro a1 a3 a9;refine fi 3 Fp G Jb G ?_;refine aM (cs := [a1]) (out := [v0, v1, v2, a1, a0, v5]) G Jb G G (aL.cells a3) G G (EU (aL.b_ a3) E8) G (gs ?_);refine la GO Gu G (.head _) G ?_;refine a_ (.swap _ _ _) ?_;refine aM (cs := [v0, v1, v2, a1, a0, v5]) (out := [v0, v1, v2, a1, a0, v5]) G Gu G G G G G (EU (aL.b_ h0) (EU (aL.b_ h1) (EU (aL.b_ h2) (EU (aL.b_ a3) (EU (aL.b_ a2) (EU (aL.b_ h5) E8)))))) (aQ G) (go ?_);obtain rfl := EV hm;exact iG (EX _) G (gG.agg G GO Gu (.head _) G) (.cons _ (.cons _ (.refl _))) (.refl _) ⟨(EX _), v0, v1, v2, a1, a0, v5, G, G, h0, h1, h2, a3, a2, h5⟩
theorem rY {B : Nat} {w0 w : World} [cP B w0] {H : Hp} {M : List bP} {p0_s : ByteArray} {r : Bool} (hm : bZ p0_s = some r) (ht : St B w0 H (M) w) :
    Calls prog 58 [.string (p0_s)].toArray w (gA B w0 fun H' M' v => H = H' ∧ M = M' ∧ .bool (r) = v) := by
 unfold bZ at hm;refine enter func58 G G G ht (gs ?_);refine gs ?_;refine gs ?_;obtain ⟨am, hm⟩ := aY hm;refine sI G G FV Ij JU G am ?_;intro ac an ad a5;refine bB G G Ij G a5 (go ?_);refine aG ?_;obtain ⟨ae, ao, ap, hm⟩ := cV hm;refine l9 (fun n H' M' L' => ∃ (a0 : Nat) (a6 : List U8), (fC p0_s).drop a0 = a6 ∧ a6.length = n ∧ ae a0 a6 () = some r ∧ an.le H' ∧ M = M' ∧ [(0, .string (p0_s)), (6, ac), (7, .int .i64 (((fC p0_s).length : Int))), (8, .int .i64 ((a0 : Int)))] = L') _ ⟨0, _, G, G, hm, (EX _), G, G⟩ ?_;rintro _ af _ _ ⟨a0, a6, ag, rfl, hm, a4, rfl, rfl⟩;refine gs ?_;refine gs ?_;refine bS G (fun a8 => ?_) (fun a8 => ?_);obtain ⟨a1, ah, rfl, a9, aq⟩ := gF ag a8;have hm := (ao _ _ _ _).symm.trans hm;generalize ar : ae (a0 + 1) ah = aw at hm;unfold mz at hm;refine gs ?_;refine aG ?_;refine gs ?_;obtain ⟨_, rfl, au⟩ := (a5).elem a9
 refine aT G G Ij sizeOf5 G (a5.mono a4) G (Fk _) a9 ?_;refine aI G G isAgg5 G (bU.one (au.mono a4) 0 G).at (go ?_);refine bG (fun H' M' L' => af = H' ∧ M = M' ∧ [(0, .string (p0_s)), (6, ac), (7, .int .i64 (((fC p0_s).length : Int))), (8, .int .i64 ((a0 : Int))), (31, .bool (!(((decide (65 ≤ a1.n)) && (decide (a1.n ≤ 90))) || (((decide (0 < (a0 : Int))) && (decide (48 ≤ a1.n))) && (decide (a1.n ≤ 57))))))] = L') ?_ (fun a2 => ?_);rintro _ _ _ ⟨rfl, rfl, rfl⟩;refine cd hm G (fun av hm => ?_) (fun av hm => ?_);refine gs ?_;refine go ?_;obtain rfl := EV hm;refine aS (EW ad a4) ?_;exact cD G G ⟨G, G, G⟩;refine eS (aH (aV ?_));refine gj ?_;exact kj (bT (E5 _) ⟨a0 + 1, ah, aq, G, ((FB ar _).trans hm), a4, G, G⟩) ⟨G, G, G, (Fl (fun z => some (Value.int .i64 z)) (cJ a9 ((a5.mono a4)).c_)), EY⟩;refine go ?_;cases a3 : (decide (65 ≤ a1.n))
 refine go ?_;cases aa : (decide (0 < (a0 : Int)));refine go ?_;refine nf G G G G (gj ?_);exact kj (a2 _ _ _ ⟨G, G, G⟩) ⟨G, G, G, G, (by exact sb (by first | rfl | simp only [a3, aa, mI])), EY⟩
 refine go ?_;cases ai : (decide (48 ≤ a1.n));refine go ?_;refine nf G G G G (gj ?_);exact kj (a2 _ _ _ ⟨G, G, G⟩) ⟨G, G, G, G, (by exact sb (by first | rfl | simp only [a3, aa, ai, mI])), EY⟩
 refine go ?_;refine nf G G G G (gj ?_);exact kj (a2 _ _ _ ⟨G, G, G⟩) ⟨G, G, G, G, (by exact sb (by first | rfl | simp only [a3, aa, ai, mI])), EY⟩
 refine go ?_;cases a7 : (decide (a1.n ≤ 90));refine go ?_;cases ab : (decide (0 < (a0 : Int)));refine go ?_;refine nf G G G G (gj ?_);exact kj (a2 _ _ _ ⟨G, G, G⟩) ⟨G, G, G, G, (by exact sb (by first | rfl | simp only [a3, a7, ab, mI])), EY⟩
 refine go ?_;cases aj : (decide (48 ≤ a1.n));refine go ?_;refine nf G G G G (gj ?_);exact kj (a2 _ _ _ ⟨G, G, G⟩) ⟨G, G, G, G, (by exact sb (by first | rfl | simp only [a3, a7, ab, aj, mI])), EY⟩
 refine go ?_;refine nf G G G G (gj ?_);exact kj (a2 _ _ _ ⟨G, G, G⟩) ⟨G, G, G, G, (by exact sb (by first | rfl | simp only [a3, a7, ab, aj, mI])), EY⟩
 refine go ?_;refine nf G G G G (gj ?_);exact kj (a2 _ _ _ ⟨G, G, G⟩) ⟨G, G, G, G, (by exact sb (by first | rfl | simp only [a3, a7, mI])), EY⟩
 obtain rfl := gE ag a8;have hm := (ap _ _).symm.trans hm;refine go ?_;refine bG (fun H' M' L' => af = H' ∧ M = M' ∧ [(2, .bool ((decide (1 ≤ (p0_s.size : Int))) && (decide ((p0_s.size : Int) ≤ 8))))] = L') ?_ (fun ak => ?_);rintro _ _ _ ⟨rfl, rfl, rfl⟩;refine go ?_;obtain rfl := EV hm;refine aS (EW ad a4) ?_;exact cD G G ⟨G, G, G⟩;refine go ?_;refine gH G G FV G (go ?_);cases al : (decide (1 ≤ (p0_s.size : Int)));refine gj ?_;exact kj (ak _ _ _ ⟨G, G, G⟩) ⟨(by exact sb (by first | rfl | simp only [al, mI])), EY⟩
 refine go ?_;refine gH G G FV G (gj ?_);exact kj (ak _ _ _ ⟨G, G, G⟩) ⟨(by exact sb (by first | rfl | simp only [al, mI])), EY⟩
theorem bL {B : Nat} {w0 w : World} [cP B w0] {H : Hp} {M : List bP} {p0_s : (List ByteArray)} {p1_v : ByteArray} {v0 : Value} {r : Int} (hm : aZ p0_s p1_v = some r) (h0 : aL H v0 p0_s) (ht : St B w0 H (M) w) :
    Calls prog 30 [v0, .string (p1_v)].toArray w (gA B w0 fun H' M' v => H = H' ∧ M = M' ∧ .int .i64 (r) = v) := by
 unfold aZ at hm;refine enter func30 G G G ht (gs ?_);refine gs ?_;refine gs ?_;refine bB G G Gm G h0 (go ?_);refine aG ?_;obtain ⟨a4, a8, a9, hm⟩ := jJ hm;refine l9 (fun n H' M' L' => ∃ (a0 : Nat) (a2 : Nat), a0 + a2 = ((p0_s.length : Int) : Int).toNat ∧ a2 = n ∧ a4 a2 a0 () = some r ∧ H.le H' ∧ M = M' ∧ [(0, v0), (1, .string (p1_v)), (7, .int .i64 ((p0_s.length : Int))), (8, .int .i64 ((a0 : Int)))] = L') _ ⟨0, _, FO _, G, hm, (EX _), G, G⟩ ?_;rintro _ ag _ _ ⟨a0, a2, a5, rfl, hm, a1, rfl, rfl⟩;refine gs ?_;refine gs ?_;refine bS G (fun a3 => ?_) (fun a3 => ?_);obtain ⟨a6, rfl, aa, ab⟩ := lh a5 a3;have hm := (a8 _ _ _).symm.trans hm;generalize ac : a4 a6 (a0 + 1) = ah at hm;unfold gW at hm;refine gs ?_;refine aG ?_;refine gs ?_;refine gs ?_;obtain ⟨ai, ad, a7, hm⟩ := aC hm;obtain ⟨_, rfl, ae⟩ := (h0).elem a7;refine aT G G Gm Gy G (h0.mono a1) G ad a7 ?_
 refine aI G G G8 G (bU.one (ae.mono a1) 0 G).at (go ?_);refine cd hm G (fun af hm => ?_) (fun af hm => ?_);refine gs ?_;refine go ?_;obtain rfl := EV hm;refine aS a1 ?_;exact cD G G ⟨G, G, G⟩;refine eS (aH (aV ?_));refine gj ?_;exact kj (bT (E5 _) ⟨a0 + 1, a6, aa, G, ((FB ac _).trans hm), a1, G, G⟩) ⟨G, G, G, (Fl (fun z => some (Value.int .i64 z)) (fM ab (fN (lI (h0).c_)))), EY⟩;obtain rfl := lg a5 a3;have hm := (a9 _ _).symm.trans hm;refine gs ?_;refine go ?_;obtain rfl := EV hm;refine aS a1 ?_;exact cD G G ⟨G, G, G⟩
theorem mG {B : Nat} {w0 w : World} [cP B w0] {H : Hp} {M : List bP} {p0_s : (List ByteArray)} {p1_v : ByteArray} {v0 : Value} {r : Bool} (hm : dK p0_s p1_v = some r) (h0 : aL H v0 p0_s) (ht : St B w0 H (M) w) :
    Calls prog 59 [v0, .string (p1_v)].toArray w (gA B w0 fun H' M' v => H = H' ∧ M = M' ∧ .bool (r) = v) := by
 unfold dK at hm;refine enter func59 G G G ht (gs ?_);refine gs ?_;obtain ⟨a1, a0, hm⟩ := bind_some hm;refine aD Jn G G G (fun w ht => (bL (hm := a0) h0 ht :)) ?_;rintro _ _ _ ⟨rfl, rfl, rfl⟩;refine go ?_;obtain rfl := EV hm;refine aS (EX _) ?_;exact cD G G ⟨G, G, G⟩
theorem dI {B : Nat} {w0 w : World} [cP B w0] {H : Hp} {M : List bP} {p0_c : aK} {name : ByteArray} {nodes : (List ByteArray)} {b0 : Nat} {es0 : Array MapEntry} {c0 : Nat} {v0 v1 : Value} {r : Int × aK} (hm : bO p0_c name nodes = some r) (h0 : mH es0 c0 p0_c.seen) (h1 : aL H v0 p0_c.nodes) (h2 : aL H v1 nodes) (ht : St B w0 H (.obj b0 (.map es0 c0) :: M) w) :
    Calls prog 40 [.agg [.map (some b0), v0].toArray, .string (name), v1].toArray w (gA B w0 fun H' M' v => H.le H' ∧ ∃ qes0 : Array MapEntry, ∃ qc0 : Nat, ∃ qv0 : Value, .obj b0 (.map qes0 qc0) :: M = M' ∧ .int .i64 (r.1) = v ∧ mH qes0 qc0 r.2.seen ∧ aL H' qv0 r.2.nodes) := by
 unfold bO at hm;refine enter func40 G G G ht (gs ?_);refine dW (cs := [.map (some b0), v0]) G G G G (fun aa => ?_);refine gs ?_;refine aG ?_;refine gs ?_;obtain ⟨b1, ah, hm⟩ := bind_some hm;refine aD call58 G G G (fun w ht => (rY (hm := ah)  ht :)) ?_;rintro _ _ _ ⟨rfl, rfl, rfl⟩;refine nf G G G G (go ?_);refine cd hm G (fun ai hm => ?_) (fun ai hm => ?_);refine gs ?_;refine go ?_;obtain rfl := EV hm;refine aX (.cons _ (.refl _)) ?_;exact cD G G ⟨(EX _), es0, c0, v0, G, G, h0, h1⟩;refine gs ?_;refine fi 0 JG G sizeOf102 G ?_;refine lo isAgg102 G (.head _) G (go ?_);refine tn (z := false) (k := name) (.tail _ (.head _)) h0 G G runUnderlying102 FV zeroValue4 G G G G (go ?_);refine cd hm G (fun aj hm => ?_) (fun aj hm => ?_);refine gs ?_;refine go ?_;obtain rfl := EV hm;refine aX (.cons _ (.refl _)) ?_;exact cD G G ⟨(EX _), es0, c0, v0, G, G, h0, h1⟩
 refine gs ?_;refine fi 0 JG G sizeOf102 G ?_;refine lo isAgg102 G (.head _) G (go ?_);refine a_ (.swap _ _ _) ?_;refine qt (k := name) (v := true) h0 G runUnderlying102 FV G G G G G ?_;intro a2 a3 a4;refine gs ?_;refine gs ?_;refine bB G G Gm G h2 (go ?_);refine aG ?_;obtain ⟨ab, ak, al, hm⟩ := cV hm;refine l9 (fun n H' M' L' => ∃ (a1 : Nat) (a5 : List ByteArray), (nodes).drop a1 = a5 ∧ a5.length = n ∧ ab a1 a5 () = some r ∧ H.le H' ∧ .obj b0 (.map a2 a3) :: .obj aa (.cells [.map (some b0), v0].toArray 104 (0, 0)) :: M = M' ∧ [(2, v1), (3, .pointer (some ⟨aa, 0, none⟩)), (21, v1), (22, .int .i64 ((nodes.length : Int))), (23, .int .i64 ((a1 : Int)))] = L') _ ⟨0, _, G, G, hm, (EX _), G, G⟩ ?_;rintro _ b2 _ _ ⟨a1, a5, ac, rfl, hm, a0, rfl, rfl⟩;refine gs ?_;refine gs ?_;refine bS G (fun a8 => ?_) (fun a8 => ?_);obtain ⟨b3, ad, rfl, a9, am⟩ := gF ac a8
 have hm := (ak _ _ _ _).symm.trans hm;generalize an : ab (a1 + 1) ad = b4 at hm;unfold dZ at hm;refine gs ?_;refine aG ?_;refine gs ?_;obtain ⟨_, rfl, ao⟩ := (h2).elem a9;refine aT G G Gm Gy G (h2.mono a0) G (Fk _) a9 ?_;refine aI G G G8 G (bU.one (ao.mono a0) 0 G).at (gs ?_);refine fi 1 JG G Hw G ?_;refine lo HW G (.tail _ (.head _)) G (go ?_);obtain ⟨b5, ap, hm⟩ := bind_some hm;refine aD call59 G G G (fun w ht => (mG (hm := ap) (h1.mono a0) ht :)) ?_;rintro _ _ _ ⟨rfl, rfl, rfl⟩;refine nf G G G G (go ?_);refine cd hm G (fun aq hm => ?_) (fun aq hm => ?_);refine gs ?_;refine go ?_;obtain rfl := EV hm;refine aX (.cons_cons _ (.cons _ (.refl _))) ?_;exact cD G G ⟨a0, a2, a3, v0, G, G, a4, (h1.mono a0)⟩;refine eS (aH (aV ?_));refine gj ?_;exact kj (bT (E5 _) ⟨a1 + 1, ad, am, G, ((FB an _).trans hm), a0, G, G⟩) ⟨G, G, G, G, (Fl (fun z => some (Value.int .i64 z)) (cJ a9 ((h2.mono a0)).c_)), EY⟩
 obtain rfl := gE ac a8;have hm := (al _ _).symm.trans hm;refine gs ?_;refine gs ?_;cases a6 : (decide ((nodes.length : Int) = 2));have hm := eF a6 hm;refine nO fm 10 [ph v1, ph (.int .i64 ((nodes.length : Int))), ph (.bool (false)), ph (.bool (false)), ph undef, ph undef, ph undef, ph undef, ph undef, ph undef] ⟨om, ?_, ?_, om, om, om, om, om, om, om, EY⟩ ?_;rintro HX hX X Rest hR _ _ ⟨rfl, rfl⟩ hU hUp;refine bB G G Gm G ((h2.mono a0).mono hX) ?_;exact o0 ⟨G, G⟩;rintro HX hX X Rest hR _ _ ⟨rfl, rfl⟩ hU hUp;refine wo ?_;exact o0 ⟨G, (by first | rfl | (rw [a6]; try rfl))⟩
 intro b6 ae;refine dz ?_;refine go ?_;refine cF G (gs ?_);refine go ?_;obtain rfl := EV hm;refine aX (.cons_cons _ (.cons _ (.refl _))) ?_;exact cD G G ⟨(EW a0 ae), a2, a3, v0, G, G, a4, ((h1.mono a0).mono ae)⟩;have hm := eG a6 hm;obtain ⟨ar, au, af, hm⟩ := aC hm;obtain ⟨_, rfl, av⟩ := (h2).elem af;obtain ⟨aw, ax, ag, hm⟩ := aC hm;obtain ⟨_, rfl, ay⟩ := (h2).elem ag;refine nO fm 10 [ph v1, ph (.int .i64 ((nodes.length : Int))), ph (.bool (true)), ph (.bool (true)), ph v1, ph (.pointer (some ((Value.base (v1)).add ((0 : Int).toNat * 1)))), ph (.string (ar)), ph v1, ph (.pointer (some ((Value.base (v1)).add ((1 : Int).toNat * 1)))), ph (.string (aw))] ⟨om, ?_, ?_, om, om, ?_, ?_, om, ?_, ?_, EY⟩ ?_;rintro HX hX X Rest hR _ _ ⟨rfl, rfl⟩ hU hUp;refine bB G G Gm G ((h2.mono a0).mono hX) ?_;exact o0 ⟨G, G⟩;rintro HX hX X Rest hR _ _ ⟨rfl, rfl⟩ hU hUp;refine wo ?_
 exact o0 ⟨G, (by first | rfl | (rw [a6]; try rfl))⟩
 rintro HX hX X Rest hR _ _ ⟨rfl, rfl⟩ _ _ ⟨rfl, rfl⟩ hU hUp;refine aT G G Gm Gy G ((h2.mono a0).mono hX) G au af ?_;exact o0 ⟨G, G⟩;rintro HX hX X Rest hR _ _ ⟨rfl, rfl⟩ _ _ ⟨rfl, rfl⟩ hU hUp;refine aI G G G8 G (bU.one ((av.mono a0).mono hX) 0 G).at ?_;exact o0 ⟨G, G⟩;rintro HX hX X Rest hR _ _ ⟨rfl, rfl⟩ _ _ ⟨rfl, rfl⟩ hU hUp;refine aT G G Gm Gy G ((h2.mono a0).mono hX) G ax ag ?_;exact o0 ⟨G, G⟩;rintro HX hX X Rest hR _ _ ⟨rfl, rfl⟩ _ _ ⟨rfl, rfl⟩ hU hUp;refine aI G G G8 G (bU.one ((ay.mono a0).mono hX) 0 G).at ?_;exact o0 ⟨G, G⟩;intro b7 a7;refine dz ?_;refine go ?_;refine cd hm G (fun az hm => ?_) (fun az hm => ?_);refine gs ?_;refine go ?_;obtain rfl := EV hm;refine aX (.cons_cons _ (.cons _ (.refl _))) ?_;exact cD G G ⟨(EW a0 a7), a2, a3, v0, G, G, a4, ((h1.mono a0).mono a7)⟩;refine gs ?_;refine go ?_;obtain rfl := EV hm
 refine aX (.cons_cons _ (.cons _ (.refl _))) ?_;exact cD G G ⟨(EW a0 a7), a2, a3, v0, G, G, a4, ((h1.mono a0).mono a7)⟩
theorem fZ {B : Nat} {w0 w : World} [cP B w0] {H : Hp} {M : List bP} {p0_n p1_low p2_high : Int} {r : Bool} (hm : bD p0_n p1_low p2_high = r) (ht : St B w0 H (M) w) :
    Calls prog 60 [.int .i64 (p0_n), .int .i64 (p1_low), .int .i64 (p2_high)].toArray w (gA B w0 fun H' M' v => H = H' ∧ M = M' ∧ .bool (r) = v) := by
 unfold bD at hm;refine enter func60 G G G ht (gs ?_);refine bG (fun H' M' L' => H = H' ∧ M = M' ∧ [(6, .bool ((decide (p0_n < p1_low)) || (decide (p2_high < p0_n))))] = L') ?_ (fun a0 => ?_);rintro _ _ _ ⟨rfl, rfl, rfl⟩;refine go ?_;obtain rfl := hm;refine aS (EX _) ?_;exact cD G G ⟨G, G, G⟩;refine go ?_;cases a1 : (decide (p0_n < p1_low));refine gj ?_;exact kj (a0 _ _ _ ⟨G, G, G⟩) ⟨(by exact sb (by first | rfl | simp only [a1, mI])), EY⟩
 refine gj ?_;exact kj (a0 _ _ _ ⟨G, G, G⟩) ⟨(by exact sb (by first | rfl | simp only [a1, mI])), EY⟩
theorem ri {B : Nat} {w0 w : World} [cP B w0] {H : Hp} {M : List bP} {p0_b : cA} {r : Int} (hm : fK p0_b = r) (ht : St B w0 H (M) w) :
    Calls prog 41 [.agg [.string (p0_b.Name), .string (p0_b.gY), .string (p0_b.To), .int .i64 (p0_b.X), .int .i64 (p0_b.qn), .int .i64 (p0_b.Shift), .int .i64 (p0_b.ky), .int .i64 (p0_b.lO), .int .i64 (p0_b.pg)].toArray].toArray w (gA B w0 fun H' M' v => H = H' ∧ M = M' ∧ .int .i64 (r) = v) := by
 unfold fK at hm;refine enter func41 G G G ht (gs ?_);refine dW (cs := [.string (p0_b.Name), .string (p0_b.gY), .string (p0_b.To), .int .i64 (p0_b.X), .int .i64 (p0_b.qn), .int .i64 (p0_b.Shift), .int .i64 (p0_b.ky), .int .i64 (p0_b.lO), .int .i64 (p0_b.pg)]) G G G G (fun a7 => ?_);refine gs ?_;refine bG (fun H' M' L' => H = H' ∧ M = M' ∧ [(32, .bool ((((((bD p0_b.X 1 10000) || (bD p0_b.qn 500 1500)) || (bD p0_b.Shift (-1000) 1000)) || (bD p0_b.ky 0 100000)) || (bD p0_b.lO p0_b.ky 100000)) || (bD p0_b.pg 0 200000)))] = L') ?_ (fun a0 => ?_);rintro _ _ _ ⟨rfl, rfl, rfl⟩;refine cd hm G (fun a6 hm => ?_) (fun a6 hm => ?_);refine gs ?_;refine go ?_;obtain rfl := hm;refine aS (EX _) ?_;exact cD G G ⟨G, G, G⟩;refine gs ?_;refine go ?_;obtain rfl := hm;refine aS (EX _) ?_;exact cD G G ⟨G, G, G⟩;refine go ?_;refine fi 3 GA G Ff G ?_;refine lo Fy G (.head _) G ?_
 refine aD call60 G G G (fun w ht => (fZ (hm := (G : bD p0_b.X 1 10000 = _))  ht :)) ?_;rintro _ _ _ ⟨rfl, rfl, rfl⟩;refine go ?_;cases a1 : ((bD p0_b.X 1 10000));refine fi 4 GA G Ff G ?_;refine lo Fy G (.head _) G ?_;refine aD call60 G G G (fun w ht => (fZ (hm := (G : bD p0_b.qn 500 1500 = _))  ht :)) ?_;rintro _ _ _ ⟨rfl, rfl, rfl⟩;refine go ?_;cases a2 : ((bD p0_b.qn 500 1500));refine fi 5 GA G Ff G ?_;refine lo Fy G (.head _) G ?_;refine aD call60 G G G (fun w ht => (fZ (hm := (G : bD p0_b.Shift (-1000) 1000 = _))  ht :)) ?_;rintro _ _ _ ⟨rfl, rfl, rfl⟩;refine go ?_;cases a3 : ((bD p0_b.Shift (-1000) 1000));refine fi 6 GA G Ff G ?_;refine lo Fy G (.head _) G ?_;refine aD call60 G G G (fun w ht => (fZ (hm := (G : bD p0_b.ky 0 100000 = _))  ht :)) ?_;rintro _ _ _ ⟨rfl, rfl, rfl⟩;refine go ?_;cases a4 : ((bD p0_b.ky 0 100000))
 refine fi 7 GA G Ff G ?_;refine lo Fy G (.head _) G ?_;refine fi 6 GA G Ff G ?_;refine lo Fy G (.head _) G ?_;refine aD call60 G G G (fun w ht => (fZ (hm := (G : bD p0_b.lO p0_b.ky 100000 = _))  ht :)) ?_;rintro _ _ _ ⟨rfl, rfl, rfl⟩;refine go ?_;cases a5 : ((bD p0_b.lO p0_b.ky 100000));refine fi 8 GA G Ff G ?_;refine lo Fy G (.head _) G ?_;refine aD call60 G G G (fun w ht => (fZ (hm := (G : bD p0_b.pg 0 200000 = _))  ht :)) ?_;rintro _ _ _ ⟨rfl, rfl, rfl⟩;refine gj ?_;refine aX (.cons _ (.refl _)) ?_;exact kj (a0 _ _ _ ⟨G, G, G⟩) ⟨(by exact sb (by first | rfl | simp only [a1, a2, a3, a4, a5, mI])), EY⟩
 refine gj ?_;refine aX (.cons _ (.refl _)) ?_;exact kj (a0 _ _ _ ⟨G, G, G⟩) ⟨(by exact sb (by first | rfl | simp only [a1, a2, a3, a4, a5, mI])), EY⟩
 refine gj ?_;refine aX (.cons _ (.refl _)) ?_;exact kj (a0 _ _ _ ⟨G, G, G⟩) ⟨(by exact sb (by first | rfl | simp only [a1, a2, a3, a4, mI])), EY⟩
 refine gj ?_;refine aX (.cons _ (.refl _)) ?_;exact kj (a0 _ _ _ ⟨G, G, G⟩) ⟨(by exact sb (by first | rfl | simp only [a1, a2, a3, mI])), EY⟩
 refine gj ?_;refine aX (.cons _ (.refl _)) ?_;exact kj (a0 _ _ _ ⟨G, G, G⟩) ⟨(by exact sb (by first | rfl | simp only [a1, a2, mI])), EY⟩
 refine gj ?_;refine aX (.cons _ (.refl _)) ?_;exact kj (a0 _ _ _ ⟨G, G, G⟩) ⟨(by exact sb (by first | rfl | simp only [a1, mI])), EY⟩
theorem fD {B : Nat} {w0 w : World} [cP B w0] {H : Hp} {M : List bP} {p0_n : Int} {r : Bool} (hm : aP p0_n = r) (ht : St B w0 H (M) w) :
    Calls prog 61 [.int .i64 (p0_n)].toArray w (gA B w0 fun H' M' v => H = H' ∧ M = M' ∧ .bool (r) = v) := by
 unfold aP at hm;refine enter func61 G G G ht (gs ?_);refine gs ?_;refine aD call60 G G G (fun w ht => (fZ (hm := (G : bD p0_n 0 100000 = _))  ht :)) ?_;rintro _ _ _ ⟨rfl, rfl, rfl⟩;refine nf G G G G (go ?_);obtain rfl := hm;refine aS (EX _) ?_;exact cD G G ⟨G, G, G⟩
theorem oU {B : Nat} {w0 w : World} [cP B w0] {H : Hp} {M : List bP} {p0_c : aK} {p1_n : aJ} {b0 : Nat} {es0 : Array MapEntry} {c0 : Nat} {v0 v1 v2 v3 v4 v5 v6 : Value} {r : Int × aK} (hm : dQ p0_c p1_n = some r) (h0 : mH es0 c0 p0_c.seen) (h1 : aL H v0 p0_c.nodes) (h2 : aL H v1 p1_n.bJ) (h3 : aL H v2 p1_n.cC) (h4 : aL H v3 p1_n.bE) (h5 : aL H v4 p1_n.eM) (h6 : aL H v5 p1_n.dA) (h7 : aL H v6 p1_n.cI) (ht : St B w0 H (.obj b0 (.map es0 c0) :: M) w) :
    Calls prog 42 [.agg [.map (some b0), v0].toArray, .agg [v1, v2, v3, v4, v5, v6].toArray].toArray w (gA B w0 fun H' M' v => H.le H' ∧ ∃ qes0 : Array MapEntry, ∃ qc0 : Nat, ∃ qv0 : Value, .obj b0 (.map qes0 qc0) :: M = M' ∧ .int .i64 (r.1) = v ∧ mH qes0 qc0 r.2.seen ∧ aL H' qv0 r.2.nodes) := by
 unfold dQ at hm;refine enter func42 G G G ht (gs ?_);refine dW (cs := [.map (some b0), v0]) G G G G (fun a6 => ?_);refine dW (cs := [v1, v2, v3, v4, v5, v6]) G G G G (fun a9 => ?_);refine gs ?_;refine gs ?_;refine fi 3 Fp G Jb G ?_;refine lo isAgg25 G (.head _) G ?_;refine bB G G G6 G h5 (go ?_);refine aG ?_;obtain ⟨bf, bv, bw, hm⟩ := cV hm;refine l9 (fun n H' M' L' => ∃ (a7 : Nat) (ah : List dB), ∃ ao : (List (ByteArray × Bool)), ∃ ap : Array MapEntry, ∃ aq : Nat, (p1_n.eM).drop a7 = ah ∧ ah.length = n ∧ bf a7 ah ao = some r ∧ mH ap aq ao ∧ H.le H' ∧ .obj a9 (.cells [v1, v2, v3, v4, v5, v6].toArray 29 (0, 0)) :: .obj a6 (.cells [.map (some b0), v0].toArray 104 (0, 0)) :: .obj b0 (.map ap aq) :: M = M' ∧ [(2, .pointer (some ⟨a6, 0, none⟩)), (3, .pointer (some ⟨a9, 0, none⟩)), (15, v4), (16, .int .i64 ((p1_n.eM.length : Int))), (17, .int .i64 ((a7 : Int)))] = L') _ ⟨0, _, _, _, _, G, G, hm, h0, (EX _), G, G⟩ ?_
 rintro _ bx _ _ ⟨a7, ah, ao, ap, aq, bg, rfl, hm, bh, a0, rfl, rfl⟩;refine gs ?_;refine gs ?_;refine bS G (fun ar => ?_) (fun ar => ?_);obtain ⟨a1, bi, rfl, au, bz⟩ := gF bg ar;have hm := (bv _ _ _ _).symm.trans hm;generalize c1 : bf (a7 + 1) bi = cv at hm;unfold eX at hm;refine gs ?_;refine aG ?_;refine gs ?_;obtain ⟨_, ⟨rfl⟩, c2⟩ := (h5).elem au;refine aT G G G6 Il G (h5.mono a0) G (Fk _) au ?_;refine aR G G isAgg73 Il G (c2.mono a0).at G ?_;refine bR (cs := [.string (⟨#[]⟩), .string (⟨#[]⟩), .int .i64 (0), .int .i64 (0), .int .i64 (0)]) G G JE G (fun cw => ?_);refine aM (cs := [.string (a1.Name), .string (a1.Node), .int .i64 (a1.cH), .int .i64 (a1.eN), .int .i64 (a1.rM)]) (out := [.string (a1.Name), .string (a1.Node), .int .i64 (a1.cH), .int .i64 (a1.eN), .int .i64 (a1.rM)]) G Il G G G G G (EU G (EU G (EU G (EU G (EU G E8))))) (aQ G) (gs ?_)
 refine gs ?_;refine la isAgg104 Jp G (.tail _ (.tail _ (.head _))) G ?_;refine fi 0 Gz G Gy G ?_;refine lo G8 G (.head _) G ?_;refine fi 1 Gz G Gy G ?_;refine lo G8 G (.head _) G ?_;refine cS (α := ByteArray) (css := [[.string (a1.Node)]]) (zs := [.string (⟨#[]⟩)]) (out := [.string (a1.Node)]) (ys := [a1.Node]) G G G ⟨G, EY⟩ Gm Gy G Jw (by kernel_rfl) G G G G ⟨[.string (a1.Node)], [], G, G, G⟩ G ?_
 intro cx cy c3;refine dO (c3).rd G (fun cz aa c4 => ?_);refine a_ (.trans (.cons _ (.cons _ (.swap _ _ _))) (.trans (.cons _ (.swap _ _ _)) (.swap _ _ _))) ?_;obtain ⟨d0, c5, hm⟩ := bind_some hm;refine aD call40 G G G (fun w ht => (dI (hm := c5) bh ((h1.mono a0).mono aa) c4 ht :)) ?_;rintro _ c6 _ ⟨ae, av, aw, d1, rfl, rfl, ax, d2⟩;refine gs ?_;refine cd hm G (fun ai hm => ?_) (fun ai hm => ?_);refine gs ?_;refine go ?_;obtain rfl := EV hm;refine aX (.cons_cons _ (.cons _ (.cons _ (.cons _ (.refl _))))) ?_;exact cD G G ⟨(EW (EW a0 aa) ae), av, aw, v0, G, G, ax, (((h1.mono a0).mono aa).mono ae)⟩;refine go ?_;refine bG (fun H' M' L' => c6 = H' ∧ .obj b0 (.map av aw) :: .obj a9 (.cells [v1, v2, v3, v4, v5, v6].toArray 29 (0, 0)) :: .obj a6 (.cells [.map (some b0), v0].toArray 104 (0, 0)) :: M = M' ∧ [(2, .pointer (some ⟨a6, 0, none⟩)), (3, .pointer (some ⟨a9, 0, none⟩)), (15, v4), (16, .int .i64 ((p1_n.eM.length : Int))), (17, .int .i64 ((a7 : Int))), (47, .bool (((!(aP a1.cH)) || (bD a1.eN a1.cH 100000)) || (!(aP a1.rM))))] = L') ?_ (fun ay => ?_)
 rintro _ _ _ ⟨rfl, rfl, rfl⟩;refine cd hm G (fun c7 hm => ?_) (fun c7 hm => ?_);refine gs ?_;refine go ?_;obtain rfl := EV hm;refine aX (.cons_cons _ (.cons _ (.cons _ (.refl _)))) ?_;exact cD G G ⟨(EW (EW a0 aa) ae), av, aw, v0, G, G, ax, (((h1.mono a0).mono aa).mono ae)⟩;refine eS (aH (aV ?_));refine gj ?_;exact kp (bT (E5 _) ⟨a7 + 1, bi, _, _, _, bz, G, ((FB c1 _).trans hm), ax, (EW (EW a0 aa) ae), G, G⟩) (.trans (.swap _ _ _) (.cons _ (.swap _ _ _))) ⟨G, G, G, G, (Fl (fun z => some (Value.int .i64 z)) (cJ au ((h5.mono a0)).c_)), EY⟩;refine go ?_;refine fi 2 Gz G Ff G ?_;refine lo Fy G (.tail _ (.head _)) G ?_;refine aD call61 G G G (fun w ht => (fD (hm := (G : aP a1.cH = _))  ht :)) ?_;rintro _ _ _ ⟨rfl, rfl, rfl⟩;refine nf G G G G (go ?_);cases az : (aP a1.cH);refine gj ?_;refine aX (.cons_cons _ (.cons _ (.refl _))) ?_
 exact kj (ay _ _ _ ⟨G, G, G⟩) ⟨G, G, G, G, G, (by exact sb (by first | rfl | simp only [ai, az, mI])), EY⟩
 refine fi 3 Gz G Ff G ?_;refine lo Fy G (.tail _ (.head _)) G ?_;refine fi 2 Gz G Ff G ?_;refine lo Fy G (.tail _ (.head _)) G ?_;refine aD call60 G G G (fun w ht => (fZ (hm := (G : bD a1.eN a1.cH 100000 = _))  ht :)) ?_;rintro _ _ _ ⟨rfl, rfl, rfl⟩;refine go ?_;cases bj : ((bD a1.eN a1.cH 100000));refine fi 4 Gz G Ff G ?_;refine lo Fy G (.tail _ (.head _)) G ?_;refine aD call61 G G G (fun w ht => (fD (hm := (G : aP a1.rM = _))  ht :)) ?_;rintro _ _ _ ⟨rfl, rfl, rfl⟩;refine nf G G G G (gj ?_);refine aX (.cons_cons _ (.cons _ (.refl _))) ?_;exact kj (ay _ _ _ ⟨G, G, G⟩) ⟨G, G, G, G, G, (by exact sb (by first | rfl | simp only [ai, az, bj, mI])), EY⟩
 refine gj ?_;refine aX (.cons_cons _ (.cons _ (.refl _))) ?_;exact kj (ay _ _ _ ⟨G, G, G⟩) ⟨G, G, G, G, G, (by exact sb (by first | rfl | simp only [ai, az, bj, mI])), EY⟩
 obtain rfl := gE bg ar;have hm := (bw _ _).symm.trans hm;refine gs ?_;refine gs ?_;refine fi 4 Fp G JH G ?_;refine lo isAgg26 G (.head _) G ?_;refine bB G G Hs G (h6.mono a0) (go ?_);refine aG ?_;obtain ⟨bk, c8, c9, hm⟩ := cV hm;refine l9 (fun n H' M' L' => ∃ (ab : Nat) (aj : List cB), ∃ b1 : (List (ByteArray × Bool)), ∃ b2 : Array MapEntry, ∃ b3 : Nat, (p1_n.dA).drop ab = aj ∧ aj.length = n ∧ bk ab aj b1 = some r ∧ mH b2 b3 b1 ∧ bx.le H' ∧ .obj a9 (.cells [v1, v2, v3, v4, v5, v6].toArray 29 (0, 0)) :: .obj a6 (.cells [.map (some b0), v0].toArray 104 (0, 0)) :: .obj b0 (.map b2 b3) :: M = M' ∧ [(2, .pointer (some ⟨a6, 0, none⟩)), (3, .pointer (some ⟨a9, 0, none⟩)), (50, v5), (51, .int .i64 ((p1_n.dA.length : Int))), (52, .int .i64 ((ab : Int)))] = L') _ ⟨0, _, _, _, _, G, G, hm, bh, (EX _), G, G⟩ ?_;rintro _ ca _ _ ⟨ab, aj, b1, b2, b3, bl, rfl, hm, bm, a3, rfl, rfl⟩
 refine gs ?_;refine gs ?_;refine bS G (fun b4 => ?_) (fun b4 => ?_);obtain ⟨a4, bn, rfl, b5, cb⟩ := gF bl b4;have hm := (c8 _ _ _ _).symm.trans hm;generalize cc : bk (ab + 1) bn = d3 at hm;unfold eY at hm;refine gs ?_;refine aG ?_;refine gs ?_;obtain ⟨_, ⟨rfl⟩, ce⟩ := (h6).elem b5;refine aT G G Hs IZ G ((h6.mono a0).mono a3) G (Fk _) b5 ?_;refine aR G G isAgg82 IZ G ((ce.mono a0).mono a3).at G ?_;refine bR (cs := [.string (⟨#[]⟩), .string (⟨#[]⟩), .int .i64 (0)]) G G JV G (fun d4 => ?_);refine aM (cs := [.string (a4.Name), .string (a4.Node), .int .i64 (a4.bI)]) (out := [.string (a4.Name), .string (a4.Node), .int .i64 (a4.bI)]) G IZ G G G G G (EU G (EU G (EU G E8))) (aQ G) (gs ?_);refine gs ?_;refine la isAgg104 Jp G (.tail _ (.tail _ (.head _))) G ?_;refine fi 0 H_ G Gy G ?_;refine lo G8 G (.head _) G ?_
 refine fi 1 H_ G Gy G ?_;refine lo G8 G (.head _) G ?_;refine cS (α := ByteArray) (css := [[.string (a4.Node)]]) (zs := [.string (⟨#[]⟩)]) (out := [.string (a4.Node)]) (ys := [a4.Node]) G G G ⟨G, EY⟩ Gm Gy G Jw (by kernel_rfl) G G G G ⟨[.string (a4.Node)], [], G, G, G⟩ G ?_
 intro d5 d6 cf;refine dO (cf).rd G (fun d7 ac cg => ?_);refine a_ (.trans (.cons _ (.cons _ (.swap _ _ _))) (.trans (.cons _ (.swap _ _ _)) (.swap _ _ _))) ?_;obtain ⟨d8, ch, hm⟩ := bind_some hm;refine aD call40 G G G (fun w ht => (dI (hm := ch) bm (((h1.mono a0).mono a3).mono ac) cg ht :)) ?_;rintro _ d9 _ ⟨af, bo, bp, da, rfl, rfl, b6, db⟩;refine gs ?_;refine cd hm G (fun ci hm => ?_) (fun ci hm => ?_);refine gs ?_;refine go ?_;obtain rfl := EV hm;refine aX (.cons_cons _ (.cons _ (.cons _ (.cons _ (.refl _))))) ?_;exact cD G G ⟨(EW (EW (EW a0 a3) ac) af), bo, bp, v0, G, G, b6, ((((h1.mono a0).mono a3).mono ac).mono af)⟩;refine gs ?_;refine fi 2 H_ G Ff G ?_;refine lo Fy G (.tail _ (.head _)) G ?_;refine aD call61 G G G (fun w ht => (fD (hm := (G : aP a4.bI = _))  ht :)) ?_;rintro _ _ _ ⟨rfl, rfl, rfl⟩;refine nf G G G G (go ?_)
 refine cd hm G (fun cj hm => ?_) (fun cj hm => ?_);refine gs ?_;refine go ?_;obtain rfl := EV hm;refine aX (.cons_cons _ (.cons _ (.cons _ (.cons _ (.refl _))))) ?_;exact cD G G ⟨(EW (EW (EW a0 a3) ac) af), bo, bp, v0, G, G, b6, ((((h1.mono a0).mono a3).mono ac).mono af)⟩;refine eS (aH (aV ?_));refine gj ?_;refine aX (.cons_cons _ (.cons _ (.refl _))) ?_;exact kp (bT (E5 _) ⟨ab + 1, bn, _, _, _, cb, G, ((FB cc _).trans hm), b6, (EW (EW a3 ac) af), G, G⟩) (.trans (.swap _ _ _) (.cons _ (.swap _ _ _))) ⟨G, G, G, G, (Fl (fun z => some (Value.int .i64 z)) (cJ b5 (((h6.mono a0).mono a3)).c_)), EY⟩;obtain rfl := gE bl b4;have hm := (c9 _ _).symm.trans hm;refine gs ?_;refine gs ?_;refine fi 5 Fp G sizeOf27 G ?_;refine lo isAgg27 G (.head _) G ?_;refine bB G G Is G ((h7.mono a0).mono a3) (go ?_)
 refine aG ?_;refine nP (.cons _ (.refl _)) ?_;obtain ⟨bq, ck, cl, hm⟩ := cV hm;refine l9 (fun n H' M' L' => ∃ (a8 : Nat) (ak : List fG), ∃ b7 : (List (ByteArray × Bool)), ∃ al : Array MapEntry, ∃ am : Nat, (p1_n.cI).drop a8 = ak ∧ ak.length = n ∧ bq a8 ak b7 = some r ∧ mH al am b7 ∧ ca.le H' ∧ .obj a6 (.cells [.map (some b0), v0].toArray 104 (0, 0)) :: .obj b0 (.map al am) :: M = M' ∧ [(2, .pointer (some ⟨a6, 0, none⟩)), (72, v6), (73, .int .i64 ((p1_n.cI.length : Int))), (74, .int .i64 ((a8 : Int)))] = L') _ ⟨0, _, _, _, _, G, G, hm, bm, (EX _), G, G⟩ ?_;rintro _ dc _ _ ⟨a8, ak, b7, al, am, br, rfl, hm, bs, a5, rfl, rfl⟩;refine gs ?_;refine gs ?_;refine bS G (fun b8 => ?_) (fun b8 => ?_);obtain ⟨a2, bt, rfl, b9, cm⟩ := gF br b8;have hm := (ck _ _ _ _).symm.trans hm;generalize cn : bq (a8 + 1) bt = dd at hm;unfold eZ at hm;refine gs ?_;refine aG ?_;refine gs ?_;obtain ⟨_, ⟨rfl⟩, co⟩ := (h7).elem b9
 refine aT G G Is sizeOf80 G (((h7.mono a0).mono a3).mono a5) G (Fk _) b9 ?_;refine aR G G isAgg80 sizeOf80 G (((co.mono a0).mono a3).mono a5).at G ?_;refine bR (cs := [.string (⟨#[]⟩), .string (⟨#[]⟩), .int .i64 (0), .int .i64 (0), .int .i64 (0)]) G G zeroValue80 G (fun de => ?_);refine aM (cs := [.string (a2.Name), .string (a2.Node), .int .i64 (a2.kr), .int .i64 (a2.Discharge), .int .i64 (a2.l8)]) (out := [.string (a2.Name), .string (a2.Node), .int .i64 (a2.kr), .int .i64 (a2.Discharge), .int .i64 (a2.l8)]) G sizeOf80 G G G G G (EU G (EU G (EU G (EU G (EU G E8))))) (aQ G) (gs ?_);refine gs ?_;refine la isAgg104 Jp G (.tail _ (.head _)) G ?_;refine fi 0 HJ G Gy G ?_;refine lo G8 G (.head _) G ?_;refine fi 1 HJ G Gy G ?_;refine lo G8 G (.head _) G ?_;refine cS (α := ByteArray) (css := [[.string (a2.Node)]]) (zs := [.string (⟨#[]⟩)]) (out := [.string (a2.Node)]) (ys := [a2.Node]) G G G ⟨G, EY⟩ Gm Gy G Jw (by kernel_rfl) G G G G ⟨[.string (a2.Node)], [], G, G, G⟩ G ?_
 intro df dg cp;refine dO (cp).rd G (fun dh ad cq => ?_);refine a_ (.trans (.cons _ (.swap _ _ _)) (.swap _ _ _)) ?_;obtain ⟨di, cr, hm⟩ := bind_some hm;refine aD call40 G G G (fun w ht => (dI (hm := cr) bs ((((h1.mono a0).mono a3).mono a5).mono ad) cq ht :)) ?_;rintro _ ct _ ⟨ag, ba, bb, dj, rfl, rfl, bc, dk⟩;refine gs ?_;refine cd hm G (fun an hm => ?_) (fun an hm => ?_);refine gs ?_;refine go ?_;obtain rfl := EV hm;refine aX (.cons_cons _ (.cons _ (.cons _ (.refl _)))) ?_;exact cD G G ⟨(EW (EW (EW (EW a0 a3) a5) ad) ag), ba, bb, v0, G, G, bc, (((((h1.mono a0).mono a3).mono a5).mono ad).mono ag)⟩;refine go ?_;refine bG (fun H' M' L' => ct = H' ∧ .obj b0 (.map ba bb) :: .obj a6 (.cells [.map (some b0), v0].toArray 104 (0, 0)) :: M = M' ∧ [(2, .pointer (some ⟨a6, 0, none⟩)), (72, v6), (73, .int .i64 ((p1_n.cI.length : Int))), (74, .int .i64 ((a8 : Int))), (103, .bool (((!(aP a2.kr)) || (!(aP a2.Discharge))) || (!(aP a2.l8))))] = L') ?_ (fun bd => ?_)
 rintro _ _ _ ⟨rfl, rfl, rfl⟩;refine cd hm G (fun cu hm => ?_) (fun cu hm => ?_);refine gs ?_;refine go ?_;obtain rfl := EV hm;refine aX (.cons_cons _ (.cons _ (.refl _))) ?_;exact cD G G ⟨(EW (EW (EW (EW a0 a3) a5) ad) ag), ba, bb, v0, G, G, bc, (((((h1.mono a0).mono a3).mono a5).mono ad).mono ag)⟩;refine eS (aH (aV ?_));refine gj ?_;exact kp (bT (E5 _) ⟨a8 + 1, bt, _, _, _, cm, G, ((FB cn _).trans hm), bc, (EW (EW a5 ad) ag), G, G⟩) (.swap _ _ _) ⟨G, G, G, (Fl (fun z => some (Value.int .i64 z)) (cJ b9 ((((h7.mono a0).mono a3).mono a5)).c_)), EY⟩;refine go ?_;refine fi 2 HJ G Ff G ?_;refine lo Fy G (.tail _ (.head _)) G ?_;refine aD call61 G G G (fun w ht => (fD (hm := (G : aP a2.kr = _))  ht :)) ?_;rintro _ _ _ ⟨rfl, rfl, rfl⟩;refine nf G G G G (go ?_);cases be : (aP a2.kr)
 refine gj ?_;refine aX (.cons_cons _ (.cons _ (.refl _))) ?_;exact kj (bd _ _ _ ⟨G, G, G⟩) ⟨G, G, G, G, (by exact sb (by first | rfl | simp only [an, be, mI])), EY⟩
 refine fi 3 HJ G Ff G ?_;refine lo Fy G (.tail _ (.head _)) G ?_;refine aD call61 G G G (fun w ht => (fD (hm := (G : aP a2.Discharge = _))  ht :)) ?_;rintro _ _ _ ⟨rfl, rfl, rfl⟩;refine nf G G G G (go ?_);cases bu : (aP a2.Discharge);refine gj ?_;refine aX (.cons_cons _ (.cons _ (.refl _))) ?_;exact kj (bd _ _ _ ⟨G, G, G⟩) ⟨G, G, G, G, (by exact sb (by first | rfl | simp only [an, be, bu, mI])), EY⟩
 refine fi 4 HJ G Ff G ?_;refine lo Fy G (.tail _ (.head _)) G ?_;refine aD call61 G G G (fun w ht => (fD (hm := (G : aP a2.l8 = _))  ht :)) ?_;rintro _ _ _ ⟨rfl, rfl, rfl⟩;refine nf G G G G (gj ?_);refine aX (.cons_cons _ (.cons _ (.refl _))) ?_;exact kj (bd _ _ _ ⟨G, G, G⟩) ⟨G, G, G, G, (by exact sb (by first | rfl | simp only [an, be, bu, mI])), EY⟩
 obtain rfl := gE br b8;have hm := (cl _ _).symm.trans hm;refine gs ?_;refine go ?_;obtain rfl := EV hm;refine aX (.cons _ (.refl _)) ?_;exact cD G G ⟨(EW (EW a0 a3) a5), al, am, v0, G, G, bs, (((h1.mono a0).mono a3).mono a5)⟩
theorem kT {B : Nat} {w0 w : World} [cP B w0] {H : Hp} {M : List bP} {p0_n : aJ} {v0 v1 v2 v3 v4 v5 : Value} {r : Int} (hm : cM p0_n = some r) (h0 : aL H v0 p0_n.bJ) (h1 : aL H v1 p0_n.cC) (h2 : aL H v2 p0_n.bE) (h3 : aL H v3 p0_n.eM) (h4 : aL H v4 p0_n.dA) (h5 : aL H v5 p0_n.cI) (ht : St B w0 H (M) w) :
    Calls prog 21 [.agg [v0, v1, v2, v3, v4, v5].toArray].toArray w (gA B w0 fun H' M' v => H = H' ∧ M = M' ∧ .int .i64 (r) = v) := by
 unfold cM at hm;refine enter func21 G G G ht (gs ?_);refine dW (cs := [v0, v1, v2, v3, v4, v5]) G G G G (fun a6 => ?_);refine gs ?_;refine bG (fun H' M' L' => H = H' ∧ .obj a6 (.cells [v0, v1, v2, v3, v4, v5].toArray 29 (0, 0)) :: M = M' ∧ [(1, .pointer (some ⟨a6, 0, none⟩)), (47, .bool ((((((decide (24 < (p0_n.bJ.length : Int))) || (decide (32 < (p0_n.cC.length : Int)))) || (decide (24 < (p0_n.bE.length : Int)))) || (decide (10 < (p0_n.eM.length : Int)))) || (decide (12 < (p0_n.dA.length : Int)))) || (decide (4 < (p0_n.cI.length : Int)))))] = L') ?_ (fun a7 => ?_);rintro _ _ _ ⟨rfl, rfl, rfl⟩;refine cd hm G (fun bi hm => ?_) (fun bi hm => ?_);refine gs ?_;refine go ?_;obtain rfl := EV hm;refine aX (.cons _ (.refl _)) ?_;refine aS (EX _) ?_;exact cD G G ⟨G, G, G⟩;refine gs ?_;refine sq G G (fun a5 => ?_);refine fi 0 Fp G Hw G ?_;refine lo HW G (.tail _ (.head _)) G ?_
 refine d_ (css := [[.map (some a5)], [v0]]) (zs := [.map none, .slice none 0 0]) (out := [.map (some a5), v0]) (places := [(0, 1), (1, 1)]) G G G ⟨G, (aL.cells h0), EY⟩ zeroValue104 G JG (fun w => by kernel_rfl) G ?_
 refine bR (cs := [.map none, .slice none 0 0]) G G zeroValue104 G (fun a8 => ?_);refine aM (cs := [.map (some a5), v0]) (out := [.map (some a5), v0]) G Jp G G G G G (EU G (EU (aL.b_ h0) E8)) (aQ G) (gs ?_);refine gs ?_;refine fi 0 Fp G Hw G ?_;refine lo HW G (.tail _ (.tail _ (.head _))) G ?_;refine bB G G Gm G h0 (go ?_);refine aG ?_;obtain ⟨b3, bj, bk, hm⟩ := cV hm;refine l9 (fun n H' M' L' => ∃ (a9 : Nat) (ae : List ByteArray), ∃ aj : (List (ByteArray × Bool)), ∃ ak : Array MapEntry, ∃ al : Nat, (p0_n.bJ).drop a9 = ae ∧ ae.length = n ∧ b3 a9 ae aj = some r ∧ mH ak al aj ∧ H.le H' ∧ .obj a8 (.cells [.map (some a5), v0].toArray 104 (0, 0)) :: .obj a5 (.map ak al) :: .obj a6 (.cells [v0, v1, v2, v3, v4, v5].toArray 29 (0, 0)) :: M = M' ∧ [(1, .pointer (some ⟨a6, 0, none⟩)), (3, .pointer (some ⟨a8, 0, none⟩)), (53, v0), (54, .int .i64 ((p0_n.bJ.length : Int))), (55, .int .i64 ((a9 : Int)))] = L') _ ⟨0, _, _, _, _, G, G, hm, (mH.nil (κ := ByteArray) (ν := Bool)), (EX _), G, G⟩ ?_
 rintro _ bl _ _ ⟨a9, ae, aj, ak, al, b4, rfl, hm, b5, a1, rfl, rfl⟩;refine gs ?_;refine gs ?_;refine bS G (fun am => ?_) (fun am => ?_);obtain ⟨ci, b6, rfl, an, bm⟩ := gF b4 am;have hm := (bj _ _ _ _).symm.trans hm;generalize bn : b3 (a9 + 1) b6 = cj at hm;unfold iS at hm;refine gs ?_;refine aG ?_;refine gs ?_;obtain ⟨_, rfl, bo⟩ := (h0).elem an;refine aT G G Gm Gy G (h0.mono a1) G (Fk _) an ?_;refine aI G G G8 G (bU.one (bo.mono a1) 0 G).at (gs ?_);refine la isAgg104 Jp G (.head _) G (go ?_);refine a_ (.swap _ _ _) ?_;obtain ⟨ck, bp, hm⟩ := bind_some hm;refine aD call40 G G G (fun w ht => (dI (hm := bp) b5 (h0.mono a1) aL.nil ht :)) ?_;rintro _ cl _ ⟨b7, cm, cn, co, rfl, rfl, bq, cp⟩;refine gs ?_;refine cd hm G (fun br hm => ?_) (fun br hm => ?_);refine gs ?_;refine go ?_;obtain rfl := EV hm;refine aX (.cons _ (.cons _ (.cons _ (.refl _)))) ?_
 refine aS (EW a1 b7) ?_;exact cD G G ⟨G, G, G⟩;refine eS (aH (aV ?_));refine gj ?_;exact kp (bT (E5 _) ⟨a9 + 1, b6, _, _, _, bm, G, ((FB bn _).trans hm), bq, (EW a1 b7), G, G⟩) (.swap _ _ _) ⟨G, G, G, G, (Fl (fun z => some (Value.int .i64 z)) (cJ an ((h0.mono a1)).c_)), EY⟩;obtain rfl := gE b4 am;have hm := (bk _ _).symm.trans hm;refine gs ?_;refine gs ?_;refine fi 1 Fp G sizeOf23 G ?_;refine lo isAgg23 G (.tail _ (.tail _ (.head _))) G ?_;refine bB G G IS G (h1.mono a1) (go ?_);refine aG ?_;obtain ⟨b8, bs, bt, hm⟩ := cV hm;refine l9 (fun n H' M' L' => ∃ (aa : Nat) (af : List dE), ∃ ao : (List (ByteArray × Bool)), ∃ ap : Array MapEntry, ∃ aq : Nat, (p0_n.cC).drop aa = af ∧ af.length = n ∧ b8 aa af ao = some r ∧ mH ap aq ao ∧ bl.le H' ∧ .obj a8 (.cells [.map (some a5), v0].toArray 104 (0, 0)) :: .obj a5 (.map ap aq) :: .obj a6 (.cells [v0, v1, v2, v3, v4, v5].toArray 29 (0, 0)) :: M = M' ∧ [(1, .pointer (some ⟨a6, 0, none⟩)), (3, .pointer (some ⟨a8, 0, none⟩)), (67, v1), (68, .int .i64 ((p0_n.cC.length : Int))), (69, .int .i64 ((aa : Int)))] = L') _ ⟨0, _, _, _, _, G, G, hm, b5, (EX _), G, G⟩ ?_
 rintro _ bu _ _ ⟨aa, af, ao, ap, aq, b9, rfl, hm, ba, a2, rfl, rfl⟩;refine gs ?_;refine gs ?_;refine bS G (fun ar => ?_) (fun ar => ?_);obtain ⟨a3, bb, rfl, au, bv⟩ := gF b9 ar;have hm := (bs _ _ _ _).symm.trans hm;generalize bw : b8 (aa + 1) bb = cq at hm;unfold iT at hm;refine gs ?_;refine aG ?_;refine gs ?_;obtain ⟨_, ⟨rfl⟩, bx⟩ := (h1).elem au;refine aT G G IS sizeOf86 G ((h1.mono a1).mono a2) G (Fk _) au ?_;refine aR G G isAgg86 sizeOf86 G ((bx.mono a1).mono a2).at G ?_;refine bR (cs := [.string (⟨#[]⟩), .string (⟨#[]⟩), .string (⟨#[]⟩), .bool (false), .bool (false)]) G G zeroValue86 G (fun cr => ?_);refine aM (cs := [.string (a3.Name), .string (a3.A), .string (a3.B_), .bool (a3.qP), .bool (a3.Open)]) (out := [.string (a3.Name), .string (a3.A), .string (a3.B_), .bool (a3.qP), .bool (a3.Open)]) G sizeOf86 G G G G G (EU G (EU G (EU G (EU G (EU G E8))))) (aQ G) (gs ?_)
 refine la isAgg104 Jp G (.tail _ (.head _)) G ?_;refine fi 0 It G Gy G ?_;refine lo G8 G (.head _) G ?_;refine fi 1 It G Gy G ?_;refine lo G8 G (.head _) G ?_;refine fi 2 It G Gy G ?_;refine lo G8 G (.head _) G ?_;refine cS (α := ByteArray) (css := [[.string (a3.A)], [.string (a3.B_)]]) (zs := [.string (⟨#[]⟩), .string (⟨#[]⟩)]) (out := [.string (a3.A), .string (a3.B_)]) (ys := [a3.A, a3.B_]) G G G ⟨G, G, EY⟩ Gm Gy G Jw (by kernel_rfl) G G G G ⟨[.string (a3.A)], [.string (a3.B_)], G, G, ⟨[.string (a3.B_)], [], G, G, G⟩⟩ G ?_
 intro ct cu bz;refine dO (bz).rd G (fun cv av c0 => ?_);refine a_ (.trans (.cons _ (.swap _ _ _)) (.swap _ _ _)) ?_;obtain ⟨cw, c1, hm⟩ := bind_some hm;refine aD call40 G G G (fun w ht => (dI (hm := c1) ba (((h0.mono a1).mono a2).mono av) c0 ht :)) ?_;rintro _ cx _ ⟨bc, cy, cz, d0, rfl, rfl, c2, d1⟩;refine gs ?_;refine cd hm G (fun c3 hm => ?_) (fun c3 hm => ?_);refine gs ?_;refine go ?_;obtain rfl := EV hm;refine aX (.cons _ (.cons _ (.cons _ (.cons _ (.refl _))))) ?_;refine aS (EW (EW (EW a1 a2) av) bc) ?_;exact cD G G ⟨G, G, G⟩;refine eS (aH (aV ?_));refine gj ?_;refine aX (.cons_cons _ (.cons _ (.refl _))) ?_;exact kp (bT (E5 _) ⟨aa + 1, bb, _, _, _, bv, G, ((FB bw _).trans hm), c2, (EW (EW a2 av) bc), G, G⟩) (.swap _ _ _) ⟨G, G, G, G, (Fl (fun z => some (Value.int .i64 z)) (cJ au (((h1.mono a1).mono a2)).c_)), EY⟩
 obtain rfl := gE b9 ar;have hm := (bt _ _).symm.trans hm;refine gs ?_;refine gs ?_;refine fi 2 Fp G sizeOf24 G ?_;refine lo isAgg24 G (.tail _ (.tail _ (.head _))) G ?_;refine bB G G HG G ((h2.mono a1).mono a2) (go ?_);refine aG ?_;obtain ⟨bd, c4, c5, hm⟩ := cV hm;refine l9 (fun n H' M' L' => ∃ (ab : Nat) (ag : List cA), ∃ aw : (List (ByteArray × Bool)), ∃ ax : Array MapEntry, ∃ ay : Nat, (p0_n.bE).drop ab = ag ∧ ag.length = n ∧ bd ab ag aw = some r ∧ mH ax ay aw ∧ bu.le H' ∧ .obj a8 (.cells [.map (some a5), v0].toArray 104 (0, 0)) :: .obj a5 (.map ax ay) :: .obj a6 (.cells [v0, v1, v2, v3, v4, v5].toArray 29 (0, 0)) :: M = M' ∧ [(1, .pointer (some ⟨a6, 0, none⟩)), (3, .pointer (some ⟨a8, 0, none⟩)), (87, v2), (88, .int .i64 ((p0_n.bE.length : Int))), (89, .int .i64 ((ab : Int)))] = L') _ ⟨0, _, _, _, _, G, G, hm, ba, (EX _), G, G⟩ ?_;rintro _ d2 _ _ ⟨ab, ag, aw, ax, ay, be, rfl, hm, bf, a4, rfl, rfl⟩
 refine gs ?_;refine gs ?_;refine bS G (fun az => ?_) (fun az => ?_);obtain ⟨a0, bg, rfl, b0, c6⟩ := gF be az;have hm := (c4 _ _ _ _).symm.trans hm;generalize c7 : bd (ab + 1) bg = d3 at hm;unfold iU at hm;refine gs ?_;refine aG ?_;refine gs ?_;obtain ⟨_, ⟨rfl⟩, c8⟩ := (h2).elem b0;refine aT G G HG I0 G (((h2.mono a1).mono a2).mono a4) G (Fk _) b0 ?_;refine aR G G isAgg84 I0 G (((c8.mono a1).mono a2).mono a4).at G ?_;refine bR (cs := [.string (⟨#[]⟩), .string (⟨#[]⟩), .string (⟨#[]⟩), .int .i64 (0), .int .i64 (0), .int .i64 (0), .int .i64 (0), .int .i64 (0), .int .i64 (0)]) G G JW G (fun d4 => ?_);refine aM (cs := [.string (a0.Name), .string (a0.gY), .string (a0.To), .int .i64 (a0.X), .int .i64 (a0.qn), .int .i64 (a0.Shift), .int .i64 (a0.ky), .int .i64 (a0.lO), .int .i64 (a0.pg)]) (out := [.string (a0.Name), .string (a0.gY), .string (a0.To), .int .i64 (a0.X), .int .i64 (a0.qn), .int .i64 (a0.Shift), .int .i64 (a0.ky), .int .i64 (a0.lO), .int .i64 (a0.pg)]) G I0 G G G G G (EU G (EU G (EU G (EU G (EU G (EU G (EU G (EU G (EU G E8))))))))) (aQ G) (gs ?_)
 refine gs ?_;refine la isAgg104 Jp G (.tail _ (.head _)) G ?_;refine fi 0 GA G Gy G ?_;refine lo G8 G (.head _) G ?_;refine fi 1 GA G Gy G ?_;refine lo G8 G (.head _) G ?_;refine fi 2 GA G Gy G ?_;refine lo G8 G (.head _) G ?_;refine cS (α := ByteArray) (css := [[.string (a0.gY)], [.string (a0.To)]]) (zs := [.string (⟨#[]⟩), .string (⟨#[]⟩)]) (out := [.string (a0.gY), .string (a0.To)]) (ys := [a0.gY, a0.To]) G G G ⟨G, G, EY⟩ Gm Gy G Jw (by kernel_rfl) G G G G ⟨[.string (a0.gY)], [.string (a0.To)], G, G, ⟨[.string (a0.To)], [], G, G, G⟩⟩ G ?_
 intro d5 d6 c9;refine dO (c9).rd G (fun d7 ah ca => ?_);refine a_ (.trans (.cons _ (.swap _ _ _)) (.swap _ _ _)) ?_;obtain ⟨d8, cb, hm⟩ := bind_some hm;refine aD call40 G G G (fun w ht => (dI (hm := cb) bf ((((h0.mono a1).mono a2).mono a4).mono ah) ca ht :)) ?_;rintro _ d9 _ ⟨b1, da, db, dc, rfl, rfl, cc, dd⟩;refine gs ?_;refine cd hm G (fun ce hm => ?_) (fun ce hm => ?_);refine gs ?_;refine go ?_;obtain rfl := EV hm;refine aX (.cons _ (.cons _ (.cons _ (.cons _ (.refl _))))) ?_;refine aS (EW (EW (EW (EW a1 a2) a4) ah) b1) ?_;exact cD G G ⟨G, G, G⟩;refine gs ?_;refine la isAgg84 I0 G (.tail _ (.head _)) G ?_;refine aD call41 G G G (fun w ht => (ri (hm := (G : fK a0 = _))  ht :)) ?_;rintro _ _ _ ⟨rfl, rfl, rfl⟩;refine gs ?_;refine cd hm G (fun cf hm => ?_) (fun cf hm => ?_);refine gs ?_;refine go ?_;obtain rfl := EV hm;refine aX (.cons _ (.cons _ (.cons _ (.cons _ (.refl _))))) ?_
 refine aS (EW (EW (EW (EW a1 a2) a4) ah) b1) ?_;exact cD G G ⟨G, G, G⟩;refine eS (aH (aV ?_));refine gj ?_;refine aX (.cons_cons _ (.cons _ (.refl _))) ?_;exact kp (bT (E5 _) ⟨ab + 1, bg, _, _, _, c6, G, ((FB c7 _).trans hm), cc, (EW (EW a4 ah) b1), G, G⟩) (.swap _ _ _) ⟨G, G, G, G, (Fl (fun z => some (Value.int .i64 z)) (cJ b0 ((((h2.mono a1).mono a2).mono a4)).c_)), EY⟩;obtain rfl := gE be az;have hm := (c5 _ _).symm.trans hm;refine gs ?_;refine la isAgg104 Jp G (.head _) G ?_;refine la GO Gu G (.tail _ (.tail _ (.head _))) G ?_;refine a_ (.swap _ _ _) ?_;obtain ⟨de, cg, hm⟩ := bind_some hm;refine aD call42 G G G (fun w ht => (oU (hm := cg) bf (((h0.mono a1).mono a2).mono a4) (((h0.mono a1).mono a2).mono a4) (((h1.mono a1).mono a2).mono a4) (((h2.mono a1).mono a2).mono a4) (((h3.mono a1).mono a2).mono a4) (((h4.mono a1).mono a2).mono a4) (((h5.mono a1).mono a2).mono a4) ht :)) ?_
 rintro _ df _ ⟨ch, dg, dh, di, rfl, rfl, dj, dk⟩;refine go ?_;obtain rfl := EV hm;refine aX (.cons _ (.cons _ (.cons _ (.refl _)))) ?_;refine aS (EW (EW (EW a1 a2) a4) ch) ?_;exact cD G G ⟨G, G, G⟩;refine go ?_;refine fi 0 Fp G Hw G ?_;refine lo HW G (.head _) G ?_;refine bB G G Gm G h0 (go ?_);cases ac : (decide (24 < (p0_n.bJ.length : Int)));refine fi 1 Fp G sizeOf23 G ?_;refine lo isAgg23 G (.head _) G ?_;refine bB G G IS G h1 (go ?_);cases ad : (decide (32 < (p0_n.cC.length : Int)));refine fi 2 Fp G sizeOf24 G ?_;refine lo isAgg24 G (.head _) G ?_;refine bB G G HG G h2 (go ?_);cases ai : (decide (24 < (p0_n.bE.length : Int)));refine fi 3 Fp G Jb G ?_;refine lo isAgg25 G (.head _) G ?_;refine bB G G G6 G h3 (go ?_);cases b2 : (decide (10 < (p0_n.eM.length : Int)))
 refine fi 4 Fp G JH G ?_;refine lo isAgg26 G (.head _) G ?_;refine bB G G Hs G h4 (go ?_);cases bh : (decide (12 < (p0_n.dA.length : Int)));refine fi 5 Fp G sizeOf27 G ?_;refine lo isAgg27 G (.head _) G ?_;refine bB G G Is G h5 (gj ?_);exact kj (a7 _ _ _ ⟨G, G, G⟩) ⟨G, (by exact sb (by first | rfl | simp only [ac, ad, ai, b2, bh, mI])), EY⟩
 refine gj ?_;exact kj (a7 _ _ _ ⟨G, G, G⟩) ⟨G, (by exact sb (by first | rfl | simp only [ac, ad, ai, b2, bh, mI])), EY⟩
 refine gj ?_;exact kj (a7 _ _ _ ⟨G, G, G⟩) ⟨G, (by exact sb (by first | rfl | simp only [ac, ad, ai, b2, mI])), EY⟩
 refine gj ?_;exact kj (a7 _ _ _ ⟨G, G, G⟩) ⟨G, (by exact sb (by first | rfl | simp only [ac, ad, ai, mI])), EY⟩
 refine gj ?_;exact kj (a7 _ _ _ ⟨G, G, G⟩) ⟨G, (by exact sb (by first | rfl | simp only [ac, ad, mI])), EY⟩
 refine gj ?_;exact kj (a7 _ _ _ ⟨G, G, G⟩) ⟨G, (by exact sb (by first | rfl | simp only [ac, mI])), EY⟩
theorem r7 {B : Nat} {w0 w : World} [cP B w0] {H : Hp} {M : List bP} {p0_n : aJ} {p1_open : Bool} {v0 v1 v2 v3 v4 v5 : Value} {r : (List bK) × (List Int)} (hm : k4 p0_n p1_open = some r) (h0 : aL H v0 p0_n.bJ) (h1 : aL H v1 p0_n.cC) (h2 : aL H v2 p0_n.bE) (h3 : aL H v3 p0_n.eM) (h4 : aL H v4 p0_n.dA) (h5 : aL H v5 p0_n.cI) (ht : St B w0 H (M) w) :
    Calls prog 62 [.agg [v0, v1, v2, v3, v4, v5].toArray, .bool (p1_open)].toArray w (gA B w0 fun H' M' v => H = H' ∧ ∃ qv0 : Value, ∃ qxs0 : List Value, ∃ qv1 : Value, ∃ qxs1 : List Value, .row qv0 109 (aF.sz bK) r.1.length qxs0 :: .row qv1 3 (aF.sz Int) r.2.length qxs1 :: M = M' ∧ .tuple #[qv0, qv1] = v ∧ uq qv0 qxs0 r.1 ∧ uq qv1 qxs1 r.2) := by
 unfold k4 at hm;refine enter func62 G G G ht (gs ?_);refine dW (cs := [v0, v1, v2, v3, v4, v5]) G G G G (fun a6 => ?_);refine gs ?_;refine gs ?_;refine gs ?_;refine gs ?_;refine fi 1 Fp G sizeOf23 G ?_;refine lo isAgg23 G (.head _) G ?_;refine bB G G IS G h1 (go ?_);refine aG ?_;refine jC 109 (aF.sz bK) ?_;refine jC 3 (aF.sz Int) ?_;obtain ⟨ar, az, b0, hm⟩ := cV hm;refine Dc (.swap _ _ _) (fun n H' M' L' => ∃ (a0 : Nat) (ab : List dE), ∃ a8 : List bK, ∃ a9 : List Int, ∃ a7 : Value, ∃ ac : List Value, ∃ aa : Value, ∃ ad : List Value, (p0_n.cC).drop a0 = ab ∧ ab.length = n ∧ ar a0 ab (a8, a9) = some r ∧ Rw H' a7 ac a8 ∧ Rw H' aa ad a9 ∧ H.le H' ∧ .row a7 109 (aF.sz bK) a8.length ac :: .row aa 3 (aF.sz Int) a9.length ad :: .obj a6 (.cells [v0, v1, v2, v3, v4, v5].toArray 29 (0, 0)) :: M = M' ∧ [(1, .bool (p1_open)), (2, .pointer (some ⟨a6, 0, none⟩)), (6, a7), (7, aa), (11, v1), (12, .int .i64 ((p0_n.cC.length : Int))), (13, .int .i64 ((a0 : Int)))] = L') _ ⟨0, _, _, _, _, _, _, _, G, G, hm, Rw.nil, Rw.nil, (EX _), G, G⟩ ?_
 rintro _ b1 _ _ ⟨a0, ab, a8, a9, a7, ac, aa, ad, au, rfl, hm, ai, aj, a4, rfl, rfl⟩;refine gs ?_;refine gs ?_;refine bS G (fun ak => ?_) (fun ak => ?_);obtain ⟨a1, av, rfl, al, b2⟩ := gF au ak;have hm := (az _ _ _ _).symm.trans hm;generalize b3 : ar (a0 + 1) av = b4 at hm
 try dsimp only at hm
 unfold mA at hm;refine go ?_;refine bG (fun H' M' L' => ∃ ae : List bK, ∃ af : List Int, ∃ ag : Value, ∃ am : List Value, ∃ ah : Value, ∃ an : List Value, jH b4 ae af = some r ∧ Rw H' ag am ae ∧ Rw H' ah an af ∧ b1.le H' ∧ .row ag 109 (aF.sz bK) ae.length am :: .row ah 3 (aF.sz Int) af.length an :: .obj a6 (.cells [v0, v1, v2, v3, v4, v5].toArray 29 (0, 0)) :: M = M' ∧ [(1, .bool (p1_open)), (2, .pointer (some ⟨a6, 0, none⟩)), (6, ag), (7, ah), (11, v1), (12, .int .i64 ((p0_n.cC.length : Int))), (13, .int .i64 ((a0 : Int)))] = L') ?_ (fun aw => ?_);rintro bl _ _ ⟨ae, af, ag, am, ah, an, hm, b5, b6, b7, rfl, rfl⟩;unfold jH at hm;refine gj ?_;exact kj (bT (E5 _) ⟨a0 + 1, av, _, _, _, _, _, _, b2, G, ((FB b3 _).trans hm), b5, b6, (EW a4 b7), G, G⟩) ⟨G, G, G, G, G, G, (Fl (fun z => some (Value.int .i64 z)) (cJ al ((h1.mono a4)).c_)), EY⟩;refine aG ?_;refine gs ?_
 obtain ⟨_, ⟨rfl⟩, b8⟩ := (h1).elem al;refine aT G G IS sizeOf86 G (h1.mono a4) G (Fk _) al ?_;refine aR G G isAgg86 sizeOf86 G (b8.mono a4).at G ?_;refine bR (cs := [.string (⟨#[]⟩), .string (⟨#[]⟩), .string (⟨#[]⟩), .bool (false), .bool (false)]) G G zeroValue86 G (fun ax => ?_);refine go ?_;refine aM (cs := [.string (a1.Name), .string (a1.A), .string (a1.B_), .bool (a1.qP), .bool (a1.Open)]) (out := [.string (a1.Name), .string (a1.A), .string (a1.B_), .bool (a1.qP), .bool (a1.Open)]) G sizeOf86 G G G G G (EU G (EU G (EU G (EU G (EU G E8))))) (aQ G) (gs ?_);refine fi 4 It G F9 G ?_;refine lo H9 G (.head _) G (go ?_);refine vM G G runUnderlying4 G G (go ?_);refine cd hm G (fun b9 hm => ?_) (fun b9 hm => ?_);refine gs ?_;obtain ⟨a2, ba, hm⟩ := bind_some hm;obtain ⟨a3, bb, hm⟩ := bind_some hm;refine nO fm 13 [ph a7, ph (.pointer (some ⟨a6, 0, none⟩)), ph v0, ph (.pointer (some ⟨ax, 1, none⟩)), ph (.string (a1.A)), ph (.int .i64 (a2)), ph (.pointer (some ⟨a6, 0, none⟩)), ph v0, ph (.pointer (some ⟨ax, 2, none⟩)), ph (.string (a1.B_)), ph (.int .i64 (a3)), ph (.agg [.int .i64 (a2), .int .i64 (a3)].toArray), (fun H rs v => ∃ a5 : Value, [] = rs ∧ a5 = v ∧ aL H a5 ([(bK.mk a2 a3)]) ∧ Value.mY a5 = ([(bK.mk a2 a3)]).length)] ⟨om, ?_, ?_, ?_, ?_, ?_, ?_, ?_, ?_, ?_, ?_, ?_, ?_, EY⟩ ?_
 rintro HX hX X Rest hR hU hUp;refine fi 0 Fp G Hw G ?_;exact o0 ⟨G, G⟩;rintro HX hX X Rest hR _ _ ⟨rfl, rfl⟩ hU hUp;refine aI G G HW G (bQ (hR _ (.tail _ (.tail _ (.tail _ (.head _))))) G) ?_;exact o0 ⟨G, G⟩;rintro HX hX X Rest hR hU hUp;refine fi 1 It G Gy G ?_;exact o0 ⟨G, G⟩;rintro HX hX X Rest hR _ _ ⟨rfl, rfl⟩ hU hUp;refine aI G G G8 G (bQ (hR _ (.head _)) G) ?_;exact o0 ⟨G, G⟩;rintro HX hX X Rest hR _ _ ⟨rfl, rfl⟩ _ _ ⟨rfl, rfl⟩ hU hUp;refine aD Jn G G G (fun w ht => (bL (hm := ba) ((h0.mono a4).mono hX) ht :)) ?_;rintro _ _ _ ⟨rfl, rfl, rfl⟩;exact o0 ⟨G, G⟩;rintro HX hX X Rest hR hU hUp;refine fi 0 Fp G Hw G ?_;exact o0 ⟨G, G⟩;rintro HX hX X Rest hR _ _ ⟨rfl, rfl⟩ hU hUp;refine aI G G HW G (bQ (hR _ (.tail _ (.tail _ (.tail _ (.head _))))) G) ?_;exact o0 ⟨G, G⟩;rintro HX hX X Rest hR hU hUp;refine fi 2 It G Gy G ?_
 exact o0 ⟨G, G⟩;rintro HX hX X Rest hR _ _ ⟨rfl, rfl⟩ hU hUp;refine aI G G G8 G (bQ (hR _ (.head _)) G) ?_;exact o0 ⟨G, G⟩;intro HX hX X Rest hR;refine dr ?_;intro hU hUp;refine aD Jn G G G (fun w ht => (bL (hm := bb) ((h0.mono a4).mono hX) ht :)) ?_;rintro _ _ _ ⟨rfl, rfl, rfl⟩;exact o0 ⟨G, G⟩;rintro HX hX X Rest hR _ _ ⟨rfl, rfl⟩ _ _ ⟨rfl, rfl⟩ hU hUp;refine ry (css := [[.int .i64 (a2)], [.int .i64 (a3)]]) (zs := [.int .i64 (0), .int .i64 (0)]) (out := [.int .i64 (a2), .int .i64 (a3)]) (places := [(0, 1), (1, 1)]) G G G ⟨G, G, EY⟩ Js G G9 Ff G G ?_;exact o0 ⟨G, G⟩;rintro HX hX X Rest hR _ _ ⟨rfl, rfl⟩ hU hUp;refine dM (α := bK) (css := [[.int .i64 (a2), .int .i64 (a3)]]) (zs := [.int .i64 (0), .int .i64 (0)]) (out := [.int .i64 (a2), .int .i64 (a3)]) (ys := [(bK.mk a2 a3)]) G G G ⟨G, EY⟩ Ii Jq G Js (by kernel_rfl) G G G G ⟨[.int .i64 (a2), .int .i64 (a3)], [], G, G, G⟩ G ?_
 intro bm a5 bn bc bd ao;have ay : Value.mY a5 = ([(bK.mk a2 a3)]).length := by rw [bc]; rfl
 exact oe [] bd ⟨a5, G, G, (ao), (ay)⟩;intro bo ap;refine dr ?_;rintro _ _ ⟨a5, rfl, rfl, ao, ay⟩;refine q8 ?_;obtain ⟨be, hm⟩ := aY hm;refine a_ (.swap _ _ _) ?_;refine eD (α := bK) (l := a8) (ys := [(bK.mk a2 a3)]) G G underlying108 ⟨_, G, G, G, G⟩ G G G G G (ai.mono ap) ao be ?_;intro bp bq bf;refine go ?_;refine dM (α := Int) (css := [[.int .i64 ((a0 : Int))]]) (zs := [.int .i64 (0)]) (out := [.int .i64 ((a0 : Int))]) (ys := ([((a0 : Int))] : List Int)) G G G ⟨G, EY⟩ E3 Ff G HB (by kernel_rfl) G G G G ⟨[.int .i64 ((a0 : Int))], [], G, G, G⟩ G ?_
 intro br bg bs bh aq bi;have bt : Value.mY bg = ([((a0 : Int))] : List Int).length := by rw [bh]; rfl
 obtain ⟨bj, hm⟩ := aY hm;refine a_ (.trans (.cons _ (.swap _ _ _)) (.swap _ _ _)) ?_;refine eD (α := Int) (l := a9) (ys := ([((a0 : Int))] : List Int)) G G Hh ⟨_, G, G, G, G⟩ G G G G G ((aj.mono ap).mono aq) bi bj ?_;intro bu bv bk;refine gj ?_;refine aX (.cons_cons _ (.cons_cons _ (.cons _ (.refl _)))) ?_;exact kp (aw _ _ _ ⟨_, _, _, _, _, _, hm, (bf.mono aq), bk, (EW ap aq), G, G⟩) (.swap _ _ _);refine gj ?_;refine aX (.cons _ (.refl _)) ?_;exact kj (aw _ _ _ ⟨_, _, _, _, _, _, hm, ai, aj, (EX _), G, G⟩);obtain rfl := gE au ak;have hm := (b0 _ _).symm.trans hm
 try dsimp only at hm
 refine gs ?_;refine go ?_;obtain rfl := EV hm;refine aX (.cons_cons _ (.cons_cons _ (.cons _ (.refl _)))) ?_;refine aS a4 ?_;exact ks G G G ⟨G, a7, ac, aa, ad, G, G, (ai).ql, (aj).ql⟩
theorem sQ {B : Nat} {w0 w : World} [cP B w0] {H : Hp} {M : List bP} {p0_n : Int} {p1_l : (List bK)} {v0 : Value} {r : Int} (hm : mc p0_n p1_l = some r) (h0 : aL H v0 p1_l) (ht : St B w0 H (M) w) :
    Calls prog 63 [.int .i64 (p0_n), v0].toArray w (gA B w0 fun H' M' v => H = H' ∧ M = M' ∧ .int .i64 (r) = v) := by
 unfold mc at hm;refine enter func63 G G G ht (gs ?_);refine gs ?_;refine bG (fun H' M' L' => H = H' ∧ M = M' ∧ [(0, .int .i64 (p0_n)), (1, v0), (17, .bool (((decide (p0_n < 0)) || (decide (24 < p0_n))) || (decide (64 < (p1_l.length : Int)))))] = L') ?_ (fun a6 => ?_);rintro _ _ _ ⟨rfl, rfl, rfl⟩;refine cd hm G (fun ah hm => ?_) (fun ah hm => ?_);refine gs ?_;refine go ?_;obtain rfl := EV hm;refine aS (EX _) ?_;exact cD G G ⟨G, G, G⟩;refine gs ?_;refine gs ?_;refine bB G G Ii G h0 (go ?_);refine aG ?_;obtain ⟨aa, ai, aj, hm⟩ := cV hm;refine l9 (fun n H' M' L' => ∃ (a4 : Nat) (a5 : List bK), (p1_l).drop a4 = a5 ∧ a5.length = n ∧ aa a4 a5 () = some r ∧ H.le H' ∧ M = M' ∧ [(0, .int .i64 (p0_n)), (18, v0), (19, .int .i64 ((p1_l.length : Int))), (20, .int .i64 ((a4 : Int)))] = L') _ ⟨0, _, G, G, hm, (EX _), G, G⟩ ?_;rintro _ ao _ _ ⟨a4, a5, ab, rfl, hm, a2, rfl, rfl⟩
 refine gs ?_;refine gs ?_;refine bS G (fun a7 => ?_) (fun a7 => ?_);obtain ⟨a3, ac, rfl, a8, ak⟩ := gF ab a7;have hm := (ai _ _ _ _).symm.trans hm;generalize al : aa (a4 + 1) ac = ap at hm;unfold nt at hm;refine gs ?_;refine aG ?_;refine gs ?_;obtain ⟨_, ⟨rfl⟩, am⟩ := (h0).elem a8;refine aT G G Ii Jq G (h0.mono a2) G (Fk _) a8 ?_;refine aR G G isAgg109 Jq G (am.mono a2).at G ?_;refine bR (cs := [.int .i64 (0), .int .i64 (0)]) G G Js G (fun aq => ?_);refine aM (cs := [.int .i64 (a3.a0), .int .i64 (a3.a1)]) (out := [.int .i64 (a3.a0), .int .i64 (a3.a1)]) G Jq G G G G G (EU G (EU G E8)) (aQ G) (gs ?_);refine k5 G G G9 Ff G G (by decide) (by decide) ?_
 refine lo Fy G (.head _) G (go ?_);cases ad : (decide (a3.a0 < 0));have hm := eF ad hm;refine k5 G G G9 Ff G G (by decide) (by decide) ?_
 refine lo Fy G (.head _) G (go ?_);cases ae : (decide (p0_n ≤ a3.a0));have hm := eF ae hm;refine k5 G G G9 Ff G G (by decide) (by decide) ?_
 refine lo Fy G (.head _) G (go ?_);cases af : (decide (a3.a1 < 0));have hm := eF af hm;refine k5 G G G9 Ff G G (by decide) (by decide) ?_
 refine lo Fy G (.head _) G (go ?_);refine cd hm G (fun an hm => ?_) (fun an hm => ?_);refine gs ?_;refine go ?_;obtain rfl := EV hm;refine aX (.cons _ (.refl _)) ?_;refine aS a2 ?_;exact cD G G ⟨G, G, G⟩;refine eS (aH (aV ?_));refine gj ?_;refine aX (.cons _ (.refl _)) ?_;exact kj (bT (E5 _) ⟨a4 + 1, ac, ak, G, ((FB al _).trans hm), a2, G, G⟩) ⟨G, G, G, (Fl (fun z => some (Value.int .i64 z)) (cJ a8 ((h0.mono a2)).c_)), EY⟩;have hm := eG af hm;refine go ?_;refine cT G (gs ?_);refine go ?_;obtain rfl := EV hm;refine aX (.cons _ (.refl _)) ?_;refine aS a2 ?_;exact cD G G ⟨G, G, G⟩;have hm := eG ae hm;refine go ?_;refine cT G (gs ?_);refine go ?_;obtain rfl := EV hm;refine aX (.cons _ (.refl _)) ?_;refine aS a2 ?_;exact cD G G ⟨G, G, G⟩;have hm := eG ad hm;refine go ?_;refine cT G (gs ?_);refine go ?_;obtain rfl := EV hm
 refine aX (.cons _ (.refl _)) ?_;refine aS a2 ?_;exact cD G G ⟨G, G, G⟩;obtain rfl := gE ab a7;have hm := (aj _ _).symm.trans hm;refine gs ?_;refine go ?_;obtain rfl := EV hm;refine aS a2 ?_;exact cD G G ⟨G, G, G⟩;refine go ?_;cases a9 : (decide (p0_n < 0));refine go ?_;cases ag : (decide (24 < p0_n));refine go ?_;refine bB G G Ii G h0 (gj ?_);exact kj (a6 _ _ _ ⟨G, G, G⟩) ⟨G, G, (by exact sb (by first | rfl | simp only [a9, ag, mI])), EY⟩
 refine gj ?_;exact kj (a6 _ _ _ ⟨G, G, G⟩) ⟨G, G, (by exact sb (by first | rfl | simp only [a9, ag, mI])), EY⟩
 refine gj ?_;exact kj (a6 _ _ _ ⟨G, G, G⟩) ⟨G, G, (by exact sb (by first | rfl | simp only [a9, mI])), EY⟩
theorem rf {B : Nat} {w0 w : World} [cP B w0] {H : Hp} {M : List bP} {p0_x p1_y : Int} {r : Int × Int} (hm : iK p0_x p1_y = r) (ht : St B w0 H (M) w) :
    Calls prog 101 [.int .u64 (p0_x), .int .u64 (p1_y)].toArray w (gA B w0 fun H' M' v => H = H' ∧ M = M' ∧ .tuple #[.int .u64 (r.1), .int .u64 (r.2)] = v) := by
 unfold iK at hm;refine enter func101 G G G ht (gs ?_);refine gs ?_;refine gs ?_;refine n7 G G G G (by decide) (gs ?_)
 refine gs ?_;refine n7 G G G G (by decide) (gs ?_)
 refine gs ?_;refine n7 G G G G (by decide) (gs ?_)
 refine gs ?_;refine n7 G G G G (by decide) (gs ?_)
 refine gs ?_;refine n7 G G G G (by decide) (gs ?_)
 refine go ?_;obtain rfl := hm;refine aS (EX _) ?_;exact ks G G G ⟨G, G, G⟩
theorem pd {B : Nat} {w0 w : World} [cP B w0] {H : Hp} {M : List bP} {p0_x p1_y : Int} {r : Int × Int} (hm : mi p0_x p1_y = r) (ht : St B w0 H (M) w) :
    Calls prog 87 [.int .u64 (p0_x), .int .u64 (p1_y)].toArray w (gA B w0 fun H' M' v => H = H' ∧ M = M' ∧ .tuple #[.int .u64 (r.1), .int .u64 (r.2)] = v) := by
 unfold mi at hm;refine enter func87 G G G ht (gs ?_);refine gs ?_;refine cF G (gs ?_);refine aD call101 G G G (fun w ht => (rf (hm := (G : iK p0_x p1_y = _))  ht :)) ?_;rintro _ _ _ ⟨rfl, rfl, rfl⟩;refine gs ?_;refine go ?_;obtain rfl := hm;refine aS (EX _) ?_;exact ks G G G ⟨G, G, G⟩
theorem sN (m : Nat) (hm : m < 9223372036854775808) : mi (u64.wrap (1 : Int)) (u64.wrap (m : Int)) = (0, (m : Int)) := by
 have hw : u64.wrap (m : Int) = m := by rw [IntKind.wrap_u64]; omega
 have h1 : u64.wrap (1 : Int) = 1 := rfl;have hand : u64.wrap ((BitVec.ofInt (u64).bits (m : Int) &&& BitVec.ofInt (u64).bits 4294967295).toNat) = ((m % 4294967296 : Nat) : Int) := by
  have h := bits_and_u64_nat m 4294967295 (by omega) (by omega)
  have e : m &&& 4294967295 = m % 4294967296 := IN m 32;rw [e] at h;exact h
 have hand2 : u64.wrap ((BitVec.ofInt (u64).bits ((m / 4294967296 % 4294967296 : Nat) : Int) &&& BitVec.ofInt (u64).bits 4294967295).toNat) = ((m / 4294967296 % 4294967296 : Nat) : Int) := by
  have h := bits_and_u64_nat (m / 4294967296 % 4294967296) 4294967295 (by omega) (by omega)
  have e : (m / 4294967296 % 4294967296) &&& 4294967295 = (m / 4294967296 % 4294967296) % 4294967296 := IN _ 32;rw [e, Nat.mod_mod] at h;exact h
 have hs0 : iN .u64 (1 : Int) 32 = 0 := rfl;have hs00 : iN .u64 (0 : Int) 32 = 0 := rfl;have hand1 : u64.wrap ((BitVec.ofInt (u64).bits (1 : Int) &&& BitVec.ofInt (u64).bits 4294967295).toNat) = 1 := rfl;have hand0 : u64.wrap ((BitVec.ofInt (u64).bits (0 : Int) &&& BitVec.ofInt (u64).bits 4294967295).toNat) = 0 := rfl;have hsm : ∀ k : Nat, iN .u64 (k : Int) 32 = ((k / 4294967296 : Nat) : Int) := fun k => xY k;have e0 : ((m % 4294967296 : Nat) : Int) = ((m % 4294967296 : Nat) : Int) := rfl;have w1 : u64.wrap ((m % 4294967296 : Nat) : Int) = ((m % 4294967296 : Nat) : Int) := by rw [IntKind.wrap_u64]; omega
 have w2 : u64.wrap ((m / 4294967296 : Nat) : Int) = ((m / 4294967296 : Nat) : Int) := by rw [IntKind.wrap_u64]; omega
 have d1 : m % 4294967296 / 4294967296 = 0 := by omega
 have d2 : m / 4294967296 / 4294967296 = 0 := by omega
 have z0 : u64.wrap (0 : Int) = 0 := rfl;unfold mi iK;rw [hw, h1]
 simp only [hs0, hs00, hand1, hand, hsm, Int.zero_mul, Int.one_mul, z0, Int.zero_add, w1, d1, Int.ofNat_zero, Int.natCast_zero, Int.add_zero, hand0, w2, d2, hw]
theorem xS {B : Nat} {w0 w : World} [cP B w0] {H : Hp} {M : List bP} {s : List Int} {v0 : Value} {n : Int} (h0 : aL H v0 s) (hz : s.length = 1 ∧ 0 ≤ n ∧ n * 8 ≤ 140737488355328) (ht : St B w0 H M w) :
  Calls prog 78 [v0, .int .i64 n].toArray w (gA B w0 fun H' M' v => H = H' ∧ ∃ (v' : Value) (xs' : List Value), .row v' 3 (aF.sz Int) (wS s n).length xs' :: M = M' ∧ v' = v ∧ uq v' xs' (wS s n)) := by
 obtain ⟨hs1, hn0, hb⟩ := hz;obtain ⟨a, rfl⟩ := IV.1 hs1;obtain ⟨m, rfl⟩ : ∃ m : Nat, n = m := ⟨n.toNat, by omega⟩
 have hrep := qJ a m;rw [hrep];have hlr : (List.replicate m a).length = m := Gx;have hmb : m < 9223372036854775808 := by omega
 obtain ⟨o, c, hv0, _⟩ := h0.len
 simp only [Fw, IL, FO] at hv0
 subst hv0;refine enter func78 G G G ht ?_;refine cU ?_;refine bM ?_;refine aU G G G ?_;refine bF (aV ?_);refine cU ?_;refine cU ?_;refine bM ?_;refine bX G G G ?_;refine n6 G G G G G ?_;refine bF (aV ?_);refine bS (b := decide ((m : Int) < 0)) G (fun hb => absurd (Fa hb) (by omega)) (fun _ => ?_)
 refine eS (aV ?_);refine cU ?_;refine bM ?_;refine bX G G G ?_;refine uR G G E3 G ?_;refine bH G G GW IE G ?_;refine bX G G G ?_;refine bH G G GW IE G ?_;refine aD call87 G G G (fun w ht => by have h := pd (hm := sN m hmb) ht; exact h) ?_
 rintro _ _ _ ⟨rfl, rfl, rfl⟩;refine bX G G G ?_;refine jO G G G G ?_;refine jO G G G G ?_;refine aU G G G ?_;refine aU G G G ?_;refine bF (aV ?_);refine cU ?_;refine cU ?_;refine bM ?_;refine bX G G G ?_;refine n6 G G G G G ?_;refine bX G G G ?_;refine bX G G G ?_;refine n6 G G G G G ?_;refine qu (b := false) G G G G ?_;refine bF (aV ?_);refine bS (b := decide (9223372036854775807 < (m : Int))) G (fun hb => absurd (Fa hb) (by omega)) (fun _ => ?_)
 refine eS (aV ?_);have hw : i64.wrap (m : Int) = m := qA (by omega) (by omega)
 refine cU ?_;refine bM ?_;refine bX G G G ?_;refine bH G G IE GW G ?_;rw [hw];refine eE (α := Int) (ze := 0) (bytes := 8) G G Hh ⟨_, G, G, G, G⟩ G G G G G G (by omega) hb ?_
 intro v1 xs1 hx1;rw [E1] at hx1 ⊢;refine aU G G G ?_;refine bF (aV ?_);generalize hl1 : List.replicate m (0 : Int) = l1 at hx1 ⊢;have hll : l1.length = m := by rw [← hl1]; exact Gx
 refine cU ?_;refine bM ?_;refine bX G G G ?_;refine bX G G G ?_;refine yb (α := Int) (l := l1) (ys := [a]) G G Hh Ff G G G hx1 h0 (by simp) ?_
 rw [F2, hll];generalize hl2 : [a].take (min 1 m) ++ l1.drop (min 1 m) = l2;have hl2l : l2.length = m := by rw [← hl2, FP, FM, GU, F2]; omega
 have hl2t : l2.take (min 1 m) = List.replicate (min 1 m) a := by
  rw [← hl2];cases m with
  | zero => rfl
  | succ q => rw [show min 1 (q + 1) = 1 by omega]; rfl
 intro xs2 hx2;refine aU G G G ?_;refine bF (aV ?_);obtain ⟨o1, m1, c1, hv1⟩ := hx2.sl;refine cU ?_;refine aG ?_;refine tg (L' := [(7, v1), (8, .int .i64 ((min 1 m : Nat) : Int))]) ⟨G, G, EY⟩ (I6 _) ?_;refine th (fun n H' M' L' => ∃ (q : Nat) (l : List Int) (xs : List Value), m - q = n ∧ (1 ≤ q ∨ m = 0) ∧ q ≤ m ∧ l.length = m ∧ l.take q = List.replicate q a ∧ Rw H' v1 xs l ∧ H.le H' ∧ .row v1 3 (aF.sz Int) m xs :: M = M' ∧ [(7, v1), (8, .int .i64 (q : Int))] = L') (m - min 1 m) ⟨min 1 m, l2, xs2, G, by omega, by omega, hl2l, hl2t, hx2, EX _, G, G⟩ ?_
 rintro n3 H3 _ _ ⟨q, l3, xs3, hn3, hq1, hqm, hl3, ht3, hx3, hle3, rfl, rfl⟩;refine cU ?_;refine cU ?_;refine bM ?_;refine bX G G G ?_;refine bX G G G ?_;refine fP (M' := .row v1 3 (aF.sz Int) l3.length xs3 :: M) (by rw [hl3]) ?_
 refine k9 (E4 ..) G G E3 G ?_;refine n6 G G G G G ?_;refine bF (aV ?_);refine bS (b := decide ((q : Int) < (l3.length : Int))) G (fun hb => ?_) (fun hb => ?_)
 ·have hlt : q < l3.length := by have := Fa hb; omega
  refine eS (aV ?_);refine sn (by omega) (fun gb off cap hv hcap => ?_)
  subst hv;refine aG ?_;refine rr (M' := [[.row (.slice (some ⟨gb, off, none⟩) l3.length cap) 3 (aF.sz Int) l3.length xs3]].flatten ++ M) G ?_;refine l7 8 (sV [(fun H rs v => [] = rs ∧ .int .i64 (q : Int) = v), (fun H rs v => [] = rs ∧ .slice (some ⟨gb, off, none⟩) l3.length cap = v), (fun H rs v => [] = rs ∧ .int .i64 (q : Int) = v), (fun H rs v => [] = rs ∧ .slice (some ⟨gb, off + q * aF.sz Int, none⟩) (l3.length - q) (cap - q) = v), (fun H rs v => [] = rs ∧ .slice (some ⟨gb, off, none⟩) l3.length cap = v), (fun H rs v => [] = rs ∧ .int .i64 (q : Int) = v), (fun H rs v => [] = rs ∧ .slice (some ⟨gb, off, none⟩) q cap = v), (fun H rs v => ∃ xs4 : List Value, [.row (.slice (some ⟨gb, off, none⟩) l3.length cap) 3 (aF.sz Int) l3.length xs4] = rs ∧ .int .i64 ((min q (l3.length - q) : Nat) : Int) = v ∧ Rw H (.slice (some ⟨gb, off, none⟩) l3.length cap) xs4 (l3.take q ++ l3.take (min q (l3.length - q)) ++ l3.drop (q + min q (l3.length - q))))]) [[], [], [], [], [], [], [], [8]] [[], [], [], [], [], [], [], []] [[.row (.slice (some ⟨gb, off, none⟩) l3.length cap) 3 (aF.sz Int) l3.length xs3]] [0, 1, 2, 3, 4, 5, 6, 7] x_.mixed (by kernel_rfl) G G G (by kernel_rfl) (oy ⟨dT _ _, dT _ _, dT _ _, dT _ _, dT _ _, dT _ _, dT _ _, (by rintro H1 H2 rs v hle ⟨xs4, rfl, rfl, h⟩; exact ⟨xs4, G, G, h.mono hle⟩), EY⟩) ⟨?_, ?_, ?_, ?_, ?_, ?_, ?_, ?_, EY⟩ ?_
  ·intro HX hX X Rest hR
   intro hU hUp;refine bX G G G ?_;exact bF (dD [] (EX _) ⟨G, G⟩)
  ·intro HX hX X Rest hR
   intro hU hUp;refine bX G G G ?_;exact bF (dD [] (EX _) ⟨G, G⟩)
  ·intro HX hX X Rest hR
   intro hU hUp;refine bX G G G ?_;exact bF (dD [] (EX _) ⟨G, G⟩)
  ·intro HX hX X Rest hR
   rintro _ _ ⟨rfl, rfl⟩;rintro _ _ ⟨rfl, rfl⟩;intro hU hUp;refine pD (m := cap) (h := l3.length) (l := q) G G E3 Ff G (.inl G) (.inl ⟨G, G⟩) (.inl ⟨G, G⟩) (.inr ⟨_, _, _, G, G, by omega, by omega, by omega⟩) (by rw [E6 (by omega), G1, Ge]) ?_
   exact bF (dD [] (EX _) ⟨G, G⟩)
  ·intro HX hX X Rest hR
   intro hU hUp;refine bX G G G ?_;exact bF (dD [] (EX _) ⟨G, G⟩)
  ·intro HX hX X Rest hR
   intro hU hUp;refine bX G G G ?_;exact bF (dD [] (EX _) ⟨G, G⟩)
  ·intro HX hX X Rest hR
   rintro _ _ ⟨rfl, rfl⟩;rintro _ _ ⟨rfl, rfl⟩;intro hU hUp;refine pD (m := cap) (h := q) (l := 0) G G E3 Ff G (.inl G) (.inl ⟨G, G⟩) (.inr ⟨_, _, _, G, G, by omega, by omega, by omega⟩) (.inl ⟨G, G⟩) (by rw [E6 (by omega), Jm, Jm, G1, Ge, GZ, GY]) ?_
   exact bF (dD [] (EX _) ⟨G, G⟩)
  ·intro HX hX X Rest hR
   rintro _ _ ⟨rfl, rfl⟩;rintro _ _ ⟨rfl, rfl⟩;intro hU hUp;refine fP (M' := .row (.slice (some ⟨gb, off, none⟩) l3.length cap) 3 (aF.sz Int) l3.length xs3 :: Rest) G ?_;refine tm (α := Int) (l := l3) (q := q) G G Hh Ff G (hx3.mono hX) (by omega) G G ?_
   intro xs4 hx4;exact bF (dD [.row (.slice (some ⟨gb, off, none⟩) l3.length cap) 3 (aF.sz Int) l3.length xs4] (EX _) ⟨xs4, G, G, hx4⟩)
  intro H5 hle5;rintro _ _ ⟨rfl, rfl⟩;rintro _ _ ⟨rfl, rfl⟩;rintro _ _ ⟨rfl, rfl⟩;rintro _ _ ⟨rfl, rfl⟩;rintro _ _ ⟨rfl, rfl⟩;rintro _ _ ⟨rfl, rfl⟩;rintro _ _ ⟨rfl, rfl⟩;rintro _ _ ⟨xs4, rfl, rfl, hx4⟩;refine fP (M' := .row (.slice (some ⟨gb, off, none⟩) l3.length cap) 3 (aF.sz Int) l3.length xs4 :: M) G ?_;have hrs := wT ht3 (by omega)
  refine n6 G G G G G ?_;refine aU G G G ?_;refine bF ?_;refine aH ?_;have hwr : i64.wrap ((q : Int) + ((min q (l3.length - q) : Nat) : Int)) = ((q + min q (l3.length - q) : Nat) : Int) := by
   rw [qA (by omega) (by omega)]; omega
  exact uL (bT (by omega : m - (q + min q (l3.length - q)) < n3) ⟨q + min q (l3.length - q), _, xs4, G, by omega, by omega, by simp only [FP, FM, GU]; omega, hrs, hx4, EW hle3 hle5, by rw [hl3], G⟩) (I6 _) ⟨G, Fl (fun z => some (Value.int .i64 z)) hwr, EY⟩
 ·have hge : q = m := by have := Fm hb; omega
  refine pS ?_;refine fF ?_;refine fF ?_;refine kN ?_;refine aV ?_;have hfin : l3 = List.replicate m a := by
   have h := ht3;rw [hge, FG (by omega)] at h
   exact h
  refine cU ?_;refine bM ?_;refine bX G G G ?_;refine aU G G G ?_;refine bF (aV ?_);refine oW ?_;refine aS hle3 ?_;rw [← hfin];exact cD G G ⟨G, v1, xs3, G, G, hx3.ql⟩
theorem sR {B : Nat} {w0 w : World} [cP B w0] {H : Hp} {M : List bP} {p0_n : Int} {p1_l : (List bK)} {without : Int} {v0 : Value} {r : (List Int)} (hm : kt p0_n p1_l without = some r) (h0 : aL H v0 p1_l) (ht : St B w0 H (M) w) :
    Calls prog 64 [.int .i64 (p0_n), v0, .int .i64 (without)].toArray w (gA B w0 fun H' M' v => H = H' ∧ ∃ qv0 : Value, ∃ qxs0 : List Value, .row qv0 3 (aF.sz Int) r.length qxs0 :: M = M' ∧ qv0 = v ∧ uq qv0 qxs0 r) := by
 unfold kt at hm;refine enter func64 G G G ht (gs ?_);refine gs ?_;refine cS (α := Int) (css := [[.int .i64 ((-1))]]) (zs := [.int .i64 (0)]) (out := [.int .i64 ((-1))]) (ys := ([((-1))] : List Int)) G G G ⟨G, EY⟩ E3 Ff G HB (by kernel_rfl) G G G G ⟨[.int .i64 ((-1))], [], G, G, G⟩ G ?_
 intro ds dt bx;refine go ?_;obtain ⟨bz, hm⟩ := aY hm;refine aD call78 G G G (fun w ht => by obtain ⟨H0_, hl0_, ht0_, hr0_, bk0_⟩ := ht.eR bx G; have h := xS hr0_ bz ht0_; exact cX bk0_ h) ?_
 rintro _ _ _ ⟨rfl, _, rfl, a6, du, rfl, rfl, az⟩;have az := az H;refine gs ?_;refine gs ?_;refine gs ?_;refine aG ?_;obtain ⟨c0, hm⟩ := aY hm;refine nP (.cons _ (.refl _)) ?_;obtain ⟨bd, c1, c2, hm⟩ := jJ hm;refine l9 (fun n H' M' L' => ∃ (a5 : Nat) (al : Nat), ∃ ag : List Int, ∃ a3 : Int, ∃ ah : List Value, a5 + al = (p0_n : Int).toNat ∧ al = n ∧ bd al a5 (ag, a3) = some r ∧ Rw H' a6 ah ag ∧ H.le H' ∧ .row a6 3 (aF.sz Int) ag.length ah :: M = M' ∧ [(1, v0), (2, .int .i64 (without)), (7, a6), (8, .int .i64 (a3)), (18, .int .i64 (p0_n)), (19, .int .i64 ((a5 : Int)))] = L') _ ⟨0, _, _, _, _, FO _, G, hm, az, (EX _), G, G⟩ ?_;rintro _ be _ _ ⟨a5, al, ag, a3, ah, bf, rfl, hm, aa, ab, rfl, rfl⟩;refine gs ?_;refine gs ?_;refine bS G (fun b0 => ?_) (fun b0 => ?_);obtain ⟨bg, rfl, c3, c4⟩ := lh bf b0;have hm := (c1 _ _ _).symm.trans hm;generalize c5 : bd bg (a5 + 1) = c6 at hm
 try dsimp only at hm
 unfold lj at hm;refine go ?_;refine bG (fun H' M' L' => ∃ am : List Int, ∃ b1 : Int, ∃ b2 : List Value, fH c6 am b1 = some r ∧ Rw H' a6 b2 am ∧ be.le H' ∧ .row a6 3 (aF.sz Int) am.length b2 :: M = M' ∧ [(1, v0), (2, .int .i64 (without)), (7, a6), (8, .int .i64 (b1)), (18, .int .i64 (p0_n)), (19, .int .i64 ((a5 : Int)))] = L') ?_ (fun bh => ?_);rintro dv _ _ ⟨am, b1, b2, hm, c7, c8, rfl, rfl⟩;unfold fH at hm;refine gj ?_;exact kj (bT (E5 _) ⟨a5 + 1, bg, _, _, _, c3, G, ((FB c5 _).trans hm), c7, (EW ab c8), G, G⟩) ⟨G, G, G, G, G, (Fl (fun z => some (Value.int .i64 z)) (fM c4 (fN c0))), EY⟩;refine aG ?_;refine gs ?_;refine gs ?_;refine gs ?_;obtain ⟨dw, c9, bi, hm⟩ := aC hm;refine bC (.head _) G G E3 Ff G G c9 (ET.1 bi).1 ?_;obtain ⟨_, rfl, ca⟩ := (aa).elem bi;refine aI G G Fy G (cG (.head _) ca G) (go ?_);refine cd hm G (fun cb hm => ?_) (fun cb hm => ?_)
 refine gj ?_;exact kj (bh _ _ _ ⟨_, _, _, hm, aa, (EX _), G, G⟩);refine gs ?_;obtain ⟨cc, ce, an, hm⟩ := aC hm;refine bC (.head _) G G E3 Ff G G ce (ET.1 an).1 ?_;obtain ⟨_, rfl, cf⟩ := (aa).elem an;obtain ⟨bj, dx, cg⟩ := Rw.put (cs := [.int .i64 (a3)]) (o := 0) (c := [.int .i64 (cc)]) (out := [.int .i64 (a3)]) (e2 := a3) aa an rfl cf rfl rfl rfl;refine cO (i := ((a5 : Int) : Int).toNat * aF.sz Int + 0) (cs := [.int .i64 (a3)]) G Ff G (eK _ _) G G G (Rw.room aa an G) G (EU G E8) (n' := (ag.set (((a5 : Int) : Int).toNat) a3).length) Fj ?_;generalize over ah (((a5 : Int) : Int).toNat * aF.sz Int + 0) [.int .i64 (a3)] = dy at bj cg ⊢;refine gs ?_;refine gs ?_;refine cS (α := Int) (css := [[.int .i64 ((a5 : Int))]]) (zs := [.int .i64 (0)]) (out := [.int .i64 ((a5 : Int))]) (ys := ([((a5 : Int))] : List Int)) G G G ⟨G, EY⟩ E3 Ff G HB (by kernel_rfl) G G G G ⟨[.int .i64 ((a5 : Int))], [], G, G, G⟩ G ?_
 intro e0 e1 ch;refine go ?_;refine aG ?_;obtain ⟨bk, ci, cj, hm⟩ := jT hm;refine Dc (.swap _ _ _) (fun n H' M' L' => ∃ ao ai : List Int, ∃ b3 : List Value, ∃ ap : Value, ∃ b4 : List Value, bk n (ao, ai) = some r ∧ Rw H' a6 b3 ao ∧ Rw H' ap b4 ai ∧ be.le H' ∧ .row a6 3 (aF.sz Int) ao.length b3 :: .row ap 3 (aF.sz Int) ai.length b4 :: M = M' ∧ [(1, v0), (2, .int .i64 (without)), (7, a6), (8, .int .i64 (a3)), (10, ap), (18, .int .i64 (p0_n)), (19, .int .i64 ((a5 : Int)))] = L') fR ⟨_, _, _, _, _, hm, bj, ch, (EX _), G, G⟩ ?_;rintro b5 ck _ _ ⟨ao, ai, b3, ap, b4, hm, bl, bm, ac, rfl, rfl⟩
 rcases b5 with _ | b5
 exact nomatch (cj _).symm.trans hm;have hm := (ci _ _).symm.trans hm;generalize cl : bk b5 = e3 at hm
 try dsimp only at hm
 unfold ln at hm;refine gs ?_;refine gs ?_;refine k9 (.tail _ (.head _)) G G E3 G (go ?_);refine cd hm G (fun cm hm => ?_) (fun cm hm => ?_);refine go ?_;refine aG ?_;refine gs ?_;obtain ⟨a4, cn, bn, hm⟩ := aC hm;refine bC (.tail _ (.head _)) G G E3 Ff G G cn (ET.1 bn).1 ?_;obtain ⟨_, rfl, co⟩ := (bm).elem bn;refine aI G G Fy G (cG (.tail _ (.head _)) co G) (gs ?_);obtain ⟨e4, hm⟩ := aY hm;refine a_ (.swap _ _ _) ?_;refine vU (α := Int) (l := (1 : Int).toNat) (h := ai.length) G G E3 Ff G G bm (by omega) (by omega) (fun m hmm => (.inl ⟨G, G⟩)) (.inr ⟨_, _, _, G, G, by omega, by omega, G⟩) ?_
 intro e5 e6 cp;refine gs ?_;refine bB G G Ii G ((h0.mono ab).mono ac) (go ?_);refine aG ?_;obtain ⟨bo, cq, cr, hm⟩ := cV hm;refine Dc (.swap _ _ _) (fun n H' M' L' => ∃ (a8 : Nat) (aq : List bK), ∃ ad ae : List Int, ∃ aj : List Value, ∃ ar : Value, ∃ b6 : List Value, (p1_l).drop a8 = aq ∧ aq.length = n ∧ bo a8 aq (ad, ae) = some r ∧ Rw H' a6 aj ad ∧ Rw H' ar b6 ae ∧ ck.le H' ∧ .row a6 3 (aF.sz Int) ad.length aj :: .row ar 3 (aF.sz Int) ae.length b6 :: M = M' ∧ [(1, v0), (2, .int .i64 (without)), (7, a6), (8, .int .i64 (a3)), (10, ar), (11, .int .i64 (a4)), (18, .int .i64 (p0_n)), (19, .int .i64 ((a5 : Int))), (41, v0), (42, .int .i64 ((p1_l.length : Int))), (43, .int .i64 ((a8 : Int)))] = L') _ ⟨0, _, _, _, _, _, _, G, G, hm, bl, cp, (EX _), G, G⟩ ?_;rintro _ ct _ _ ⟨a8, aq, ad, ae, aj, ar, b6, bp, rfl, hm, a7, a9, ak, rfl, rfl⟩;refine gs ?_;refine gs ?_;refine bS G (fun b7 => ?_) (fun b7 => ?_)
 obtain ⟨a2, bq, rfl, b8, cu⟩ := gF bp b7;have hm := (cq _ _ _ _).symm.trans hm;generalize cv : bo (a8 + 1) bq = cw at hm
 try dsimp only at hm
 unfold lq at hm;refine go ?_;refine bG (fun H' M' L' => ∃ au av : List Int, ∃ b9 : List Value, ∃ aw : Value, ∃ ba : List Value, cN cw au av = some r ∧ Rw H' a6 b9 au ∧ Rw H' aw ba av ∧ ct.le H' ∧ .row a6 3 (aF.sz Int) au.length b9 :: .row aw 3 (aF.sz Int) av.length ba :: M = M' ∧ [(1, v0), (2, .int .i64 (without)), (7, a6), (8, .int .i64 (a3)), (10, aw), (11, .int .i64 (a4)), (18, .int .i64 (p0_n)), (19, .int .i64 ((a5 : Int))), (41, v0), (42, .int .i64 ((p1_l.length : Int))), (43, .int .i64 ((a8 : Int)))] = L') ?_ (fun af => ?_);rintro e7 _ _ ⟨au, av, b9, aw, ba, hm, cx, cy, cz, rfl, rfl⟩;unfold cN at hm;refine gj ?_;exact kj (bT (E5 _) ⟨a8 + 1, bq, _, _, _, _, _, cu, G, ((FB cv _).trans hm), cx, cy, (EW ak cz), G, G⟩) ⟨G, G, G, G, G, G, G, G, G, G, (Fl (fun z => some (Value.int .i64 z)) (cJ b8 ((((h0.mono ab).mono ac).mono ak)).c_)), EY⟩;refine aG ?_
 refine gs ?_;obtain ⟨_, ⟨rfl⟩, d0⟩ := (h0).elem b8;refine aT G G Ii Jq G (((h0.mono ab).mono ac).mono ak) G (Fk _) b8 ?_;refine aR G G isAgg109 Jq G (((d0.mono ab).mono ac).mono ak).at G ?_;refine bR (cs := [.int .i64 (0), .int .i64 (0)]) G G Js G (fun e8 => ?_);refine go ?_;refine aM (cs := [.int .i64 (a2.a0), .int .i64 (a2.a1)]) (out := [.int .i64 (a2.a0), .int .i64 (a2.a1)]) G Jq G G G G G (EU G (EU G E8)) (aQ G) (gs ?_);refine gs ?_;cases br : (decide ((a8 : Int) = without));have hm := eF br hm;refine k5 G G G9 Ff G G (by decide) (by decide) ?_
 refine lo Fy G (.head _) G (go ?_);cases bs : (decide (a2.a0 = a4));have hm := eF bs hm;refine k5 G G G9 Ff G G (by decide) (by decide) ?_
 refine lo Fy G (.head _) G (go ?_);refine cd hm G (fun d1 hm => ?_) (fun d1 hm => ?_);refine gj ?_;refine aX (.cons _ (.refl _)) ?_;exact kj (af _ _ _ ⟨_, _, _, _, _, hm, a7, a9, (EX _), G, G⟩);refine gs ?_;refine k5 G G G9 Ff G G (by decide) (by decide) ?_
 refine lo Fy G (.head _) G ?_;refine k5 G G G9 Ff G G (by decide) (by decide) ?_
 refine lo Fy G (.head _) G (gs ?_);obtain ⟨e9, d2, bt, hm⟩ := aC hm;refine bC (.tail _ (.head _)) G G E3 Ff G G d2 (ET.1 bt).1 ?_;obtain ⟨_, rfl, d3⟩ := (a7).elem bt;refine aI G G Fy G (cG (.tail _ (.head _)) d3 G) (go ?_);refine cd hm G (fun d4 hm => ?_) (fun d4 hm => ?_);refine gs ?_;obtain ⟨d5, d6, ax, hm⟩ := aC hm;refine bC (.tail _ (.head _)) G G E3 Ff G G d6 (ET.1 ax).1 ?_;obtain ⟨_, rfl, d7⟩ := (a7).elem ax;refine a_ (.swap _ _ _) ?_;obtain ⟨bu, ea, d8⟩ := Rw.put (cs := [.int .i64 (a3)]) (o := 0) (c := [.int .i64 (d5)]) (out := [.int .i64 (a3)]) (e2 := a3) a7 ax rfl d7 rfl rfl rfl;refine cO (i := (i64.wrap ((i64.wrap (a2.a0 + a2.a1)) - a4) : Int).toNat * aF.sz Int + 0) (cs := [.int .i64 (a3)]) G Ff G (eK _ _) G G G (Rw.room a7 ax G) G (EU G E8) (n' := (ad.set ((i64.wrap ((i64.wrap (a2.a0 + a2.a1)) - a4) : Int).toNat) a3).length) Fj ?_
 generalize over aj ((i64.wrap ((i64.wrap (a2.a0 + a2.a1)) - a4) : Int).toNat * aF.sz Int + 0) [.int .i64 (a3)] = eb at bu d8 ⊢;refine go ?_;refine dM (α := Int) (css := [[.int .i64 (i64.wrap ((i64.wrap (a2.a0 + a2.a1)) - a4))]]) (zs := [.int .i64 (0)]) (out := [.int .i64 (i64.wrap ((i64.wrap (a2.a0 + a2.a1)) - a4))]) (ys := ([(i64.wrap ((i64.wrap (a2.a0 + a2.a1)) - a4))] : List Int)) G G G ⟨G, EY⟩ E3 Ff G HB (by kernel_rfl) G G G G ⟨[.int .i64 (i64.wrap ((i64.wrap (a2.a0 + a2.a1)) - a4))], [], G, G, G⟩ G ?_
 intro ec d9 ed da bb db;have ee : Value.mY d9 = ([(i64.wrap ((i64.wrap (a2.a0 + a2.a1)) - a4))] : List Int).length := by rw [da]; rfl
 obtain ⟨dc, hm⟩ := aY hm;refine a_ (.trans (.cons _ (.swap _ _ _)) (.swap _ _ _)) ?_;refine eD (α := Int) (l := ae) (ys := ([(i64.wrap ((i64.wrap (a2.a0 + a2.a1)) - a4))] : List Int)) G G Hh ⟨_, G, G, G, G⟩ G G G G G (a9.mono bb) db dc ?_;intro ef eg dd;refine gj ?_;refine aX (.cons_cons _ (.cons_cons _ (.cons _ (.refl _)))) ?_;exact kp (af _ _ _ ⟨_, _, _, _, _, hm, (bu.mono bb), dd, bb, G, G⟩) (.swap _ _ _);refine gj ?_;refine aX (.cons _ (.refl _)) ?_;exact kj (af _ _ _ ⟨_, _, _, _, _, hm, a7, a9, (EX _), G, G⟩);have hm := eG bs hm;refine go ?_;refine cF G (gs ?_);refine k5 G G G9 Ff G G (by decide) (by decide) ?_
 refine lo Fy G (.head _) G ?_;refine k5 G G G9 Ff G G (by decide) (by decide) ?_
 refine lo Fy G (.head _) G (gs ?_);obtain ⟨eh, de, bv, hm⟩ := aC hm;refine bC (.tail _ (.head _)) G G E3 Ff G G de (ET.1 bv).1 ?_;obtain ⟨_, rfl, df⟩ := (a7).elem bv;refine aI G G Fy G (cG (.tail _ (.head _)) df G) (go ?_);refine cd hm G (fun dg hm => ?_) (fun dg hm => ?_);refine gs ?_;obtain ⟨dh, di, ay, hm⟩ := aC hm;refine bC (.tail _ (.head _)) G G E3 Ff G G di (ET.1 ay).1 ?_;obtain ⟨_, rfl, dj⟩ := (a7).elem ay;refine a_ (.swap _ _ _) ?_;obtain ⟨bw, ei, dk⟩ := Rw.put (cs := [.int .i64 (a3)]) (o := 0) (c := [.int .i64 (dh)]) (out := [.int .i64 (a3)]) (e2 := a3) a7 ay rfl dj rfl rfl rfl;refine cO (i := (i64.wrap ((i64.wrap (a2.a0 + a2.a1)) - a4) : Int).toNat * aF.sz Int + 0) (cs := [.int .i64 (a3)]) G Ff G (eK _ _) G G G (Rw.room a7 ay G) G (EU G E8) (n' := (ad.set ((i64.wrap ((i64.wrap (a2.a0 + a2.a1)) - a4) : Int).toNat) a3).length) Fj ?_
 generalize over aj ((i64.wrap ((i64.wrap (a2.a0 + a2.a1)) - a4) : Int).toNat * aF.sz Int + 0) [.int .i64 (a3)] = ej at bw dk ⊢;refine go ?_;refine dM (α := Int) (css := [[.int .i64 (i64.wrap ((i64.wrap (a2.a0 + a2.a1)) - a4))]]) (zs := [.int .i64 (0)]) (out := [.int .i64 (i64.wrap ((i64.wrap (a2.a0 + a2.a1)) - a4))]) (ys := ([(i64.wrap ((i64.wrap (a2.a0 + a2.a1)) - a4))] : List Int)) G G G ⟨G, EY⟩ E3 Ff G HB (by kernel_rfl) G G G G ⟨[.int .i64 (i64.wrap ((i64.wrap (a2.a0 + a2.a1)) - a4))], [], G, G, G⟩ G ?_
 intro ek dl el dm bc dn;have em : Value.mY dl = ([(i64.wrap ((i64.wrap (a2.a0 + a2.a1)) - a4))] : List Int).length := by rw [dm]; rfl
 obtain ⟨dp, hm⟩ := aY hm;refine a_ (.trans (.cons _ (.swap _ _ _)) (.swap _ _ _)) ?_;refine eD (α := Int) (l := ae) (ys := ([(i64.wrap ((i64.wrap (a2.a0 + a2.a1)) - a4))] : List Int)) G G Hh ⟨_, G, G, G, G⟩ G G G G G (a9.mono bc) dn dp ?_;intro en eo dq;refine gj ?_;refine aX (.cons_cons _ (.cons_cons _ (.cons _ (.refl _)))) ?_;exact kp (af _ _ _ ⟨_, _, _, _, _, hm, (bw.mono bc), dq, bc, G, G⟩) (.swap _ _ _);refine gj ?_;refine aX (.cons _ (.refl _)) ?_;exact kj (af _ _ _ ⟨_, _, _, _, _, hm, a7, a9, (EX _), G, G⟩);have hm := eG br hm;refine go ?_;refine cT G (gj ?_);refine aX (.cons _ (.refl _)) ?_;exact kj (af _ _ _ ⟨_, _, _, _, _, hm, a7, a9, (EX _), G, G⟩);obtain rfl := gE bp b7;have hm := (cr _ _).symm.trans hm
 try dsimp only at hm
 refine gj ?_;exact kj (bT (E5 _) ⟨_, _, _, _, _, ((FB cl _).trans hm), a7, a9, (EW ac ak), G, G⟩);refine pS (fF (fF (kN (aV ?_))));refine gj ?_;refine aX (.cons_cons _ (.cons _ (.refl _))) ?_;exact kj (bh _ _ _ ⟨_, _, _, hm, bl, ac, G, G⟩);obtain rfl := lg bf b0;have hm := (c2 _ _).symm.trans hm
 try dsimp only at hm
 refine gs ?_;refine go ?_;obtain rfl := EV hm;refine aS ab ?_;exact cD G G ⟨G, a6, ah, G, G, (aa).ql⟩
theorem nL {B : Nat} {w0 w : World} [cP B w0] {H : Hp} {M : List bP} {p0_n : Int} {p1_l : (List bK)} {v0 : Value} {r : (List Int) × Int} (hm : eT p0_n p1_l = some r) (h0 : aL H v0 p1_l) (ht : St B w0 H (M) w) :
    Calls prog 44 [.int .i64 (p0_n), v0].toArray w (gA B w0 fun H' M' v => H = H' ∧ ∃ qv0 : Value, ∃ qxs0 : List Value, .row qv0 3 (aF.sz Int) r.1.length qxs0 :: M = M' ∧ .tuple #[qv0, .int .i64 (r.2)] = v ∧ uq qv0 qxs0 r.1) := by
 unfold eT at hm;refine enter func44 G G G ht (gs ?_);refine gs ?_;refine gs ?_;obtain ⟨a6, a1, hm⟩ := bind_some hm;refine aD call63 G G G (fun w ht => (sQ (hm := a1) h0 ht :)) ?_;rintro _ _ _ ⟨rfl, rfl, rfl⟩;refine gs ?_;refine cd hm G (fun a2 hm => ?_) (fun a2 hm => ?_);refine cU (bM (bX G G G (aU G G G (aU G G G (bF (aV ?_))))));refine gj ?_;refine iO 3 (aF.sz Int) ?_;obtain rfl := EV hm;refine aS (EX _) ?_;exact ks G G G ⟨G, (.slice none 0 0), [], G, G, (Rw.nil (H := H)).ql⟩;refine gs ?_;obtain ⟨a7, a3, hm⟩ := bind_some hm;refine aD call64 G G G (fun w ht => (sR (hm := a3) h0 ht :)) ?_;rintro _ _ _ ⟨rfl, a4, a5, rfl, rfl, a0⟩;have a0 := a0 H;refine go ?_;obtain rfl := EV hm;refine aS (EX _) ?_;exact ks G G G ⟨G, a4, a5, G, G, (a0).ql⟩
theorem rZ {B : Nat} {w0 w : World} [cP B w0] {H : Hp} {M : List bP} {p0_n : aJ} {v0 v1 v2 v3 v4 v5 : Value} {r : (List Int)} (hm : jR p0_n = some r) (h0 : aL H v0 p0_n.bJ) (h1 : aL H v1 p0_n.cC) (h2 : aL H v2 p0_n.bE) (h3 : aL H v3 p0_n.eM) (h4 : aL H v4 p0_n.dA) (h5 : aL H v5 p0_n.cI) (ht : St B w0 H (M) w) :
    Calls prog 43 [.agg [v0, v1, v2, v3, v4, v5].toArray].toArray w (gA B w0 fun H' M' v => H = H' ∧ ∃ qv0 : Value, ∃ qxs0 : List Value, .row qv0 3 (aF.sz Int) r.length qxs0 :: M = M' ∧ qv0 = v ∧ uq qv0 qxs0 r) := by
 unfold jR at hm;refine enter func43 G G G ht (gs ?_);refine dW (cs := [v0, v1, v2, v3, v4, v5]) G G G G (fun a7 => ?_);refine gs ?_;refine la GO Gu G (.head _) G ?_;obtain ⟨a8, a3, hm⟩ := bind_some hm;refine aD call62 G G G (fun w ht => (r7 (hm := a3) h0 h1 h2 h3 h4 h5 ht :)) ?_;rintro _ _ _ ⟨rfl, a9, aa, ab, ac, rfl, rfl, a0, a2⟩;have a0 := a0 H;have a2 := a2 H;refine gs ?_;refine fi 0 Fp G Hw G ?_;refine lo HW G (.tail _ (.tail _ (.head _))) G ?_;refine bB G G Gm G h0 (go ?_);obtain ⟨ad, a4, hm⟩ := bind_some hm;refine aD call44 G G G (fun w ht => by obtain ⟨H0_, hl0_, ht0_, hr0_, bk0_⟩ := ht.eR a0 G; have h := nL (hm := a4) hr0_ ht0_; exact cX bk0_ (h)) ?_
 rintro _ _ _ ⟨rfl, ⟨_, rfl, a5, a6, rfl, rfl, a1⟩⟩;have a1 := a1 H;refine gs ?_;refine go ?_;obtain rfl := EV hm;refine aX (.cons _ (.cons_cons _ (.cons _ (.cons _ (.refl _))))) ?_;refine aS (EX _) ?_;exact cD G G ⟨G, a5, a6, G, G, (a1).ql⟩
theorem kH {B : Nat} {w0 w : World} [cP B w0] {H : Hp} {M : List bP} {p0_n : aJ} {v0 v1 v2 v3 v4 v5 : Value} {r : aN} (hm : cK p0_n = some r) (h0 : aL H v0 p0_n.bJ) (h1 : aL H v1 p0_n.cC) (h2 : aL H v2 p0_n.bE) (h3 : aL H v3 p0_n.eM) (h4 : aL H v4 p0_n.dA) (h5 : aL H v5 p0_n.cI) (ht : St B w0 H (M) w) :
    Calls prog 22 [.agg [v0, v1, v2, v3, v4, v5].toArray].toArray w (gA B w0 fun H' M' v => H = H' ∧ ∃ qv0 : Value, ∃ qxs0 : List Value, ∃ qv1 : Value, ∃ qxs1 : List Value, .row qv0 3 (aF.sz Int) r.iW.length qxs0 :: .row qv1 3 (aF.sz Int) r.aW.length qxs1 :: M = M' ∧ .agg [qv0, qv1].toArray = v ∧ uq qv0 qxs0 r.iW ∧ uq qv1 qxs1 r.aW) := by
 unfold cK at hm;refine enter func22 G G G ht (gs ?_);refine dW (cs := [v0, v1, v2, v3, v4, v5]) G G G G (fun a8 => ?_);refine bR (cs := [.slice none 0 0, .slice none 0 0]) G G JD G (fun ag => ?_);refine gs ?_;refine la GO Gu G (.tail _ (.head _)) G ?_;obtain ⟨ah, b8, hm⟩ := bind_some hm;refine aD call43 G G G (fun w ht => (rZ (hm := b8) h0 h1 h2 h3 h4 h5 ht :)) ?_;rintro _ _ _ ⟨rfl, a1, al, rfl, rfl, a5⟩;have a5 := a5 H;refine d_ (css := [[a1]]) (zs := [.slice none 0 0, .slice none 0 0]) (out := [a1, .slice none 0 0]) (places := [(0, 1), (1, 1)]) G G G ⟨(Rw.cells a5), EY⟩ JD G GS (fun w => by kernel_rfl) G ?_
 refine bR (cs := [.slice none 0 0, .slice none 0 0]) G G JD G (fun a9 => ?_);refine aM (cs := [a1, .slice none 0 0]) (out := [a1, .slice none 0 0]) G Ia G G G G G (EU (Rw.one a5) (EU G E8)) (aQ G) (gs ?_);refine gs ?_;refine gs ?_;refine fi 0 GS G Gk G ?_;refine lo GX G (.head _) G ?_;refine k9 (.tail _ (.head _)) G G E3 G (go ?_);refine aG ?_;refine oA (.tail _ (.head _)) (fun b9 => ?_);obtain ⟨au, ba, bb, hm⟩ := cV hm;refine l9 (fun n H' M' L' => ∃ (aa : Nat) (ai : List Int), ∃ aj : Int, (ah).drop aa = ai ∧ ai.length = n ∧ au aa ai aj = some r ∧ H.le H' ∧ .obj a9 (.cells [a1, .slice none 0 0].toArray 63 (0, 0)) :: .row a1 3 (aF.sz Int) ah.length al :: .obj ag (.cells ([.slice none 0 0, .slice none 0 0] : List Value).toArray 63 (0, 0)) :: .obj a8 (.cells [v0, v1, v2, v3, v4, v5].toArray 29 (0, 0)) :: M = M' ∧ [(1, .pointer (some ⟨a8, 0, none⟩)), (2, .pointer (some ⟨ag, 0, none⟩)), (3, .pointer (some ⟨a9, 0, none⟩)), (4, .int .i64 (aj)), (14, a1), (15, .int .i64 ((ah.length : Int))), (16, .int .i64 ((aa : Int)))] = L') _ ⟨0, _, _, G, G, hm, (EX _), G, G⟩ ?_
 rintro _ bc _ _ ⟨aa, ai, aj, av, rfl, hm, a4, rfl, rfl⟩;refine gs ?_;refine gs ?_;refine bS G (fun am => ?_) (fun am => ?_);obtain ⟨bz, aw, rfl, an, bd⟩ := gF av am;have hm := (ba _ _ _ _).symm.trans hm;generalize be : au (aa + 1) aw = c0 at hm;unfold mU at hm;refine gs ?_;refine aG ?_;refine gs ?_;refine bC (.tail _ (.head _)) G G E3 Ff G G (Fk _) (ET.1 an).1 ?_;obtain ⟨_, rfl, bf⟩ := (a5).elem an;refine aI G G Fy G (cG (.tail _ (.head _)) bf G) (go ?_);refine CR G G G G ?_;refine aU G G G (bF (aH (aV ?_)));refine gj ?_;exact kj (bT (E5 _) ⟨aa + 1, aw, _, bd, G, ((FB be _).trans hm), a4, G, G⟩) ⟨G, G, G, G, G, G, (Fl (fun z => some (Value.int .i64 z)) (cJ an b9)), EY⟩;obtain rfl := gE av am;have hm := (bb _ _).symm.trans hm;refine gs ?_;refine gs ?_;refine gs ?_;refine fi 2 Fp G sizeOf24 G ?_
 refine lo isAgg24 G (.tail _ (.tail _ (.tail _ (.head _)))) G ?_;refine bB G G HG G (h2.mono a4) (go ?_);refine aG ?_;refine jC 109 (aF.sz bK) ?_;obtain ⟨ax, bg, bh, hm⟩ := cV hm;refine l9 (fun n H' M' L' => ∃ (ab : Nat) (ak : List cA), ∃ ad : List bK, ∃ ae : Value, ∃ ao : List Value, (p0_n.bE).drop ab = ak ∧ ak.length = n ∧ ax ab ak ad = some r ∧ Rw H' ae ao ad ∧ bc.le H' ∧ .row ae 109 (aF.sz bK) ad.length ao :: .obj a9 (.cells [a1, .slice none 0 0].toArray 63 (0, 0)) :: .row a1 3 (aF.sz Int) ah.length al :: .obj ag (.cells ([.slice none 0 0, .slice none 0 0] : List Value).toArray 63 (0, 0)) :: .obj a8 (.cells [v0, v1, v2, v3, v4, v5].toArray 29 (0, 0)) :: M = M' ∧ [(1, .pointer (some ⟨a8, 0, none⟩)), (2, .pointer (some ⟨ag, 0, none⟩)), (3, .pointer (some ⟨a9, 0, none⟩)), (4, .int .i64 (aj)), (7, ae), (26, v2), (27, .int .i64 ((p0_n.bE.length : Int))), (28, .int .i64 ((ab : Int)))] = L') _ ⟨0, _, _, _, _, G, G, hm, Rw.nil, (EX _), G, G⟩ ?_
 rintro _ bi _ _ ⟨ab, ak, ad, ae, ao, ay, rfl, hm, az, a6, rfl, rfl⟩;refine gs ?_;refine gs ?_;refine bS G (fun ap => ?_) (fun ap => ?_);obtain ⟨a0, b0, rfl, aq, bj⟩ := gF ay ap;have hm := (bg _ _ _ _).symm.trans hm;generalize bk : ax (ab + 1) b0 = c1 at hm;unfold mV at hm;refine gs ?_;refine aG ?_;refine gs ?_;obtain ⟨_, ⟨rfl⟩, bl⟩ := (h2).elem aq;refine aT G G HG I0 G ((h2.mono a4).mono a6) G (Fk _) aq ?_;refine aR G G isAgg84 I0 G ((bl.mono a4).mono a6).at G ?_;refine bR (cs := [.string (⟨#[]⟩), .string (⟨#[]⟩), .string (⟨#[]⟩), .int .i64 (0), .int .i64 (0), .int .i64 (0), .int .i64 (0), .int .i64 (0), .int .i64 (0)]) G G JW G (fun b1 => ?_);refine aM (cs := [.string (a0.Name), .string (a0.gY), .string (a0.To), .int .i64 (a0.X), .int .i64 (a0.qn), .int .i64 (a0.Shift), .int .i64 (a0.ky), .int .i64 (a0.lO), .int .i64 (a0.pg)]) (out := [.string (a0.Name), .string (a0.gY), .string (a0.To), .int .i64 (a0.X), .int .i64 (a0.qn), .int .i64 (a0.Shift), .int .i64 (a0.ky), .int .i64 (a0.lO), .int .i64 (a0.pg)]) G I0 G G G G G (EU G (EU G (EU G (EU G (EU G (EU G (EU G (EU G (EU G E8))))))))) (aQ G) (go ?_)
 obtain ⟨b2, bm, hm⟩ := bind_some hm;obtain ⟨a2, bn, b3, hm⟩ := aC hm;obtain ⟨_, rfl, bo⟩ := (a5).elem b3;obtain ⟨b4, bp, hm⟩ := bind_some hm;obtain ⟨a3, bq, b5, hm⟩ := aC hm;obtain ⟨_, rfl, br⟩ := (a5).elem b5;refine nO fm 21 [ph ae, ph (.pointer (some ⟨a9, 0, none⟩)), ph a1, ph (.pointer (some ⟨a8, 0, none⟩)), ph v0, ph (.pointer (some ⟨b1, 1, none⟩)), ph (.string (a0.gY)), ph (.int .i64 (b2)), ph (.pointer (some ((Value.base (a1)).add ((b2 : Int).toNat * aF.sz Int)))), ph (.int .i64 (a2)), ph (.pointer (some ⟨a9, 0, none⟩)), ph a1, ph (.pointer (some ⟨a8, 0, none⟩)), ph v0, ph (.pointer (some ⟨b1, 2, none⟩)), ph (.string (a0.To)), ph (.int .i64 (b4)), ph (.pointer (some ((Value.base (a1)).add ((b4 : Int).toNat * aF.sz Int)))), ph (.int .i64 (a3)), ph (.agg [.int .i64 (a2), .int .i64 (a3)].toArray), (fun H rs v => ∃ a7 : Value, [] = rs ∧ a7 = v ∧ aL H a7 ([(bK.mk a2 a3)]) ∧ Value.mY a7 = ([(bK.mk a2 a3)]).length)] ⟨om, ?_, ?_, ?_, ?_, ?_, ?_, ?_, ?_, ?_, ?_, ?_, ?_, ?_, ?_, ?_, ?_, ?_, ?_, ?_, ?_, EY⟩ ?_
 rintro HX hX X Rest hR hU hUp;refine fi 0 GS G Gk G ?_;exact o0 ⟨G, G⟩;rintro HX hX X Rest hR _ _ ⟨rfl, rfl⟩ hU hUp;refine aI G G GX G (bQ (hR _ (.tail _ (.tail _ (.head _)))) G) ?_;exact o0 ⟨G, G⟩;rintro HX hX X Rest hR hU hUp;refine fi 0 Fp G Hw G ?_;exact o0 ⟨G, G⟩;rintro HX hX X Rest hR _ _ ⟨rfl, rfl⟩ hU hUp;refine aI G G HW G (bQ (hR _ (.tail _ (.tail _ (.tail _ (.tail _ (.tail _ (.head _))))))) G) ?_;exact o0 ⟨G, G⟩;rintro HX hX X Rest hR hU hUp;refine fi 1 GA G Gy G ?_;exact o0 ⟨G, G⟩;rintro HX hX X Rest hR _ _ ⟨rfl, rfl⟩ hU hUp;refine aI G G G8 G (bQ (hR _ (.head _)) G) ?_;exact o0 ⟨G, G⟩;rintro HX hX X Rest hR _ _ ⟨rfl, rfl⟩ _ _ ⟨rfl, rfl⟩ hU hUp;refine aD Jn G G G (fun w ht => (bL (hm := bm) (((h0.mono a4).mono a6).mono hX) ht :)) ?_;rintro _ _ _ ⟨rfl, rfl, rfl⟩;exact o0 ⟨G, G⟩;rintro HX hX X Rest hR _ _ ⟨rfl, rfl⟩ _ _ ⟨rfl, rfl⟩ hU hUp
 refine bC (hR _ (.tail _ (.tail _ (.tail _ (.head _))))) G G E3 Ff G G bn (ET.1 b3).1 ?_;exact o0 ⟨G, G⟩;rintro HX hX X Rest hR _ _ ⟨rfl, rfl⟩ hU hUp;refine aI G G Fy G (cG (hR _ (.tail _ (.tail _ (.tail _ (.head _))))) bo G) ?_;exact o0 ⟨G, G⟩;rintro HX hX X Rest hR hU hUp;refine fi 0 GS G Gk G ?_;exact o0 ⟨G, G⟩;rintro HX hX X Rest hR _ _ ⟨rfl, rfl⟩ hU hUp;refine aI G G GX G (bQ (hR _ (.tail _ (.tail _ (.head _)))) G) ?_;exact o0 ⟨G, G⟩;rintro HX hX X Rest hR hU hUp;refine fi 0 Fp G Hw G ?_;exact o0 ⟨G, G⟩;rintro HX hX X Rest hR _ _ ⟨rfl, rfl⟩ hU hUp;refine aI G G HW G (bQ (hR _ (.tail _ (.tail _ (.tail _ (.tail _ (.tail _ (.head _))))))) G) ?_;exact o0 ⟨G, G⟩;rintro HX hX X Rest hR hU hUp;refine fi 2 GA G Gy G ?_;exact o0 ⟨G, G⟩;rintro HX hX X Rest hR _ _ ⟨rfl, rfl⟩ hU hUp;refine aI G G G8 G (bQ (hR _ (.head _)) G) ?_
 exact o0 ⟨G, G⟩;intro HX hX X Rest hR;refine dr ?_;intro hU hUp;refine aD Jn G G G (fun w ht => (bL (hm := bp) (((h0.mono a4).mono a6).mono hX) ht :)) ?_;rintro _ _ _ ⟨rfl, rfl, rfl⟩;exact o0 ⟨G, G⟩;rintro HX hX X Rest hR _ _ ⟨rfl, rfl⟩ _ _ ⟨rfl, rfl⟩ hU hUp;refine bC (hR _ (.tail _ (.tail _ (.tail _ (.head _))))) G G E3 Ff G G bq (ET.1 b5).1 ?_;exact o0 ⟨G, G⟩;rintro HX hX X Rest hR _ _ ⟨rfl, rfl⟩ hU hUp;refine aI G G Fy G (cG (hR _ (.tail _ (.tail _ (.tail _ (.head _))))) br G) ?_;exact o0 ⟨G, G⟩;rintro HX hX X Rest hR _ _ ⟨rfl, rfl⟩ _ _ ⟨rfl, rfl⟩ hU hUp;refine ry (css := [[.int .i64 (a2)], [.int .i64 (a3)]]) (zs := [.int .i64 (0), .int .i64 (0)]) (out := [.int .i64 (a2), .int .i64 (a3)]) (places := [(0, 1), (1, 1)]) G G G ⟨G, G, EY⟩ Js G G9 Ff G G ?_;exact o0 ⟨G, G⟩;rintro HX hX X Rest hR _ _ ⟨rfl, rfl⟩ hU hUp
 refine dM (α := bK) (css := [[.int .i64 (a2), .int .i64 (a3)]]) (zs := [.int .i64 (0), .int .i64 (0)]) (out := [.int .i64 (a2), .int .i64 (a3)]) (ys := [(bK.mk a2 a3)]) G G G ⟨G, EY⟩ Ii Jq G Js (by kernel_rfl) G G G G ⟨[.int .i64 (a2), .int .i64 (a3)], [], G, G, G⟩ G ?_
 intro c2 a7 c3 bs bt ar;have b6 : Value.mY a7 = ([(bK.mk a2 a3)]).length := by rw [bs]; rfl
 exact oe [] bt ⟨a7, G, G, (ar), (b6)⟩;intro c4 b7;refine dr ?_;rintro _ _ ⟨a7, rfl, rfl, ar, b6⟩;refine q8 ?_;obtain ⟨bu, hm⟩ := aY hm;refine a_ (.swap _ _ _) ?_;refine eD (α := bK) (l := ad) (ys := [(bK.mk a2 a3)]) G G underlying108 ⟨_, G, G, G, G⟩ G G G G G (az.mono b7) ar bu ?_;intro c5 c6 bv;refine aU G G G (bF (aH (aV ?_)));refine gj ?_;refine aX (.cons_cons _ (.cons _ (.refl _))) ?_;exact kj (bT (E5 _) ⟨ab + 1, b0, _, _, _, bj, G, ((FB bk _).trans hm), bv, (EW a6 b7), G, G⟩) ⟨G, G, G, G, G, G, G, (Fl (fun z => some (Value.int .i64 z)) (cJ aq (((h2.mono a4).mono a6)).c_)), EY⟩;obtain rfl := gE ay ap;have hm := (bh _ _).symm.trans hm;refine gs ?_;obtain ⟨c7, bw, hm⟩ := bind_some hm;refine aD call44 G G G (fun w ht => by obtain ⟨H0_, hl0_, ht0_, hr0_, bk0_⟩ := ht.eR az G; have h := nL (hm := bw) hr0_ ht0_; exact cX bk0_ (h)) ?_
 rintro _ _ _ ⟨rfl, ⟨_, rfl, af, bx, rfl, rfl, ac⟩⟩;have ac := ac bi;refine go ?_;refine fi 1 GS G Gk G ?_;refine a_ (.trans (.cons _ (.swap _ _ _)) (.swap _ _ _)) ?_;refine aM (cs := [af]) (out := [a1, af]) G Gk G G (Rw.cells ac) G G (EU (Rw.one ac) E8) G (gs ?_);refine la isAgg63 Ia G (.head _) G ?_;refine a_ (.trans (.cons _ (.cons _ (.cons _ (.swap _ _ _)))) (.trans (.cons _ (.cons _ (.swap _ _ _))) (.trans (.cons _ (.swap _ _ _)) (.swap _ _ _)))) ?_;refine aM (cs := [a1, af]) (out := [a1, af]) G Ia G G G G G (EU (Rw.one ((a5.mono a4).mono a6)) (EU (Rw.one ac) E8)) (aQ G) (go ?_);obtain rfl := EV hm;exact iG (EW a4 a6) G (gG.agg G isAgg63 Ia (.head _) G) (.cons _ (.cons _ (.cons _ (.cons_cons _ (.cons_cons _ (.cons _ (.refl _))))))) (.swap _ _ _) ⟨G, a1, al, af, bx, G, G, (((a5.mono a4).mono a6)).ql, (ac).ql⟩
theorem rD {B : Nat} {w0 w : World} [cP B w0] {H : Hp} {M : List bP} {p0_n : aJ} {v0 v1 v2 v3 v4 v5 : Value} {r : Int} (hm : hO p0_n = some r) (h0 : aL H v0 p0_n.bJ) (h1 : aL H v1 p0_n.cC) (h2 : aL H v2 p0_n.bE) (h3 : aL H v3 p0_n.eM) (h4 : aL H v4 p0_n.dA) (h5 : aL H v5 p0_n.cI) (ht : St B w0 H (M) w) :
    Calls prog 46 [.agg [v0, v1, v2, v3, v4, v5].toArray].toArray w (gA B w0 fun H' M' v => H = H' ∧ M = M' ∧ .int .i64 (r) = v) := by
 unfold hO at hm;refine enter func46 G G G ht (gs ?_);refine dW (cs := [v0, v1, v2, v3, v4, v5]) G G G G (fun al => ?_);refine gs ?_;refine gs ?_;refine gs ?_;refine la GO Gu G (.head _) G ?_;obtain ⟨a2, ad, hm⟩ := bind_some hm;refine aD call22 G G G (fun w ht => (kH (hm := ad) h0 h1 h2 h3 h4 h5 ht :)) ?_;rintro _ _ _ ⟨rfl, am, an, a7, ae, rfl, rfl, a8, a3⟩;have a8 := a8 H;have a3 := a3 H;refine vP G G GS G GX G G ?_;refine k9 (.tail _ (.head _)) G G E3 G (go ?_);refine aG ?_;refine oA (.tail _ (.head _)) (fun af => ?_);refine nP (.cons _ (.cons_cons _ (.cons _ (.refl _)))) ?_;obtain ⟨a9, ag, ah, hm⟩ := cV hm;refine l9 (fun n H' M' L' => ∃ (a0 : Nat) (a1 : List Int), ∃ a4 : Int, (a2.aW).drop a0 = a1 ∧ a1.length = n ∧ a9 a0 a1 a4 = some r ∧ H.le H' ∧ .row a7 3 (aF.sz Int) a2.aW.length ae :: M = M' ∧ [(3, .int .i64 (a4)), (8, a7), (9, .int .i64 ((a2.aW.length : Int))), (10, .int .i64 ((a0 : Int)))] = L') _ ⟨0, _, _, G, G, hm, (EX _), G, G⟩ ?_
 rintro _ ao _ _ ⟨a0, a1, a4, aa, rfl, hm, ab, rfl, rfl⟩;refine gs ?_;refine gs ?_;refine bS G (fun a5 => ?_) (fun a5 => ?_);obtain ⟨ap, ac, rfl, a6, ai⟩ := gF aa a5;have hm := (ag _ _ _ _).symm.trans hm;generalize aj : a9 (a0 + 1) ac = aq at hm;unfold lR at hm;refine gs ?_;refine aG ?_;refine gs ?_;refine bC (.head _) G G E3 Ff G G (Fk _) (ET.1 a6).1 ?_;obtain ⟨_, rfl, ak⟩ := (a3).elem a6;refine aI G G Fy G (cG (.head _) ak G) (go ?_);refine CR G G G G ?_;refine aU G G G (bF (aH (aV ?_)));refine gj ?_;exact kj (bT (E5 _) ⟨a0 + 1, ac, _, ai, G, ((FB aj _).trans hm), ab, G, G⟩) ⟨G, G, G, (Fl (fun z => some (Value.int .i64 z)) (cJ a6 af)), EY⟩;obtain rfl := gE aa a5;have hm := (ah _ _).symm.trans hm;refine gs ?_;refine go ?_;obtain rfl := EV hm;refine aX (.cons _ (.refl _)) ?_;refine aS ab ?_
 exact cD G G ⟨G, G, G⟩
theorem mL {B : Nat} {w0 w : World} [cP B w0] {H : Hp} {M : List bP} {p0_n : aJ} {p1_t : aN} {node : ByteArray} {v0 v1 v2 v3 v4 v5 v6 v7 : Value} {r : Int} (hm : iM p0_n p1_t node = some r) (h0 : aL H v0 p0_n.bJ) (h1 : aL H v1 p0_n.cC) (h2 : aL H v2 p0_n.bE) (h3 : aL H v3 p0_n.eM) (h4 : aL H v4 p0_n.dA) (h5 : aL H v5 p0_n.cI) (h6 : aL H v6 p1_t.iW) (h7 : aL H v7 p1_t.aW) (ht : St B w0 H (M) w) :
    Calls prog 27 [.agg [v0, v1, v2, v3, v4, v5].toArray, .agg [v6, v7].toArray, .string (node)].toArray w (gA B w0 fun H' M' v => H = H' ∧ M = M' ∧ .int .i64 (r) = v) := by
 unfold iM at hm;refine enter func27 G G G ht (gs ?_);refine dW (cs := [v0, v1, v2, v3, v4, v5]) G G G G (fun a5 => ?_);refine dW (cs := [v6, v7]) G G G G (fun a1 => ?_);refine gs ?_;obtain ⟨a2, a6, hm⟩ := bind_some hm;obtain ⟨a7, a8, a3, hm⟩ := aC hm;obtain ⟨_, rfl, a9⟩ := (h6).elem a3;refine nO fm 10 [ph (.pointer (some ⟨a1, 1, none⟩)), ph v7, ph (.pointer (some ⟨a1, 0, none⟩)), ph v6, ph (.pointer (some ⟨a5, 0, none⟩)), ph v0, ph (.string (node)), ph (.int .i64 (a2)), ph (.pointer (some ((Value.base (v6)).add ((a2 : Int).toNat * 1)))), ph (.int .i64 (a7))] ⟨?_, ?_, ?_, ?_, ?_, ?_, om, ?_, ?_, ?_, EY⟩ ?_;rintro HX hX X Rest hR hU hUp;refine fi 1 GS G Gk G ?_;exact o0 ⟨G, G⟩;rintro HX hX X Rest hR _ _ ⟨rfl, rfl⟩ hU hUp;refine aI G G GX G (bQ (hR _ (.head _)) G) ?_;exact o0 ⟨G, G⟩;rintro HX hX X Rest hR hU hUp;refine fi 0 GS G Gk G ?_;exact o0 ⟨G, G⟩
 rintro HX hX X Rest hR _ _ ⟨rfl, rfl⟩ hU hUp;refine aI G G GX G (bQ (hR _ (.head _)) G) ?_;exact o0 ⟨G, G⟩;rintro HX hX X Rest hR hU hUp;refine fi 0 Fp G Hw G ?_;exact o0 ⟨G, G⟩;rintro HX hX X Rest hR _ _ ⟨rfl, rfl⟩ hU hUp;refine aI G G HW G (bQ (hR _ (.tail _ (.head _))) G) ?_;exact o0 ⟨G, G⟩;rintro HX hX X Rest hR _ _ ⟨rfl, rfl⟩ _ _ ⟨rfl, rfl⟩ hU hUp;refine aD Jn G G G (fun w ht => (bL (hm := a6) (h0.mono hX) ht :)) ?_;rintro _ _ _ ⟨rfl, rfl, rfl⟩;exact o0 ⟨G, G⟩;rintro HX hX X Rest hR _ _ ⟨rfl, rfl⟩ _ _ ⟨rfl, rfl⟩ hU hUp;refine aT G G E3 Ff G (h6.mono hX) G a8 a3 ?_;exact o0 ⟨G, G⟩;rintro HX hX X Rest hR _ _ ⟨rfl, rfl⟩ hU hUp;refine aI G G Fy G (bU.one (a9.mono hX) 0 G).at ?_;exact o0 ⟨G, G⟩;intro ac a0;refine dz ?_;obtain ⟨ad, aa, a4, hm⟩ := aC hm;obtain ⟨_, rfl, ab⟩ := (h7).elem a4;refine aT G G E3 Ff G (h7.mono a0) G aa a4 ?_
 refine aI G G Fy G (bU.one (ab.mono a0) 0 G).at (go ?_);obtain rfl := EV hm;refine aX (.cons _ (.cons _ (.refl _))) ?_;refine aS a0 ?_;exact cD G G ⟨G, G, G⟩
end Go.Sim
