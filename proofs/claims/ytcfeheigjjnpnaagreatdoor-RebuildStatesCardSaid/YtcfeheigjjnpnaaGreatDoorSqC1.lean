/-
  The proof, part C1.
-/
import Derived.KernelRfl
import Derived.Shelf.Small.Bits
import Derived.Shelf.Strconv.Itoa0
import Derived.Shelf.Strconv.Itoa1
import Derived.Shelf.LaysM
import Derived.Shelf.Strconv.Itoa2
import Derived.Shelf.Strconv.Itoa3
import Derived.Shelf.Strconv.Clone
import Derived.Shelf.Strconv.SyntaxError
import Derived.Shelf.LaysC
import Derived.Shelf.Strconv.ToError
import Derived.Shelf.Strconv.Lower
import Derived.Shelf.Strconv.ParseUint10
import Derived.Shelf.Strconv.ParseUint10Empty
import Derived.Shelf.Strconv.ParseUint10Any
import Derived.Shelf.Strconv.RangeError
import Derived.Shelf.Strconv.ToErrorRange
import Derived.Shelf.Strconv.ParseUintEmpty
import Derived.Shelf.Strconv.ParseUint10b64
import Derived.Shelf.Strconv.ParseUint10b32
import Derived.Shelf.Strconv.ParseUint10b16
import Derived.Shelf.Strconv.ParseUint10b8
import Derived.Shelf.Strconv.ParseUint10At
import Derived.Shelf.Sort.Plain
import Derived.Test.YtcfeheigjjnpnaaGreatDoorProg
import Derived.Test.YtcfeheigjjnpnaaGreatDoorRows
import Derived.Test.YtcfeheigjjnpnaaGreatDoorSqA2
set_option linter.unusedVariables false
set_option linter.unusedSimpArgs false
set_option linter.unusedSectionVars false
set_option linter.unnecessarySimpa false
namespace Go.Sim
abbrev Hr := @Int.natCast_nonneg
abbrev La := @List.Perm.refl
abbrev K0 := @Nat.and_two_pow_sub_one_eq_mod
abbrev Ly := @Go.Proofs.Tryz.call38
abbrev HD := @congrFun
abbrev JX := @Go.Proofs.Tryz.isAgg22
abbrev LL := @Go.Proofs.Tryz.isAgg24
abbrev L6 := @Go.Proofs.Tryz.isAgg25
abbrev KX := @Go.Proofs.Tryz.isAgg26
abbrev It := @Go.Proofs.Tryz.isAgg29
abbrev HM := @Go.Proofs.Tryz.isAgg3
abbrev LM := @Go.Proofs.Tryz.isAgg32
abbrev Ko := @Go.Proofs.Tryz.isAgg4
abbrev IW := @Go.Proofs.Tryz.isAgg9
abbrev IQ := @Go.Proofs.Tryz.runUnderlying117
abbrev JS := @Go.Proofs.Tryz.runUnderlying121
abbrev Ku := @Go.Proofs.Tryz.runUnderlying175
abbrev Kv := @Go.Proofs.Tryz.runUnderlying177
abbrev Jr := @Go.Proofs.Tryz.runUnderlying178
abbrev HE := @Go.Proofs.Tryz.runUnderlying22
abbrev Kp := @Go.Proofs.Tryz.runUnderlying23
abbrev I1 := @Go.Proofs.Tryz.runUnderlying24
abbrev Je := @Go.Proofs.Tryz.runUnderlying25
abbrev Ik := @Go.Proofs.Tryz.runUnderlying26
abbrev J3 := @Go.Proofs.Tryz.runUnderlying27
abbrev Hl := @Go.Proofs.Tryz.runUnderlying29
abbrev Jn := @Go.Proofs.Tryz.runUnderlying32
abbrev Mk := @Go.Proofs.Tryz.runUnderlying5
abbrev Hc := @Go.Proofs.Tryz.runUnderlying51
abbrev IE := @Go.Proofs.Tryz.runUnderlying56
abbrev Ma := @Go.Proofs.Tryz.runUnderlying77
abbrev KF := @Go.Proofs.Tryz.runUnderlying80
abbrev Ib := @Go.Proofs.Tryz.runUnderlying9
abbrev J4 := @Go.Proofs.Tryz.sizeOf117
abbrev L7 := @Go.Proofs.Tryz.sizeOf121
abbrev LB := @Go.Proofs.Tryz.sizeOf178
abbrev JM := @Go.Proofs.Tryz.sizeOf22
abbrev Lj := @Go.Proofs.Tryz.sizeOf24
abbrev K7 := @Go.Proofs.Tryz.sizeOf25
abbrev J0 := @Go.Proofs.Tryz.sizeOf26
abbrev H7 := @Go.Proofs.Tryz.sizeOf29
abbrev Hm := @Go.Proofs.Tryz.sizeOf3
abbrev I3 := @Go.Proofs.Tryz.sizeOf32
abbrev Iv := @Go.Proofs.Tryz.sizeOf4
abbrev JT := @Go.Proofs.Tryz.sizeOf56
abbrev LX := @Go.Proofs.Tryz.sizeOf77
abbrev LY := @Go.Proofs.Tryz.sizeOf80
abbrev Ii := @Go.Proofs.Tryz.sizeOf9
abbrev Mb := @Go.Proofs.Tryz.underlying22
abbrev Jx := @Go.Proofs.Tryz.underlying51
abbrev LC := @Go.Proofs.Tryz.zeroValue117
abbrev LF := @Go.Proofs.Tryz.zeroValue178
abbrev Kl := @Go.Proofs.Tryz.zeroValue29
abbrev Ke := @Go.Proofs.Tryz.zeroValue3
abbrev KO := @Go.Proofs.Tryz.zeroValue32
abbrev Lp := @Go.Proofs.Tryz.zeroValue56
abbrev JY := @Go.Proofs.Tryz.zeroValue9
end Go.Sim
namespace Go.Sim
open Go
open _root_.Go.IntKind (i64 u64 u32 u8)
theorem G {α : Sort _} {a : α} : a = a := rfl
section
variable {x:Cx}{ops:Array Oper}{Q:kF}{rest:List Oper}{H:Hp}{M:List bQ}{L:Env}{e:Exit}{c:Code}
theorem r8 (k:W x ops Q rest H M L):W x ops Q rest H M L:=k
theorem F5 (k:E x e Q H M L):E x e Q H M L:=k
theorem F4 (k:Go.Sim.C x c Q H M L):Go.Sim.C x c Q H M L:=k
end
theorem wo {P Q:Prop} (k:Q) (h:Q→P:=by
  intro k
  repeat first
   | (with_reducible refine r8 ?_); first
    | refine bV rfl rfl rfl ?_
    | refine aQ rfl rfl rfl ?_
    | refine A1 rfl rfl rfl ?_
    | refine pz rfl rfl rfl rfl rfl ?_
    | refine rS rfl rfl rfl rfl ?_
    | refine kJ rfl rfl rfl rfl ?_
    | refine iW rfl rfl rfl ?_
    | refine wA rfl rfl ?_
  exact k):P:=h k
theorem go {P Q:Prop} (k:Q) (h:Q→P:=by
  intro k
  repeat first
   | (with_reducible refine r8 ?_); first
    | refine bV rfl rfl rfl ?_
    | refine aQ rfl rfl rfl ?_
    | refine A1 rfl rfl rfl ?_
    | refine pz rfl rfl rfl rfl rfl ?_
    | refine rS rfl rfl rfl rfl ?_
    | refine kJ rfl rfl rfl rfl ?_
    | refine iW rfl rfl rfl ?_
    | refine wA rfl rfl ?_
    | refine bE ?_
   | (with_reducible refine F5 ?_); first
    | with_reducible refine aS ?_
    | with_reducible refine gH ?_
    | with_reducible refine aJ ?_
    | with_reducible refine jO ?_
    | with_reducible refine qp ?_
    | with_reducible refine lK ?_
    | refine qo rfl ?_
   | (with_reducible refine F4 ?_); first
    | with_reducible refine bD ?_
    | with_reducible refine eF ?_
    | with_reducible refine ri ?_
    | with_reducible refine lC ?_
  exact k):P:=h k
theorem gj {P Q:Prop} (k:Q) (h:Q→P:=by
  intro k
  repeat first
   | (with_reducible refine r8 ?_); first
    | refine bV rfl rfl rfl ?_
    | refine aQ rfl rfl rfl ?_
    | refine A1 rfl rfl rfl ?_
    | refine pz rfl rfl rfl rfl rfl ?_
    | refine rS rfl rfl rfl rfl ?_
    | refine kJ rfl rfl rfl rfl ?_
    | refine iW rfl rfl rfl ?_
    | refine wA rfl rfl ?_
    | refine bE ?_
   | (with_reducible refine F5 ?_); first
    | with_reducible refine gH ?_
    | with_reducible refine aJ ?_
    | with_reducible refine jO ?_
    | with_reducible refine qp ?_
    | with_reducible refine lK ?_
    | refine qo rfl ?_
   | (with_reducible refine F4 ?_); first
    | with_reducible refine bD ?_
    | with_reducible refine eF ?_
    | with_reducible refine ri ?_
    | with_reducible refine lC ?_
  exact k):P:=h k
theorem gs {P Q:Prop} (k:Q) (h:Q→P:=by
  intro k
  repeat first
   | (with_reducible refine r8 ?_); first
    | refine bV rfl rfl rfl ?_
    | refine aQ rfl rfl rfl ?_
    | refine A1 rfl rfl rfl ?_
    | refine pz rfl rfl rfl rfl rfl ?_
    | refine rS rfl rfl rfl rfl ?_
    | refine kJ rfl rfl rfl rfl ?_
    | refine iW rfl rfl rfl ?_
    | refine wA rfl rfl ?_
    | refine bE ?_
   | (with_reducible refine F5 ?_); first
    | with_reducible refine aS ?_
    | with_reducible refine gH ?_
    | with_reducible refine aJ ?_
    | with_reducible refine jO ?_
    | with_reducible refine qp ?_
    | with_reducible refine lK ?_
    | refine qo rfl ?_
   | (with_reducible refine F4 ?_); first
    | with_reducible refine bD ?_
    | with_reducible refine eF ?_
    | with_reducible refine ri ?_
    | with_reducible refine lC ?_
  refine cI ?_
  repeat first
   | (with_reducible refine r8 ?_); first
    | refine bV rfl rfl rfl ?_
    | refine aQ rfl rfl rfl ?_
    | refine A1 rfl rfl rfl ?_
    | refine pz rfl rfl rfl rfl rfl ?_
    | refine rS rfl rfl rfl rfl ?_
    | refine kJ rfl rfl rfl rfl ?_
    | refine iW rfl rfl rfl ?_
    | refine wA rfl rfl ?_
    | refine bE ?_
   | (with_reducible refine F5 ?_); first
    | with_reducible refine aS ?_
    | with_reducible refine gH ?_
    | with_reducible refine aJ ?_
    | with_reducible refine jO ?_
    | with_reducible refine qp ?_
    | with_reducible refine lK ?_
    | refine qo rfl ?_
   | (with_reducible refine F4 ?_); first
    | with_reducible refine bD ?_
    | with_reducible refine eF ?_
    | with_reducible refine ri ?_
    | with_reducible refine lC ?_
  exact k):P:=h k
abbrev ph (a:Value):Hp→List bQ→Value→Prop:=fun _ rs v=>[]=rs∧a=v
def nn (n:Nat):List (List Nat):=List.replicate n []
section
variable {x:Cx}{ops:Array Oper}{Q:kF}{H H':Hp}{M:List bQ}{L:Env}{t:Nat}{ps:Option Nat}{v:Value}{φ:Hp→List bQ→Value→Prop}
theorem o0 (h:φ H [] v):W x ops (wS x H M L (some t) ps φ) [] H M ((t,v)::L):=bE (d_ [] (G5 _) h)
theorem oe (rs:List bQ) (hle:H.le H') (h:φ H' rs v):W x ops (wS x H M L (some t) ps φ) [] H' (rs++M) ((t,v)::L):=bE (d_ rs hle h)
end
theorem om {P:Prop} (h:P:=by
  intro HX hX X Rest hR
  repeat (rintro _ _ ⟨rfl,rfl⟩)
  intro hU hUp
  repeat first
   | (with_reducible refine r8 ?_); first
    | refine bV rfl rfl rfl ?_
    | refine aQ rfl rfl rfl ?_
    | refine A1 rfl rfl rfl ?_
    | refine pz rfl rfl rfl rfl rfl ?_
    | refine rS rfl rfl rfl rfl ?_
    | refine kJ rfl rfl rfl rfl ?_
    | refine iW rfl rfl rfl ?_
    | refine wA rfl rfl ?_
  exact o0 ⟨rfl,rfl⟩):P:=h
theorem dr {P Q:Prop} (k:Q) (h:Q→P:=by
  intro k
  repeat (rintro _ _ ⟨rfl,rfl⟩)
  exact k):P:=h k
theorem dz {P Q:Prop} (k:Q) (h:Q→P:=by
  intro k
  repeat (rintro _ _ ⟨rfl,rfl⟩)
  refine r8 ?_;exact k):P:=h k
theorem ma {P:Prop} (h:P:=by
    repeat' first
      | exact G6
      | exact eS _ _
      | refine ⟨?_,?_⟩
      | (intro H1 H2 rs v hle
         repeat' first
           | exact fun h=>h
           | exact fun h=>aH.mono hle h
           | exact fun h=>Rw.mono hle h
           | exact fun h=>mG.mono hle h
           | exact fun h=>b_.mono hle h
           | exact fun h=>Mx.mono h hle
           | refine Exists.imp (fun _=>?_)
           | refine And.imp ?_ ?_)):P:=h
theorem y6 {x:Cx}{l:List Oper}{Q:kF}{H:Hp}{M:List bQ}{L:Env}{id:Nat} (hmix:x.P.follows .mixedOrders=true) (m:Nat) (F:List (Hp→List bQ→Value→Prop)) (C U:List (List Nat)) (I:List (List bQ)) (live:List Nat)
  (hop:sO x l (uH F) C U [] (y0 m I) H M L 0 (l.take m))
  (k:∀ H',H.le H'→rG l (uH F) H' (List.range m) L (y0 m I) (fun L' R=>W x l.toArray Q (l.drop m) H' (pB live R M) L'))
  (hB:qL l m=true:=by kernel_rfl) (hml:Nat.ble m l.length=true:=by rfl) (hD:uc l m L=true:=by rfl) (hNd:ud l m=true:=by rfl)
  (hT:BE l m (m+I.length) C U live=true:=by kernel_rfl) (hmono:wR F:=by exact ma):Go.Sim.C x (.region id l.toArray true) Q H (I.flatten++M) L:=
 nc m (uH F) C U I live hmix hB hml hD hNd hT (pQ hmono) hop k
theorem oz {x:Cx}{l:List Oper}{Q:kF}{H:Hp}{M:List bQ}{L:Env}{id:Nat} (hmix:x.P.follows .mixedOrders=true) (m:Nat) (F:List (Hp→List bQ→Value→Prop))
  (hop:sO x l (uH F) (nn m) (nn m) [] (y0 m []) H M L 0 (l.take m))
  (k:∀ H',H.le H'→rG l (uH F) H' (List.range m) L (y0 m []) (fun L' R=>W x l.toArray Q (l.drop m) H' (pB (List.range m) R M) L'))
  (hB:qL l m=true:=by kernel_rfl) (hml:Nat.ble m l.length=true:=by rfl) (hD:uc l m L=true:=by rfl) (hNd:ud l m=true:=by rfl)
  (hT:BE l m m (nn m) (nn m) (List.range m)=true:=by kernel_rfl) (hmono:wR F:=by exact ma):Go.Sim.C x (.region id l.toArray true) Q H M L:=
 nc m (uH F) (nn m) (nn m) [] (List.range m) hmix hB hml hD hNd hT (pQ hmono) hop k
theorem dB {α σ R:Type}{B:Nat→α→σ→(σ→Option R)→Option R}{K:σ→Option R}{l:List α}{s:σ}{r:Option R}{i:Nat} (h:dW B K i l s=r):
  ∃ F:Nat→List α→σ→Option R,(∀ i y ys s,F i (y::ys) s=B i y s (F (i+1) ys))∧(∀ i s,F i [] s=K s)∧F i l s=r:=⟨dW B K,fun _ _ _ _=>rfl,fun _ _=>rfl,h⟩
theorem ke {σ R:Type}{B:Nat→σ→(σ→Option R)→Option R}{K:σ→Option R}{m:Nat}{s:σ}{r:Option R}{i:Nat} (h:jU B K m i s=r):
  ∃ F:Nat→Nat→σ→Option R,(∀ m i s,F (m+1) i s=B i s (F m (i+1)))∧(∀ i s,F 0 i s=K s)∧F m i s=r:=⟨jU B K,fun _ _ _=>rfl,fun _ _=>rfl,h⟩
theorem kz {σ R:Type}{B:σ→(σ→Option R)→Option R}{m:Nat}{s:σ}{r:Option R} (h:gO B m s=r):
  ∃ F:Nat→σ→Option R,(∀ m s,F (m+1) s=B s (F m))∧(∀ s,F 0 s=none)∧F m s=r:=⟨gO B,fun _ _=>rfl,fun _=>rfl,h⟩
section
variable {x:Cx}{Q:kF}{H:Hp}{M M':List bQ}{L L':Env}{e:Exit}{c:Code}
theorem kj (k:E x e Q H M L') (hL:Kept L L':=by repeat first | exact G6 | refine ⟨rfl,?_⟩):E x e Q H M L:=y7 hL (La _) k
theorem kp (k:E x e Q H M' L') (hM:M.Perm M') (hL:Kept L L':=by repeat first | exact G6 | refine ⟨rfl,?_⟩):E x e Q H M L:=y7 hL hM k
theorem mA (S:xI) (n:Nat) (h0:S n H M L') (step:∀ n H M L,S n H M L→Go.Sim.C x c (Exit.then (DH x S n) Q) H M L) (hL:Kept L L':=by repeat first | exact G6 | refine ⟨rfl,?_⟩):Go.Sim.C x (.loop c) Q H M L:=
 uU hL (La _) (uV S n h0 step)
theorem Ff (hM:M.Perm M') (S:xI) (n:Nat) (h0:S n H M' L') (step:∀ n H M L,S n H M L→Go.Sim.C x c (Exit.then (DH x S n) Q) H M L) (hL:Kept L L':=by repeat first | exact G6 | refine ⟨rfl,?_⟩):Go.Sim.C x (.loop c) Q H M L:=
 uU hL hM (uV S n h0 step)
theorem cd {α:Type}{o:Operand}{p q:Code}{b:Bool}{u v r:α} (hm:(if b=true then u else v)=r) (hb:ev L o=some (.bool b)) (k1:b=true→u=r→Go.Sim.C x p Q H M L) (k2:b=false→v=r→Go.Sim.C x q Q H M L):Go.Sim.C x (.cond o p q) Q H M L:=
 bP hb (fun h=>k1 h (eK h hm)) (fun h=>k2 h (eJ h hm))
theorem cT {o:Operand}{p q:Code} (hb:ev L o=some (.bool true)) (k:Go.Sim.C x p Q H M L):Go.Sim.C x (.cond o p q) Q H M L:=bP hb (fun _=>k) (fun h=>Bool.noConfusion h)
theorem cF {o:Operand}{p q:Code} (hb:ev L o=some (.bool false)) (k:Go.Sim.C x q Q H M L):Go.Sim.C x (.cond o p q) Q H M L:=bP hb (fun h=>Bool.noConfusion h) (fun _=>k)
end
theorem sb {a b:Bool} (h:a=b):some (Value.bool a)=some (Value.bool b):=by rw [h]
theorem mQ:(∀ b,(b && true)=b)∧(∀ b,(true && b)=b)∧(∀ b,(false && b)=false)∧(∀ b,(b && false)=false)∧(∀ b,(b || true)=true)∧(∀ b,(true || b)=true)∧(∀ b,(b || false)=b)∧(∀ b,(false || b)=b)∧(!true)=false∧(!false)=true:=by
 refine ⟨?_,?_,?_,?_,?_,?_,?_,?_,rfl,rfl⟩ <;> intro b <;> cases b <;> rfl
section
variable {x:Cx}{ops:Array Oper}{Q:kF}{rest:List Oper}{H:Hp}{M:List bQ}{L:Env}{d:Nat}{ty:TypeId}{pos:String}{aft:Array Edge}{g:Option (Nat×Bool)}
theorem lo {T b i U:Nat}{fz:Nat×Nat}{y:Operand}{l:List Value}{v:Value} (hT:∀ w,(isAgg T).run x.P w=.ok false w) (hy:ev L y=some (.pointer (some ⟨b,i,none⟩))) (hm:bQ.obj b (.cells l.toArray U fz) ∈ M) (hc:l[i]? = some v)
  (k:W x ops Q rest H M ((d,v)::L)) (hg:gd ops L ⟨some d,.load T y,ty,pos,aft,g⟩=some true:=by rfl) (hN:Nat.blt d x.N=true:=by rfl):W x ops Q (⟨some d,.load T y,ty,pos,aft,g⟩::rest) H M L:=
 aI hg hN hT hy (bR hm hc) k
theorem la {T b U n:Nat}{fz:Nat×Nat}{y:Operand}{l:List Value} (hT:∀ w,(isAgg T).run x.P w=.ok true w) (hn:∀ w,(sizeOf T).run x.P w=.ok n w) (hy:ev L y=some (.pointer (some ⟨b,0,none⟩))) (hm:bQ.obj b (.cells l.toArray U fz) ∈ M) (hl:l.length=n)
  (k:W x ops Q rest H M ((d,.agg l.toArray)::L)) (hg:gd ops L ⟨some d,.load T y,ty,pos,aft,g⟩=some true:=by rfl) (hN:Nat.blt d x.N=true:=by rfl):W x ops Q (⟨some d,.load T y,ty,pos,aft,g⟩::rest) H M L:=
 aU hg hN hT hn hy (eL hm) hl k
theorem fi {T:TypeId}{y:Operand}{ad:Addr}{f n:Nat}{fs:Array Field}{fd:Field} (o:Nat) (hT:∀ w,(underlying T).run x.P w=.ok (.struct fs) w) (hf:fs[f]? = some fd) (hn:∀ w,(sizeOf fd.type).run x.P w=.ok n w) (hy:ev L y=some (.pointer (some ad)))
  (k:W x ops Q rest H M ((d,.pointer (some (ad.add o)))::L)) (ho:fd.offset=o:=by rfl) (hn0:Nat.beq n 0=false:=by rfl) (hg:gd ops L ⟨some d,.fieldAddr T y f,ty,pos,aft,g⟩=some true:=by rfl) (hN:Nat.blt d x.N=true:=by rfl):
  W x ops Q (⟨some d,.fieldAddr T y f,ty,pos,aft,g⟩::rest) H M L:=qt hg hN hT hf hn hn0 ho hy k
end
end Go.Sim
namespace Go.Proofs
open Go.Shelf
open _root_.Go.IntKind (i64 u64 u32 u8)
def Tryz.yo:Go.Shelf.Ren:=⟨fun | 283=>182 | n=>n,fun | 3=>3 | 9=>9 | 4=>4 | n=>n,fun | n=>n⟩
theorem Tryz.D_:Go.Proofs.Lays.n283 Tryz.prog Tryz.yo:={
 mixed:=by kernel_rfl
 f283:=Tryz.func182.trans (congrArg some (by kernel_rfl))
 t3:=Tryz.underlying3
 a3:=Tryz.isAgg3
 z3:=Tryz.sizeOf3
 v3:=Tryz.zeroValue3
 t4:=Tryz.underlying4
 a4:=Tryz.isAgg4
 z4:=Tryz.sizeOf4
 v4:=Tryz.zeroValue4
 t9:=Tryz.underlying9
 a9:=Tryz.isAgg9
 z9:=Tryz.sizeOf9
 v9:=Tryz.zeroValue9 }
open Go.Lib in
theorem Tryz.internal_strconv_small (i:Nat) (h:i<100) (w:World):
  Calls Tryz.prog 182 #[.int .i64 i] w fun e w'=>e=.returned (.string ⟨(Lib.decDigits i).toArray⟩)∧w'=w:=Any.internal_strconv_small Tryz.D_ i h w
def Tryz.xi:Go.Shelf.Ren:=⟨fun | 284=>183 | 129=>99 | 317=>192 | 318=>193 | n=>n,fun | 53=>168 | 3=>3 | 212=>269 | 0=>0 | 4=>4 | 46=>112 | 5=>5 | 9=>9 | n=>n,fun | 17=>3 | n=>n⟩
theorem Tryz.CO:Go.Proofs.LaysM.n284 Tryz.prog Tryz.xi:={
 mixed:=by kernel_rfl
 f129:=Tryz.func99.trans (congrArg some (by kernel_rfl))
 f284:=Tryz.func183.trans (congrArg some (by kernel_rfl))
 f317:=Tryz.func192.trans (congrArg some (by kernel_rfl))
 f318:=Tryz.func193.trans (congrArg some (by kernel_rfl))
 t0:=Tryz.underlying0
 a0:=Tryz.isAgg0
 z0:=Tryz.sizeOf0
 v0:=Tryz.zeroValue0
 t3:=Tryz.underlying3
 a3:=Tryz.isAgg3
 z3:=Tryz.sizeOf3
 v3:=Tryz.zeroValue3
 t4:=Tryz.underlying4
 a4:=Tryz.isAgg4
 z4:=Tryz.sizeOf4
 v4:=Tryz.zeroValue4
 t5:=Tryz.underlying5
 a5:=Tryz.isAgg5
 z5:=Tryz.sizeOf5
 v5:=Tryz.zeroValue5
 t9:=Tryz.underlying9
 a9:=Tryz.isAgg9
 z9:=Tryz.sizeOf9
 v9:=Tryz.zeroValue9
 t46:=Tryz.underlying112
 a46:=Tryz.isAgg112
 z46:=Tryz.sizeOf112
 v46:=Tryz.zeroValue112
 t53:=Tryz.underlying168
 a53:=Tryz.isAgg168
 z53:=Tryz.sizeOf168
 v53:=Tryz.zeroValue168
 t212:=Tryz.underlying269
 a212:=Tryz.isAgg269
 z212:=Tryz.sizeOf269
 v212:=Tryz.zeroValue269
 g17:=by kernel_rfl
 i0:=by kernel_rfl
 i3:=by kernel_rfl
 i4:=by kernel_rfl
 i5:=by kernel_rfl
 i9:=by kernel_rfl
 i46:=by kernel_rfl
 i53:=by kernel_rfl
 i212:=by kernel_rfl
 m17:=by kernel_rfl }
open Go.Lib in
theorem Tryz.internal_strconv_numDigits (u:Nat) (h1:1≤u) (h2:u<18446744073709551616) (w:World) (htab:Lib.TabIs Tryz.prog w "internal/strconv.uint64pow10" .u64 Lib.pow10Tab):
  Calls Tryz.prog 183 #[.int .u64 u] w fun e w'=>e=.returned (.int .i64 (Lib.nDigits u))∧w'=w:=Any.internal_strconv_numDigits Tryz.CO u h1 h2 w htab
def Tryz.yp:Go.Shelf.Ren:=⟨fun | 285=>184 | n=>n,fun | 37=>175 | 53=>168 | 3=>3 | 4=>4 | 51=>166 | 9=>9 | 5=>5 | 0=>0 | n=>n,fun | n=>n⟩
theorem Tryz.Ea:Go.Proofs.Lays.n285 Tryz.prog Tryz.yp:={
 mixed:=by kernel_rfl
 f285:=Tryz.func184.trans (congrArg some (by kernel_rfl))
 t0:=Tryz.underlying0
 a0:=Tryz.isAgg0
 z0:=Tryz.sizeOf0
 v0:=Tryz.zeroValue0
 t3:=Tryz.underlying3
 a3:=Tryz.isAgg3
 z3:=Tryz.sizeOf3
 v3:=Tryz.zeroValue3
 t4:=Tryz.underlying4
 a4:=Tryz.isAgg4
 z4:=Tryz.sizeOf4
 v4:=Tryz.zeroValue4
 t5:=Tryz.underlying5
 a5:=Tryz.isAgg5
 z5:=Tryz.sizeOf5
 v5:=Tryz.zeroValue5
 t9:=Tryz.underlying9
 a9:=Tryz.isAgg9
 z9:=Tryz.sizeOf9
 v9:=Tryz.zeroValue9
 t37:=Tryz.underlying175
 a37:=Tryz.isAgg175
 z37:=Tryz.sizeOf175
 v37:=Tryz.zeroValue175
 t51:=Tryz.underlying166
 a51:=Tryz.isAgg166
 z51:=Tryz.sizeOf166
 v51:=Tryz.zeroValue166
 t53:=Tryz.underlying168
 a53:=Tryz.isAgg168
 z53:=Tryz.sizeOf168
 v53:=Tryz.zeroValue168 }
open Go.RowKit Go.Sort Go.Lib in
theorem Tryz.internal_strconv_formatBase10 (blk off cap:Nat) (u:Nat) (d:Array UInt8) (w:World) (hH:Holds (fun (b:UInt8)=>Value.int .u8 (b.toNat:Int)) w blk off d) (hu:u<10 ^ d.size) (hu64:u<18446744073709551616) (hsz:d.size<4611686018427387904):
  Calls Tryz.prog 184 #[.slice (some ⟨blk,off,none⟩) d.size cap,.int .u64 u] w fun e w'=>
   e=.returned (.tuple #[])∧∃ (n v':Nat) (dk:Array UInt8),w'=(putRow (fun (b:UInt8)=>Value.int .u8 (b.toNat:Int)) w blk off dk).drewN n∧FmtInv d.size u 0 v' dk:=Any.internal_strconv_formatBase10 Tryz.Ea blk off cap u d w hH hu hu64 hsz
def Tryz.yq:Go.Shelf.Ren:=⟨fun | 287=>156 | 321=>174 | 322=>175 | n=>n,fun | 9=>9 | 3=>3 | 53=>168 | 75=>200 | 4=>4 | 167=>247 | 5=>5 | 46=>112 | 37=>175 | 0=>0 | 21=>21 | 80=>225 | n=>n,fun | n=>n⟩
theorem Tryz.Eb:Go.Proofs.Lays.n287 Tryz.prog Tryz.yq:={
 mixed:=by kernel_rfl
 f287:=Tryz.func156.trans (congrArg some (by kernel_rfl))
 f321:=Tryz.func174.trans (congrArg some (by kernel_rfl))
 f322:=Tryz.func175.trans (congrArg some (by kernel_rfl))
 t0:=Tryz.underlying0
 a0:=Tryz.isAgg0
 z0:=Tryz.sizeOf0
 v0:=Tryz.zeroValue0
 t3:=Tryz.underlying3
 a3:=Tryz.isAgg3
 z3:=Tryz.sizeOf3
 v3:=Tryz.zeroValue3
 t4:=Tryz.underlying4
 a4:=Tryz.isAgg4
 z4:=Tryz.sizeOf4
 v4:=Tryz.zeroValue4
 t5:=Tryz.underlying5
 a5:=Tryz.isAgg5
 z5:=Tryz.sizeOf5
 v5:=Tryz.zeroValue5
 t9:=Tryz.underlying9
 a9:=Tryz.isAgg9
 z9:=Tryz.sizeOf9
 v9:=Tryz.zeroValue9
 t21:=Tryz.underlying21
 a21:=Tryz.isAgg21
 z21:=Tryz.sizeOf21
 v21:=Tryz.zeroValue21
 t37:=Tryz.underlying175
 a37:=Tryz.isAgg175
 z37:=Tryz.sizeOf175
 v37:=Tryz.zeroValue175
 t46:=Tryz.underlying112
 a46:=Tryz.isAgg112
 z46:=Tryz.sizeOf112
 v46:=Tryz.zeroValue112
 t53:=Tryz.underlying168
 a53:=Tryz.isAgg168
 z53:=Tryz.sizeOf168
 v53:=Tryz.zeroValue168
 t75:=Tryz.underlying200
 a75:=Tryz.isAgg200
 z75:=Tryz.sizeOf200
 v75:=Tryz.zeroValue200
 t167:=Tryz.underlying247
 a167:=Tryz.isAgg247
 z167:=Tryz.sizeOf247
 v167:=Tryz.zeroValue247 }
open Go.RowKit in
theorem Tryz.internal_strconv_ParseUint_10_b32 (t:ByteArray) (hne:t.size≠0) (hmax:t.size≤9223372036854775806) (w:World):
  Calls Tryz.prog 156 #[.string t,.int .i64 10,.int .i64 32] w fun e w'=>e=.returned (Lib.uintTupleM 247 4294967295 (Lib.parseUintM 4294967295 0 t.data.toList))∧w'=Lib.bytesWorld w 5 t:=Any.internal_strconv_ParseUint_10_b32 Tryz.Eb t hne hmax w
end Go.Proofs
namespace Go.Sim
open Go Go.Proofs.Tryz
open _root_.Go.IntKind (i64 u64 u32 u8)
set_option maxRecDepth 100000
set_option maxHeartbeats 4000000
theorem fm:Proofs.Tryz.prog.follows .mixedOrders=true:=by kernel_rfl
theorem z_.mixed:Proofs.Tryz.prog.follows .mixedOrders=true:=fm
class cP (B:Nat) (w0:World):Prop where
 lt:6≤B
 e1:∃ T p,w0.var? Proofs.Tryz.prog "strconv.ErrSyntax" = some #[.iface T p]
 e2:∃ T p,w0.var? Proofs.Tryz.prog "strconv.ErrRange" = some #[.iface T p]
 t3:Lib.TabIs Proofs.Tryz.prog w0 "internal/strconv.uint64pow10" .u64 F3
 t4:Lib.TabIs Proofs.Tryz.prog w0 "math/bits.deBruijn32tab" .u8 Gn
 t5:Lib.TabIs Proofs.Tryz.prog w0 "math/bits.deBruijn64tab" .u8 Gp
theorem cP.below {B:Nat}{w0:World}[h:cP B w0] {g:Nat} (hg:Nat.blt g 6=true):g<B:=by
 have:=h.lt;have:g<6:=by simpa [ID] using hg
 omega
theorem GF:Proofs.Tryz.prog.globalNamed "strconv.ErrSyntax" = some 1:=by kernel_rfl
theorem GG:Proofs.Tryz.prog.globalNamed "strconv.ErrRange" = some 2:=by kernel_rfl
theorem GB:Proofs.Tryz.prog.globalNamed "internal/strconv.uint64pow10" = some 3:=by kernel_rfl
theorem GH:Proofs.Tryz.prog.globalNamed "math/bits.deBruijn32tab" = some 4:=by kernel_rfl
theorem GC:Proofs.Tryz.prog.globalNamed "math/bits.deBruijn64tab" = some 5:=by kernel_rfl
theorem rL {B:Nat}{w0 w:World}[cP B w0] {H:Hp}{M:List bQ}{p0_n:aD}{v0 v1 v2 v3 v4 v5:Value}{r:aD} (hm:lq p0_n=some r) (h0:aH H v0 p0_n.bJ) (h1:aH H v1 p0_n.bM) (h2:aH H v2 p0_n.aK) (h3:aH H v3 p0_n.dR) (h4:aH H v4 p0_n.cC) (h5:aH H v5 p0_n.bZ) (ht:St B w0 H (M) w):
    Calls prog 6 [.agg [v0,v1,v2,v3,v4,v5].toArray].toArray w (eV B w0 fun H' M' v=>H.le H'∧∃ qv0 qv1 qv2 qv3 qv4 qv5:Value,M=M'∧.agg [qv0,qv1,qv2,qv3,qv4,qv5].toArray=v∧aH H' qv0 r.bJ∧aH H' qv1 r.bM∧aH H' qv2 r.aK∧aH H' qv3 r.dR∧aH H' qv4 r.cC∧aH H' qv5 r.bZ):=by
 unfold lq at hm;refine enter func6 G G G ht (gs ?_);refine dD (cs:=[v0,v1,v2,v3,v4,v5]) G G G G (fun a4=>?_);refine bL (cs:=[.slice none 0 0,.slice none 0 0,.slice none 0 0,.slice none 0 0,.slice none 0 0,.slice none 0 0]) G G Kl G (fun a5=>?_);refine gs ?_;refine fi 4 Hl G J0 G ?_;refine lo KX G (.tail _ (.head _)) G ?_;refine fi 4 Hl G J0 G ?_;refine lo KX G (.tail _ (.head _)) G ?_;refine bA G G Ik G h4 (BZ G G G G ?_);obtain ⟨a6,hm⟩:=aV hm;refine rT (α:=aN) (l:=0) (h:=(min (p0_n.cC.length:Int) 4:Int).toNat) (xs:=p0_n.cC) G G Ik I3 G h4 (by omega) (by omega) (.inl G) (fun cap hcap=>by rw [Hi G]; exact (.inl ⟨G,G⟩)) (fun m hmm=>(.inr ⟨_,_,_,G,G,by omega,by omega,G⟩)) (.inl ⟨G,G⟩) ?_
 intro a0 a2 a7;refine fi 4 Hl G J0 G ?_;refine a_ (.swap _ _ _) (aL (cs:=[a0]) (out:=[v0,v1,v2,v3,a0,v5]) G J0 G G (aH.cells a2) G G (G2 (aH.bW a2) He) G (gs ?_));refine fi 3 Hl G K7 G ?_;refine lo L6 G (.head _) G ?_;refine fi 3 Hl G K7 G ?_;refine lo L6 G (.head _) G ?_;refine bA G G Je G h3 (BZ G G G G ?_);obtain ⟨a8,hm⟩:=aV hm;refine rT (α:=cU) (l:=0) (h:=(min (p0_n.dR.length:Int) 4:Int).toNat) (xs:=p0_n.dR) G G Je J4 G h3 (by omega) (by omega) (.inl G) (fun cap hcap=>by rw [Hi G]; exact (.inl ⟨G,G⟩)) (fun m hmm=>(.inr ⟨_,_,_,G,G,by omega,by omega,G⟩)) (.inl ⟨G,G⟩) ?_
 intro a1 a3 a9;refine fi 3 Hl G K7 G ?_;refine aL (cs:=[a1]) (out:=[v0,v1,v2,a1,a0,v5]) G K7 G G (aH.cells a3) G G (G2 (aH.bW a3) He) G (gs ?_);refine la It H7 G (.head _) G ?_;refine a_ (.swap _ _ _) (aL (cs:=[v0,v1,v2,a1,a0,v5]) (out:=[v0,v1,v2,a1,a0,v5]) G H7 G G G G G (G2 (aH.bW h0) (G2 (aH.bW h1) (G2 (aH.bW h2) (G2 (aH.bW a3) (G2 (aH.bW a2) (G2 (aH.bW h5) He)))))) (aM G) (go ?_));obtain rfl:=G3 hm;exact gR (G5 _) G (eI.agg G It H7 (.head _) G) (.cons _ (.cons _ (.refl _))) (.refl _) ⟨(G5 _),v0,v1,v2,a1,a0,v5,G,G,h0,h1,h2,a3,a2,h5⟩
theorem tI {B:Nat}{w0 w:World}[cP B w0] {H:Hp}{M:List bQ}{p0_s:ByteArray}{r:Bool} (hm:cM p0_s=some r) (ht:St B w0 H (M) w):
    Calls prog 64 [.string (p0_s)].toArray w (eV B w0 fun H' M' v=>H=H'∧M=M'∧.bool (r)=v):=by
 unfold cM at hm;refine enter func64 G G G ht (gs ?_);refine gs ?_;refine gs ?_;obtain ⟨am,hm⟩:=aV hm;refine uv G G Ib Ku Mk G am ?_;intro ac an ad a5;refine bA G G Ku G a5 (go ?_);refine aG ?_;obtain ⟨ae,ao,ap,hm⟩:=dB hm;refine mA (fun n H' M' L'=>∃ (a0:Nat) (a6:List U8),(fZ p0_s).drop a0=a6∧a6.length=n∧ae a0 a6 ()=some r∧an.le H'∧M=M'∧[(0,.string (p0_s)),(6,ac),(7,.int .i64 (((fZ p0_s).length:Int))),(8,.int .i64 ((a0:Int)))]=L') _ ⟨0,_,G,G,hm,(G5 _),G,G⟩ ?_;rintro _ af _ _ ⟨a0,a6,ag,rfl,hm,a4,rfl,rfl⟩;refine gs ?_;refine gs ?_;refine bP G (fun a8=>?_) (fun a8=>?_);obtain ⟨a1,ah,rfl,a9,aq⟩:=gG ag a8;have hm:=(ao _ _ _ _).symm.trans hm;generalize ar:ae (a0+1) ah=aw at hm;unfold nJ at hm;refine gs ?_;refine aG ?_;refine gs ?_;obtain ⟨_,rfl,au⟩:=(a5).elem a9
 refine aX G G Ku sizeOf5 G (a5.mono a4) G (Hr _) a9 (aI G G isAgg5 G (b_.one (au.mono a4) 0 G).at (go ?_));refine bH (fun H' M' L'=>af=H'∧M=M'∧[(0,.string (p0_s)),(6,ac),(7,.int .i64 (((fZ p0_s).length:Int))),(8,.int .i64 ((a0:Int))),(31,.bool (!(((decide (65≤a1.n)) && (decide (a1.n≤90))) || (((decide (0<(a0:Int))) && (decide (48≤a1.n))) && (decide (a1.n≤57))))))]=L') ?_ (fun a2=>?_);rintro _ _ _ ⟨rfl,rfl,rfl⟩;refine cd hm G (fun av hm=>?_) (fun av hm=>?_);refine gs ?_;refine go ?_;obtain rfl:=G3 hm;refine aR (G1 ad a4) ?_;exact cA G G ⟨G,G,G⟩;refine eF (aJ (aS ?_));refine gj ?_;exact kj (bY (Hf _) ⟨a0+1,ah,aq,G,((HD ar _).trans hm),a4,G,G⟩) ⟨G,G,G,(Ht (fun z=>some (Value.int .i64 z)) (cN a9 ((a5.mono a4)).dG)),G6⟩;refine go ?_;cases a3:(decide (65≤a1.n))
 refine go ?_;cases aa:(decide (0<(a0:Int)));refine go ?_;refine mS G G G G (gj ?_);exact kj (a2 _ _ _ ⟨G,G,G⟩) ⟨G,G,G,G,(by exact sb (by first | rfl | simp only [a3,aa,mQ])),G6⟩
 refine go ?_;cases ai:(decide (48≤a1.n));refine go ?_;refine mS G G G G (gj ?_);exact kj (a2 _ _ _ ⟨G,G,G⟩) ⟨G,G,G,G,(by exact sb (by first | rfl | simp only [a3,aa,ai,mQ])),G6⟩
 refine go ?_;refine mS G G G G (gj ?_);exact kj (a2 _ _ _ ⟨G,G,G⟩) ⟨G,G,G,G,(by exact sb (by first | rfl | simp only [a3,aa,ai,mQ])),G6⟩
 refine go ?_;cases a7:(decide (a1.n≤90));refine go ?_;cases ab:(decide (0<(a0:Int)));refine go ?_;refine mS G G G G (gj ?_);exact kj (a2 _ _ _ ⟨G,G,G⟩) ⟨G,G,G,G,(by exact sb (by first | rfl | simp only [a3,a7,ab,mQ])),G6⟩
 refine go ?_;cases aj:(decide (48≤a1.n));refine go ?_;refine mS G G G G (gj ?_);exact kj (a2 _ _ _ ⟨G,G,G⟩) ⟨G,G,G,G,(by exact sb (by first | rfl | simp only [a3,a7,ab,aj,mQ])),G6⟩
 refine go ?_;refine mS G G G G (gj ?_);exact kj (a2 _ _ _ ⟨G,G,G⟩) ⟨G,G,G,G,(by exact sb (by first | rfl | simp only [a3,a7,ab,aj,mQ])),G6⟩
 refine go ?_;refine mS G G G G (gj ?_);exact kj (a2 _ _ _ ⟨G,G,G⟩) ⟨G,G,G,G,(by exact sb (by first | rfl | simp only [a3,a7,mQ])),G6⟩
 obtain rfl:=gF ag a8;have hm:=(ap _ _).symm.trans hm;refine go ?_;refine bH (fun H' M' L'=>af=H'∧M=M'∧[(2,.bool ((decide (1≤(p0_s.size:Int))) && (decide ((p0_s.size:Int)≤8))))]=L') ?_ (fun ak=>?_);rintro _ _ _ ⟨rfl,rfl,rfl⟩;refine go ?_;obtain rfl:=G3 hm;refine aR (G1 ad a4) ?_;exact cA G G ⟨G,G,G⟩;refine go ?_;refine iB G G Ib G (go ?_);cases al:(decide (1≤(p0_s.size:Int)));refine gj ?_;exact kj (ak _ _ _ ⟨G,G,G⟩) ⟨(by exact sb (by first | rfl | simp only [al,mQ])),G6⟩
 refine go ?_;refine iB G G Ib G (gj ?_);exact kj (ak _ _ _ ⟨G,G,G⟩) ⟨(by exact sb (by first | rfl | simp only [al,mQ])),G6⟩
theorem bU {B:Nat}{w0 w:World}[cP B w0] {H:Hp}{M:List bQ}{p0_s:(List ByteArray)}{p1_v:ByteArray}{v0:Value}{r:Int} (hm:bC p0_s p1_v=some r) (h0:aH H v0 p0_s) (ht:St B w0 H (M) w):
    Calls prog 38 [v0,.string (p1_v)].toArray w (eV B w0 fun H' M' v=>H=H'∧M=M'∧.int .i64 (r)=v):=by
 unfold bC at hm;refine enter func38 G G G ht (gs ?_);refine gs ?_;refine gs ?_;refine bA G G HE G h0 (go ?_);refine aG ?_;obtain ⟨a4,a8,a9,hm⟩:=ke hm;refine mA (fun n H' M' L'=>∃ (a0:Nat) (a2:Nat),a0+a2=((p0_s.length:Int):Int).toNat∧a2=n∧a4 a2 a0 ()=some r∧H.le H'∧M=M'∧[(0,v0),(1,.string (p1_v)),(7,.int .i64 ((p0_s.length:Int))),(8,.int .i64 ((a0:Int)))]=L') _ ⟨0,_,H4 _,G,hm,(G5 _),G,G⟩ ?_;rintro _ ag _ _ ⟨a0,a2,a5,rfl,hm,a1,rfl,rfl⟩;refine gs ?_;refine gs ?_;refine bP G (fun a3=>?_) (fun a3=>?_);obtain ⟨a6,rfl,aa,ab⟩:=lR a5 a3;have hm:=(a8 _ _ _).symm.trans hm;generalize ac:a4 a6 (a0+1)=ah at hm;unfold iS at hm;refine gs ?_;refine aG ?_;refine gs ?_;refine gs ?_;obtain ⟨ai,ad,a7,hm⟩:=aE hm;obtain ⟨_,rfl,ae⟩:=(h0).elem a7;refine aX G G HE Ii G (h0.mono a1) G ad a7 (aI G G IW G (b_.one (ae.mono a1) 0 G).at (go ?_))
 refine cd hm G (fun af hm=>?_) (fun af hm=>?_);refine gs ?_;refine go ?_;obtain rfl:=G3 hm;refine aR a1 ?_;exact cA G G ⟨G,G,G⟩;refine eF (aJ (aS ?_));refine gj ?_;exact kj (bY (Hf _) ⟨a0+1,a6,aa,G,((HD ac _).trans hm),a1,G,G⟩) ⟨G,G,G,(Ht (fun z=>some (Value.int .i64 z)) (f_ ab (gB (mh (h0).dG)))),G6⟩;obtain rfl:=lQ a5 a3;have hm:=(a9 _ _).symm.trans hm;refine gs ?_;refine go ?_;obtain rfl:=G3 hm;refine aR a1 ?_;exact cA G G ⟨G,G,G⟩
theorem fB {B:Nat}{w0 w:World}[cP B w0] {H:Hp}{M:List bQ}{p0_s:(List ByteArray)}{p1_v:ByteArray}{v0:Value}{r:Bool} (hm:cK p0_s p1_v=some r) (h0:aH H v0 p0_s) (ht:St B w0 H (M) w):
    Calls prog 14 [v0,.string (p1_v)].toArray w (eV B w0 fun H' M' v=>H=H'∧M=M'∧.bool (r)=v):=by
 unfold cK at hm;refine enter func14 G G G ht (gs ?_);refine gs ?_;obtain ⟨a1,a0,hm⟩:=bind_some hm;refine aC Ly G G G (fun w ht=>(bU (hm:=a0) h0 ht :)) ?_;rintro _ _ _ ⟨rfl,rfl,rfl⟩;refine go ?_;obtain rfl:=G3 hm;refine aR (G5 _) ?_;exact cA G G ⟨G,G,G⟩
theorem eH {B:Nat}{w0 w:World}[cP B w0] {H:Hp}{M:List bQ}{p0_c:aT}{name:ByteArray}{nodes:(List ByteArray)}{b0:Nat}{es0:Array MapEntry}{c0:Nat}{v0 v1:Value}{r:Int×aT} (hm:bX p0_c name nodes=some r) (h0:nQ es0 c0 p0_c.seen) (h1:aH H v0 p0_c.nodes) (h2:aH H v1 nodes) (ht:St B w0 H (.obj b0 (.map es0 c0)::M) w):
    Calls prog 33 [.agg [.map (some b0),v0].toArray,.string (name),v1].toArray w (eV B w0 fun H' M' v=>H.le H'∧∃ qes0:Array MapEntry,∃ qc0:Nat,∃ qv0:Value,.obj b0 (.map qes0 qc0)::M=M'∧.int .i64 (r.1)=v∧nQ qes0 qc0 r.2.seen∧aH H' qv0 r.2.nodes):=by
 unfold bX at hm;refine enter func33 G G G ht (gs ?_);refine dD (cs:=[.map (some b0),v0]) G G G G (fun aa=>?_);refine gs ?_;refine aG ?_;refine gs ?_;obtain ⟨b1,ah,hm⟩:=bind_some hm;refine aC call64 G G G (fun w ht=>(tI (hm:=ah)  ht :)) ?_;rintro _ _ _ ⟨rfl,rfl,rfl⟩;refine mS G G G G (go ?_);refine cd hm G (fun ai hm=>?_) (fun ai hm=>?_);refine gs ?_;refine go ?_;obtain rfl:=G3 hm;refine aP (.cons _ (.refl _)) ?_;exact cA G G ⟨(G5 _),es0,c0,v0,G,G,h0,h1⟩;refine gs ?_;refine fi 0 Ma G sizeOf75 G ?_;refine lo isAgg75 G (.head _) G (go ?_);refine u4 (z:=false) (k:=name) (.tail _ (.head _)) h0 G G runUnderlying75 Ib zeroValue4 G G G G (go ?_);refine cd hm G (fun aj hm=>?_) (fun aj hm=>?_);refine gs ?_;refine go ?_;obtain rfl:=G3 hm;refine aP (.cons _ (.refl _)) ?_;exact cA G G ⟨(G5 _),es0,c0,v0,G,G,h0,h1⟩
 refine gs ?_;refine fi 0 Ma G sizeOf75 G ?_;refine lo isAgg75 G (.head _) G (go ?_);refine a_ (.swap _ _ _) (rR (k:=name) (v:=true) h0 G runUnderlying75 Ib G G G G G ?_);intro a2 a3 a4;refine gs ?_;refine gs ?_;refine bA G G HE G h2 (go ?_);refine aG ?_;obtain ⟨ab,ak,al,hm⟩:=dB hm;refine mA (fun n H' M' L'=>∃ (a1:Nat) (a5:List ByteArray),(nodes).drop a1=a5∧a5.length=n∧ab a1 a5 ()=some r∧H.le H'∧.obj b0 (.map a2 a3)::.obj aa (.cells [.map (some b0),v0].toArray 77 (0,0))::M=M'∧[(2,v1),(3,.pointer (some ⟨aa,0,none⟩)),(21,v1),(22,.int .i64 ((nodes.length:Int))),(23,.int .i64 ((a1:Int)))]=L') _ ⟨0,_,G,G,hm,(G5 _),G,G⟩ ?_;rintro _ b2 _ _ ⟨a1,a5,ac,rfl,hm,a0,rfl,rfl⟩;refine gs ?_;refine gs ?_;refine bP G (fun a8=>?_) (fun a8=>?_);obtain ⟨b3,ad,rfl,a9,am⟩:=gG ac a8;have hm:=(ak _ _ _ _).symm.trans hm
 generalize an:ab (a1+1) ad=b4 at hm;unfold eZ at hm;refine gs ?_;refine aG ?_;refine gs ?_;obtain ⟨_,rfl,ao⟩:=(h2).elem a9;refine aX G G HE Ii G (h2.mono a0) G (Hr _) a9 (aI G G IW G (b_.one (ao.mono a0) 0 G).at (gs ?_));refine fi 1 Ma G JM G ?_;refine lo JX G (.tail _ (.head _)) G (go ?_);obtain ⟨b5,ap,hm⟩:=bind_some hm;refine aC call14 G G G (fun w ht=>(fB (hm:=ap) (h1.mono a0) ht :)) ?_;rintro _ _ _ ⟨rfl,rfl,rfl⟩;refine mS G G G G (go ?_);refine cd hm G (fun aq hm=>?_) (fun aq hm=>?_);refine gs ?_;refine go ?_;obtain rfl:=G3 hm;refine aP (.cons_cons _ (.cons _ (.refl _))) ?_;exact cA G G ⟨a0,a2,a3,v0,G,G,a4,(h1.mono a0)⟩;refine eF (aJ (aS ?_));refine gj ?_;exact kj (bY (Hf _) ⟨a1+1,ad,am,G,((HD an _).trans hm),a0,G,G⟩) ⟨G,G,G,G,(Ht (fun z=>some (Value.int .i64 z)) (cN a9 ((h2.mono a0)).dG)),G6⟩
 obtain rfl:=gF ac a8;have hm:=(al _ _).symm.trans hm;refine gs ?_;refine gs ?_;cases a6:(decide ((nodes.length:Int)=2));have hm:=eJ a6 hm;refine oz fm 10 [ph v1,ph (.int .i64 ((nodes.length:Int))),ph (.bool (false)),ph (.bool (false)),ph undef,ph undef,ph undef,ph undef,ph undef,ph undef] ⟨om,?_,?_,om,om,om,om,om,om,om,G6⟩ ?_;rintro HX hX X Rest hR _ _ ⟨rfl,rfl⟩ hU hUp;refine bA G G HE G ((h2.mono a0).mono hX) ?_;exact o0 ⟨G,G⟩;rintro HX hX X Rest hR _ _ ⟨rfl,rfl⟩ hU hUp;refine wo ?_;exact o0 ⟨G,(by first | rfl | (rw [a6]; try rfl))⟩
 intro b6 ae;refine dz ?_;refine go ?_;refine cF G (gs ?_);refine go ?_;obtain rfl:=G3 hm;refine aP (.cons_cons _ (.cons _ (.refl _))) ?_;exact cA G G ⟨(G1 a0 ae),a2,a3,v0,G,G,a4,((h1.mono a0).mono ae)⟩;have hm:=eK a6 hm;obtain ⟨ar,au,af,hm⟩:=aE hm;obtain ⟨_,rfl,av⟩:=(h2).elem af;obtain ⟨aw,ax,ag,hm⟩:=aE hm;obtain ⟨_,rfl,ay⟩:=(h2).elem ag;refine oz fm 10 [ph v1,ph (.int .i64 ((nodes.length:Int))),ph (.bool (true)),ph (.bool (true)),ph v1,ph (.pointer (some ((Value.base (v1)).add ((0:Int).toNat*1)))),ph (.string (ar)),ph v1,ph (.pointer (some ((Value.base (v1)).add ((1:Int).toNat*1)))),ph (.string (aw))] ⟨om,?_,?_,om,om,?_,?_,om,?_,?_,G6⟩ ?_;rintro HX hX X Rest hR _ _ ⟨rfl,rfl⟩ hU hUp;refine bA G G HE G ((h2.mono a0).mono hX) ?_;exact o0 ⟨G,G⟩;rintro HX hX X Rest hR _ _ ⟨rfl,rfl⟩ hU hUp;refine wo ?_
 exact o0 ⟨G,(by first | rfl | (rw [a6]; try rfl))⟩
 rintro HX hX X Rest hR _ _ ⟨rfl,rfl⟩ _ _ ⟨rfl,rfl⟩ hU hUp;refine aX G G HE Ii G ((h2.mono a0).mono hX) G au af ?_;exact o0 ⟨G,G⟩;rintro HX hX X Rest hR _ _ ⟨rfl,rfl⟩ _ _ ⟨rfl,rfl⟩ hU hUp;refine aI G G IW G (b_.one ((av.mono a0).mono hX) 0 G).at ?_;exact o0 ⟨G,G⟩;rintro HX hX X Rest hR _ _ ⟨rfl,rfl⟩ _ _ ⟨rfl,rfl⟩ hU hUp;refine aX G G HE Ii G ((h2.mono a0).mono hX) G ax ag ?_;exact o0 ⟨G,G⟩;rintro HX hX X Rest hR _ _ ⟨rfl,rfl⟩ _ _ ⟨rfl,rfl⟩ hU hUp;refine aI G G IW G (b_.one ((ay.mono a0).mono hX) 0 G).at ?_;exact o0 ⟨G,G⟩;intro b7 a7;refine dz ?_;refine go ?_;refine cd hm G (fun az hm=>?_) (fun az hm=>?_);refine gs ?_;refine go ?_;obtain rfl:=G3 hm;refine aP (.cons_cons _ (.cons _ (.refl _))) ?_;exact cA G G ⟨(G1 a0 a7),a2,a3,v0,G,G,a4,((h1.mono a0).mono a7)⟩;refine gs ?_;refine go ?_;obtain rfl:=G3 hm
 refine aP (.cons_cons _ (.cons _ (.refl _))) ?_;exact cA G G ⟨(G1 a0 a7),a2,a3,v0,G,G,a4,((h1.mono a0).mono a7)⟩
theorem gY {B:Nat}{w0 w:World}[cP B w0] {H:Hp}{M:List bQ}{p0_n p1_low p2_high:Int}{r:Bool} (hm:bK p0_n p1_low p2_high=r) (ht:St B w0 H (M) w):
    Calls prog 65 [.int .i64 (p0_n),.int .i64 (p1_low),.int .i64 (p2_high)].toArray w (eV B w0 fun H' M' v=>H=H'∧M=M'∧.bool (r)=v):=by
 unfold bK at hm;refine enter func65 G G G ht (gs ?_);refine bH (fun H' M' L'=>H=H'∧M=M'∧[(6,.bool ((decide (p0_n<p1_low)) || (decide (p2_high<p0_n))))]=L') ?_ (fun a0=>?_);rintro _ _ _ ⟨rfl,rfl,rfl⟩;refine go ?_;obtain rfl:=hm;refine aR (G5 _) ?_;exact cA G G ⟨G,G,G⟩;refine go ?_;cases a1:(decide (p0_n<p1_low));refine gj ?_;exact kj (a0 _ _ _ ⟨G,G,G⟩) ⟨(by exact sb (by first | rfl | simp only [a1,mQ])),G6⟩
 refine gj ?_;exact kj (a0 _ _ _ ⟨G,G,G⟩) ⟨(by exact sb (by first | rfl | simp only [a1,mQ])),G6⟩
theorem sL {B:Nat}{w0 w:World}[cP B w0] {H:Hp}{M:List bQ}{p0_b:bF}{r:Int} (hm:gK p0_b=r) (ht:St B w0 H (M) w):
    Calls prog 34 [.agg [.string (p0_b.Name),.string (p0_b.g_),.string (p0_b.To),.int .i64 (p0_b.X),.int .i64 (p0_b.qR),.int .i64 (p0_b.Shift),.int .i64 (p0_b.iA),.int .i64 (p0_b.lh),.int .i64 (p0_b.oC)].toArray].toArray w (eV B w0 fun H' M' v=>H=H'∧M=M'∧.int .i64 (r)=v):=by
 unfold gK at hm;refine enter func34 G G G ht (gs ?_);refine dD (cs:=[.string (p0_b.Name),.string (p0_b.g_),.string (p0_b.To),.int .i64 (p0_b.X),.int .i64 (p0_b.qR),.int .i64 (p0_b.Shift),.int .i64 (p0_b.iA),.int .i64 (p0_b.lh),.int .i64 (p0_b.oC)]) G G G G (fun a7=>?_);refine gs ?_;refine bH (fun H' M' L'=>H=H'∧M=M'∧[(32,.bool ((((((bK p0_b.X 1 10000) || (bK p0_b.qR 500 1500)) || (bK p0_b.Shift (-1000) 1000)) || (bK p0_b.iA 0 100000)) || (bK p0_b.lh p0_b.iA 100000)) || (bK p0_b.oC 0 200000)))]=L') ?_ (fun a0=>?_);rintro _ _ _ ⟨rfl,rfl,rfl⟩;refine cd hm G (fun a6 hm=>?_) (fun a6 hm=>?_);refine gs ?_;refine go ?_;obtain rfl:=hm;refine aR (G5 _) ?_;exact cA G G ⟨G,G,G⟩;refine gs ?_;refine go ?_;obtain rfl:=hm;refine aR (G5 _) ?_;exact cA G G ⟨G,G,G⟩;refine go ?_;refine fi 3 IE G Hm G ?_;refine lo HM G (.head _) G ?_
 refine aC call65 G G G (fun w ht=>(gY (hm:=(G:bK p0_b.X 1 10000=_))  ht :)) ?_;rintro _ _ _ ⟨rfl,rfl,rfl⟩;refine go ?_;cases a1:((bK p0_b.X 1 10000));refine fi 4 IE G Hm G ?_;refine lo HM G (.head _) G ?_;refine aC call65 G G G (fun w ht=>(gY (hm:=(G:bK p0_b.qR 500 1500=_))  ht :)) ?_;rintro _ _ _ ⟨rfl,rfl,rfl⟩;refine go ?_;cases a2:((bK p0_b.qR 500 1500));refine fi 5 IE G Hm G ?_;refine lo HM G (.head _) G ?_;refine aC call65 G G G (fun w ht=>(gY (hm:=(G:bK p0_b.Shift (-1000) 1000=_))  ht :)) ?_;rintro _ _ _ ⟨rfl,rfl,rfl⟩;refine go ?_;cases a3:((bK p0_b.Shift (-1000) 1000));refine fi 6 IE G Hm G ?_;refine lo HM G (.head _) G ?_;refine aC call65 G G G (fun w ht=>(gY (hm:=(G:bK p0_b.iA 0 100000=_))  ht :)) ?_;rintro _ _ _ ⟨rfl,rfl,rfl⟩;refine go ?_;cases a4:((bK p0_b.iA 0 100000))
 refine fi 7 IE G Hm G ?_;refine lo HM G (.head _) G ?_;refine fi 6 IE G Hm G ?_;refine lo HM G (.head _) G ?_;refine aC call65 G G G (fun w ht=>(gY (hm:=(G:bK p0_b.lh p0_b.iA 100000=_))  ht :)) ?_;rintro _ _ _ ⟨rfl,rfl,rfl⟩;refine go ?_;cases a5:((bK p0_b.lh p0_b.iA 100000));refine fi 8 IE G Hm G ?_;refine lo HM G (.head _) G ?_;refine aC call65 G G G (fun w ht=>(gY (hm:=(G:bK p0_b.oC 0 200000=_))  ht :)) ?_;rintro _ _ _ ⟨rfl,rfl,rfl⟩;refine gj ?_;refine aP (.cons _ (.refl _)) ?_;exact kj (a0 _ _ _ ⟨G,G,G⟩) ⟨(by exact sb (by first | rfl | simp only [a1,a2,a3,a4,a5,mQ])),G6⟩
 refine gj ?_;refine aP (.cons _ (.refl _)) ?_;exact kj (a0 _ _ _ ⟨G,G,G⟩) ⟨(by exact sb (by first | rfl | simp only [a1,a2,a3,a4,a5,mQ])),G6⟩
 refine gj ?_;refine aP (.cons _ (.refl _)) ?_;exact kj (a0 _ _ _ ⟨G,G,G⟩) ⟨(by exact sb (by first | rfl | simp only [a1,a2,a3,a4,mQ])),G6⟩
 refine gj ?_;refine aP (.cons _ (.refl _)) ?_;exact kj (a0 _ _ _ ⟨G,G,G⟩) ⟨(by exact sb (by first | rfl | simp only [a1,a2,a3,mQ])),G6⟩
 refine gj ?_;refine aP (.cons _ (.refl _)) ?_;exact kj (a0 _ _ _ ⟨G,G,G⟩) ⟨(by exact sb (by first | rfl | simp only [a1,a2,mQ])),G6⟩
 refine gj ?_;refine aP (.cons _ (.refl _)) ?_;exact kj (a0 _ _ _ ⟨G,G,G⟩) ⟨(by exact sb (by first | rfl | simp only [a1,mQ])),G6⟩
theorem gA {B:Nat}{w0 w:World}[cP B w0] {H:Hp}{M:List bQ}{p0_n:Int}{r:Bool} (hm:aZ p0_n=r) (ht:St B w0 H (M) w):
    Calls prog 66 [.int .i64 (p0_n)].toArray w (eV B w0 fun H' M' v=>H=H'∧M=M'∧.bool (r)=v):=by
 unfold aZ at hm;refine enter func66 G G G ht (gs ?_);refine gs ?_;refine aC call65 G G G (fun w ht=>(gY (hm:=(G:bK p0_n 0 100000=_))  ht :)) ?_;rintro _ _ _ ⟨rfl,rfl,rfl⟩;refine mS G G G G (go ?_);obtain rfl:=hm;refine aR (G5 _) ?_;exact cA G G ⟨G,G,G⟩
theorem ql {B:Nat}{w0 w:World}[cP B w0] {H:Hp}{M:List bQ}{p0_c:aT}{p1_n:aD}{b0:Nat}{es0:Array MapEntry}{c0:Nat}{v0 v1 v2 v3 v4 v5 v6:Value}{r:Int×aT} (hm:eP p0_c p1_n=some r) (h0:nQ es0 c0 p0_c.seen) (h1:aH H v0 p0_c.nodes) (h2:aH H v1 p1_n.bJ) (h3:aH H v2 p1_n.bM) (h4:aH H v3 p1_n.aK) (h5:aH H v4 p1_n.dR) (h6:aH H v5 p1_n.cC) (h7:aH H v6 p1_n.bZ) (ht:St B w0 H (.obj b0 (.map es0 c0)::M) w):
    Calls prog 35 [.agg [.map (some b0),v0].toArray,.agg [v1,v2,v3,v4,v5,v6].toArray].toArray w (eV B w0 fun H' M' v=>H.le H'∧∃ qes0:Array MapEntry,∃ qc0:Nat,∃ qv0:Value,.obj b0 (.map qes0 qc0)::M=M'∧.int .i64 (r.1)=v∧nQ qes0 qc0 r.2.seen∧aH H' qv0 r.2.nodes):=by
 unfold eP at hm;refine enter func35 G G G ht (gs ?_);refine dD (cs:=[.map (some b0),v0]) G G G G (fun a6=>?_);refine dD (cs:=[v1,v2,v3,v4,v5,v6]) G G G G (fun a9=>?_);refine gs ?_;refine gs ?_;refine fi 3 Hl G K7 G ?_;refine lo L6 G (.head _) G ?_;refine bA G G Je G h5 (go ?_);refine aG ?_;obtain ⟨bf,bv,bw,hm⟩:=dB hm;refine mA (fun n H' M' L'=>∃ (a7:Nat) (ah:List cU),∃ ao:(List (ByteArray×Bool)),∃ ap:Array MapEntry,∃ aq:Nat,(p1_n.dR).drop a7=ah∧ah.length=n∧bf a7 ah ao=some r∧nQ ap aq ao∧H.le H'∧.obj a9 (.cells [v1,v2,v3,v4,v5,v6].toArray 29 (0,0))::.obj a6 (.cells [.map (some b0),v0].toArray 77 (0,0))::.obj b0 (.map ap aq)::M=M'∧[(2,.pointer (some ⟨a6,0,none⟩)),(3,.pointer (some ⟨a9,0,none⟩)),(15,v4),(16,.int .i64 ((p1_n.dR.length:Int))),(17,.int .i64 ((a7:Int)))]=L') _ ⟨0,_,_,_,_,G,G,hm,h0,(G5 _),G,G⟩ ?_
 rintro _ bx _ _ ⟨a7,ah,ao,ap,aq,bg,rfl,hm,bh,a0,rfl,rfl⟩;refine gs ?_;refine gs ?_;refine bP G (fun ar=>?_) (fun ar=>?_);obtain ⟨a1,bi,rfl,au,bz⟩:=gG bg ar;have hm:=(bv _ _ _ _).symm.trans hm;generalize c1:bf (a7+1) bi=cv at hm;unfold fQ at hm;refine gs ?_;refine aG ?_;refine gs ?_;obtain ⟨_,⟨rfl⟩,c2⟩:=(h5).elem au;refine aX G G Je J4 G (h5.mono a0) G (Hr _) au (aU G G isAgg117 J4 G (c2.mono a0).at G ?_);refine bL (cs:=[.string (⟨#[]⟩),.string (⟨#[]⟩),.int .i64 (0),.int .i64 (0),.int .i64 (0)]) G G LC G (fun cw=>?_);refine aL (cs:=[.string (a1.Name),.string (a1.Node),.int .i64 (a1.cZ),.int .i64 (a1.gL),.int .i64 (a1.tj)]) (out:=[.string (a1.Name),.string (a1.Node),.int .i64 (a1.cZ),.int .i64 (a1.gL),.int .i64 (a1.tj)]) G J4 G G G G G (G2 G (G2 G (G2 G (G2 G (G2 G He))))) (aM G) (gs ?_)
 refine gs ?_;refine la isAgg77 LX G (.tail _ (.tail _ (.head _))) G ?_;refine fi 0 IQ G Ii G ?_;refine lo IW G (.head _) G ?_;refine fi 1 IQ G Ii G ?_;refine lo IW G (.head _) G ?_;refine c_ (α:=ByteArray) (css:=[[.string (a1.Node)]]) (zs:=[.string (⟨#[]⟩)]) (out:=[.string (a1.Node)]) (ys:=[a1.Node]) G G G ⟨G,G6⟩ HE Ii G JY (by kernel_rfl) G G G G ⟨[.string (a1.Node)],[],G,G,G⟩ G ?_
 intro cx cy c3;refine cY (c3).rd G (fun cz aa c4=>?_);refine a_ (.trans (.cons _ (.cons _ (.swap _ _ _))) (.trans (.cons _ (.swap _ _ _)) (.swap _ _ _))) ?_;obtain ⟨d0,c5,hm⟩:=bind_some hm;refine aC call33 G G G (fun w ht=>(eH (hm:=c5) bh ((h1.mono a0).mono aa) c4 ht :)) ?_;rintro _ c6 _ ⟨ae,av,aw,d1,rfl,rfl,ax,d2⟩;refine gs ?_;refine cd hm G (fun ai hm=>?_) (fun ai hm=>?_);refine gs ?_;refine go ?_;obtain rfl:=G3 hm;refine aP (.cons_cons _ (.cons _ (.cons _ (.cons _ (.refl _))))) ?_;exact cA G G ⟨(G1 (G1 a0 aa) ae),av,aw,v0,G,G,ax,(((h1.mono a0).mono aa).mono ae)⟩;refine go ?_;refine bH (fun H' M' L'=>c6=H'∧.obj b0 (.map av aw)::.obj a9 (.cells [v1,v2,v3,v4,v5,v6].toArray 29 (0,0))::.obj a6 (.cells [.map (some b0),v0].toArray 77 (0,0))::M=M'∧[(2,.pointer (some ⟨a6,0,none⟩)),(3,.pointer (some ⟨a9,0,none⟩)),(15,v4),(16,.int .i64 ((p1_n.dR.length:Int))),(17,.int .i64 ((a7:Int))),(47,.bool (((!(aZ a1.cZ)) || (bK a1.gL a1.cZ 100000)) || (!(aZ a1.tj))))]=L') ?_ (fun ay=>?_)
 rintro _ _ _ ⟨rfl,rfl,rfl⟩;refine cd hm G (fun c7 hm=>?_) (fun c7 hm=>?_);refine gs ?_;refine go ?_;obtain rfl:=G3 hm;refine aP (.cons_cons _ (.cons _ (.cons _ (.refl _)))) ?_;exact cA G G ⟨(G1 (G1 a0 aa) ae),av,aw,v0,G,G,ax,(((h1.mono a0).mono aa).mono ae)⟩;refine eF (aJ (aS ?_));refine gj ?_;exact kp (bY (Hf _) ⟨a7+1,bi,_,_,_,bz,G,((HD c1 _).trans hm),ax,(G1 (G1 a0 aa) ae),G,G⟩) (.trans (.swap _ _ _) (.cons _ (.swap _ _ _))) ⟨G,G,G,G,(Ht (fun z=>some (Value.int .i64 z)) (cN au ((h5.mono a0)).dG)),G6⟩;refine go ?_;refine fi 2 IQ G Hm G ?_;refine lo HM G (.tail _ (.head _)) G ?_;refine aC call66 G G G (fun w ht=>(gA (hm:=(G:aZ a1.cZ=_))  ht :)) ?_;rintro _ _ _ ⟨rfl,rfl,rfl⟩;refine mS G G G G (go ?_);cases az:(aZ a1.cZ);refine gj ?_;refine aP (.cons_cons _ (.cons _ (.refl _))) ?_
 exact kj (ay _ _ _ ⟨G,G,G⟩) ⟨G,G,G,G,G,(by exact sb (by first | rfl | simp only [ai,az,mQ])),G6⟩
 refine fi 3 IQ G Hm G ?_;refine lo HM G (.tail _ (.head _)) G ?_;refine fi 2 IQ G Hm G ?_;refine lo HM G (.tail _ (.head _)) G ?_;refine aC call65 G G G (fun w ht=>(gY (hm:=(G:bK a1.gL a1.cZ 100000=_))  ht :)) ?_;rintro _ _ _ ⟨rfl,rfl,rfl⟩;refine go ?_;cases bj:((bK a1.gL a1.cZ 100000));refine fi 4 IQ G Hm G ?_;refine lo HM G (.tail _ (.head _)) G ?_;refine aC call66 G G G (fun w ht=>(gA (hm:=(G:aZ a1.tj=_))  ht :)) ?_;rintro _ _ _ ⟨rfl,rfl,rfl⟩;refine mS G G G G (gj ?_);refine aP (.cons_cons _ (.cons _ (.refl _))) ?_;exact kj (ay _ _ _ ⟨G,G,G⟩) ⟨G,G,G,G,G,(by exact sb (by first | rfl | simp only [ai,az,bj,mQ])),G6⟩
 refine gj ?_;refine aP (.cons_cons _ (.cons _ (.refl _))) ?_;exact kj (ay _ _ _ ⟨G,G,G⟩) ⟨G,G,G,G,G,(by exact sb (by first | rfl | simp only [ai,az,bj,mQ])),G6⟩
 obtain rfl:=gF bg ar;have hm:=(bw _ _).symm.trans hm;refine gs ?_;refine gs ?_;refine fi 4 Hl G J0 G ?_;refine lo KX G (.head _) G ?_;refine bA G G Ik G (h6.mono a0) (go ?_);refine aG ?_;obtain ⟨bk,c8,c9,hm⟩:=dB hm;refine mA (fun n H' M' L'=>∃ (ab:Nat) (aj:List aN),∃ b1:(List (ByteArray×Bool)),∃ b2:Array MapEntry,∃ b3:Nat,(p1_n.cC).drop ab=aj∧aj.length=n∧bk ab aj b1=some r∧nQ b2 b3 b1∧bx.le H'∧.obj a9 (.cells [v1,v2,v3,v4,v5,v6].toArray 29 (0,0))::.obj a6 (.cells [.map (some b0),v0].toArray 77 (0,0))::.obj b0 (.map b2 b3)::M=M'∧[(2,.pointer (some ⟨a6,0,none⟩)),(3,.pointer (some ⟨a9,0,none⟩)),(50,v5),(51,.int .i64 ((p1_n.cC.length:Int))),(52,.int .i64 ((ab:Int)))]=L') _ ⟨0,_,_,_,_,G,G,hm,bh,(G5 _),G,G⟩ ?_;rintro _ ca _ _ ⟨ab,aj,b1,b2,b3,bl,rfl,hm,bm,a3,rfl,rfl⟩
 refine gs ?_;refine gs ?_;refine bP G (fun b4=>?_) (fun b4=>?_);obtain ⟨a4,bn,rfl,b5,cb⟩:=gG bl b4;have hm:=(c8 _ _ _ _).symm.trans hm;generalize cc:bk (ab+1) bn=d3 at hm;unfold fR at hm;refine gs ?_;refine aG ?_;refine gs ?_;obtain ⟨_,⟨rfl⟩,ce⟩:=(h6).elem b5;refine aX G G Ik I3 G ((h6.mono a0).mono a3) G (Hr _) b5 (aU G G LM I3 G ((ce.mono a0).mono a3).at G ?_);refine bL (cs:=[.string (⟨#[]⟩),.string (⟨#[]⟩),.int .i64 (0)]) G G KO G (fun d4=>?_);refine aL (cs:=[.string (a4.Name),.string (a4.Node),.int .i64 (a4.bN)]) (out:=[.string (a4.Name),.string (a4.Node),.int .i64 (a4.bN)]) G I3 G G G G G (G2 G (G2 G (G2 G He))) (aM G) (gs ?_);refine gs ?_;refine la isAgg77 LX G (.tail _ (.tail _ (.head _))) G ?_;refine fi 0 Jn G Ii G ?_;refine lo IW G (.head _) G ?_
 refine fi 1 Jn G Ii G ?_;refine lo IW G (.head _) G ?_;refine c_ (α:=ByteArray) (css:=[[.string (a4.Node)]]) (zs:=[.string (⟨#[]⟩)]) (out:=[.string (a4.Node)]) (ys:=[a4.Node]) G G G ⟨G,G6⟩ HE Ii G JY (by kernel_rfl) G G G G ⟨[.string (a4.Node)],[],G,G,G⟩ G ?_
 intro d5 d6 cf;refine cY (cf).rd G (fun d7 ac cg=>?_);refine a_ (.trans (.cons _ (.cons _ (.swap _ _ _))) (.trans (.cons _ (.swap _ _ _)) (.swap _ _ _))) ?_;obtain ⟨d8,ch,hm⟩:=bind_some hm;refine aC call33 G G G (fun w ht=>(eH (hm:=ch) bm (((h1.mono a0).mono a3).mono ac) cg ht :)) ?_;rintro _ d9 _ ⟨af,bo,bp,da,rfl,rfl,b6,db⟩;refine gs ?_;refine cd hm G (fun ci hm=>?_) (fun ci hm=>?_);refine gs ?_;refine go ?_;obtain rfl:=G3 hm;refine aP (.cons_cons _ (.cons _ (.cons _ (.cons _ (.refl _))))) ?_;exact cA G G ⟨(G1 (G1 (G1 a0 a3) ac) af),bo,bp,v0,G,G,b6,((((h1.mono a0).mono a3).mono ac).mono af)⟩;refine gs ?_;refine fi 2 Jn G Hm G ?_;refine lo HM G (.tail _ (.head _)) G ?_;refine aC call66 G G G (fun w ht=>(gA (hm:=(G:aZ a4.bN=_))  ht :)) ?_;rintro _ _ _ ⟨rfl,rfl,rfl⟩;refine mS G G G G (go ?_)
 refine cd hm G (fun cj hm=>?_) (fun cj hm=>?_);refine gs ?_;refine go ?_;obtain rfl:=G3 hm;refine aP (.cons_cons _ (.cons _ (.cons _ (.cons _ (.refl _))))) ?_;exact cA G G ⟨(G1 (G1 (G1 a0 a3) ac) af),bo,bp,v0,G,G,b6,((((h1.mono a0).mono a3).mono ac).mono af)⟩;refine eF (aJ (aS ?_));refine gj ?_;refine aP (.cons_cons _ (.cons _ (.refl _))) ?_;exact kp (bY (Hf _) ⟨ab+1,bn,_,_,_,cb,G,((HD cc _).trans hm),b6,(G1 (G1 a3 ac) af),G,G⟩) (.trans (.swap _ _ _) (.cons _ (.swap _ _ _))) ⟨G,G,G,G,(Ht (fun z=>some (Value.int .i64 z)) (cN b5 (((h6.mono a0).mono a3)).dG)),G6⟩;obtain rfl:=gF bl b4;have hm:=(c9 _ _).symm.trans hm;refine gs ?_;refine gs ?_;refine fi 5 Hl G sizeOf27 G ?_;refine lo isAgg27 G (.head _) G ?_;refine bA G G J3 G ((h7.mono a0).mono a3) (go ?_)
 refine aG (nt (.cons _ (.refl _)) ?_);obtain ⟨bq,ck,cl,hm⟩:=dB hm;refine mA (fun n H' M' L'=>∃ (a8:Nat) (ak:List dS),∃ b7:(List (ByteArray×Bool)),∃ al:Array MapEntry,∃ am:Nat,(p1_n.bZ).drop a8=ak∧ak.length=n∧bq a8 ak b7=some r∧nQ al am b7∧ca.le H'∧.obj a6 (.cells [.map (some b0),v0].toArray 77 (0,0))::.obj b0 (.map al am)::M=M'∧[(2,.pointer (some ⟨a6,0,none⟩)),(72,v6),(73,.int .i64 ((p1_n.bZ.length:Int))),(74,.int .i64 ((a8:Int)))]=L') _ ⟨0,_,_,_,_,G,G,hm,bm,(G5 _),G,G⟩ ?_;rintro _ dc _ _ ⟨a8,ak,b7,al,am,br,rfl,hm,bs,a5,rfl,rfl⟩;refine gs ?_;refine gs ?_;refine bP G (fun b8=>?_) (fun b8=>?_);obtain ⟨a2,bt,rfl,b9,cm⟩:=gG br b8;have hm:=(ck _ _ _ _).symm.trans hm;generalize cn:bq (a8+1) bt=dd at hm;unfold fS at hm;refine gs ?_;refine aG ?_;refine gs ?_;obtain ⟨_,⟨rfl⟩,co⟩:=(h7).elem b9
 refine aX G G J3 L7 G (((h7.mono a0).mono a3).mono a5) G (Hr _) b9 (aU G G isAgg121 L7 G (((co.mono a0).mono a3).mono a5).at G ?_);refine bL (cs:=[.string (⟨#[]⟩),.string (⟨#[]⟩),.int .i64 (0),.int .i64 (0),.int .i64 (0)]) G G zeroValue121 G (fun de=>?_);refine aL (cs:=[.string (a2.Name),.string (a2.Node),.int .i64 (a2.k_),.int .i64 (a2.Discharge),.int .i64 (a2.nf)]) (out:=[.string (a2.Name),.string (a2.Node),.int .i64 (a2.k_),.int .i64 (a2.Discharge),.int .i64 (a2.nf)]) G L7 G G G G G (G2 G (G2 G (G2 G (G2 G (G2 G He))))) (aM G) (gs ?_);refine gs ?_;refine la isAgg77 LX G (.tail _ (.head _)) G ?_;refine fi 0 JS G Ii G ?_;refine lo IW G (.head _) G ?_;refine fi 1 JS G Ii G ?_;refine lo IW G (.head _) G ?_;refine c_ (α:=ByteArray) (css:=[[.string (a2.Node)]]) (zs:=[.string (⟨#[]⟩)]) (out:=[.string (a2.Node)]) (ys:=[a2.Node]) G G G ⟨G,G6⟩ HE Ii G JY (by kernel_rfl) G G G G ⟨[.string (a2.Node)],[],G,G,G⟩ G ?_
 intro df dg cp;refine cY (cp).rd G (fun dh ad cq=>?_);refine a_ (.trans (.cons _ (.swap _ _ _)) (.swap _ _ _)) ?_;obtain ⟨di,cr,hm⟩:=bind_some hm;refine aC call33 G G G (fun w ht=>(eH (hm:=cr) bs ((((h1.mono a0).mono a3).mono a5).mono ad) cq ht :)) ?_;rintro _ ct _ ⟨ag,ba,bb,dj,rfl,rfl,bc,dk⟩;refine gs ?_;refine cd hm G (fun an hm=>?_) (fun an hm=>?_);refine gs ?_;refine go ?_;obtain rfl:=G3 hm;refine aP (.cons_cons _ (.cons _ (.cons _ (.refl _)))) ?_;exact cA G G ⟨(G1 (G1 (G1 (G1 a0 a3) a5) ad) ag),ba,bb,v0,G,G,bc,(((((h1.mono a0).mono a3).mono a5).mono ad).mono ag)⟩;refine go ?_;refine bH (fun H' M' L'=>ct=H'∧.obj b0 (.map ba bb)::.obj a6 (.cells [.map (some b0),v0].toArray 77 (0,0))::M=M'∧[(2,.pointer (some ⟨a6,0,none⟩)),(72,v6),(73,.int .i64 ((p1_n.bZ.length:Int))),(74,.int .i64 ((a8:Int))),(103,.bool (((!(aZ a2.k_)) || (!(aZ a2.Discharge))) || (!(aZ a2.nf))))]=L') ?_ (fun bd=>?_)
 rintro _ _ _ ⟨rfl,rfl,rfl⟩;refine cd hm G (fun cu hm=>?_) (fun cu hm=>?_);refine gs ?_;refine go ?_;obtain rfl:=G3 hm;refine aP (.cons_cons _ (.cons _ (.refl _))) ?_;exact cA G G ⟨(G1 (G1 (G1 (G1 a0 a3) a5) ad) ag),ba,bb,v0,G,G,bc,(((((h1.mono a0).mono a3).mono a5).mono ad).mono ag)⟩;refine eF (aJ (aS ?_));refine gj ?_;exact kp (bY (Hf _) ⟨a8+1,bt,_,_,_,cm,G,((HD cn _).trans hm),bc,(G1 (G1 a5 ad) ag),G,G⟩) (.swap _ _ _) ⟨G,G,G,(Ht (fun z=>some (Value.int .i64 z)) (cN b9 ((((h7.mono a0).mono a3).mono a5)).dG)),G6⟩;refine go ?_;refine fi 2 JS G Hm G ?_;refine lo HM G (.tail _ (.head _)) G ?_;refine aC call66 G G G (fun w ht=>(gA (hm:=(G:aZ a2.k_=_))  ht :)) ?_;rintro _ _ _ ⟨rfl,rfl,rfl⟩;refine mS G G G G (go ?_);cases be:(aZ a2.k_)
 refine gj ?_;refine aP (.cons_cons _ (.cons _ (.refl _))) ?_;exact kj (bd _ _ _ ⟨G,G,G⟩) ⟨G,G,G,G,(by exact sb (by first | rfl | simp only [an,be,mQ])),G6⟩
 refine fi 3 JS G Hm G ?_;refine lo HM G (.tail _ (.head _)) G ?_;refine aC call66 G G G (fun w ht=>(gA (hm:=(G:aZ a2.Discharge=_))  ht :)) ?_;rintro _ _ _ ⟨rfl,rfl,rfl⟩;refine mS G G G G (go ?_);cases bu:(aZ a2.Discharge);refine gj ?_;refine aP (.cons_cons _ (.cons _ (.refl _))) ?_;exact kj (bd _ _ _ ⟨G,G,G⟩) ⟨G,G,G,G,(by exact sb (by first | rfl | simp only [an,be,bu,mQ])),G6⟩
 refine fi 4 JS G Hm G ?_;refine lo HM G (.tail _ (.head _)) G ?_;refine aC call66 G G G (fun w ht=>(gA (hm:=(G:aZ a2.nf=_))  ht :)) ?_;rintro _ _ _ ⟨rfl,rfl,rfl⟩;refine mS G G G G (gj ?_);refine aP (.cons_cons _ (.cons _ (.refl _))) ?_;exact kj (bd _ _ _ ⟨G,G,G⟩) ⟨G,G,G,G,(by exact sb (by first | rfl | simp only [an,be,bu,mQ])),G6⟩
 obtain rfl:=gF br b8;have hm:=(cl _ _).symm.trans hm;refine gs ?_;refine go ?_;obtain rfl:=G3 hm;refine aP (.cons _ (.refl _)) ?_;exact cA G G ⟨(G1 (G1 a0 a3) a5),al,am,v0,G,G,bs,(((h1.mono a0).mono a3).mono a5)⟩
theorem ju {B:Nat}{w0 w:World}[cP B w0] {H:Hp}{M:List bQ}{p0_n:aD}{v0 v1 v2 v3 v4 v5:Value}{r:Int} (hm:cD p0_n=some r) (h0:aH H v0 p0_n.bJ) (h1:aH H v1 p0_n.bM) (h2:aH H v2 p0_n.aK) (h3:aH H v3 p0_n.dR) (h4:aH H v4 p0_n.cC) (h5:aH H v5 p0_n.bZ) (ht:St B w0 H (M) w):
    Calls prog 9 [.agg [v0,v1,v2,v3,v4,v5].toArray].toArray w (eV B w0 fun H' M' v=>H=H'∧M=M'∧.int .i64 (r)=v):=by
 unfold cD at hm;refine enter func9 G G G ht (gs ?_);refine dD (cs:=[v0,v1,v2,v3,v4,v5]) G G G G (fun a6=>?_);refine gs ?_;refine bH (fun H' M' L'=>H=H'∧.obj a6 (.cells [v0,v1,v2,v3,v4,v5].toArray 29 (0,0))::M=M'∧[(1,.pointer (some ⟨a6,0,none⟩)),(47,.bool ((((((decide (24<(p0_n.bJ.length:Int))) || (decide (32<(p0_n.bM.length:Int)))) || (decide (24<(p0_n.aK.length:Int)))) || (decide (10<(p0_n.dR.length:Int)))) || (decide (12<(p0_n.cC.length:Int)))) || (decide (4<(p0_n.bZ.length:Int)))))]=L') ?_ (fun a7=>?_);rintro _ _ _ ⟨rfl,rfl,rfl⟩;refine cd hm G (fun bi hm=>?_) (fun bi hm=>?_);refine gs ?_;refine go ?_;obtain rfl:=G3 hm;refine aP (.cons _ (.refl _)) (aR (G5 _) ?_);exact cA G G ⟨G,G,G⟩;refine gs ?_;refine ua G G (fun a5=>?_);refine fi 0 Hl G JM G ?_;refine lo JX G (.tail _ (.head _)) G ?_
 refine dZ (css:=[[.map (some a5)],[v0]]) (zs:=[.map none,.slice none 0 0]) (out:=[.map (some a5),v0]) (places:=[(0,1),(1,1)]) G G G ⟨G,(aH.cells h0),G6⟩ zeroValue77 G Ma (fun w=>by kernel_rfl) G ?_
 refine bL (cs:=[.map none,.slice none 0 0]) G G zeroValue77 G (fun a8=>?_);refine aL (cs:=[.map (some a5),v0]) (out:=[.map (some a5),v0]) G LX G G G G G (G2 G (G2 (aH.bW h0) He)) (aM G) (gs ?_);refine gs ?_;refine fi 0 Hl G JM G ?_;refine lo JX G (.tail _ (.tail _ (.head _))) G ?_;refine bA G G HE G h0 (go ?_);refine aG ?_;obtain ⟨b3,bj,bk,hm⟩:=dB hm;refine mA (fun n H' M' L'=>∃ (a9:Nat) (ae:List ByteArray),∃ aj:(List (ByteArray×Bool)),∃ ak:Array MapEntry,∃ al:Nat,(p0_n.bJ).drop a9=ae∧ae.length=n∧b3 a9 ae aj=some r∧nQ ak al aj∧H.le H'∧.obj a8 (.cells [.map (some a5),v0].toArray 77 (0,0))::.obj a5 (.map ak al)::.obj a6 (.cells [v0,v1,v2,v3,v4,v5].toArray 29 (0,0))::M=M'∧[(1,.pointer (some ⟨a6,0,none⟩)),(3,.pointer (some ⟨a8,0,none⟩)),(53,v0),(54,.int .i64 ((p0_n.bJ.length:Int))),(55,.int .i64 ((a9:Int)))]=L') _ ⟨0,_,_,_,_,G,G,hm,(nQ.nil (κ:=ByteArray) (ν:=Bool)),(G5 _),G,G⟩ ?_
 rintro _ bl _ _ ⟨a9,ae,aj,ak,al,b4,rfl,hm,b5,a1,rfl,rfl⟩;refine gs ?_;refine gs ?_;refine bP G (fun am=>?_) (fun am=>?_);obtain ⟨ci,b6,rfl,an,bm⟩:=gG b4 am;have hm:=(bj _ _ _ _).symm.trans hm;generalize bn:b3 (a9+1) b6=cj at hm;unfold jY at hm;refine gs ?_;refine aG ?_;refine gs ?_;obtain ⟨_,rfl,bo⟩:=(h0).elem an;refine aX G G HE Ii G (h0.mono a1) G (Hr _) an (aI G G IW G (b_.one (bo.mono a1) 0 G).at (gs ?_));refine la isAgg77 LX G (.head _) G (go ?_);refine a_ (.swap _ _ _) ?_;obtain ⟨ck,bp,hm⟩:=bind_some hm;refine aC call33 G G G (fun w ht=>(eH (hm:=bp) b5 (h0.mono a1) aH.nil ht :)) ?_;rintro _ cl _ ⟨b7,cm,cn,co,rfl,rfl,bq,cp⟩;refine gs ?_;refine cd hm G (fun br hm=>?_) (fun br hm=>?_);refine gs ?_;refine go ?_;obtain rfl:=G3 hm;refine aP (.cons _ (.cons _ (.cons _ (.refl _)))) (aR (G1 a1 b7) ?_)
 exact cA G G ⟨G,G,G⟩;refine eF (aJ (aS ?_));refine gj ?_;exact kp (bY (Hf _) ⟨a9+1,b6,_,_,_,bm,G,((HD bn _).trans hm),bq,(G1 a1 b7),G,G⟩) (.swap _ _ _) ⟨G,G,G,G,(Ht (fun z=>some (Value.int .i64 z)) (cN an ((h0.mono a1)).dG)),G6⟩;obtain rfl:=gF b4 am;have hm:=(bk _ _).symm.trans hm;refine gs ?_;refine gs ?_;refine fi 1 Hl G sizeOf23 G ?_;refine lo isAgg23 G (.tail _ (.tail _ (.head _))) G ?_;refine bA G G Kp G (h1.mono a1) (go ?_);refine aG ?_;obtain ⟨b8,bs,bt,hm⟩:=dB hm;refine mA (fun n H' M' L'=>∃ (aa:Nat) (af:List cO),∃ ao:(List (ByteArray×Bool)),∃ ap:Array MapEntry,∃ aq:Nat,(p0_n.bM).drop aa=af∧af.length=n∧b8 aa af ao=some r∧nQ ap aq ao∧bl.le H'∧.obj a8 (.cells [.map (some a5),v0].toArray 77 (0,0))::.obj a5 (.map ap aq)::.obj a6 (.cells [v0,v1,v2,v3,v4,v5].toArray 29 (0,0))::M=M'∧[(1,.pointer (some ⟨a6,0,none⟩)),(3,.pointer (some ⟨a8,0,none⟩)),(67,v1),(68,.int .i64 ((p0_n.bM.length:Int))),(69,.int .i64 ((aa:Int)))]=L') _ ⟨0,_,_,_,_,G,G,hm,b5,(G5 _),G,G⟩ ?_
 rintro _ bu _ _ ⟨aa,af,ao,ap,aq,b9,rfl,hm,ba,a2,rfl,rfl⟩;refine gs ?_;refine gs ?_;refine bP G (fun ar=>?_) (fun ar=>?_);obtain ⟨a3,bb,rfl,au,bv⟩:=gG b9 ar;have hm:=(bs _ _ _ _).symm.trans hm;generalize bw:b8 (aa+1) bb=cq at hm;unfold jZ at hm;refine gs ?_;refine aG ?_;refine gs ?_;obtain ⟨_,⟨rfl⟩,bx⟩:=(h1).elem au;refine aX G G Kp LY G ((h1.mono a1).mono a2) G (Hr _) au (aU G G isAgg80 LY G ((bx.mono a1).mono a2).at G ?_);refine bL (cs:=[.string (⟨#[]⟩),.string (⟨#[]⟩),.string (⟨#[]⟩),.bool (false),.bool (false)]) G G zeroValue80 G (fun cr=>?_);refine aL (cs:=[.string (a3.Name),.string (a3.A),.string (a3.B_),.bool (a3.su),.bool (a3.Open)]) (out:=[.string (a3.Name),.string (a3.A),.string (a3.B_),.bool (a3.su),.bool (a3.Open)]) G LY G G G G G (G2 G (G2 G (G2 G (G2 G (G2 G He))))) (aM G) (gs ?_)
 refine la isAgg77 LX G (.tail _ (.head _)) G ?_;refine fi 0 KF G Ii G ?_;refine lo IW G (.head _) G ?_;refine fi 1 KF G Ii G ?_;refine lo IW G (.head _) G ?_;refine fi 2 KF G Ii G ?_;refine lo IW G (.head _) G ?_;refine c_ (α:=ByteArray) (css:=[[.string (a3.A)],[.string (a3.B_)]]) (zs:=[.string (⟨#[]⟩),.string (⟨#[]⟩)]) (out:=[.string (a3.A),.string (a3.B_)]) (ys:=[a3.A,a3.B_]) G G G ⟨G,G,G6⟩ HE Ii G JY (by kernel_rfl) G G G G ⟨[.string (a3.A)],[.string (a3.B_)],G,G,⟨[.string (a3.B_)],[],G,G,G⟩⟩ G ?_
 intro ct cu bz;refine cY (bz).rd G (fun cv av c0=>?_);refine a_ (.trans (.cons _ (.swap _ _ _)) (.swap _ _ _)) ?_;obtain ⟨cw,c1,hm⟩:=bind_some hm;refine aC call33 G G G (fun w ht=>(eH (hm:=c1) ba (((h0.mono a1).mono a2).mono av) c0 ht :)) ?_;rintro _ cx _ ⟨bc,cy,cz,d0,rfl,rfl,c2,d1⟩;refine gs ?_;refine cd hm G (fun c3 hm=>?_) (fun c3 hm=>?_);refine gs ?_;refine go ?_;obtain rfl:=G3 hm;refine aP (.cons _ (.cons _ (.cons _ (.cons _ (.refl _))))) (aR (G1 (G1 (G1 a1 a2) av) bc) ?_);exact cA G G ⟨G,G,G⟩;refine eF (aJ (aS ?_));refine gj ?_;refine aP (.cons_cons _ (.cons _ (.refl _))) ?_;exact kp (bY (Hf _) ⟨aa+1,bb,_,_,_,bv,G,((HD bw _).trans hm),c2,(G1 (G1 a2 av) bc),G,G⟩) (.swap _ _ _) ⟨G,G,G,G,(Ht (fun z=>some (Value.int .i64 z)) (cN au (((h1.mono a1).mono a2)).dG)),G6⟩
 obtain rfl:=gF b9 ar;have hm:=(bt _ _).symm.trans hm;refine gs ?_;refine gs ?_;refine fi 2 Hl G Lj G ?_;refine lo LL G (.tail _ (.tail _ (.head _))) G ?_;refine bA G G I1 G ((h2.mono a1).mono a2) (go ?_);refine aG ?_;obtain ⟨bd,c4,c5,hm⟩:=dB hm;refine mA (fun n H' M' L'=>∃ (ab:Nat) (ag:List bF),∃ aw:(List (ByteArray×Bool)),∃ ax:Array MapEntry,∃ ay:Nat,(p0_n.aK).drop ab=ag∧ag.length=n∧bd ab ag aw=some r∧nQ ax ay aw∧bu.le H'∧.obj a8 (.cells [.map (some a5),v0].toArray 77 (0,0))::.obj a5 (.map ax ay)::.obj a6 (.cells [v0,v1,v2,v3,v4,v5].toArray 29 (0,0))::M=M'∧[(1,.pointer (some ⟨a6,0,none⟩)),(3,.pointer (some ⟨a8,0,none⟩)),(87,v2),(88,.int .i64 ((p0_n.aK.length:Int))),(89,.int .i64 ((ab:Int)))]=L') _ ⟨0,_,_,_,_,G,G,hm,ba,(G5 _),G,G⟩ ?_;rintro _ d2 _ _ ⟨ab,ag,aw,ax,ay,be,rfl,hm,bf,a4,rfl,rfl⟩
 refine gs ?_;refine gs ?_;refine bP G (fun az=>?_) (fun az=>?_);obtain ⟨a0,bg,rfl,b0,c6⟩:=gG be az;have hm:=(c4 _ _ _ _).symm.trans hm;generalize c7:bd (ab+1) bg=d3 at hm;unfold ka at hm;refine gs ?_;refine aG ?_;refine gs ?_;obtain ⟨_,⟨rfl⟩,c8⟩:=(h2).elem b0;refine aX G G I1 JT G (((h2.mono a1).mono a2).mono a4) G (Hr _) b0 (aU G G isAgg56 JT G (((c8.mono a1).mono a2).mono a4).at G ?_);refine bL (cs:=[.string (⟨#[]⟩),.string (⟨#[]⟩),.string (⟨#[]⟩),.int .i64 (0),.int .i64 (0),.int .i64 (0),.int .i64 (0),.int .i64 (0),.int .i64 (0)]) G G Lp G (fun d4=>?_);refine aL (cs:=[.string (a0.Name),.string (a0.g_),.string (a0.To),.int .i64 (a0.X),.int .i64 (a0.qR),.int .i64 (a0.Shift),.int .i64 (a0.iA),.int .i64 (a0.lh),.int .i64 (a0.oC)]) (out:=[.string (a0.Name),.string (a0.g_),.string (a0.To),.int .i64 (a0.X),.int .i64 (a0.qR),.int .i64 (a0.Shift),.int .i64 (a0.iA),.int .i64 (a0.lh),.int .i64 (a0.oC)]) G JT G G G G G (G2 G (G2 G (G2 G (G2 G (G2 G (G2 G (G2 G (G2 G (G2 G He))))))))) (aM G) (gs ?_)
 refine gs ?_;refine la isAgg77 LX G (.tail _ (.head _)) G ?_;refine fi 0 IE G Ii G ?_;refine lo IW G (.head _) G ?_;refine fi 1 IE G Ii G ?_;refine lo IW G (.head _) G ?_;refine fi 2 IE G Ii G ?_;refine lo IW G (.head _) G ?_;refine c_ (α:=ByteArray) (css:=[[.string (a0.g_)],[.string (a0.To)]]) (zs:=[.string (⟨#[]⟩),.string (⟨#[]⟩)]) (out:=[.string (a0.g_),.string (a0.To)]) (ys:=[a0.g_,a0.To]) G G G ⟨G,G,G6⟩ HE Ii G JY (by kernel_rfl) G G G G ⟨[.string (a0.g_)],[.string (a0.To)],G,G,⟨[.string (a0.To)],[],G,G,G⟩⟩ G ?_
 intro d5 d6 c9;refine cY (c9).rd G (fun d7 ah ca=>?_);refine a_ (.trans (.cons _ (.swap _ _ _)) (.swap _ _ _)) ?_;obtain ⟨d8,cb,hm⟩:=bind_some hm;refine aC call33 G G G (fun w ht=>(eH (hm:=cb) bf ((((h0.mono a1).mono a2).mono a4).mono ah) ca ht :)) ?_;rintro _ d9 _ ⟨b1,da,db,dc,rfl,rfl,cc,dd⟩;refine gs ?_;refine cd hm G (fun ce hm=>?_) (fun ce hm=>?_);refine gs ?_;refine go ?_;obtain rfl:=G3 hm;refine aP (.cons _ (.cons _ (.cons _ (.cons _ (.refl _))))) (aR (G1 (G1 (G1 (G1 a1 a2) a4) ah) b1) ?_);exact cA G G ⟨G,G,G⟩;refine gs ?_;refine la isAgg56 JT G (.tail _ (.head _)) G ?_;refine aC call34 G G G (fun w ht=>(sL (hm:=(G:gK a0=_))  ht :)) ?_;rintro _ _ _ ⟨rfl,rfl,rfl⟩;refine gs ?_;refine cd hm G (fun cf hm=>?_) (fun cf hm=>?_);refine gs ?_;refine go ?_;obtain rfl:=G3 hm;refine aP (.cons _ (.cons _ (.cons _ (.cons _ (.refl _))))) (aR (G1 (G1 (G1 (G1 a1 a2) a4) ah) b1) ?_)
 exact cA G G ⟨G,G,G⟩;refine eF (aJ (aS ?_));refine gj ?_;refine aP (.cons_cons _ (.cons _ (.refl _))) ?_;exact kp (bY (Hf _) ⟨ab+1,bg,_,_,_,c6,G,((HD c7 _).trans hm),cc,(G1 (G1 a4 ah) b1),G,G⟩) (.swap _ _ _) ⟨G,G,G,G,(Ht (fun z=>some (Value.int .i64 z)) (cN b0 ((((h2.mono a1).mono a2).mono a4)).dG)),G6⟩;obtain rfl:=gF be az;have hm:=(c5 _ _).symm.trans hm;refine gs ?_;refine la isAgg77 LX G (.head _) G ?_;refine la It H7 G (.tail _ (.tail _ (.head _))) G ?_;refine a_ (.swap _ _ _) ?_;obtain ⟨de,cg,hm⟩:=bind_some hm;refine aC call35 G G G (fun w ht=>(ql (hm:=cg) bf (((h0.mono a1).mono a2).mono a4) (((h0.mono a1).mono a2).mono a4) (((h1.mono a1).mono a2).mono a4) (((h2.mono a1).mono a2).mono a4) (((h3.mono a1).mono a2).mono a4) (((h4.mono a1).mono a2).mono a4) (((h5.mono a1).mono a2).mono a4) ht :)) ?_
 rintro _ df _ ⟨ch,dg,dh,di,rfl,rfl,dj,dk⟩;refine go ?_;obtain rfl:=G3 hm;refine aP (.cons _ (.cons _ (.cons _ (.refl _)))) (aR (G1 (G1 (G1 a1 a2) a4) ch) ?_);exact cA G G ⟨G,G,G⟩;refine go ?_;refine fi 0 Hl G JM G ?_;refine lo JX G (.head _) G ?_;refine bA G G HE G h0 (go ?_);cases ac:(decide (24<(p0_n.bJ.length:Int)));refine fi 1 Hl G sizeOf23 G ?_;refine lo isAgg23 G (.head _) G ?_;refine bA G G Kp G h1 (go ?_);cases ad:(decide (32<(p0_n.bM.length:Int)));refine fi 2 Hl G Lj G ?_;refine lo LL G (.head _) G ?_;refine bA G G I1 G h2 (go ?_);cases ai:(decide (24<(p0_n.aK.length:Int)));refine fi 3 Hl G K7 G ?_;refine lo L6 G (.head _) G ?_;refine bA G G Je G h3 (go ?_);cases b2:(decide (10<(p0_n.dR.length:Int)))
 refine fi 4 Hl G J0 G ?_;refine lo KX G (.head _) G ?_;refine bA G G Ik G h4 (go ?_);cases bh:(decide (12<(p0_n.cC.length:Int)));refine fi 5 Hl G sizeOf27 G ?_;refine lo isAgg27 G (.head _) G ?_;refine bA G G J3 G h5 (gj ?_);exact kj (a7 _ _ _ ⟨G,G,G⟩) ⟨G,(by exact sb (by first | rfl | simp only [ac,ad,ai,b2,bh,mQ])),G6⟩
 refine gj ?_;exact kj (a7 _ _ _ ⟨G,G,G⟩) ⟨G,(by exact sb (by first | rfl | simp only [ac,ad,ai,b2,bh,mQ])),G6⟩
 refine gj ?_;exact kj (a7 _ _ _ ⟨G,G,G⟩) ⟨G,(by exact sb (by first | rfl | simp only [ac,ad,ai,b2,mQ])),G6⟩
 refine gj ?_;exact kj (a7 _ _ _ ⟨G,G,G⟩) ⟨G,(by exact sb (by first | rfl | simp only [ac,ad,ai,mQ])),G6⟩
 refine gj ?_;exact kj (a7 _ _ _ ⟨G,G,G⟩) ⟨G,(by exact sb (by first | rfl | simp only [ac,ad,mQ])),G6⟩
 refine gj ?_;exact kj (a7 _ _ _ ⟨G,G,G⟩) ⟨G,(by exact sb (by first | rfl | simp only [ac,mQ])),G6⟩
theorem sM {B:Nat}{w0 w:World}[cP B w0] {H:Hp}{M:List bQ}{p0_l:aN}{p1_c1:ByteArray}{b0:Nat}{r:Bool} (hm:mw p0_l p1_c1=r) (ht:St B w0 H (.obj b0 (.cells ([.string (p1_c1)]:List Value).toArray 9 (0,0))::M) w):
    Calls prog 60 [.agg [.string (p0_l.Name),.string (p0_l.Node),.int .i64 (p0_l.bN)].toArray,.pointer (some ⟨b0,0,none⟩)].toArray w (eV B w0 fun H' M' v=>H=H'∧.obj b0 (.cells ([.string (p1_c1)]:List Value).toArray 9 (0,0))::M=M'∧.bool (r)=v):=by
 unfold mw at hm;refine enter func60 G G G ht (gs ?_);refine dD (cs:=[.string (p0_l.Name),.string (p0_l.Node),.int .i64 (p0_l.bN)]) G G G G (fun a0=>?_);refine gs ?_;refine fi 0 Jn G Ii G ?_;refine lo IW G (.head _) G ?_;refine lo IW G (.tail _ (.head _)) G (go ?_);obtain rfl:=hm;refine aP (.cons _ (.refl _)) (aR (G5 _) ?_);exact cA G G ⟨G,G,G⟩
theorem jF {B:Nat}{w0 w:World}[cP B w0] {H:Hp}{M:List bQ}{p0_s:(List aN)}{p1_f_0:ByteArray}{v0:Value}{b0:Nat}{r:Int} (hm:cV p0_s p1_f_0=some r) (h0:aH H v0 p0_s) (ht:St B w0 H (.obj b0 (.cells ([.string (p1_f_0)]:List Value).toArray 9 (0,0))::M) w):
    Calls prog 100 [v0,.func (.func 60) [].toArray [.pointer (some ⟨b0,0,none⟩)].toArray].toArray w (eV B w0 fun H' M' v=>H=H'∧.obj b0 (.cells ([.string (p1_f_0)]:List Value).toArray 9 (0,0))::M=M'∧.int .i64 (r)=v):=by
 unfold cV at hm;refine enter func100 G G G ht (gs ?_);refine gs ?_;refine gs ?_;refine bA G G Ik G h0 (go ?_);refine aG ?_;obtain ⟨a4,a8,a9,hm⟩:=ke hm;refine mA (fun n H' M' L'=>∃ (a0:Nat) (a2:Nat),a0+a2=((p0_s.length:Int):Int).toNat∧a2=n∧a4 a2 a0 ()=some r∧H.le H'∧.obj b0 (.cells ([.string (p1_f_0)]:List Value).toArray 9 (0,0))::M=M'∧[(0,v0),(1,.func (.func 60) [].toArray [.pointer (some ⟨b0,0,none⟩)].toArray),(7,.int .i64 ((p0_s.length:Int))),(8,.int .i64 ((a0:Int)))]=L') _ ⟨0,_,H4 _,G,hm,(G5 _),G,G⟩ ?_;rintro _ ah _ _ ⟨a0,a2,a5,rfl,hm,a1,rfl,rfl⟩;refine gs ?_;refine gs ?_;refine bP G (fun a3=>?_) (fun a3=>?_);obtain ⟨a6,rfl,aa,ab⟩:=lR a5 a3;have hm:=(a8 _ _ _).symm.trans hm;generalize ac:a4 a6 (a0+1)=ai at hm;unfold dI at hm;refine gs ?_;refine aG ?_;refine gs ?_;refine gs ?_
 obtain ⟨ad,ae,a7,hm⟩:=aE hm;obtain ⟨_,⟨rfl⟩,af⟩:=(h0).elem a7;refine aX G G Ik I3 G (h0.mono a1) G ae a7 (aU G G LM I3 G (af.mono a1).at G ?_);refine tm call60 G G G G (fun w ht=>(sM (hm:=(G:mw ad p1_f_0=_))  ht :)) ?_;rintro _ _ _ ⟨rfl,rfl,rfl⟩;refine go ?_;refine cd hm G (fun ag hm=>?_) (fun ag hm=>?_);refine gs ?_;refine go ?_;obtain rfl:=G3 hm;refine aR a1 ?_;exact cA G G ⟨G,G,G⟩;refine eF (aJ (aS ?_));refine gj ?_;exact kj (bY (Hf _) ⟨a0+1,a6,aa,G,((HD ac _).trans hm),a1,G,G⟩) ⟨G,G,G,(Ht (fun z=>some (Value.int .i64 z)) (f_ ab (gB (mh (h0).dG)))),G6⟩;obtain rfl:=lQ a5 a3;have hm:=(a9 _ _).symm.trans hm;refine gs ?_;refine go ?_;obtain rfl:=G3 hm;refine aR a1 ?_;exact cA G G ⟨G,G,G⟩
theorem jv {B:Nat}{w0 w:World}[cP B w0] {H:Hp}{M:List bQ}{p0_s:(List aN)}{p1_f_0:ByteArray}{v0:Value}{b0:Nat}{r:Bool} (hm:cQ p0_s p1_f_0=some r) (h0:aH H v0 p0_s) (ht:St B w0 H (.obj b0 (.cells ([.string (p1_f_0)]:List Value).toArray 9 (0,0))::M) w):
    Calls prog 59 [v0,.func (.func 60) [].toArray [.pointer (some ⟨b0,0,none⟩)].toArray].toArray w (eV B w0 fun H' M' v=>H=H'∧.obj b0 (.cells ([.string (p1_f_0)]:List Value).toArray 9 (0,0))::M=M'∧.bool (r)=v):=by
 unfold cQ at hm;refine enter func59 G G G ht (gs ?_);refine gs ?_;obtain ⟨a1,a0,hm⟩:=bind_some hm;refine aC call100 G G G (fun w ht=>(jF (hm:=a0) h0 ht :)) ?_;rintro _ _ _ ⟨rfl,rfl,rfl⟩;refine go ?_;obtain rfl:=G3 hm;refine aR (G5 _) ?_;exact cA G G ⟨G,G,G⟩
theorem tK {B:Nat}{w0 w:World}[cP B w0] {H:Hp}{M:List bQ}{p0_n:aD}{on:(List ByteArray)}{v0 v1 v2 v3 v4 v5 v6:Value}{r:Int} (hm:fW p0_n on=some r) (h0:aH H v0 p0_n.bJ) (h1:aH H v1 p0_n.bM) (h2:aH H v2 p0_n.aK) (h3:aH H v3 p0_n.dR) (h4:aH H v4 p0_n.cC) (h5:aH H v5 p0_n.bZ) (h6:aH H v6 on) (ht:St B w0 H (M) w):
    Calls prog 26 [.agg [v0,v1,v2,v3,v4,v5].toArray,v6].toArray w (eV B w0 fun H' M' v=>H=H'∧M=M'∧.int .i64 (r)=v):=by
 unfold fW at hm;refine enter func26 G G G ht (gs ?_);refine dD (cs:=[v0,v1,v2,v3,v4,v5]) G G G G (fun a8=>?_);refine gs ?_;refine gs ?_;refine la It H7 G (.head _) G ?_;obtain ⟨ao,ad,hm⟩:=bind_some hm;refine aC call9 G G G (fun w ht=>(ju (hm:=ad) h0 h1 h2 h3 h4 h5 ht :)) ?_;rintro _ _ _ ⟨rfl,rfl,rfl⟩;refine gs ?_;refine cd hm G (fun ae hm=>?_) (fun ae hm=>?_);refine gs ?_;refine go ?_;obtain rfl:=G3 hm;refine aP (.cons _ (.refl _)) (aR (G5 _) ?_);exact cA G G ⟨G,G,G⟩;refine gs ?_;refine gs ?_;refine bA G G HE G h6 (go ?_);refine aG ?_;obtain ⟨a9,af,ag,hm⟩:=dB hm;refine mA (fun n H' M' L'=>∃ (a0:Nat) (a3:List ByteArray),(on).drop a0=a3∧a3.length=n∧a9 a0 a3 ()=some r∧H.le H'∧.obj a8 (.cells [v0,v1,v2,v3,v4,v5].toArray 29 (0,0))::M=M'∧[(1,v6),(2,.pointer (some ⟨a8,0,none⟩)),(13,v6),(14,.int .i64 ((on.length:Int))),(15,.int .i64 ((a0:Int)))]=L') _ ⟨0,_,G,G,hm,(G5 _),G,G⟩ ?_
 rintro _ ap _ _ ⟨a0,a3,aa,rfl,hm,a1,rfl,rfl⟩;refine gs ?_;refine gs ?_;refine bP G (fun a4=>?_) (fun a4=>?_);obtain ⟨a5,ab,rfl,a6,ah⟩:=gG aa a4;have hm:=(af _ _ _ _).symm.trans hm;generalize ai:a9 (a0+1) ab=aq at hm;unfold nK at hm;refine gs ?_;refine aG ?_;refine gs ?_;obtain ⟨_,rfl,aj⟩:=(h6).elem a6;refine aX G G HE Ii G (h6.mono a1) G (Hr _) a6 (aI G G IW G (b_.one (aj.mono a1) 0 G).at ?_);refine bL (cs:=[.string (⟨#[]⟩)]) G G JY G (fun ar=>?_);refine go ?_;refine aL (cs:=[.string (a5)]) (out:=[.string (a5)]) G Ii G G G G G (G2 G He) (aM G) (go ?_);refine aG ?_;refine gs ?_;refine fi 4 Hl G J0 G ?_;refine lo KX G (.tail _ (.head _)) G ?_;refine u5 G G G G ?_;obtain ⟨au,ak,hm⟩:=bind_some hm;refine aC call59 G G G (fun w ht=>(jv (hm:=ak) (h4.mono a1) ht :)) ?_
 rintro _ _ _ ⟨rfl,rfl,rfl⟩;refine mS G G G G (go ?_);refine cd hm G (fun al hm=>?_) (fun al hm=>?_);refine gs ?_;refine go ?_;obtain rfl:=G3 hm;refine aP (.cons _ (.cons _ (.refl _))) (aR a1 ?_);exact cA G G ⟨G,G,G⟩;refine gs ?_;obtain ⟨av,hm⟩:=aV hm;refine oz fm 4 [ph v6,ph (.int .i64 ((a0:Int))),(fun H rs v=>∃ a2:Value,[]=rs∧a2=v∧aH H a2 (oA on 0 (((a0:Int):Int).toNat))),ph (.string (a5))] ⟨om,om,?_,?_,G6⟩ ?_;rintro HX hX X Rest hR _ _ ⟨rfl,rfl⟩ _ _ ⟨rfl,rfl⟩ hU hUp;refine rT (α:=ByteArray) (l:=0) (h:=((a0:Int):Int).toNat) (xs:=on) G G HE Ii G ((h6.mono a1).mono hX) (by omega) (by omega) (.inl G) (fun cap hcap=>by rw [Hi G]; exact (.inl ⟨G,G⟩)) (fun m hmm=>(.inr ⟨_,_,_,G,G,by omega,by omega,G⟩)) (.inl ⟨G,G⟩) ?_
 intro a2 a7 aw;exact o0 ⟨a2,G,G,(a7)⟩;rintro HX hX X Rest hR hU hUp;refine aI G G IW G (bR (hR _ (.head _)) G) ?_;exact o0 ⟨G,G⟩;intro ax ac;refine dr ?_;rintro _ _ ⟨a2,rfl,rfl,a7⟩;refine dz ?_;obtain ⟨ay,am,hm⟩:=bind_some hm;refine aC call14 G G G (fun w ht=>(fB (hm:=am) a7 ht :)) ?_;rintro _ _ _ ⟨rfl,rfl,rfl⟩;refine go ?_;refine cd hm G (fun an hm=>?_) (fun an hm=>?_);refine gs ?_;refine go ?_;obtain rfl:=G3 hm;refine aP (.cons _ (.cons _ (.refl _))) (aR (G1 a1 ac) ?_);exact cA G G ⟨G,G,G⟩;refine eF (aJ (aJ (aS ?_)));refine gj ?_;refine aP (.cons _ (.refl _)) ?_;exact kj (bY (Hf _) ⟨a0+1,ab,ah,G,((HD ai _).trans hm),(G1 a1 ac),G,G⟩) ⟨G,G,G,G,(Ht (fun z=>some (Value.int .i64 z)) (cN a6 ((h6.mono a1)).dG)),G6⟩;obtain rfl:=gF aa a4;have hm:=(ag _ _).symm.trans hm;refine gs ?_;refine go ?_
 obtain rfl:=G3 hm;refine aP (.cons _ (.refl _)) (aR a1 ?_);exact cA G G ⟨G,G,G⟩
theorem A8 {B:Nat}{w0 w:World}{H:Hp}{M:List bQ}{s:List ByteArray}{v0:Value} (h0:aH H v0 s) (hz:s.length*16≤140737488355328) (ht:St B w0 H M w):
  Calls prog 12 [v0].toArray w (eV B w0 fun H' M' v=>H=H'∧∃ (v':Value) (xs':List Value),.row v' 9 (aF.sz ByteArray) s.length xs'::M=M'∧v'=v∧qQ v' xs' s):=by
 refine enter func12 G G G ht ?_;obtain ⟨o,n,c,rfl⟩:=h0.shape;refine cI ?_;refine bD (aQ G G G ?_);refine bE (aS ?_);refine cI ?_;refine cI ?_;refine bD (bV G G G (qq G G HE G G ?_));refine bE (aS ?_);cases o with
 | none=>
  refine bP (b:=true) G (fun _=>?_) (fun hb=>Bool.noConfusion hb);obtain rfl:=h0.isNil;refine cI ?_;refine bD (aQ G G G ?_);refine bE (aS ?_);refine lC (jO ?_);refine fE 9 (aF.sz ByteArray) ?_;exact cA G G ⟨G,.slice none 0 0,[],G,G,(Rw.nil (H:=H)).nb⟩
 | some a=>
  refine bP (b:=false) G (fun hb=>Bool.noConfusion hb) (fun _=>?_);refine eF (aS ?_);refine cI ?_;refine bD (oZ ByteArray G G HE Ii ?_);intro v1 xs1 h1;refine bV G G G (dE (α:=ByteArray) (l:=[]) (ys:=s) (bytes:=16) G G Mb ⟨_,G,G,G,G⟩ G G G G G h1 h0 (by simpa using hz) ?_)
  intro v2 xs2 h2;refine aQ G G G ?_;refine bE (aS ?_);refine lC ?_;exact cA G G ⟨G,v2,xs2,G,G,h2.nb⟩
theorem zn {B:Nat}{w0 w:World}{H:Hp}{M:List bQ}{s:List cO}{v0:Value} (h0:aH H v0 s) (hz:s.length*56≤140737488355328) (ht:St B w0 H M w):
  Calls prog 101 [v0].toArray w (eV B w0 fun H' M' v=>H=H'∧∃ (v':Value) (xs':List Value),.row v' 80 (aF.sz cO) s.length xs'::M=M'∧v'=v∧qQ v' xs' s):=by
 refine enter func101 G G G ht ?_;obtain ⟨o,n,c,rfl⟩:=h0.shape;refine cI ?_;refine bD (aQ G G G ?_);refine bE (aS ?_);refine cI ?_;refine cI ?_;refine bD (bV G G G (qq G G Kp G G ?_));refine bE (aS ?_);cases o with
 | none=>
  refine bP (b:=true) G (fun _=>?_) (fun hb=>Bool.noConfusion hb);obtain rfl:=h0.isNil;refine cI ?_;refine bD (aQ G G G ?_);refine bE (aS ?_);refine lC (jO ?_);refine fE 80 (aF.sz cO) ?_;exact cA G G ⟨G,.slice none 0 0,[],G,G,(Rw.nil (H:=H)).nb⟩
 | some a=>
  refine bP (b:=false) G (fun hb=>Bool.noConfusion hb) (fun _=>?_);refine eF (aS ?_);refine cI ?_;refine bD (oZ cO G G Kp LY ?_);intro v1 xs1 h1;refine bV G G G (dE (α:=cO) (l:=[]) (ys:=s) (bytes:=56) G G underlying23 ⟨_,G,G,G,G⟩ G G G G G h1 h0 (by simpa using hz) ?_)
  intro v2 xs2 h2;refine aQ G G G ?_;refine bE (aS ?_);refine lC ?_;exact cA G G ⟨G,v2,xs2,G,G,h2.nb⟩
theorem zo {B:Nat}{w0 w:World}{H:Hp}{M:List bQ}{s:List bF}{v0:Value} (h0:aH H v0 s) (hz:s.length*96≤140737488355328) (ht:St B w0 H M w):
  Calls prog 102 [v0].toArray w (eV B w0 fun H' M' v=>H=H'∧∃ (v':Value) (xs':List Value),.row v' 56 (aF.sz bF) s.length xs'::M=M'∧v'=v∧qQ v' xs' s):=by
 refine enter func102 G G G ht ?_;obtain ⟨o,n,c,rfl⟩:=h0.shape;refine cI ?_;refine bD (aQ G G G ?_);refine bE (aS ?_);refine cI ?_;refine cI ?_;refine bD (bV G G G (qq G G I1 G G ?_));refine bE (aS ?_);cases o with
 | none=>
  refine bP (b:=true) G (fun _=>?_) (fun hb=>Bool.noConfusion hb);obtain rfl:=h0.isNil;refine cI ?_;refine bD (aQ G G G ?_);refine bE (aS ?_);refine lC (jO ?_);refine fE 56 (aF.sz bF) ?_;exact cA G G ⟨G,.slice none 0 0,[],G,G,(Rw.nil (H:=H)).nb⟩
 | some a=>
  refine bP (b:=false) G (fun hb=>Bool.noConfusion hb) (fun _=>?_);refine eF (aS ?_);refine cI ?_;refine bD (oZ bF G G I1 JT ?_);intro v1 xs1 h1;refine bV G G G (dE (α:=bF) (l:=[]) (ys:=s) (bytes:=96) G G underlying24 ⟨_,G,G,G,G⟩ G G G G G h1 h0 (by simpa using hz) ?_)
  intro v2 xs2 h2;refine aQ G G G ?_;refine bE (aS ?_);refine lC ?_;exact cA G G ⟨G,v2,xs2,G,G,h2.nb⟩
theorem zp {B:Nat}{w0 w:World}{H:Hp}{M:List bQ}{s:List cU}{v0:Value} (h0:aH H v0 s) (hz:s.length*56≤140737488355328) (ht:St B w0 H M w):
  Calls prog 103 [v0].toArray w (eV B w0 fun H' M' v=>H=H'∧∃ (v':Value) (xs':List Value),.row v' 117 (aF.sz cU) s.length xs'::M=M'∧v'=v∧qQ v' xs' s):=by
 refine enter func103 G G G ht ?_;obtain ⟨o,n,c,rfl⟩:=h0.shape;refine cI ?_;refine bD (aQ G G G ?_);refine bE (aS ?_);refine cI ?_;refine cI ?_;refine bD (bV G G G (qq G G Je G G ?_));refine bE (aS ?_);cases o with
 | none=>
  refine bP (b:=true) G (fun _=>?_) (fun hb=>Bool.noConfusion hb);obtain rfl:=h0.isNil;refine cI ?_;refine bD (aQ G G G ?_);refine bE (aS ?_);refine lC (jO ?_);refine fE 117 (aF.sz cU) ?_;exact cA G G ⟨G,.slice none 0 0,[],G,G,(Rw.nil (H:=H)).nb⟩
 | some a=>
  refine bP (b:=false) G (fun hb=>Bool.noConfusion hb) (fun _=>?_);refine eF (aS ?_);refine cI ?_;refine bD (oZ cU G G Je J4 ?_);intro v1 xs1 h1;refine bV G G G (dE (α:=cU) (l:=[]) (ys:=s) (bytes:=56) G G underlying25 ⟨_,G,G,G,G⟩ G G G G G h1 h0 (by simpa using hz) ?_)
  intro v2 xs2 h2;refine aQ G G G ?_;refine bE (aS ?_);refine lC ?_;exact cA G G ⟨G,v2,xs2,G,G,h2.nb⟩
theorem zq {B:Nat}{w0 w:World}{H:Hp}{M:List bQ}{s:List aN}{v0:Value} (h0:aH H v0 s) (hz:s.length*40≤140737488355328) (ht:St B w0 H M w):
  Calls prog 104 [v0].toArray w (eV B w0 fun H' M' v=>H=H'∧∃ (v':Value) (xs':List Value),.row v' 32 (aF.sz aN) s.length xs'::M=M'∧v'=v∧qQ v' xs' s):=by
 refine enter func104 G G G ht ?_;obtain ⟨o,n,c,rfl⟩:=h0.shape;refine cI ?_;refine bD (aQ G G G ?_);refine bE (aS ?_);refine cI ?_;refine cI ?_;refine bD (bV G G G (qq G G Ik G G ?_));refine bE (aS ?_);cases o with
 | none=>
  refine bP (b:=true) G (fun _=>?_) (fun hb=>Bool.noConfusion hb);obtain rfl:=h0.isNil;refine cI ?_;refine bD (aQ G G G ?_);refine bE (aS ?_);refine lC (jO ?_);refine fE 32 (aF.sz aN) ?_;exact cA G G ⟨G,.slice none 0 0,[],G,G,(Rw.nil (H:=H)).nb⟩
 | some a=>
  refine bP (b:=false) G (fun hb=>Bool.noConfusion hb) (fun _=>?_);refine eF (aS ?_);refine cI ?_;refine bD (oZ aN G G Ik I3 ?_);intro v1 xs1 h1;refine bV G G G (dE (α:=aN) (l:=[]) (ys:=s) (bytes:=40) G G underlying26 ⟨_,G,G,G,G⟩ G G G G G h1 h0 (by simpa using hz) ?_)
  intro v2 xs2 h2;refine aQ G G G ?_;refine bE (aS ?_);refine lC ?_;exact cA G G ⟨G,v2,xs2,G,G,h2.nb⟩
theorem zr {B:Nat}{w0 w:World}{H:Hp}{M:List bQ}{s:List dS}{v0:Value} (h0:aH H v0 s) (hz:s.length*56≤140737488355328) (ht:St B w0 H M w):
  Calls prog 105 [v0].toArray w (eV B w0 fun H' M' v=>H=H'∧∃ (v':Value) (xs':List Value),.row v' 121 (aF.sz dS) s.length xs'::M=M'∧v'=v∧qQ v' xs' s):=by
 refine enter func105 G G G ht ?_;obtain ⟨o,n,c,rfl⟩:=h0.shape;refine cI ?_;refine bD (aQ G G G ?_);refine bE (aS ?_);refine cI ?_;refine cI ?_;refine bD (bV G G G (qq G G J3 G G ?_));refine bE (aS ?_);cases o with
 | none=>
  refine bP (b:=true) G (fun _=>?_) (fun hb=>Bool.noConfusion hb);obtain rfl:=h0.isNil;refine cI ?_;refine bD (aQ G G G ?_);refine bE (aS ?_);refine lC (jO ?_);refine fE 121 (aF.sz dS) ?_;exact cA G G ⟨G,.slice none 0 0,[],G,G,(Rw.nil (H:=H)).nb⟩
 | some a=>
  refine bP (b:=false) G (fun hb=>Bool.noConfusion hb) (fun _=>?_);refine eF (aS ?_);refine cI ?_;refine bD (oZ dS G G J3 L7 ?_);intro v1 xs1 h1;refine bV G G G (dE (α:=dS) (l:=[]) (ys:=s) (bytes:=56) G G underlying27 ⟨_,G,G,G,G⟩ G G G G G h1 h0 (by simpa using hz) ?_)
  intro v2 xs2 h2;refine aQ G G G ?_;refine bE (aS ?_);refine lC ?_;exact cA G G ⟨G,v2,xs2,G,G,h2.nb⟩
theorem tH {B:Nat}{w0 w:World}[cP B w0] {H:Hp}{M:List bQ}{p0_n:aD}{v0 v1 v2 v3 v4 v5:Value}{r:aD} (hm:nr p0_n=some r) (h0:aH H v0 p0_n.bJ) (h1:aH H v1 p0_n.bM) (h2:aH H v2 p0_n.aK) (h3:aH H v3 p0_n.dR) (h4:aH H v4 p0_n.cC) (h5:aH H v5 p0_n.bZ) (ht:St B w0 H (M) w):
    Calls prog 61 [.agg [v0,v1,v2,v3,v4,v5].toArray].toArray w (eV B w0 fun H' M' v=>H=H'∧∃ qv0:Value,∃ qxs0:List Value,∃ qv1:Value,∃ qxs1:List Value,∃ qv2:Value,∃ qxs2:List Value,∃ qv3:Value,∃ qxs3:List Value,∃ qv4:Value,∃ qxs4:List Value,∃ qv5:Value,∃ qxs5:List Value,.row qv0 9 (aF.sz ByteArray) r.bJ.length qxs0::.row qv1 80 (aF.sz cO) r.bM.length qxs1::.row qv2 56 (aF.sz bF) r.aK.length qxs2::.row qv3 117 (aF.sz cU) r.dR.length qxs3::.row qv4 32 (aF.sz aN) r.cC.length qxs4::.row qv5 121 (aF.sz dS) r.bZ.length qxs5::M=M'∧.agg [qv0,qv1,qv2,qv3,qv4,qv5].toArray=v∧qQ qv0 qxs0 r.bJ∧qQ qv1 qxs1 r.bM∧qQ qv2 qxs2 r.aK∧qQ qv3 qxs3 r.dR∧qQ qv4 qxs4 r.cC∧qQ qv5 qxs5 r.bZ):=by
 unfold nr at hm;refine enter func61 G G G ht (gs ?_);refine dD (cs:=[v0,v1,v2,v3,v4,v5]) G G G G (fun ae=>?_);refine bL (cs:=[.slice none 0 0,.slice none 0 0,.slice none 0 0,.slice none 0 0,.slice none 0 0,.slice none 0 0]) G G Kl G (fun aj=>?_);refine gs ?_;obtain ⟨ak,hm⟩:=aV hm;obtain ⟨al,hm⟩:=aV hm;obtain ⟨am,hm⟩:=aV hm;obtain ⟨an,hm⟩:=aV hm;obtain ⟨ao,hm⟩:=aV hm;refine oz fm 17 [ph (.pointer (some ⟨ae,0,none⟩)),ph v0,(fun H rs v=>∃ a0:Value,∃ a5:List Value,[.row a0 9 (aF.sz ByteArray) p0_n.bJ.length a5]=rs∧a0=v∧Rw H a0 a5 p0_n.bJ),ph (.pointer (some ⟨ae,1,none⟩)),ph v1,(fun H rs v=>∃ a1:Value,∃ a6:List Value,[.row a1 80 (aF.sz cO) p0_n.bM.length a6]=rs∧a1=v∧Rw H a1 a6 p0_n.bM),ph (.pointer (some ⟨ae,2,none⟩)),ph v2,(fun H rs v=>∃ a2:Value,∃ a7:List Value,[.row a2 56 (aF.sz bF) p0_n.aK.length a7]=rs∧a2=v∧Rw H a2 a7 p0_n.aK),ph (.pointer (some ⟨ae,3,none⟩)),ph v3,(fun H rs v=>∃ a3:Value,∃ a8:List Value,[.row a3 117 (aF.sz cU) p0_n.dR.length a8]=rs∧a3=v∧Rw H a3 a8 p0_n.dR),ph (.pointer (some ⟨ae,4,none⟩)),ph v4,(fun H rs v=>∃ a4:Value,∃ a9:List Value,[.row a4 32 (aF.sz aN) p0_n.cC.length a9]=rs∧a4=v∧Rw H a4 a9 p0_n.cC),ph (.pointer (some ⟨ae,5,none⟩)),ph v5] ⟨?_,?_,?_,?_,?_,?_,?_,?_,?_,?_,?_,?_,?_,?_,?_,?_,?_,G6⟩ ?_
 rintro HX hX X Rest hR hU hUp;refine fi 0 Hl G JM G ?_;exact o0 ⟨G,G⟩;rintro HX hX X Rest hR _ _ ⟨rfl,rfl⟩ hU hUp;refine aI G G JX G (bR (hR _ (.tail _ (.head _))) G) ?_;exact o0 ⟨G,G⟩;rintro HX hX X Rest hR _ _ ⟨rfl,rfl⟩ hU hUp;refine aC call12 G G G (fun w ht=>(A8 (s:=p0_n.bJ) (h0.mono hX) ak ht :)) ?_;rintro _ _ _ ⟨rfl,a0,a5,rfl,rfl,aa⟩;have aa:=aa HX;exact oe [.row a0 9 (aF.sz ByteArray) p0_n.bJ.length a5] (G5 _) ⟨a0,a5,G,G,(aa)⟩;rintro HX hX X Rest hR hU hUp;refine fi 1 Hl G sizeOf23 G ?_;exact o0 ⟨G,G⟩;rintro HX hX X Rest hR _ _ ⟨rfl,rfl⟩ hU hUp;refine aI G G isAgg23 G (bR (hR _ (.tail _ (.head _))) G) ?_;exact o0 ⟨G,G⟩;rintro HX hX X Rest hR _ _ ⟨rfl,rfl⟩ _ _ ⟨a0,a5,rfl,rfl,aa⟩ hU hUp;refine aC call101 G G G (fun w ht=>(zn (s:=p0_n.bM) (h1.mono hX) al ht :)) ?_;rintro _ _ _ ⟨rfl,a1,a6,rfl,rfl,ab⟩;have ab:=ab HX
 exact oe [.row a1 80 (aF.sz cO) p0_n.bM.length a6] (G5 _) ⟨a1,a6,G,G,(ab)⟩;rintro HX hX X Rest hR hU hUp;refine fi 2 Hl G Lj G ?_;exact o0 ⟨G,G⟩;rintro HX hX X Rest hR _ _ ⟨rfl,rfl⟩ hU hUp;refine aI G G LL G (bR (hR _ (.tail _ (.head _))) G) ?_;exact o0 ⟨G,G⟩;rintro HX hX X Rest hR _ _ ⟨rfl,rfl⟩ _ _ ⟨a1,a6,rfl,rfl,ab⟩ hU hUp;refine aC call102 G G G (fun w ht=>(zo (s:=p0_n.aK) (h2.mono hX) am ht :)) ?_;rintro _ _ _ ⟨rfl,a2,a7,rfl,rfl,ac⟩;have ac:=ac HX;exact oe [.row a2 56 (aF.sz bF) p0_n.aK.length a7] (G5 _) ⟨a2,a7,G,G,(ac)⟩;rintro HX hX X Rest hR hU hUp;refine fi 3 Hl G K7 G ?_;exact o0 ⟨G,G⟩;rintro HX hX X Rest hR _ _ ⟨rfl,rfl⟩ hU hUp;refine aI G G L6 G (bR (hR _ (.tail _ (.head _))) G) ?_;exact o0 ⟨G,G⟩;rintro HX hX X Rest hR _ _ ⟨rfl,rfl⟩ _ _ ⟨a2,a7,rfl,rfl,ac⟩ hU hUp;refine aC call103 G G G (fun w ht=>(zp (s:=p0_n.dR) (h3.mono hX) an ht :)) ?_
 rintro _ _ _ ⟨rfl,a3,a8,rfl,rfl,ad⟩;have ad:=ad HX;exact oe [.row a3 117 (aF.sz cU) p0_n.dR.length a8] (G5 _) ⟨a3,a8,G,G,(ad)⟩;rintro HX hX X Rest hR hU hUp;refine fi 4 Hl G J0 G ?_;exact o0 ⟨G,G⟩;rintro HX hX X Rest hR _ _ ⟨rfl,rfl⟩ hU hUp;refine aI G G KX G (bR (hR _ (.tail _ (.head _))) G) ?_;exact o0 ⟨G,G⟩;rintro HX hX X Rest hR _ _ ⟨rfl,rfl⟩ _ _ ⟨a3,a8,rfl,rfl,ad⟩ hU hUp;refine aC call104 G G G (fun w ht=>(zq (s:=p0_n.cC) (h4.mono hX) ao ht :)) ?_;rintro _ _ _ ⟨rfl,a4,a9,rfl,rfl,af⟩;have af:=af HX;exact oe [.row a4 32 (aF.sz aN) p0_n.cC.length a9] (G5 _) ⟨a4,a9,G,G,(af)⟩;rintro HX hX X Rest hR hU hUp;refine fi 5 Hl G sizeOf27 G ?_;exact o0 ⟨G,G⟩;rintro HX hX X Rest hR _ _ ⟨rfl,rfl⟩ hU hUp;refine aI G G isAgg27 G (bR (hR _ (.tail _ (.head _))) G) ?_;exact o0 ⟨G,G⟩;intro ap ai;refine dr ?_;rintro _ _ ⟨a0,a5,rfl,rfl,aa⟩
 refine dr ?_;rintro _ _ ⟨a1,a6,rfl,rfl,ab⟩;refine dr ?_;rintro _ _ ⟨a2,a7,rfl,rfl,ac⟩;refine dr ?_;rintro _ _ ⟨a3,a8,rfl,rfl,ad⟩;refine dr ?_;rintro _ _ ⟨a4,a9,rfl,rfl,af⟩;refine dz ?_;refine gE (M':=.row a0 9 (aF.sz ByteArray) p0_n.bJ.length a5::.row a1 80 (aF.sz cO) p0_n.bM.length a6::.row a2 56 (aF.sz bF) p0_n.aK.length a7::.row a3 117 (aF.sz cU) p0_n.dR.length a8::.row a4 32 (aF.sz aN) p0_n.cC.length a9::.obj aj (.cells ([.slice none 0 0,.slice none 0 0,.slice none 0 0,.slice none 0 0,.slice none 0 0,.slice none 0 0]:List Value).toArray 29 (0,0))::.obj ae (.cells [v0,v1,v2,v3,v4,v5].toArray 29 (0,0))::M) G ?_;obtain ⟨aq,hm⟩:=aV hm;refine aC call105 G G G (fun w ht=>(zr (s:=p0_n.bZ) (h5.mono ai) aq ht :)) ?_;rintro _ _ _ ⟨rfl,ag,ar,rfl,rfl,ah⟩;have ah:=ah ap;refine dZ (css:=[[a0],[a1],[a2],[a3],[a4],[ag]]) (zs:=[.slice none 0 0,.slice none 0 0,.slice none 0 0,.slice none 0 0,.slice none 0 0,.slice none 0 0]) (out:=[a0,a1,a2,a3,a4,ag]) (places:=[(0,1),(1,1),(2,1),(3,1),(4,1),(5,1)]) G G G ⟨(Rw.cells aa),(Rw.cells ab),(Rw.cells ac),(Rw.cells ad),(Rw.cells af),(Rw.cells ah),G6⟩ Kl G Hl (fun w=>by kernel_rfl) G ?_
 refine a_ (.trans (.cons _ (.cons _ (.cons _ (.cons _ (.cons _ (.swap _ _ _)))))) (.trans (.cons _ (.cons _ (.cons _ (.cons _ (.swap _ _ _))))) (.trans (.cons _ (.cons _ (.cons _ (.swap _ _ _)))) (.trans (.cons _ (.cons _ (.swap _ _ _))) (.trans (.cons _ (.swap _ _ _)) (.swap _ _ _)))))) (aL (cs:=[a0,a1,a2,a3,a4,ag]) (out:=[a0,a1,a2,a3,a4,ag]) G H7 G G G G G (G2 (Rw.one aa) (G2 (Rw.one ab) (G2 (Rw.one ac) (G2 (Rw.one ad) (G2 (Rw.one af) (G2 (Rw.one ah) He)))))) (aM G) (go ?_));obtain rfl:=G3 hm;exact gR ai G (eI.agg G It H7 (.head _) G) (.cons _ (.cons_cons _ (.cons_cons _ (.cons_cons _ (.cons_cons _ (.cons_cons _ (.cons_cons _ (.cons _ (.refl _))))))))) (.trans (.swap _ _ _) (.trans (.cons _ (.swap _ _ _)) (.trans (.cons _ (.cons _ (.swap _ _ _))) (.trans (.cons _ (.cons _ (.cons _ (.swap _ _ _)))) (.cons _ (.cons _ (.cons _ (.cons _ (.swap _ _ _))))))))) ⟨G,a0,a5,a1,a6,a2,a7,a3,a8,a4,a9,ag,ar,G,G,(aa).nb,(ab).nb,(ac).nb,(ad).nb,(af).nb,(ah).nb⟩
theorem qh {B:Nat}{w0 w:World}[cP B w0] {H:Hp}{M:List bQ}{p0_l:aN}{p1_c1:(List ByteArray)}{b0:Nat}{v0:Value}{r:Bool} (hm:ky p0_l p1_c1=some r) (h0:aH H v0 p1_c1) (ht:St B w0 H (.obj b0 (.cells [v0].toArray 22 (0,0))::M) w):
    Calls prog 63 [.agg [.string (p0_l.Name),.string (p0_l.Node),.int .i64 (p0_l.bN)].toArray,.pointer (some ⟨b0,0,none⟩)].toArray w (eV B w0 fun H' M' v=>H=H'∧.obj b0 (.cells [v0].toArray 22 (0,0))::M=M'∧.bool (r)=v):=by
 unfold ky at hm;refine enter func63 G G G ht (gs ?_);refine dD (cs:=[.string (p0_l.Name),.string (p0_l.Node),.int .i64 (p0_l.bN)]) G G G G (fun a1=>?_);refine gs ?_;refine lo JX G (.tail _ (.head _)) G ?_;refine fi 0 Jn G Ii G ?_;refine lo IW G (.head _) G ?_;obtain ⟨a2,a0,hm⟩:=bind_some hm;refine aC call14 G G G (fun w ht=>(fB (hm:=a0) h0 ht :)) ?_;rintro _ _ _ ⟨rfl,rfl,rfl⟩;refine mS G G G G (go ?_);obtain rfl:=G3 hm;refine aP (.cons _ (.refl _)) (aR (G5 _) ?_);exact cA G G ⟨G,G,G⟩
theorem jT {B:Nat}{w0 w:World}[cP B w0] {H:Hp}{M:List bQ}{p0_s:(List aN)}{p1_f_0:(List ByteArray)}{v0:Value}{b0:Nat}{v1:Value}{r:Int} (hm:cX p0_s p1_f_0=some r) (h0:aH H v0 p0_s) (h1:aH H v1 p1_f_0) (ht:St B w0 H (.obj b0 (.cells [v1].toArray 22 (0,0))::M) w):
    Calls prog 100 [v0,.func (.func 63) [].toArray [.pointer (some ⟨b0,0,none⟩)].toArray].toArray w (eV B w0 fun H' M' v=>H=H'∧.obj b0 (.cells [v1].toArray 22 (0,0))::M=M'∧.int .i64 (r)=v):=by
 unfold cX at hm;refine enter func100 G G G ht (gs ?_);refine gs ?_;refine gs ?_;refine bA G G Ik G h0 (go ?_);refine aG ?_;obtain ⟨a4,a8,a9,hm⟩:=ke hm;refine mA (fun n H' M' L'=>∃ (a0:Nat) (a2:Nat),a0+a2=((p0_s.length:Int):Int).toNat∧a2=n∧a4 a2 a0 ()=some r∧H.le H'∧.obj b0 (.cells [v1].toArray 22 (0,0))::M=M'∧[(0,v0),(1,.func (.func 63) [].toArray [.pointer (some ⟨b0,0,none⟩)].toArray),(7,.int .i64 ((p0_s.length:Int))),(8,.int .i64 ((a0:Int)))]=L') _ ⟨0,_,H4 _,G,hm,(G5 _),G,G⟩ ?_;rintro _ ah _ _ ⟨a0,a2,a5,rfl,hm,a1,rfl,rfl⟩;refine gs ?_;refine gs ?_;refine bP G (fun a3=>?_) (fun a3=>?_);obtain ⟨a6,rfl,aa,ab⟩:=lR a5 a3;have hm:=(a8 _ _ _).symm.trans hm;generalize ac:a4 a6 (a0+1)=ai at hm;unfold dJ at hm;refine gs ?_;refine aG ?_;refine gs ?_;refine gs ?_;obtain ⟨aj,ad,a7,hm⟩:=aE hm
 obtain ⟨_,⟨rfl⟩,ae⟩:=(h0).elem a7;refine aX G G Ik I3 G (h0.mono a1) G ad a7 (aU G G LM I3 G (ae.mono a1).at G ?_);obtain ⟨ak,af,hm⟩:=bind_some hm;refine tm call63 G G G G (fun w ht=>(qh (hm:=af) (h1.mono a1) ht :)) ?_;rintro _ _ _ ⟨rfl,rfl,rfl⟩;refine go ?_;refine cd hm G (fun ag hm=>?_) (fun ag hm=>?_);refine gs ?_;refine go ?_;obtain rfl:=G3 hm;refine aR a1 ?_;exact cA G G ⟨G,G,G⟩;refine eF (aJ (aS ?_));refine gj ?_;exact kj (bY (Hf _) ⟨a0+1,a6,aa,G,((HD ac _).trans hm),a1,G,G⟩) ⟨G,G,G,(Ht (fun z=>some (Value.int .i64 z)) (f_ ab (gB (mh (h0).dG)))),G6⟩;obtain rfl:=lQ a5 a3;have hm:=(a9 _ _).symm.trans hm;refine gs ?_;refine go ?_;obtain rfl:=G3 hm;refine aR a1 ?_;exact cA G G ⟨G,G,G⟩
theorem jE {B:Nat}{w0 w:World}[cP B w0] {H:Hp}{M:List bQ}{p0_s:(List aN)}{del_0:(List ByteArray)}{v0:Value}{xs0:List Value}{b0:Nat}{v1:Value}{r:(List aN)} (hm:cG p0_s del_0=some r) (h0:Rw H v0 xs0 p0_s) (h1:aH H v1 del_0) (ht:St B w0 H (.row v0 32 (aF.sz aN) p0_s.length xs0::.obj b0 (.cells [v1].toArray 22 (0,0))::M) w):
    Calls prog 62 [v0,.func (.func 63) [].toArray [.pointer (some ⟨b0,0,none⟩)].toArray].toArray w (eV B w0 fun H' M' v=>H=H'∧∃ qv0:Value,∃ qxs0:List Value,.row qv0 32 (aF.sz aN) r.length qxs0::.obj b0 (.cells [v1].toArray 22 (0,0))::M=M'∧qv0=v∧qQ qv0 qxs0 r):=by
 unfold cG at hm;refine enter func62 G G G ht (gs ?_);refine gs ?_;obtain ⟨b5,ah,hm⟩:=bind_some hm;refine aC call100 G G G (fun w ht=>by obtain ⟨H0_,hl0_,ht0_,hr0_,bk0_⟩:=ht.fM h0 G; have h:=jT (hm:=ah) hr0_ (h1.mono hl0_) ht0_; exact dP bk0_ (h)) ?_
 rintro _ _ _ ⟨rfl,⟨_,rfl,rfl,rfl⟩⟩;refine gs ?_;refine gs ?_;refine cd hm G (fun ai hm=>?_) (fun ai hm=>?_);refine gs ?_;refine go ?_;obtain rfl:=G3 hm;refine aR (G5 _) ?_;exact cA G G ⟨G,v0,xs0,G,G,(h0).nb⟩;refine gs ?_;refine gs ?_;refine aG ?_;obtain ⟨ad,aj,ak,hm⟩:=kz hm;refine mA (fun n H' M' L'=>∃ a3:List aN,∃ a1 a4:Int,∃ a5:List Value,ad n (a3,a1,a4)=some r∧Rw H' v0 a5 a3∧H.le H'∧.row v0 32 (aF.sz aN) a3.length a5::.obj b0 (.cells [v1].toArray 22 (0,0))::M=M'∧[(0,v0),(1,.func (.func 63) [].toArray [.pointer (some ⟨b0,0,none⟩)].toArray),(5,.int .i64 (a1)),(6,.int .i64 (a4))]=L') fX ⟨_,_,_,_,hm,h0,(G5 _),G,G⟩ ?_;rintro a8 al _ _ ⟨a3,a1,a4,a5,hm,a2,a9,rfl,rfl⟩
 rcases a8 with _ | a8
 exact nomatch (ak _).symm.trans hm;have hm:=(aj _ _).symm.trans hm;generalize am:ad a8=an at hm
 try dsimp only at hm
 unfold dH at hm;refine gs ?_;refine gs ?_;refine me (.head _) G G Ik G (go ?_);refine cd hm G (fun ao hm=>?_) (fun ao hm=>?_);refine go ?_;refine bH (fun H' M' L'=>∃ a6:List aN,∃ aa:Int,∃ ab:List Value,cB a4 an a6 aa=some r∧Rw H' v0 ab a6∧al=H'∧.row v0 32 (aF.sz aN) a6.length ab::.obj b0 (.cells [v1].toArray 22 (0,0))::M=M'∧[(0,v0),(1,.func (.func 63) [].toArray [.pointer (some ⟨b0,0,none⟩)].toArray),(5,.int .i64 (aa)),(6,.int .i64 (a4))]=L') ?_ (fun ae=>?_);rintro _ _ _ ⟨a6,aa,ab,hm,ap,rfl,rfl,rfl⟩;unfold cB at hm;refine gj ?_;exact kj (bY (Hf _) ⟨_,_,_,_,((HD am _).trans hm),ap,a9,G,G⟩);refine aG ?_;refine gs ?_;obtain ⟨a0,aq,af,hm⟩:=aE hm;refine bI (.head _) G G Ik I3 G G aq (G4.1 af).1 ?_;obtain ⟨_,rfl,ar⟩:=(a2).elem af;refine aU (cs:=[.string (a0.Name),.string (a0.Node),.int .i64 (a0.bN)]) G G LM I3 G (ra (.head _) ar) G ?_
 refine bL (cs:=[.string (⟨#[]⟩),.string (⟨#[]⟩),.int .i64 (0)]) G G KO G (fun b6=>?_);refine aL (cs:=[.string (a0.Name),.string (a0.Node),.int .i64 (a0.bN)]) (out:=[.string (a0.Name),.string (a0.Node),.int .i64 (a0.bN)]) G I3 G G G G G (G2 G (G2 G (G2 G He))) (aM G) (gs ?_);refine la LM I3 G (.head _) G ?_;refine a_ (.trans (.cons _ (.swap _ _ _)) (.swap _ _ _)) ?_;obtain ⟨b7,au,hm⟩:=bind_some hm;refine tm call63 G G G G (fun w ht=>(qh (hm:=au) (h1.mono a9) ht :)) ?_;rintro _ _ _ ⟨rfl,rfl,rfl⟩;refine mS G G G G (go ?_);refine cd hm G (fun av hm=>?_) (fun av hm=>?_);refine gs ?_;refine la LM I3 G (.tail _ (.head _)) G ?_;obtain ⟨ac,aw,a7,hm⟩:=aE hm;refine bI (.tail _ (.tail _ (.head _))) G G Ik I3 G G aw (G4.1 a7).1 ?_;obtain ⟨_,rfl,ax⟩:=(a2).elem a7;refine a_ (.trans (.cons _ (.swap _ _ _)) (.swap _ _ _)) ?_
 obtain ⟨ag,b8,ay⟩:=Rw.put (cs:=[.string (a0.Name),.string (a0.Node),.int .i64 (a0.bN)]) (o:=0) (c:=[.string (ac.Name),.string (ac.Node),.int .i64 (ac.bN)]) (out:=[.string (a0.Name),.string (a0.Node),.int .i64 (a0.bN)]) (e2:=a0) a2 a7 rfl ax rfl rfl rfl;refine dA (i:=(a1:Int).toNat*aF.sz aN+0) (cs:=[.string (a0.Name),.string (a0.Node),.int .i64 (a0.bN)]) G I3 G (fC _ _) G G G (Rw.room a2 a7 G) G (G2 G (G2 G (G2 G He))) (n':=(a3.set ((a1:Int).toNat) a0).length) Hx ?_;generalize over a5 ((a1:Int).toNat*aF.sz aN+0) [.string (a0.Name),.string (a0.Node),.int .i64 (a0.bN)]=b9 at ag ay ⊢;refine bE (aS ?_);refine gj ?_;refine aP (.cons_cons _ (.cons_cons _ (.cons _ (.refl _)))) ?_;exact kj (ae _ _ _ ⟨_,_,_,hm,ag,G,G,G⟩);refine gj ?_;refine aP (.cons_cons _ (.cons _ (.refl _))) ?_;exact kp (ae _ _ _ ⟨_,_,_,hm,a2,G,G,G⟩) (.swap _ _ _)
 refine gs ?_;obtain ⟨az,hm⟩:=aV hm;refine xM (α:=aN) (zs:=[.string (⟨#[]⟩),.string (⟨#[]⟩),.int .i64 (0)]) (ze:=(aN.mk (⟨#[]⟩) (⟨#[]⟩) 0)) G G (fun _=>G) underlying26 Ik I3 KO G G G G G G a2 az ?_;intro ba bb b1;refine gs ?_;obtain ⟨bc,hm⟩:=aV hm;refine u9 (α:=aN) (l:=0) (h:=(a1:Int).toNat) G G Ik I3 G G b1 (by omega) (by omega) (fun m hmm=>(.inr ⟨_,_,_,G,G,by omega,by omega,G⟩)) (.inl ⟨G,G⟩) ?_
 intro b2 b3 b4;refine go ?_;obtain rfl:=G3 hm;refine aR a9 ?_;exact cA G G ⟨G,b2,b3,G,G,(b4).nb⟩
theorem q8 {B:Nat}{w0 w:World}[cP B w0] {H:Hp}{M:List bQ}{p0_n:aD}{on:(List ByteArray)}{v0 v1 v2 v3 v4 v5 v6:Value}{r:aD} (hm:lA p0_n on=some r) (h0:aH H v0 p0_n.bJ) (h1:aH H v1 p0_n.bM) (h2:aH H v2 p0_n.aK) (h3:aH H v3 p0_n.dR) (h4:aH H v4 p0_n.cC) (h5:aH H v5 p0_n.bZ) (h6:aH H v6 on) (ht:St B w0 H (M) w):
    Calls prog 30 [.agg [v0,v1,v2,v3,v4,v5].toArray,v6].toArray w (eV B w0 fun H' M' v=>H=H'∧∃ qv0:Value,∃ qxs0:List Value,∃ qv1:Value,∃ qxs1:List Value,∃ qv2:Value,∃ qxs2:List Value,∃ qv3:Value,∃ qxs3:List Value,∃ qv4:Value,∃ qxs4:List Value,∃ qv5:Value,∃ qxs5:List Value,.row qv0 9 (aF.sz ByteArray) r.bJ.length qxs0::.row qv1 80 (aF.sz cO) r.bM.length qxs1::.row qv2 56 (aF.sz bF) r.aK.length qxs2::.row qv3 117 (aF.sz cU) r.dR.length qxs3::.row qv4 32 (aF.sz aN) r.cC.length qxs4::.row qv5 121 (aF.sz dS) r.bZ.length qxs5::M=M'∧.agg [qv0,qv1,qv2,qv3,qv4,qv5].toArray=v∧qQ qv0 qxs0 r.bJ∧qQ qv1 qxs1 r.bM∧qQ qv2 qxs2 r.aK∧qQ qv3 qxs3 r.dR∧qQ qv4 qxs4 r.cC∧qQ qv5 qxs5 r.bZ):=by
 unfold lA at hm;refine enter func30 G G G ht (gs ?_);refine dD (cs:=[v0,v1,v2,v3,v4,v5]) G G G G (fun am=>?_);refine dD (cs:=[v6]) G G G (aH.cells h6) (fun an=>?_);refine bL (cs:=[.slice none 0 0,.slice none 0 0,.slice none 0 0,.slice none 0 0,.slice none 0 0,.slice none 0 0]) G G Kl G (fun ao=>?_);refine gs ?_;refine la It H7 G (.tail _ (.tail _ (.head _))) G ?_;obtain ⟨ap,ae,hm⟩:=bind_some hm;refine aC call61 G G G (fun w ht=>(tH (hm:=ae) h0 h1 h2 h3 h4 h5 ht :)) ?_;rintro _ _ _ ⟨rfl,a0,af,a1,ag,a2,ah,a3,ai,ad,aq,a4,aj,rfl,rfl,a6,a7,a8,a9,ac,aa⟩;have a6:=a6 H;have a7:=a7 H;have a8:=a8 H;have a9:=a9 H;have ac:=ac H;have aa:=aa H;refine bL (cs:=[.slice none 0 0,.slice none 0 0,.slice none 0 0,.slice none 0 0,.slice none 0 0,.slice none 0 0]) G G Kl G (fun ar=>?_);refine aL (cs:=[a0,a1,a2,a3,ad,a4]) (out:=[a0,a1,a2,a3,ad,a4]) G H7 G G G G G (G2 (Rw.one a6) (G2 (Rw.one a7) (G2 (Rw.one a8) (G2 (Rw.one a9) (G2 (Rw.one ac) (G2 (Rw.one aa) He)))))) (aM G) (gs ?_)
 refine fi 4 Hl G J0 G ?_;refine lo KX G (.head _) G ?_;refine u5 G G G G (a_ (.trans (.cons _ (.cons _ (.cons _ (.cons _ (.swap _ _ _))))) (.trans (.cons _ (.cons _ (.cons _ (.swap _ _ _)))) (.trans (.cons _ (.cons _ (.swap _ _ _))) (.trans (.cons _ (.swap _ _ _)) (.trans (.swap _ _ _) (.trans (.cons _ (.cons _ (.cons _ (.cons _ (.cons _ (.cons _ (.cons _ (.swap _ _ _)))))))) (.trans (.cons _ (.cons _ (.cons _ (.cons _ (.cons _ (.cons _ (.swap _ _ _))))))) (.trans (.cons _ (.cons _ (.cons _ (.cons _ (.cons _ (.swap _ _ _)))))) (.trans (.cons _ (.cons _ (.cons _ (.cons _ (.swap _ _ _))))) (.trans (.cons _ (.cons _ (.cons _ (.swap _ _ _)))) (.trans (.cons _ (.cons _ (.swap _ _ _))) (.cons _ (.swap _ _ _))))))))))))) ?_);obtain ⟨au,ak,hm⟩:=bind_some hm;refine aC call62 G G G (fun w ht=>(jE (hm:=ak) ac h6 ht :)) ?_;rintro _ _ _ ⟨rfl,ab,al,rfl,rfl,a5⟩;have a5:=a5 H
 refine fi 4 Hl G J0 G ?_;refine a_ (.trans (.cons _ (.swap _ _ _)) (.swap _ _ _)) (aL (cs:=[ab]) (out:=[a0,a1,a2,a3,ab,a4]) G J0 G G (Rw.cells a5) G G (G2 (Rw.one a5) He) G (gs ?_));refine la It H7 G (.head _) G ?_;refine a_ (.trans (.cons _ (.cons _ (.cons _ (.cons _ (.cons _ (.cons _ (.cons _ (.swap _ _ _)))))))) (.trans (.cons _ (.cons _ (.cons _ (.cons _ (.cons _ (.cons _ (.swap _ _ _))))))) (.trans (.cons _ (.cons _ (.cons _ (.cons _ (.cons _ (.swap _ _ _)))))) (.trans (.cons _ (.cons _ (.cons _ (.cons _ (.swap _ _ _))))) (.trans (.cons _ (.cons _ (.cons _ (.swap _ _ _)))) (.trans (.cons _ (.cons _ (.swap _ _ _))) (.trans (.cons _ (.swap _ _ _)) (.swap _ _ _)))))))) (aL (cs:=[a0,a1,a2,a3,ab,a4]) (out:=[a0,a1,a2,a3,ab,a4]) G H7 G G G G G (G2 (Rw.one a6) (G2 (Rw.one a7) (G2 (Rw.one a8) (G2 (Rw.one a9) (G2 (Rw.one a5) (G2 (Rw.one aa) He)))))) (aM G) (go ?_))
 obtain rfl:=G3 hm;exact gR (G5 _) G (eI.agg G It H7 (.head _) G) (.cons _ (.cons _ (.cons_cons _ (.cons _ (.cons_cons _ (.cons_cons _ (.cons_cons _ (.cons_cons _ (.cons_cons _ (.cons _ (.refl _))))))))))) (.trans (.swap _ _ _) (.trans (.cons _ (.swap _ _ _)) (.trans (.cons _ (.cons _ (.swap _ _ _))) (.cons _ (.cons _ (.cons _ (.swap _ _ _))))))) ⟨G,a0,af,a1,ag,a2,ah,a3,ai,ab,al,a4,aj,G,G,(a6).nb,(a7).nb,(a8).nb,(a9).nb,(a5).nb,(aa).nb⟩
theorem q6 {B:Nat}{w0 w:World}[cP B w0] {H:Hp}{M:List bQ}{p0_n:aD}{on:(List ByteArray)}{v0 v1 v2 v3 v4 v5 v6:Value}{r:aD×Int} (hm:jD p0_n on=some r) (h0:aH H v0 p0_n.bJ) (h1:aH H v1 p0_n.bM) (h2:aH H v2 p0_n.aK) (h3:aH H v3 p0_n.dR) (h4:aH H v4 p0_n.cC) (h5:aH H v5 p0_n.bZ) (h6:aH H v6 on) (ht:St B w0 H (M) w):
    Calls prog 15 [.agg [v0,v1,v2,v3,v4,v5].toArray,v6].toArray w (eV B w0 fun H' M' v=>H.le H'∧∃ qv0 qv1 qv2 qv3 qv4 qv5:Value,M=M'∧.tuple #[.agg [qv0,qv1,qv2,qv3,qv4,qv5].toArray,.int .i64 (r.2)]=v∧aH H' qv0 r.1.bJ∧aH H' qv1 r.1.bM∧aH H' qv2 r.1.aK∧aH H' qv3 r.1.dR∧aH H' qv4 r.1.cC∧aH H' qv5 r.1.bZ):=by
 unfold jD at hm;refine enter func15 G G G ht (gs ?_);refine dD (cs:=[v0,v1,v2,v3,v4,v5]) G G G G (fun ar=>?_);refine bL (cs:=[.slice none 0 0,.slice none 0 0,.slice none 0 0,.slice none 0 0,.slice none 0 0,.slice none 0 0]) G G Kl G (fun au=>?_);refine gs ?_;refine gs ?_;refine la It H7 G (.tail _ (.head _)) G (go ?_);obtain ⟨av,ai,hm⟩:=bind_some hm;refine aC call26 G G G (fun w ht=>(tK (hm:=ai) h0 h1 h2 h3 h4 h5 h6 ht :)) ?_;rintro _ _ _ ⟨rfl,rfl,rfl⟩;refine gs ?_;refine cd hm G (fun aj hm=>?_) (fun aj hm=>?_);refine gs ?_;refine dZ (css:=[]) (zs:=[.slice none 0 0,.slice none 0 0,.slice none 0 0,.slice none 0 0,.slice none 0 0,.slice none 0 0]) (out:=[.slice none 0 0,.slice none 0 0,.slice none 0 0,.slice none 0 0,.slice none 0 0,.slice none 0 0]) (places:=[(0,1),(1,1),(2,1),(3,1),(4,1),(5,1)]) G G G G6 Kl G Hl (fun w=>by kernel_rfl) G ?_
 refine go ?_;refine aL (cs:=[.slice none 0 0,.slice none 0 0,.slice none 0 0,.slice none 0 0,.slice none 0 0,.slice none 0 0]) (out:=[.slice none 0 0,.slice none 0 0,.slice none 0 0,.slice none 0 0,.slice none 0 0,.slice none 0 0]) G H7 G G G G G (G2 G (G2 G (G2 G (G2 G (G2 G (G2 G He)))))) (aM G) (go ?_);obtain rfl:=G3 hm;exact wD (G5 _) G (eI.agg G It H7 (.head _) G) (eI.tmp G) (.cons _ (.cons _ (.refl _))) (.refl _) ⟨(G5 _),(.slice none 0 0),(.slice none 0 0),(.slice none 0 0),(.slice none 0 0),(.slice none 0 0),(.slice none 0 0),G,G,aH.nil,aH.nil,aH.nil,aH.nil,aH.nil,aH.nil⟩;refine gs ?_;refine la It H7 G (.tail _ (.head _)) G (go ?_);obtain ⟨aw,ak,hm⟩:=bind_some hm;refine aC call30 G G G (fun w ht=>(q8 (hm:=ak) h0 h1 h2 h3 h4 h5 h6 ht :)) ?_;rintro _ _ _ ⟨rfl,ac,ax,ad,ay,ae,az,af,b0,ag,b1,ah,b2,rfl,rfl,a6,a7,a8,a9,aa,ab⟩
 have a6:=a6 H;have a7:=a7 H;have a8:=a8 H;have a9:=a9 H;have aa:=aa H;have ab:=ab H;refine a_ (.trans (.cons _ (.cons _ (.cons _ (.cons _ (.cons _ (.swap _ _ _)))))) (.trans (.cons _ (.cons _ (.cons _ (.cons _ (.swap _ _ _))))) (.trans (.cons _ (.cons _ (.cons _ (.swap _ _ _)))) (.trans (.cons _ (.cons _ (.swap _ _ _))) (.trans (.cons _ (.swap _ _ _)) (.swap _ _ _)))))) (aL (cs:=[ac,ad,ae,af,ag,ah]) (out:=[ac,ad,ae,af,ag,ah]) G H7 G G G G G (G2 (Rw.one a6) (G2 (Rw.one a7) (G2 (Rw.one a8) (G2 (Rw.one a9) (G2 (Rw.one aa) (G2 (Rw.one ab) He)))))) (aM G) ?_);refine aQ G G G (bE (aS ?_));refine gj ?_;refine pf (.swap _ _ _) ?_;refine lv (a6).rd G (fun b3 a0 al=>?_);refine pf (.swap _ _ _) ?_;refine lv ((a7.mono a0)).rd G (fun b4 a1 am=>?_);refine pf (.swap _ _ _) ?_;refine lv (((a8.mono a0).mono a1)).rd G (fun b5 a2 an=>?_)
 refine pf (.swap _ _ _) ?_;refine lv ((((a9.mono a0).mono a1).mono a2)).rd G (fun b6 a3 ao=>?_);refine pf (.swap _ _ _) ?_;refine lv (((((aa.mono a0).mono a1).mono a2).mono a3)).rd G (fun b7 a4 ap=>?_);refine pf (.swap _ _ _) ?_;refine lv ((((((ab.mono a0).mono a1).mono a2).mono a3).mono a4)).rd G (fun b8 a5 aq=>?_);obtain rfl:=G3 hm;exact wD (G5 _) G (eI.agg G It H7 (.head _) G) (eI.tmp G) (.cons _ (.cons _ (.refl _))) (.refl _) ⟨(G1 (G1 (G1 (G1 (G1 a0 a1) a2) a3) a4) a5),ac,ad,ae,af,ag,ah,G,G,(((((al.mono a1).mono a2).mono a3).mono a4).mono a5),((((am.mono a2).mono a3).mono a4).mono a5),(((an.mono a3).mono a4).mono a5),((ao.mono a4).mono a5),(ap.mono a5),aq⟩
theorem tN {B:Nat}{w0 w:World}[cP B w0] {H:Hp}{M:List bQ}{p0_n:aD}{p1_open:Bool}{v0 v1 v2 v3 v4 v5:Value}{r:(List bS)×(List Int)} (hm:l7 p0_n p1_open=some r) (h0:aH H v0 p0_n.bJ) (h1:aH H v1 p0_n.bM) (h2:aH H v2 p0_n.aK) (h3:aH H v3 p0_n.dR) (h4:aH H v4 p0_n.cC) (h5:aH H v5 p0_n.bZ) (ht:St B w0 H (M) w):
    Calls prog 138 [.agg [v0,v1,v2,v3,v4,v5].toArray,.bool (p1_open)].toArray w (eV B w0 fun H' M' v=>H=H'∧∃ qv0:Value,∃ qxs0:List Value,∃ qv1:Value,∃ qxs1:List Value,.row qv0 178 (aF.sz bS) r.1.length qxs0::.row qv1 3 (aF.sz Int) r.2.length qxs1::M=M'∧.tuple #[qv0,qv1]=v∧qQ qv0 qxs0 r.1∧qQ qv1 qxs1 r.2):=by
 unfold l7 at hm;refine enter func138 G G G ht (gs ?_);refine dD (cs:=[v0,v1,v2,v3,v4,v5]) G G G G (fun a6=>?_);refine gs ?_;refine gs ?_;refine gs ?_;refine gs ?_;refine fi 1 Hl G sizeOf23 G ?_;refine lo isAgg23 G (.head _) G ?_;refine bA G G Kp G h1 (go ?_);refine aG (iU 178 (aF.sz bS) (iU 3 (aF.sz Int) ?_));obtain ⟨ar,az,b0,hm⟩:=dB hm;refine Ff (.swap _ _ _) (fun n H' M' L'=>∃ (a0:Nat) (ab:List cO),∃ a8:List bS,∃ a9:List Int,∃ a7:Value,∃ ac:List Value,∃ aa:Value,∃ ad:List Value,(p0_n.bM).drop a0=ab∧ab.length=n∧ar a0 ab (a8,a9)=some r∧Rw H' a7 ac a8∧Rw H' aa ad a9∧H.le H'∧.row a7 178 (aF.sz bS) a8.length ac::.row aa 3 (aF.sz Int) a9.length ad::.obj a6 (.cells [v0,v1,v2,v3,v4,v5].toArray 29 (0,0))::M=M'∧[(1,.bool (p1_open)),(2,.pointer (some ⟨a6,0,none⟩)),(6,a7),(7,aa),(11,v1),(12,.int .i64 ((p0_n.bM.length:Int))),(13,.int .i64 ((a0:Int)))]=L') _ ⟨0,_,_,_,_,_,_,_,G,G,hm,Rw.nil,Rw.nil,(G5 _),G,G⟩ ?_
 rintro _ b1 _ _ ⟨a0,ab,a8,a9,a7,ac,aa,ad,au,rfl,hm,ai,aj,a4,rfl,rfl⟩;refine gs ?_;refine gs ?_;refine bP G (fun ak=>?_) (fun ak=>?_);obtain ⟨a1,av,rfl,al,b2⟩:=gG au ak;have hm:=(az _ _ _ _).symm.trans hm;generalize b3:ar (a0+1) av=b4 at hm
 try dsimp only at hm
 unfold nL at hm;refine go ?_;refine bH (fun H' M' L'=>∃ ae:List bS,∃ af:List Int,∃ ag:Value,∃ am:List Value,∃ ah:Value,∃ an:List Value,kC b4 ae af=some r∧Rw H' ag am ae∧Rw H' ah an af∧b1.le H'∧.row ag 178 (aF.sz bS) ae.length am::.row ah 3 (aF.sz Int) af.length an::.obj a6 (.cells [v0,v1,v2,v3,v4,v5].toArray 29 (0,0))::M=M'∧[(1,.bool (p1_open)),(2,.pointer (some ⟨a6,0,none⟩)),(6,ag),(7,ah),(11,v1),(12,.int .i64 ((p0_n.bM.length:Int))),(13,.int .i64 ((a0:Int)))]=L') ?_ (fun aw=>?_);rintro bl _ _ ⟨ae,af,ag,am,ah,an,hm,b5,b6,b7,rfl,rfl⟩;unfold kC at hm;refine gj ?_;exact kj (bY (Hf _) ⟨a0+1,av,_,_,_,_,_,_,b2,G,((HD b3 _).trans hm),b5,b6,(G1 a4 b7),G,G⟩) ⟨G,G,G,G,G,G,(Ht (fun z=>some (Value.int .i64 z)) (cN al ((h1.mono a4)).dG)),G6⟩;refine aG ?_;refine gs ?_
 obtain ⟨_,⟨rfl⟩,b8⟩:=(h1).elem al;refine aX G G Kp LY G (h1.mono a4) G (Hr _) al (aU G G isAgg80 LY G (b8.mono a4).at G ?_);refine bL (cs:=[.string (⟨#[]⟩),.string (⟨#[]⟩),.string (⟨#[]⟩),.bool (false),.bool (false)]) G G zeroValue80 G (fun ax=>?_);refine go ?_;refine aL (cs:=[.string (a1.Name),.string (a1.A),.string (a1.B_),.bool (a1.su),.bool (a1.Open)]) (out:=[.string (a1.Name),.string (a1.A),.string (a1.B_),.bool (a1.su),.bool (a1.Open)]) G LY G G G G G (G2 G (G2 G (G2 G (G2 G (G2 G He))))) (aM G) (gs ?_);refine fi 4 KF G Iv G ?_;refine lo Ko G (.head _) G (go ?_);refine xO G G runUnderlying4 G G (go ?_);refine cd hm G (fun b9 hm=>?_) (fun b9 hm=>?_);refine gs ?_;obtain ⟨a2,ba,hm⟩:=bind_some hm;obtain ⟨a3,bb,hm⟩:=bind_some hm;refine oz fm 13 [ph a7,ph (.pointer (some ⟨a6,0,none⟩)),ph v0,ph (.pointer (some ⟨ax,1,none⟩)),ph (.string (a1.A)),ph (.int .i64 (a2)),ph (.pointer (some ⟨a6,0,none⟩)),ph v0,ph (.pointer (some ⟨ax,2,none⟩)),ph (.string (a1.B_)),ph (.int .i64 (a3)),ph (.agg [.int .i64 (a2),.int .i64 (a3)].toArray),(fun H rs v=>∃ a5:Value,[]=rs∧a5=v∧aH H a5 ([(bS.mk a2 a3)])∧Value.my a5=([(bS.mk a2 a3)]).length)] ⟨om,?_,?_,?_,?_,?_,?_,?_,?_,?_,?_,?_,?_,G6⟩ ?_
 rintro HX hX X Rest hR hU hUp;refine fi 0 Hl G JM G ?_;exact o0 ⟨G,G⟩;rintro HX hX X Rest hR _ _ ⟨rfl,rfl⟩ hU hUp;refine aI G G JX G (bR (hR _ (.tail _ (.tail _ (.tail _ (.head _))))) G) ?_;exact o0 ⟨G,G⟩;rintro HX hX X Rest hR hU hUp;refine fi 1 KF G Ii G ?_;exact o0 ⟨G,G⟩;rintro HX hX X Rest hR _ _ ⟨rfl,rfl⟩ hU hUp;refine aI G G IW G (bR (hR _ (.head _)) G) ?_;exact o0 ⟨G,G⟩;rintro HX hX X Rest hR _ _ ⟨rfl,rfl⟩ _ _ ⟨rfl,rfl⟩ hU hUp;refine aC Ly G G G (fun w ht=>(bU (hm:=ba) ((h0.mono a4).mono hX) ht :)) ?_;rintro _ _ _ ⟨rfl,rfl,rfl⟩;exact o0 ⟨G,G⟩;rintro HX hX X Rest hR hU hUp;refine fi 0 Hl G JM G ?_;exact o0 ⟨G,G⟩;rintro HX hX X Rest hR _ _ ⟨rfl,rfl⟩ hU hUp;refine aI G G JX G (bR (hR _ (.tail _ (.tail _ (.tail _ (.head _))))) G) ?_;exact o0 ⟨G,G⟩;rintro HX hX X Rest hR hU hUp;refine fi 2 KF G Ii G ?_
 exact o0 ⟨G,G⟩;rintro HX hX X Rest hR _ _ ⟨rfl,rfl⟩ hU hUp;refine aI G G IW G (bR (hR _ (.head _)) G) ?_;exact o0 ⟨G,G⟩;intro HX hX X Rest hR;refine dr ?_;intro hU hUp;refine aC Ly G G G (fun w ht=>(bU (hm:=bb) ((h0.mono a4).mono hX) ht :)) ?_;rintro _ _ _ ⟨rfl,rfl,rfl⟩;exact o0 ⟨G,G⟩;rintro HX hX X Rest hR _ _ ⟨rfl,rfl⟩ _ _ ⟨rfl,rfl⟩ hU hUp;refine sY (css:=[[.int .i64 (a2)],[.int .i64 (a3)]]) (zs:=[.int .i64 (0),.int .i64 (0)]) (out:=[.int .i64 (a2),.int .i64 (a3)]) (places:=[(0,1),(1,1)]) G G G ⟨G,G,G6⟩ LF G Jr Hm G G ?_;exact o0 ⟨G,G⟩;rintro HX hX X Rest hR _ _ ⟨rfl,rfl⟩ hU hUp;refine dK (α:=bS) (css:=[[.int .i64 (a2),.int .i64 (a3)]]) (zs:=[.int .i64 (0),.int .i64 (0)]) (out:=[.int .i64 (a2),.int .i64 (a3)]) (ys:=[(bS.mk a2 a3)]) G G G ⟨G,G6⟩ Kv LB G LF (by kernel_rfl) G G G G ⟨[.int .i64 (a2),.int .i64 (a3)],[],G,G,G⟩ G ?_
 intro bm a5 bn bc bd ao;have ay:Value.my a5=([(bS.mk a2 a3)]).length:=by rw [bc]; rfl
 exact oe [] bd ⟨a5,G,G,(ao),(ay)⟩;intro bo ap;refine dr ?_;rintro _ _ ⟨a5,rfl,rfl,ao,ay⟩;refine r8 ?_;obtain ⟨be,hm⟩:=aV hm;refine a_ (.swap _ _ _) (dE (α:=bS) (l:=a8) (ys:=[(bS.mk a2 a3)]) G G underlying177 ⟨_,G,G,G,G⟩ G G G G G (ai.mono ap) ao be ?_);intro bp bq bf;refine go ?_;refine dK (α:=Int) (css:=[[.int .i64 ((a0:Int))]]) (zs:=[.int .i64 (0)]) (out:=[.int .i64 ((a0:Int))]) (ys:=([((a0:Int))]:List Int)) G G G ⟨G,G6⟩ Hc Hm G Ke (by kernel_rfl) G G G G ⟨[.int .i64 ((a0:Int))],[],G,G,G⟩ G ?_
 intro br bg bs bh aq bi;have bt:Value.my bg=([((a0:Int))]:List Int).length:=by rw [bh]; rfl
 obtain ⟨bj,hm⟩:=aV hm;refine a_ (.trans (.cons _ (.swap _ _ _)) (.swap _ _ _)) (dE (α:=Int) (l:=a9) (ys:=([((a0:Int))]:List Int)) G G Jx ⟨_,G,G,G,G⟩ G G G G G ((aj.mono ap).mono aq) bi bj ?_);intro bu bv bk;refine gj ?_;refine aP (.cons_cons _ (.cons_cons _ (.cons _ (.refl _)))) ?_;exact kp (aw _ _ _ ⟨_,_,_,_,_,_,hm,(bf.mono aq),bk,(G1 ap aq),G,G⟩) (.swap _ _ _);refine gj ?_;refine aP (.cons _ (.refl _)) ?_;exact kj (aw _ _ _ ⟨_,_,_,_,_,_,hm,ai,aj,(G5 _),G,G⟩);obtain rfl:=gF au ak;have hm:=(b0 _ _).symm.trans hm
 try dsimp only at hm
 refine gs ?_;refine go ?_;obtain rfl:=G3 hm;refine aP (.cons_cons _ (.cons_cons _ (.cons _ (.refl _)))) (aR a4 ?_);exact gQ G G G ⟨G,a7,ac,aa,ad,G,G,(ai).nb,(aj).nb⟩
theorem uD {B:Nat}{w0 w:World}[cP B w0] {H:Hp}{M:List bQ}{p0_n:Int}{p1_l:(List bS)}{v0:Value}{r:Int} (hm:nh p0_n p1_l=some r) (h0:aH H v0 p1_l) (ht:St B w0 H (M) w):
    Calls prog 139 [.int .i64 (p0_n),v0].toArray w (eV B w0 fun H' M' v=>H=H'∧M=M'∧.int .i64 (r)=v):=by
 unfold nh at hm;refine enter func139 G G G ht (gs ?_);refine gs ?_;refine bH (fun H' M' L'=>H=H'∧M=M'∧[(0,.int .i64 (p0_n)),(1,v0),(17,.bool (((decide (p0_n<0)) || (decide (24<p0_n))) || (decide (64<(p1_l.length:Int)))))]=L') ?_ (fun a6=>?_);rintro _ _ _ ⟨rfl,rfl,rfl⟩;refine cd hm G (fun ah hm=>?_) (fun ah hm=>?_);refine gs ?_;refine go ?_;obtain rfl:=G3 hm;refine aR (G5 _) ?_;exact cA G G ⟨G,G,G⟩;refine gs ?_;refine gs ?_;refine bA G G Kv G h0 (go ?_);refine aG ?_;obtain ⟨aa,ai,aj,hm⟩:=dB hm;refine mA (fun n H' M' L'=>∃ (a4:Nat) (a5:List bS),(p1_l).drop a4=a5∧a5.length=n∧aa a4 a5 ()=some r∧H.le H'∧M=M'∧[(0,.int .i64 (p0_n)),(18,v0),(19,.int .i64 ((p1_l.length:Int))),(20,.int .i64 ((a4:Int)))]=L') _ ⟨0,_,G,G,hm,(G5 _),G,G⟩ ?_;rintro _ ao _ _ ⟨a4,a5,ab,rfl,hm,a2,rfl,rfl⟩
 refine gs ?_;refine gs ?_;refine bP G (fun a7=>?_) (fun a7=>?_);obtain ⟨a3,ac,rfl,a8,ak⟩:=gG ab a7;have hm:=(ai _ _ _ _).symm.trans hm;generalize al:aa (a4+1) ac=ap at hm;unfold oM at hm;refine gs ?_;refine aG ?_;refine gs ?_;obtain ⟨_,⟨rfl⟩,am⟩:=(h0).elem a8;refine aX G G Kv LB G (h0.mono a2) G (Hr _) a8 (aU G G isAgg178 LB G (am.mono a2).at G ?_);refine bL (cs:=[.int .i64 (0),.int .i64 (0)]) G G LF G (fun aq=>?_);refine aL (cs:=[.int .i64 (a3.a0),.int .i64 (a3.a1)]) (out:=[.int .i64 (a3.a0),.int .i64 (a3.a1)]) G LB G G G G G (G2 G (G2 G He)) (aM G) (gs ?_);refine l8 G G Jr Hm G G (by decide) (by decide) ?_
 refine lo HM G (.head _) G (go ?_);cases ad:(decide (a3.a0<0));have hm:=eJ ad hm;refine l8 G G Jr Hm G G (by decide) (by decide) ?_
 refine lo HM G (.head _) G (go ?_);cases ae:(decide (p0_n≤a3.a0));have hm:=eJ ae hm;refine l8 G G Jr Hm G G (by decide) (by decide) ?_
 refine lo HM G (.head _) G (go ?_);cases af:(decide (a3.a1<0));have hm:=eJ af hm;refine l8 G G Jr Hm G G (by decide) (by decide) ?_
 refine lo HM G (.head _) G (go ?_);refine cd hm G (fun an hm=>?_) (fun an hm=>?_);refine gs ?_;refine go ?_;obtain rfl:=G3 hm;refine aP (.cons _ (.refl _)) (aR a2 ?_);exact cA G G ⟨G,G,G⟩;refine eF (aJ (aS ?_));refine gj ?_;refine aP (.cons _ (.refl _)) ?_;exact kj (bY (Hf _) ⟨a4+1,ac,ak,G,((HD al _).trans hm),a2,G,G⟩) ⟨G,G,G,(Ht (fun z=>some (Value.int .i64 z)) (cN a8 ((h0.mono a2)).dG)),G6⟩;have hm:=eK af hm;refine go ?_;refine cT G (gs ?_);refine go ?_;obtain rfl:=G3 hm;refine aP (.cons _ (.refl _)) (aR a2 ?_);exact cA G G ⟨G,G,G⟩;have hm:=eK ae hm;refine go ?_;refine cT G (gs ?_);refine go ?_;obtain rfl:=G3 hm;refine aP (.cons _ (.refl _)) (aR a2 ?_);exact cA G G ⟨G,G,G⟩;have hm:=eK ad hm;refine go ?_;refine cT G (gs ?_);refine go ?_;obtain rfl:=G3 hm;refine aP (.cons _ (.refl _)) (aR a2 ?_)
 exact cA G G ⟨G,G,G⟩;obtain rfl:=gF ab a7;have hm:=(aj _ _).symm.trans hm;refine gs ?_;refine go ?_;obtain rfl:=G3 hm;refine aR a2 ?_;exact cA G G ⟨G,G,G⟩;refine go ?_;cases a9:(decide (p0_n<0));refine go ?_;cases ag:(decide (24<p0_n));refine go ?_;refine bA G G Kv G h0 (gj ?_);exact kj (a6 _ _ _ ⟨G,G,G⟩) ⟨G,G,(by exact sb (by first | rfl | simp only [a9,ag,mQ])),G6⟩
 refine gj ?_;exact kj (a6 _ _ _ ⟨G,G,G⟩) ⟨G,G,(by exact sb (by first | rfl | simp only [a9,ag,mQ])),G6⟩
 refine gj ?_;exact kj (a6 _ _ _ ⟨G,G,G⟩) ⟨G,G,(by exact sb (by first | rfl | simp only [a9,mQ])),G6⟩
theorem sJ {B:Nat}{w0 w:World}[cP B w0] {H:Hp}{M:List bQ}{p0_x p1_y:Int}{r:Int×Int} (hm:jK p0_x p1_y=r) (ht:St B w0 H (M) w):
    Calls prog 181 [.int .u64 (p0_x),.int .u64 (p1_y)].toArray w (eV B w0 fun H' M' v=>H=H'∧M=M'∧.tuple #[.int .u64 (r.1),.int .u64 (r.2)]=v):=by
 unfold jK at hm;refine enter func181 G G G ht (gs ?_);refine gs ?_;refine gs ?_;refine o9 G G G G (by decide) (gs ?_)
 refine gs ?_;refine o9 G G G G (by decide) (gs ?_)
 refine gs ?_;refine o9 G G G G (by decide) (gs ?_)
 refine gs ?_;refine o9 G G G G (by decide) (gs ?_)
 refine gs ?_;refine o9 G G G G (by decide) (gs ?_)
 refine go ?_;obtain rfl:=hm;refine aR (G5 _) ?_;exact gQ G G G ⟨G,G,G⟩
theorem qz {B:Nat}{w0 w:World}[cP B w0] {H:Hp}{M:List bQ}{p0_x p1_y:Int}{r:Int×Int} (hm:nq p0_x p1_y=r) (ht:St B w0 H (M) w):
    Calls prog 163 [.int .u64 (p0_x),.int .u64 (p1_y)].toArray w (eV B w0 fun H' M' v=>H=H'∧M=M'∧.tuple #[.int .u64 (r.1),.int .u64 (r.2)]=v):=by
 unfold nq at hm;refine enter func163 G G G ht (gs ?_);refine gs ?_;refine cF G (gs ?_);refine aC call181 G G G (fun w ht=>(sJ (hm:=(G:jK p0_x p1_y=_))  ht :)) ?_;rintro _ _ _ ⟨rfl,rfl,rfl⟩;refine gs ?_;refine go ?_;obtain rfl:=hm;refine aR (G5 _) ?_;exact gQ G G G ⟨G,G,G⟩
theorem uA (m:Nat) (hm:m<9223372036854775808):nq (u64.wrap (1:Int)) (u64.wrap (m:Int))=(0,(m:Int)):=by
 have hw:u64.wrap (m:Int)=m:=by rw [IntKind.wrap_u64]; omega
 have h1:u64.wrap (1:Int)=1:=rfl;have hand:u64.wrap ((BitVec.ofInt (u64).bits (m:Int) &&& BitVec.ofInt (u64).bits 4294967295).toNat)=((m%4294967296:Nat):Int):=by
  have h:=bits_and_u64_nat m 4294967295 (by omega) (by omega)
  have e:m &&& 4294967295=m%4294967296:=K0 m 32;rw [e] at h;exact h
 have hand2:u64.wrap ((BitVec.ofInt (u64).bits ((m / 4294967296%4294967296:Nat):Int) &&& BitVec.ofInt (u64).bits 4294967295).toNat)=((m / 4294967296%4294967296:Nat):Int):=by
  have h:=bits_and_u64_nat (m / 4294967296%4294967296) 4294967295 (by omega) (by omega)
  have e:(m / 4294967296%4294967296) &&& 4294967295=(m / 4294967296%4294967296)%4294967296:=K0 _ 32;rw [e,Nat.mod_mod] at h;exact h
 have hs0:jG .u64 (1:Int) 32=0:=rfl;have hs00:jG .u64 (0:Int) 32=0:=rfl;have hand1:u64.wrap ((BitVec.ofInt (u64).bits (1:Int) &&& BitVec.ofInt (u64).bits 4294967295).toNat)=1:=rfl;have hand0:u64.wrap ((BitVec.ofInt (u64).bits (0:Int) &&& BitVec.ofInt (u64).bits 4294967295).toNat)=0:=rfl;have hsm:∀ k:Nat,jG .u64 (k:Int) 32=((k / 4294967296:Nat):Int):=fun k=>z6 k;have e0:((m%4294967296:Nat):Int)=((m%4294967296:Nat):Int):=rfl;have w1:u64.wrap ((m%4294967296:Nat):Int)=((m%4294967296:Nat):Int):=by rw [IntKind.wrap_u64]; omega
 have w2:u64.wrap ((m / 4294967296:Nat):Int)=((m / 4294967296:Nat):Int):=by rw [IntKind.wrap_u64]; omega
 have d1:m%4294967296 / 4294967296=0:=by omega
 have d2:m / 4294967296 / 4294967296=0:=by omega
 have z0:u64.wrap (0:Int)=0:=rfl;unfold nq jK;rw [hw,h1]
 simp only [hs0,hs00,hand1,hand,hsm,Int.zero_mul,Int.one_mul,z0,Int.zero_add,w1,d1,Int.ofNat_zero,Int.natCast_zero,Int.add_zero,hand0,w2,d2,hw]
end Go.Sim
