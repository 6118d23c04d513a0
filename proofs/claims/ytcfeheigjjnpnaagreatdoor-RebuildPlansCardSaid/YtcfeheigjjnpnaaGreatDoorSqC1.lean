/-
  The proof, part C1.
-/
import Derived.KernelRfl
import Derived.Shelf.Strconv.Itoa0
import Derived.Shelf.Strconv.Itoa1
import Derived.Shelf.LaysM
import Derived.Shelf.Strconv.Itoa2
import Derived.Shelf.Strconv.Itoa3
import Derived.Shelf.Strconv.Clone
import Derived.Shelf.Strconv.SyntaxError
import Derived.Shelf.LaysC
import Derived.Shelf.Strconv.ToError
import Derived.Shelf.Strconv.Lower
import Derived.Shelf.Strconv.ParseUint10
import Derived.Shelf.Strconv.ParseUint10Empty
import Derived.Shelf.Strconv.ParseUint10Any
import Derived.Shelf.Strconv.RangeError
import Derived.Shelf.Strconv.ToErrorRange
import Derived.Shelf.Strconv.ParseUintEmpty
import Derived.Shelf.Strconv.ParseUint10b64
import Derived.Shelf.Strconv.ParseUint10b32
import Derived.Shelf.Strconv.ParseUint10b16
import Derived.Shelf.Strconv.ParseUint10b8
import Derived.Test.YtcfeheigjjnpnaaGreatDoorProg
import Derived.Test.YtcfeheigjjnpnaaGreatDoorRows
import Derived.Test.YtcfeheigjjnpnaaGreatDoorSqA2
set_option linter.unusedVariables false
set_option linter.unusedSimpArgs false
set_option linter.unusedSectionVars false
set_option linter.unnecessarySimpa false
namespace Go.Sim
abbrev Hy := @Int.natCast_nonneg
abbrev Kv := @List.Perm.refl
abbrev K2 := @Nat.and_two_pow_sub_one_eq_mod
abbrev Ly := @Go.Proofs.Tryz.call38
abbrev HJ := @congrFun
abbrev JW := @Go.Proofs.Tryz.isAgg22
abbrev L8 := @Go.Proofs.Tryz.isAgg25
abbrev KZ := @Go.Proofs.Tryz.isAgg26
abbrev ID := @Go.Proofs.Tryz.isAgg29
abbrev HP := @Go.Proofs.Tryz.isAgg3
abbrev LK := @Go.Proofs.Tryz.isAgg32
abbrev Ko := @Go.Proofs.Tryz.isAgg4
abbrev IW := @Go.Proofs.Tryz.isAgg9
abbrev IV := @Go.Proofs.Tryz.runUnderlying117
abbrev JS := @Go.Proofs.Tryz.runUnderlying121
abbrev LX := @Go.Proofs.Tryz.runUnderlying175
abbrev Ky := @Go.Proofs.Tryz.runUnderlying177
abbrev Js := @Go.Proofs.Tryz.runUnderlying178
abbrev HA := @Go.Proofs.Tryz.runUnderlying22
abbrev Kp := @Go.Proofs.Tryz.runUnderlying23
abbrev Jy := @Go.Proofs.Tryz.runUnderlying24
abbrev Jf := @Go.Proofs.Tryz.runUnderlying25
abbrev Iq := @Go.Proofs.Tryz.runUnderlying26
abbrev J0 := @Go.Proofs.Tryz.runUnderlying27
abbrev Hs := @Go.Proofs.Tryz.runUnderlying29
abbrev Jq := @Go.Proofs.Tryz.runUnderlying32
abbrev LL := @Go.Proofs.Tryz.runUnderlying5
abbrev Hf := @Go.Proofs.Tryz.runUnderlying51
abbrev IP := @Go.Proofs.Tryz.runUnderlying56
abbrev Mg := @Go.Proofs.Tryz.runUnderlying77
abbrev KJ := @Go.Proofs.Tryz.runUnderlying80
abbrev Iw := @Go.Proofs.Tryz.runUnderlying9
abbrev J2 := @Go.Proofs.Tryz.sizeOf117
abbrev L_ := @Go.Proofs.Tryz.sizeOf121
abbrev LB := @Go.Proofs.Tryz.sizeOf178
abbrev JM := @Go.Proofs.Tryz.sizeOf22
abbrev K9 := @Go.Proofs.Tryz.sizeOf25
abbrev JY := @Go.Proofs.Tryz.sizeOf26
abbrev Ie := @Go.Proofs.Tryz.sizeOf29
abbrev Hq := @Go.Proofs.Tryz.sizeOf3
abbrev I3 := @Go.Proofs.Tryz.sizeOf32
abbrev Iz := @Go.Proofs.Tryz.sizeOf4
abbrev Kq := @Go.Proofs.Tryz.sizeOf56
abbrev LY := @Go.Proofs.Tryz.sizeOf77
abbrev LZ := @Go.Proofs.Tryz.sizeOf80
abbrev Ih := @Go.Proofs.Tryz.sizeOf9
abbrev Jz := @Go.Proofs.Tryz.underlying51
abbrev LC := @Go.Proofs.Tryz.zeroValue117
abbrev LF := @Go.Proofs.Tryz.zeroValue178
abbrev KB := @Go.Proofs.Tryz.zeroValue29
abbrev Kc := @Go.Proofs.Tryz.zeroValue3
abbrev KR := @Go.Proofs.Tryz.zeroValue32
abbrev LS := @Go.Proofs.Tryz.zeroValue56
abbrev Kd := @Go.Proofs.Tryz.zeroValue9
end Go.Sim
namespace Go.Sim
open Go
open _root_.Go.IntKind (i64 u64 u32 u8)
theorem G {α : Sort _} {a : α} : a = a := rfl
section
variable {x:Cx}{ops:Array Oper}{Q:kF}{rest:List Oper}{H:Hp}{M:List bR}{L:Env}{e:Exit}{c:Code}
theorem rD (k:W x ops Q rest H M L):W x ops Q rest H M L:=k
theorem F_ (k:E x e Q H M L):E x e Q H M L:=k
theorem F9 (k:Go.Sim.C x c Q H M L):Go.Sim.C x c Q H M L:=k
end
theorem wo {P Q:Prop} (k:Q) (h:Q→P:=by
  intro k
  repeat first
   | (with_reducible refine rD ?_); first
    | refine bX rfl rfl rfl ?_
    | refine aN rfl rfl rfl ?_
    | refine A0 rfl rfl rfl ?_
    | refine pz rfl rfl rfl rfl rfl ?_
    | refine rM rfl rfl rfl rfl ?_
    | refine kI rfl rfl rfl rfl ?_
    | refine i_ rfl rfl rfl ?_
    | refine wA rfl rfl ?_
  exact k):P:=h k
theorem go {P Q:Prop} (k:Q) (h:Q→P:=by
  intro k
  repeat first
   | (with_reducible refine rD ?_); first
    | refine bX rfl rfl rfl ?_
    | refine aN rfl rfl rfl ?_
    | refine A0 rfl rfl rfl ?_
    | refine pz rfl rfl rfl rfl rfl ?_
    | refine rM rfl rfl rfl rfl ?_
    | refine kI rfl rfl rfl rfl ?_
    | refine i_ rfl rfl rfl ?_
    | refine wA rfl rfl ?_
    | refine bC ?_
   | (with_reducible refine F_ ?_); first
    | with_reducible refine aO ?_
    | with_reducible refine eH ?_
    | with_reducible refine aH ?_
    | with_reducible refine jN ?_
    | with_reducible refine qq ?_
    | with_reducible refine kx ?_
    | refine qp rfl ?_
   | (with_reducible refine F9 ?_); first
    | with_reducible refine bE ?_
    | with_reducible refine eS ?_
    | with_reducible refine pS ?_
    | with_reducible refine lD ?_
  exact k):P:=h k
theorem gj {P Q:Prop} (k:Q) (h:Q→P:=by
  intro k
  repeat first
   | (with_reducible refine rD ?_); first
    | refine bX rfl rfl rfl ?_
    | refine aN rfl rfl rfl ?_
    | refine A0 rfl rfl rfl ?_
    | refine pz rfl rfl rfl rfl rfl ?_
    | refine rM rfl rfl rfl rfl ?_
    | refine kI rfl rfl rfl rfl ?_
    | refine i_ rfl rfl rfl ?_
    | refine wA rfl rfl ?_
    | refine bC ?_
   | (with_reducible refine F_ ?_); first
    | with_reducible refine eH ?_
    | with_reducible refine aH ?_
    | with_reducible refine jN ?_
    | with_reducible refine qq ?_
    | with_reducible refine kx ?_
    | refine qp rfl ?_
   | (with_reducible refine F9 ?_); first
    | with_reducible refine bE ?_
    | with_reducible refine eS ?_
    | with_reducible refine pS ?_
    | with_reducible refine lD ?_
  exact k):P:=h k
theorem gs {P Q:Prop} (k:Q) (h:Q→P:=by
  intro k
  repeat first
   | (with_reducible refine rD ?_); first
    | refine bX rfl rfl rfl ?_
    | refine aN rfl rfl rfl ?_
    | refine A0 rfl rfl rfl ?_
    | refine pz rfl rfl rfl rfl rfl ?_
    | refine rM rfl rfl rfl rfl ?_
    | refine kI rfl rfl rfl rfl ?_
    | refine i_ rfl rfl rfl ?_
    | refine wA rfl rfl ?_
    | refine bC ?_
   | (with_reducible refine F_ ?_); first
    | with_reducible refine aO ?_
    | with_reducible refine eH ?_
    | with_reducible refine aH ?_
    | with_reducible refine jN ?_
    | with_reducible refine qq ?_
    | with_reducible refine kx ?_
    | refine qp rfl ?_
   | (with_reducible refine F9 ?_); first
    | with_reducible refine bE ?_
    | with_reducible refine eS ?_
    | with_reducible refine pS ?_
    | with_reducible refine lD ?_
  refine cG ?_
  repeat first
   | (with_reducible refine rD ?_); first
    | refine bX rfl rfl rfl ?_
    | refine aN rfl rfl rfl ?_
    | refine A0 rfl rfl rfl ?_
    | refine pz rfl rfl rfl rfl rfl ?_
    | refine rM rfl rfl rfl rfl ?_
    | refine kI rfl rfl rfl rfl ?_
    | refine i_ rfl rfl rfl ?_
    | refine wA rfl rfl ?_
    | refine bC ?_
   | (with_reducible refine F_ ?_); first
    | with_reducible refine aO ?_
    | with_reducible refine eH ?_
    | with_reducible refine aH ?_
    | with_reducible refine jN ?_
    | with_reducible refine qq ?_
    | with_reducible refine kx ?_
    | refine qp rfl ?_
   | (with_reducible refine F9 ?_); first
    | with_reducible refine bE ?_
    | with_reducible refine eS ?_
    | with_reducible refine pS ?_
    | with_reducible refine lD ?_
  exact k):P:=h k
abbrev ph (a:Value):Hp→List bR→Value→Prop:=fun _ rs v=>[]=rs∧a=v
def nn (n:Nat):List (List Nat):=List.replicate n []
section
variable {x:Cx}{ops:Array Oper}{Q:kF}{H H':Hp}{M:List bR}{L:Env}{t:Nat}{ps:Option Nat}{v:Value}{φ:Hp→List bR→Value→Prop}
theorem o0 (h:φ H [] v):W x ops (wU x H M L (some t) ps φ) [] H M ((t,v)::L):=bC (dZ [] (G8 _) h)
theorem oe (rs:List bR) (hle:H.le H') (h:φ H' rs v):W x ops (wU x H M L (some t) ps φ) [] H' (rs++M) ((t,v)::L):=bC (dZ rs hle h)
end
theorem om {P:Prop} (h:P:=by
  intro HX hX X Rest hR
  repeat (rintro _ _ ⟨rfl,rfl⟩)
  intro hU hUp
  repeat first
   | (with_reducible refine rD ?_); first
    | refine bX rfl rfl rfl ?_
    | refine aN rfl rfl rfl ?_
    | refine A0 rfl rfl rfl ?_
    | refine pz rfl rfl rfl rfl rfl ?_
    | refine rM rfl rfl rfl rfl ?_
    | refine kI rfl rfl rfl rfl ?_
    | refine i_ rfl rfl rfl ?_
    | refine wA rfl rfl ?_
  exact o0 ⟨rfl,rfl⟩):P:=h
theorem dr {P Q:Prop} (k:Q) (h:Q→P:=by
  intro k
  repeat (rintro _ _ ⟨rfl,rfl⟩)
  exact k):P:=h k
theorem dz {P Q:Prop} (k:Q) (h:Q→P:=by
  intro k
  repeat (rintro _ _ ⟨rfl,rfl⟩)
  refine rD ?_;exact k):P:=h k
theorem ma {P:Prop} (h:P:=by
    repeat' first
      | exact G_
      | exact eQ _ _
      | refine ⟨?_,?_⟩
      | (intro H1 H2 rs v hle
         repeat' first
           | exact fun h=>h
           | exact fun h=>aI.mono hle h
           | exact fun h=>Rw.mono hle h
           | exact fun h=>mC.mono hle h
           | exact fun h=>cB.mono hle h
           | exact fun h=>Mx.mono h hle
           | refine Exists.imp (fun _=>?_)
           | refine And.imp ?_ ?_)):P:=h
theorem zS {x:Cx}{l:List Oper}{Q:kF}{H:Hp}{M:List bR}{L:Env}{id:Nat} (hmix:x.P.follows .mixedOrders=true) (m:Nat) (F:List (Hp→List bR→Value→Prop)) (C U:List (List Nat)) (I:List (List bR)) (live:List Nat)
  (hop:sH x l (uB F) C U [] (yW m I) H M L 0 (l.take m))
  (k:∀ H',H.le H'→rB l (uB F) H' (List.range m) L (yW m I) (fun L' R=>W x l.toArray Q (l.drop m) H' (pB live R M) L'))
  (hB:qO l m=true:=by kernel_rfl) (hml:Nat.ble m l.length=true:=by rfl) (hD:tV l m L=true:=by rfl) (hNd:tW l m=true:=by rfl)
  (hT:BE l m (m+I.length) C U live=true:=by kernel_rfl) (hmono:wT F:=by exact ma):Go.Sim.C x (.region id l.toArray true) Q H (I.flatten++M) L:=
 mZ m (uB F) C U I live hmix hB hml hD hNd hT (pP hmono) hop k
theorem od {x:Cx}{l:List Oper}{Q:kF}{H:Hp}{M:List bR}{L:Env}{id:Nat} (hmix:x.P.follows .mixedOrders=true) (m:Nat) (F:List (Hp→List bR→Value→Prop))
  (hop:sH x l (uB F) (nn m) (nn m) [] (yW m []) H M L 0 (l.take m))
  (k:∀ H',H.le H'→rB l (uB F) H' (List.range m) L (yW m []) (fun L' R=>W x l.toArray Q (l.drop m) H' (pB (List.range m) R M) L'))
  (hB:qO l m=true:=by kernel_rfl) (hml:Nat.ble m l.length=true:=by rfl) (hD:tV l m L=true:=by rfl) (hNd:tW l m=true:=by rfl)
  (hT:BE l m m (nn m) (nn m) (List.range m)=true:=by kernel_rfl) (hmono:wT F:=by exact ma):Go.Sim.C x (.region id l.toArray true) Q H M L:=
 mZ m (uB F) (nn m) (nn m) [] (List.range m) hmix hB hml hD hNd hT (pP hmono) hop k
theorem dG {α σ R:Type}{B:Nat→α→σ→(σ→Option R)→Option R}{K:σ→Option R}{l:List α}{s:σ}{r:Option R}{i:Nat} (h:dW B K i l s=r):
  ∃ F:Nat→List α→σ→Option R,(∀ i y ys s,F i (y::ys) s=B i y s (F (i+1) ys))∧(∀ i s,F i [] s=K s)∧F i l s=r:=⟨dW B K,fun _ _ _ _=>rfl,fun _ _=>rfl,h⟩
theorem kP {σ R:Type}{B:Nat→σ→(σ→Option R)→Option R}{K:σ→Option R}{m:Nat}{s:σ}{r:Option R}{i:Nat} (h:jT B K m i s=r):
  ∃ F:Nat→Nat→σ→Option R,(∀ m i s,F (m+1) i s=B i s (F m (i+1)))∧(∀ i s,F 0 i s=K s)∧F m i s=r:=⟨jT B K,fun _ _ _=>rfl,fun _ _=>rfl,h⟩
theorem iF {σ R:Type}{B:σ→(σ→Option R)→Option R}{m:Nat}{s:σ}{r:Option R} (h:fD B m s=r):
  ∃ F:Nat→σ→Option R,(∀ m s,F (m+1) s=B s (F m))∧(∀ s,F 0 s=none)∧F m s=r:=⟨fD B,fun _ _=>rfl,fun _=>rfl,h⟩
section
variable {x:Cx}{Q:kF}{H:Hp}{M M':List bR}{L L':Env}{e:Exit}{c:Code}
theorem kj (k:E x e Q H M L') (hL:Kept L L':=by repeat first | exact G_ | refine ⟨rfl,?_⟩):E x e Q H M L:=yX hL (Kv _) k
theorem kp (k:E x e Q H M' L') (hM:M.Perm M') (hL:Kept L L':=by repeat first | exact G_ | refine ⟨rfl,?_⟩):E x e Q H M L:=yX hL hM k
theorem mD (S:xJ) (n:Nat) (h0:S n H M L') (step:∀ n H M L,S n H M L→Go.Sim.C x c (Exit.then (DI x S n) Q) H M L) (hL:Kept L L':=by repeat first | exact G_ | refine ⟨rfl,?_⟩):Go.Sim.C x (.loop c) Q H M L:=
 uP hL (Kv _) (uQ S n h0 step)
theorem Fj (hM:M.Perm M') (S:xJ) (n:Nat) (h0:S n H M' L') (step:∀ n H M L,S n H M L→Go.Sim.C x c (Exit.then (DI x S n) Q) H M L) (hL:Kept L L':=by repeat first | exact G_ | refine ⟨rfl,?_⟩):Go.Sim.C x (.loop c) Q H M L:=
 uP hL hM (uQ S n h0 step)
theorem cd {α:Type}{o:Operand}{p q:Code}{b:Bool}{u v r:α} (hm:(if b=true then u else v)=r) (hb:ev L o=some (.bool b)) (k1:b=true→u=r→Go.Sim.C x p Q H M L) (k2:b=false→v=r→Go.Sim.C x q Q H M L):Go.Sim.C x (.cond o p q) Q H M L:=
 bT hb (fun h=>k1 h (fF h hm)) (fun h=>k2 h (fE h hm))
theorem cT {o:Operand}{p q:Code} (hb:ev L o=some (.bool true)) (k:Go.Sim.C x p Q H M L):Go.Sim.C x (.cond o p q) Q H M L:=bT hb (fun _=>k) (fun h=>Bool.noConfusion h)
theorem cF {o:Operand}{p q:Code} (hb:ev L o=some (.bool false)) (k:Go.Sim.C x q Q H M L):Go.Sim.C x (.cond o p q) Q H M L:=bT hb (fun h=>Bool.noConfusion h) (fun _=>k)
end
theorem sb {a b:Bool} (h:a=b):some (Value.bool a)=some (Value.bool b):=by rw [h]
theorem oA:(∀ b,(b && true)=b)∧(∀ b,(true && b)=b)∧(∀ b,(false && b)=false)∧(∀ b,(b && false)=false)∧(∀ b,(b || true)=true)∧(∀ b,(true || b)=true)∧(∀ b,(b || false)=b)∧(∀ b,(false || b)=b)∧(!true)=false∧(!false)=true:=by
 refine ⟨?_,?_,?_,?_,?_,?_,?_,?_,rfl,rfl⟩ <;> intro b <;> cases b <;> rfl
section
variable {x:Cx}{ops:Array Oper}{Q:kF}{rest:List Oper}{H:Hp}{M:List bR}{L:Env}{d:Nat}{ty:TypeId}{pos:String}{aft:Array Edge}{g:Option (Nat×Bool)}
theorem lo {T b i U:Nat}{fz:Nat×Nat}{y:Operand}{l:List Value}{v:Value} (hT:∀ w,(isAgg T).run x.P w=.ok false w) (hy:ev L y=some (.pointer (some ⟨b,i,none⟩))) (hm:bR.obj b (.cells l.toArray U fz) ∈ M) (hc:l[i]? = some v)
  (k:W x ops Q rest H M ((d,v)::L)) (hg:gd ops L ⟨some d,.load T y,ty,pos,aft,g⟩=some true:=by rfl) (hN:Nat.blt d x.N=true:=by rfl):W x ops Q (⟨some d,.load T y,ty,pos,aft,g⟩::rest) H M L:=
 aJ hg hN hT hy (bV hm hc) k
theorem la {T b U n:Nat}{fz:Nat×Nat}{y:Operand}{l:List Value} (hT:∀ w,(isAgg T).run x.P w=.ok true w) (hn:∀ w,(sizeOf T).run x.P w=.ok n w) (hy:ev L y=some (.pointer (some ⟨b,0,none⟩))) (hm:bR.obj b (.cells l.toArray U fz) ∈ M) (hl:l.length=n)
  (k:W x ops Q rest H M ((d,.agg l.toArray)::L)) (hg:gd ops L ⟨some d,.load T y,ty,pos,aft,g⟩=some true:=by rfl) (hN:Nat.blt d x.N=true:=by rfl):W x ops Q (⟨some d,.load T y,ty,pos,aft,g⟩::rest) H M L:=
 aR hg hN hT hn hy (eG hm) hl k
theorem fi {T:TypeId}{y:Operand}{ad:Addr}{f n:Nat}{fs:Array Field}{fd:Field} (o:Nat) (hT:∀ w,(underlying T).run x.P w=.ok (.struct fs) w) (hf:fs[f]? = some fd) (hn:∀ w,(sizeOf fd.type).run x.P w=.ok n w) (hy:ev L y=some (.pointer (some ad)))
  (k:W x ops Q rest H M ((d,.pointer (some (ad.add o)))::L)) (ho:fd.offset=o:=by rfl) (hn0:Nat.beq n 0=false:=by rfl) (hg:gd ops L ⟨some d,.fieldAddr T y f,ty,pos,aft,g⟩=some true:=by rfl) (hN:Nat.blt d x.N=true:=by rfl):
  W x ops Q (⟨some d,.fieldAddr T y f,ty,pos,aft,g⟩::rest) H M L:=qv hg hN hT hf hn hn0 ho hy k
end
end Go.Sim
namespace Go.Proofs
open Go.Shelf
open _root_.Go.IntKind (i64 u64 u32 u8)
def Tryz.yq:Go.Shelf.Ren:=⟨fun | 283=>182 | n=>n,fun | 3=>3 | 9=>9 | 4=>4 | n=>n,fun | n=>n⟩
theorem Tryz.Ea:Go.Proofs.Lays.n283 Tryz.prog Tryz.yq:={
 mixed:=by kernel_rfl
 f283:=Tryz.func182.trans (congrArg some (by kernel_rfl))
 t3:=Tryz.underlying3
 a3:=Tryz.isAgg3
 z3:=Tryz.sizeOf3
 v3:=Tryz.zeroValue3
 t4:=Tryz.underlying4
 a4:=Tryz.isAgg4
 z4:=Tryz.sizeOf4
 v4:=Tryz.zeroValue4
 t9:=Tryz.underlying9
 a9:=Tryz.isAgg9
 z9:=Tryz.sizeOf9
 v9:=Tryz.zeroValue9 }
open Go.Lib in
theorem Tryz.internal_strconv_small (i:Nat) (h:i<100) (w:World):
  Calls Tryz.prog 182 #[.int .i64 i] w fun e w'=>e=.returned (.string ⟨(Lib.decDigits i).toArray⟩)∧w'=w:=Any.internal_strconv_small Tryz.Ea i h w
def Tryz.xj:Go.Shelf.Ren:=⟨fun | 284=>183 | 129=>99 | 317=>192 | 318=>193 | n=>n,fun | 53=>168 | 3=>3 | 212=>269 | 0=>0 | 4=>4 | 46=>112 | 5=>5 | 9=>9 | n=>n,fun | 17=>3 | n=>n⟩
theorem Tryz.CN:Go.Proofs.LaysM.n284 Tryz.prog Tryz.xj:={
 mixed:=by kernel_rfl
 f129:=Tryz.func99.trans (congrArg some (by kernel_rfl))
 f284:=Tryz.func183.trans (congrArg some (by kernel_rfl))
 f317:=Tryz.func192.trans (congrArg some (by kernel_rfl))
 f318:=Tryz.func193.trans (congrArg some (by kernel_rfl))
 t0:=Tryz.underlying0
 a0:=Tryz.isAgg0
 z0:=Tryz.sizeOf0
 v0:=Tryz.zeroValue0
 t3:=Tryz.underlying3
 a3:=Tryz.isAgg3
 z3:=Tryz.sizeOf3
 v3:=Tryz.zeroValue3
 t4:=Tryz.underlying4
 a4:=Tryz.isAgg4
 z4:=Tryz.sizeOf4
 v4:=Tryz.zeroValue4
 t5:=Tryz.underlying5
 a5:=Tryz.isAgg5
 z5:=Tryz.sizeOf5
 v5:=Tryz.zeroValue5
 t9:=Tryz.underlying9
 a9:=Tryz.isAgg9
 z9:=Tryz.sizeOf9
 v9:=Tryz.zeroValue9
 t46:=Tryz.underlying112
 a46:=Tryz.isAgg112
 z46:=Tryz.sizeOf112
 v46:=Tryz.zeroValue112
 t53:=Tryz.underlying168
 a53:=Tryz.isAgg168
 z53:=Tryz.sizeOf168
 v53:=Tryz.zeroValue168
 t212:=Tryz.underlying269
 a212:=Tryz.isAgg269
 z212:=Tryz.sizeOf269
 v212:=Tryz.zeroValue269
 g17:=by kernel_rfl
 i0:=by kernel_rfl
 i3:=by kernel_rfl
 i4:=by kernel_rfl
 i5:=by kernel_rfl
 i9:=by kernel_rfl
 i46:=by kernel_rfl
 i53:=by kernel_rfl
 i212:=by kernel_rfl
 m17:=by kernel_rfl }
open Go.Lib in
theorem Tryz.internal_strconv_numDigits (u:Nat) (h1:1≤u) (h2:u<18446744073709551616) (w:World) (htab:Lib.TabIs Tryz.prog w "internal/strconv.uint64pow10" .u64 Lib.pow10Tab):
  Calls Tryz.prog 183 #[.int .u64 u] w fun e w'=>e=.returned (.int .i64 (Lib.nDigits u))∧w'=w:=Any.internal_strconv_numDigits Tryz.CN u h1 h2 w htab
def Tryz.yt:Go.Shelf.Ren:=⟨fun | 285=>184 | n=>n,fun | 37=>175 | 53=>168 | 3=>3 | 4=>4 | 51=>166 | 9=>9 | 5=>5 | 0=>0 | n=>n,fun | n=>n⟩
theorem Tryz.Eb:Go.Proofs.Lays.n285 Tryz.prog Tryz.yt:={
 mixed:=by kernel_rfl
 f285:=Tryz.func184.trans (congrArg some (by kernel_rfl))
 t0:=Tryz.underlying0
 a0:=Tryz.isAgg0
 z0:=Tryz.sizeOf0
 v0:=Tryz.zeroValue0
 t3:=Tryz.underlying3
 a3:=Tryz.isAgg3
 z3:=Tryz.sizeOf3
 v3:=Tryz.zeroValue3
 t4:=Tryz.underlying4
 a4:=Tryz.isAgg4
 z4:=Tryz.sizeOf4
 v4:=Tryz.zeroValue4
 t5:=Tryz.underlying5
 a5:=Tryz.isAgg5
 z5:=Tryz.sizeOf5
 v5:=Tryz.zeroValue5
 t9:=Tryz.underlying9
 a9:=Tryz.isAgg9
 z9:=Tryz.sizeOf9
 v9:=Tryz.zeroValue9
 t37:=Tryz.underlying175
 a37:=Tryz.isAgg175
 z37:=Tryz.sizeOf175
 v37:=Tryz.zeroValue175
 t51:=Tryz.underlying166
 a51:=Tryz.isAgg166
 z51:=Tryz.sizeOf166
 v51:=Tryz.zeroValue166
 t53:=Tryz.underlying168
 a53:=Tryz.isAgg168
 z53:=Tryz.sizeOf168
 v53:=Tryz.zeroValue168 }
open Go.RowKit Go.Sort Go.Lib in
theorem Tryz.internal_strconv_formatBase10 (blk off cap:Nat) (u:Nat) (d:Array UInt8) (w:World) (hH:Holds (fun (b:UInt8)=>Value.int .u8 (b.toNat:Int)) w blk off d) (hu:u<10 ^ d.size) (hu64:u<18446744073709551616) (hsz:d.size<4611686018427387904):
  Calls Tryz.prog 184 #[.slice (some ⟨blk,off,none⟩) d.size cap,.int .u64 u] w fun e w'=>
   e=.returned (.tuple #[])∧∃ (n v':Nat) (dk:Array UInt8),w'=(putRow (fun (b:UInt8)=>Value.int .u8 (b.toNat:Int)) w blk off dk).drewN n∧FmtInv d.size u 0 v' dk:=Any.internal_strconv_formatBase10 Tryz.Eb blk off cap u d w hH hu hu64 hsz
def Tryz.yu:Go.Shelf.Ren:=⟨fun | 287=>156 | 321=>174 | 322=>175 | n=>n,fun | 9=>9 | 3=>3 | 53=>168 | 75=>200 | 4=>4 | 167=>247 | 5=>5 | 46=>112 | 37=>175 | 0=>0 | 21=>21 | 80=>225 | n=>n,fun | n=>n⟩
theorem Tryz.Ec:Go.Proofs.Lays.n287 Tryz.prog Tryz.yu:={
 mixed:=by kernel_rfl
 f287:=Tryz.func156.trans (congrArg some (by kernel_rfl))
 f321:=Tryz.func174.trans (congrArg some (by kernel_rfl))
 f322:=Tryz.func175.trans (congrArg some (by kernel_rfl))
 t0:=Tryz.underlying0
 a0:=Tryz.isAgg0
 z0:=Tryz.sizeOf0
 v0:=Tryz.zeroValue0
 t3:=Tryz.underlying3
 a3:=Tryz.isAgg3
 z3:=Tryz.sizeOf3
 v3:=Tryz.zeroValue3
 t4:=Tryz.underlying4
 a4:=Tryz.isAgg4
 z4:=Tryz.sizeOf4
 v4:=Tryz.zeroValue4
 t5:=Tryz.underlying5
 a5:=Tryz.isAgg5
 z5:=Tryz.sizeOf5
 v5:=Tryz.zeroValue5
 t9:=Tryz.underlying9
 a9:=Tryz.isAgg9
 z9:=Tryz.sizeOf9
 v9:=Tryz.zeroValue9
 t21:=Tryz.underlying21
 a21:=Tryz.isAgg21
 z21:=Tryz.sizeOf21
 v21:=Tryz.zeroValue21
 t37:=Tryz.underlying175
 a37:=Tryz.isAgg175
 z37:=Tryz.sizeOf175
 v37:=Tryz.zeroValue175
 t46:=Tryz.underlying112
 a46:=Tryz.isAgg112
 z46:=Tryz.sizeOf112
 v46:=Tryz.zeroValue112
 t53:=Tryz.underlying168
 a53:=Tryz.isAgg168
 z53:=Tryz.sizeOf168
 v53:=Tryz.zeroValue168
 t75:=Tryz.underlying200
 a75:=Tryz.isAgg200
 z75:=Tryz.sizeOf200
 v75:=Tryz.zeroValue200
 t167:=Tryz.underlying247
 a167:=Tryz.isAgg247
 z167:=Tryz.sizeOf247
 v167:=Tryz.zeroValue247 }
open Go.RowKit in
theorem Tryz.internal_strconv_ParseUint_10_b32 (t:ByteArray) (hne:t.size≠0) (hmax:t.size≤9223372036854775806) (w:World):
  Calls Tryz.prog 156 #[.string t,.int .i64 10,.int .i64 32] w fun e w'=>e=.returned (Lib.uintTupleM 247 4294967295 (Lib.parseUintM 4294967295 0 t.data.toList))∧w'=Lib.bytesWorld w 5 t:=Any.internal_strconv_ParseUint_10_b32 Tryz.Ec t hne hmax w
end Go.Proofs
namespace Go.Sim
open Go Go.Proofs.Tryz
open _root_.Go.IntKind (i64 u64 u32 u8)
set_option maxRecDepth 100000
set_option maxHeartbeats 4000000
theorem fm:Proofs.Tryz.prog.follows .mixedOrders=true:=by kernel_rfl
theorem z6.mixed:Proofs.Tryz.prog.follows .mixedOrders=true:=fm
class cQ (B:Nat) (w0:World):Prop where
 lt:6≤B
 e1:∃ T p,w0.var? Proofs.Tryz.prog "strconv.ErrSyntax" = some #[.iface T p]
 e2:∃ T p,w0.var? Proofs.Tryz.prog "strconv.ErrRange" = some #[.iface T p]
 t3:Lib.TabIs Proofs.Tryz.prog w0 "internal/strconv.uint64pow10" .u64 F8
 t4:Lib.TabIs Proofs.Tryz.prog w0 "math/bits.deBruijn32tab" .u8 Gt
 t5:Lib.TabIs Proofs.Tryz.prog w0 "math/bits.deBruijn64tab" .u8 Gu
theorem cQ.below {B:Nat}{w0:World}[h:cQ B w0] {g:Nat} (hg:Nat.blt g 6=true):g<B:=by
 have:=h.lt;have:g<6:=by simpa [IE] using hg
 omega
theorem GI:Proofs.Tryz.prog.globalNamed "strconv.ErrSyntax" = some 1:=by kernel_rfl
theorem GJ:Proofs.Tryz.prog.globalNamed "strconv.ErrRange" = some 2:=by kernel_rfl
theorem GG:Proofs.Tryz.prog.globalNamed "internal/strconv.uint64pow10" = some 3:=by kernel_rfl
theorem GK:Proofs.Tryz.prog.globalNamed "math/bits.deBruijn32tab" = some 4:=by kernel_rfl
theorem GH:Proofs.Tryz.prog.globalNamed "math/bits.deBruijn64tab" = some 5:=by kernel_rfl
theorem rH {B:Nat}{w0 w:World}[cQ B w0] {H:Hp}{M:List bR}{p0_n:aC}{v0 v1 v2 v3 v4 v5:Value}{r:aC} (hm:lu p0_n=some r) (h0:aI H v0 p0_n.bJ) (h1:aI H v1 p0_n.bM) (h2:aI H v2 p0_n.aS) (h3:aI H v3 p0_n.dR) (h4:aI H v4 p0_n.bQ) (h5:aI H v5 p0_n.bY) (ht:St B w0 H (M) w):
    Calls prog 6 [.agg [v0,v1,v2,v3,v4,v5].toArray].toArray w (fG B w0 fun H' M' v=>H.le H'∧∃ qv0 qv1 qv2 qv3 qv4 qv5:Value,M=M'∧.agg [qv0,qv1,qv2,qv3,qv4,qv5].toArray=v∧aI H' qv0 r.bJ∧aI H' qv1 r.bM∧aI H' qv2 r.aS∧aI H' qv3 r.dR∧aI H' qv4 r.bQ∧aI H' qv5 r.bY):=by
 unfold lu at hm;refine enter func6 G G G ht (gs ?_);refine dO (cs:=[v0,v1,v2,v3,v4,v5]) G G G G (fun a4=>?_);refine bO (cs:=[.slice none 0 0,.slice none 0 0,.slice none 0 0,.slice none 0 0,.slice none 0 0,.slice none 0 0]) G G KB G (fun a5=>?_);refine gs ?_;refine fi 4 Hs G JY G ?_;refine lo KZ G (.tail _ (.head _)) G ?_;refine fi 4 Hs G JY G ?_;refine lo KZ G (.tail _ (.head _)) G ?_;refine bD G G Iq G h4 (BS G G G G ?_);obtain ⟨a6,hm⟩:=aT hm;refine qT (α:=aK) (l:=0) (h:=(min (p0_n.bQ.length:Int) 4:Int).toNat) (xs:=p0_n.bQ) G G Iq I3 G h4 (by omega) (by omega) (.inl G) (fun cap hcap=>by rw [Hl G]; exact (.inl ⟨G,G⟩)) (fun m hmm=>(.inr ⟨_,_,_,G,G,by omega,by omega,G⟩)) (.inl ⟨G,G⟩) ?_
 intro a0 a2 a7;refine fi 4 Hs G JY G ?_;refine a_ (.swap _ _ _) (aM (cs:=[a0]) (out:=[v0,v1,v2,v3,a0,v5]) G JY G G (aI.cells a2) G G (G5 (aI.cA a2) Hj) G (gs ?_));refine fi 3 Hs G K9 G ?_;refine lo L8 G (.head _) G ?_;refine fi 3 Hs G K9 G ?_;refine lo L8 G (.head _) G ?_;refine bD G G Jf G h3 (BS G G G G ?_);obtain ⟨a8,hm⟩:=aT hm;refine qT (α:=cR) (l:=0) (h:=(min (p0_n.dR.length:Int) 4:Int).toNat) (xs:=p0_n.dR) G G Jf J2 G h3 (by omega) (by omega) (.inl G) (fun cap hcap=>by rw [Hl G]; exact (.inl ⟨G,G⟩)) (fun m hmm=>(.inr ⟨_,_,_,G,G,by omega,by omega,G⟩)) (.inl ⟨G,G⟩) ?_
 intro a1 a3 a9;refine fi 3 Hs G K9 G ?_;refine aM (cs:=[a1]) (out:=[v0,v1,v2,a1,a0,v5]) G K9 G G (aI.cells a3) G G (G5 (aI.cA a3) Hj) G (gs ?_);refine la ID Ie G (.head _) G ?_;refine a_ (.swap _ _ _) (aM (cs:=[v0,v1,v2,a1,a0,v5]) (out:=[v0,v1,v2,a1,a0,v5]) G Ie G G G G G (G5 (aI.cA h0) (G5 (aI.cA h1) (G5 (aI.cA h2) (G5 (aI.cA a3) (G5 (aI.cA a2) (G5 (aI.cA h5) Hj)))))) (aP G) (go ?_));obtain rfl:=G7 hm;exact iE (G8 _) G (eT.agg G ID Ie (.head _) G) (.cons _ (.cons _ (.refl _))) (.refl _) ⟨(G8 _),v0,v1,v2,a1,a0,v5,G,G,h0,h1,h2,a3,a2,h5⟩
theorem tB {B:Nat}{w0 w:World}[cQ B w0] {H:Hp}{M:List bR}{p0_s:ByteArray}{r:Bool} (hm:cK p0_s=some r) (ht:St B w0 H (M) w):
    Calls prog 64 [.string (p0_s)].toArray w (fG B w0 fun H' M' v=>H=H'∧M=M'∧.bool (r)=v):=by
 unfold cK at hm;refine enter func64 G G G ht (gs ?_);refine gs ?_;refine gs ?_;obtain ⟨am,hm⟩:=aT hm;refine xP G G Iw LX LL G am ?_;intro ac an ad a5;refine bD G G LX G a5 (go ?_);refine aG ?_;obtain ⟨ae,ao,ap,hm⟩:=dG hm;refine mD (fun n H' M' L'=>∃ (a0:Nat) (a6:List U8),(gL p0_s).drop a0=a6∧a6.length=n∧ae a0 a6 ()=some r∧an.le H'∧M=M'∧[(0,.string (p0_s)),(6,ac),(7,.int .i64 (((gL p0_s).length:Int))),(8,.int .i64 ((a0:Int)))]=L') _ ⟨0,_,G,G,hm,(G8 _),G,G⟩ ?_;rintro _ af _ _ ⟨a0,a6,ag,rfl,hm,a4,rfl,rfl⟩;refine gs ?_;refine gs ?_;refine bT G (fun a8=>?_) (fun a8=>?_);obtain ⟨a1,ah,rfl,a9,aq⟩:=iA ag a8;have hm:=(ao _ _ _ _).symm.trans hm;generalize ar:ae (a0+1) ah=aw at hm;unfold nI at hm;refine gs ?_;refine aG ?_;refine gs ?_;obtain ⟨_,rfl,au⟩:=(a5).elem a9
 refine aY G G LX sizeOf5 G (a5.mono a4) G (Hy _) a9 (aJ G G isAgg5 G (cB.one (au.mono a4) 0 G).at (go ?_));refine bK (fun H' M' L'=>af=H'∧M=M'∧[(0,.string (p0_s)),(6,ac),(7,.int .i64 (((gL p0_s).length:Int))),(8,.int .i64 ((a0:Int))),(31,.bool (!(((decide (65≤a1.n)) && (decide (a1.n≤90))) || (((decide (0<(a0:Int))) && (decide (48≤a1.n))) && (decide (a1.n≤57))))))]=L') ?_ (fun a2=>?_);rintro _ _ _ ⟨rfl,rfl,rfl⟩;refine cd hm G (fun av hm=>?_) (fun av hm=>?_);refine gs ?_;refine go ?_;obtain rfl:=G7 hm;refine aZ (G4 ad a4) ?_;exact cL G G ⟨G,G,G⟩;refine eS (aH (aO ?_));refine gj ?_;exact kj (bZ (Hi _) ⟨a0+1,ah,aq,G,((HJ ar _).trans hm),a4,G,G⟩) ⟨G,G,G,(HB (fun z=>some (Value.int .i64 z)) (cS a9 ((a5.mono a4)).dQ)),G_⟩;refine go ?_;cases a3:(decide (65≤a1.n))
 refine go ?_;cases aa:(decide (0<(a0:Int)));refine go ?_;refine ny G G G G (gj ?_);exact kj (a2 _ _ _ ⟨G,G,G⟩) ⟨G,G,G,G,(by exact sb (by first | rfl | simp only [a3,aa,oA])),G_⟩
 refine go ?_;cases ai:(decide (48≤a1.n));refine go ?_;refine ny G G G G (gj ?_);exact kj (a2 _ _ _ ⟨G,G,G⟩) ⟨G,G,G,G,(by exact sb (by first | rfl | simp only [a3,aa,ai,oA])),G_⟩
 refine go ?_;refine ny G G G G (gj ?_);exact kj (a2 _ _ _ ⟨G,G,G⟩) ⟨G,G,G,G,(by exact sb (by first | rfl | simp only [a3,aa,ai,oA])),G_⟩
 refine go ?_;cases a7:(decide (a1.n≤90));refine go ?_;cases ab:(decide (0<(a0:Int)));refine go ?_;refine ny G G G G (gj ?_);exact kj (a2 _ _ _ ⟨G,G,G⟩) ⟨G,G,G,G,(by exact sb (by first | rfl | simp only [a3,a7,ab,oA])),G_⟩
 refine go ?_;cases aj:(decide (48≤a1.n));refine go ?_;refine ny G G G G (gj ?_);exact kj (a2 _ _ _ ⟨G,G,G⟩) ⟨G,G,G,G,(by exact sb (by first | rfl | simp only [a3,a7,ab,aj,oA])),G_⟩
 refine go ?_;refine ny G G G G (gj ?_);exact kj (a2 _ _ _ ⟨G,G,G⟩) ⟨G,G,G,G,(by exact sb (by first | rfl | simp only [a3,a7,ab,aj,oA])),G_⟩
 refine go ?_;refine ny G G G G (gj ?_);exact kj (a2 _ _ _ ⟨G,G,G⟩) ⟨G,G,G,G,(by exact sb (by first | rfl | simp only [a3,a7,oA])),G_⟩
 obtain rfl:=hO ag a8;have hm:=(ap _ _).symm.trans hm;refine go ?_;refine bK (fun H' M' L'=>af=H'∧M=M'∧[(2,.bool ((decide (1≤(p0_s.size:Int))) && (decide ((p0_s.size:Int)≤8))))]=L') ?_ (fun ak=>?_);rintro _ _ _ ⟨rfl,rfl,rfl⟩;refine go ?_;obtain rfl:=G7 hm;refine aZ (G4 ad a4) ?_;exact cL G G ⟨G,G,G⟩;refine go ?_;refine kO G G Iw G (go ?_);cases al:(decide (1≤(p0_s.size:Int)));refine gj ?_;exact kj (ak _ _ _ ⟨G,G,G⟩) ⟨(by exact sb (by first | rfl | simp only [al,oA])),G_⟩
 refine go ?_;refine kO G G Iw G (gj ?_);exact kj (ak _ _ _ ⟨G,G,G⟩) ⟨(by exact sb (by first | rfl | simp only [al,oA])),G_⟩
theorem bU {B:Nat}{w0 w:World}[cQ B w0] {H:Hp}{M:List bR}{p0_s:(List ByteArray)}{p1_v:ByteArray}{v0:Value}{r:Int} (hm:bB p0_s p1_v=some r) (h0:aI H v0 p0_s) (ht:St B w0 H (M) w):
    Calls prog 38 [v0,.string (p1_v)].toArray w (fG B w0 fun H' M' v=>H=H'∧M=M'∧.int .i64 (r)=v):=by
 unfold bB at hm;refine enter func38 G G G ht (gs ?_);refine gs ?_;refine gs ?_;refine bD G G HA G h0 (go ?_);refine aG ?_;obtain ⟨a4,a8,a9,hm⟩:=kP hm;refine mD (fun n H' M' L'=>∃ (a0:Nat) (a2:Nat),a0+a2=((p0_s.length:Int):Int).toNat∧a2=n∧a4 a2 a0 ()=some r∧H.le H'∧M=M'∧[(0,v0),(1,.string (p1_v)),(7,.int .i64 ((p0_s.length:Int))),(8,.int .i64 ((a0:Int)))]=L') _ ⟨0,_,H_ _,G,hm,(G8 _),G,G⟩ ?_;rintro _ ag _ _ ⟨a0,a2,a5,rfl,hm,a1,rfl,rfl⟩;refine gs ?_;refine gs ?_;refine bT G (fun a3=>?_) (fun a3=>?_);obtain ⟨a6,rfl,aa,ab⟩:=mB a5 a3;have hm:=(a8 _ _ _).symm.trans hm;generalize ac:a4 a6 (a0+1)=ah at hm;unfold iW at hm;refine gs ?_;refine aG ?_;refine gs ?_;refine gs ?_;obtain ⟨ai,ad,a7,hm⟩:=aD hm;obtain ⟨_,rfl,ae⟩:=(h0).elem a7;refine aY G G HA Ih G (h0.mono a1) G ad a7 (aJ G G IW G (cB.one (ae.mono a1) 0 G).at (go ?_))
 refine cd hm G (fun af hm=>?_) (fun af hm=>?_);refine gs ?_;refine go ?_;obtain rfl:=G7 hm;refine aZ a1 ?_;exact cL G G ⟨G,G,G⟩;refine eS (aH (aO ?_));refine gj ?_;exact kj (bZ (Hi _) ⟨a0+1,a6,aa,G,((HJ ac _).trans hm),a1,G,G⟩) ⟨G,G,G,(HB (fun z=>some (Value.int .i64 z)) (gP ab (iB (mH (h0).dQ)))),G_⟩;obtain rfl:=mA a5 a3;have hm:=(a9 _ _).symm.trans hm;refine gs ?_;refine go ?_;obtain rfl:=G7 hm;refine aZ a1 ?_;exact cL G G ⟨G,G,G⟩
theorem fA {B:Nat}{w0 w:World}[cQ B w0] {H:Hp}{M:List bR}{p0_s:(List ByteArray)}{p1_v:ByteArray}{v0:Value}{r:Bool} (hm:cJ p0_s p1_v=some r) (h0:aI H v0 p0_s) (ht:St B w0 H (M) w):
    Calls prog 14 [v0,.string (p1_v)].toArray w (fG B w0 fun H' M' v=>H=H'∧M=M'∧.bool (r)=v):=by
 unfold cJ at hm;refine enter func14 G G G ht (gs ?_);refine gs ?_;obtain ⟨a1,a0,hm⟩:=bind_some hm;refine aE Ly G G G (fun w ht=>(bU (hm:=a0) h0 ht :)) ?_;rintro _ _ _ ⟨rfl,rfl,rfl⟩;refine go ?_;obtain rfl:=G7 hm;refine aZ (G8 _) ?_;exact cL G G ⟨G,G,G⟩
theorem eE {B:Nat}{w0 w:World}[cQ B w0] {H:Hp}{M:List bR}{p0_c:aQ}{name:ByteArray}{nodes:(List ByteArray)}{b0:Nat}{es0:Array MapEntry}{c0:Nat}{v0 v1:Value}{r:Int×aQ} (hm:bW p0_c name nodes=some r) (h0:nR es0 c0 p0_c.seen) (h1:aI H v0 p0_c.nodes) (h2:aI H v1 nodes) (ht:St B w0 H (.obj b0 (.map es0 c0)::M) w):
    Calls prog 33 [.agg [.map (some b0),v0].toArray,.string (name),v1].toArray w (fG B w0 fun H' M' v=>H.le H'∧∃ qes0:Array MapEntry,∃ qc0:Nat,∃ qv0:Value,.obj b0 (.map qes0 qc0)::M=M'∧.int .i64 (r.1)=v∧nR qes0 qc0 r.2.seen∧aI H' qv0 r.2.nodes):=by
 unfold bW at hm;refine enter func33 G G G ht (gs ?_);refine dO (cs:=[.map (some b0),v0]) G G G G (fun aa=>?_);refine gs ?_;refine aG ?_;refine gs ?_;obtain ⟨b1,ah,hm⟩:=bind_some hm;refine aE call64 G G G (fun w ht=>(tB (hm:=ah)  ht :)) ?_;rintro _ _ _ ⟨rfl,rfl,rfl⟩;refine ny G G G G (go ?_);refine cd hm G (fun ai hm=>?_) (fun ai hm=>?_);refine gs ?_;refine go ?_;obtain rfl:=G7 hm;refine aU (.cons _ (.refl _)) ?_;exact cL G G ⟨(G8 _),es0,c0,v0,G,G,h0,h1⟩;refine gs ?_;refine fi 0 Mg G sizeOf75 G ?_;refine lo isAgg75 G (.head _) G (go ?_);refine uW (z:=false) (k:=name) (.tail _ (.head _)) h0 G G runUnderlying75 Iw zeroValue4 G G G G (go ?_);refine cd hm G (fun aj hm=>?_) (fun aj hm=>?_);refine gs ?_;refine go ?_;obtain rfl:=G7 hm;refine aU (.cons _ (.refl _)) ?_;exact cL G G ⟨(G8 _),es0,c0,v0,G,G,h0,h1⟩
 refine gs ?_;refine fi 0 Mg G sizeOf75 G ?_;refine lo isAgg75 G (.head _) G (go ?_);refine a_ (.swap _ _ _) (rL (k:=name) (v:=true) h0 G runUnderlying75 Iw G G G G G ?_);intro a2 a3 a4;refine gs ?_;refine gs ?_;refine bD G G HA G h2 (go ?_);refine aG ?_;obtain ⟨ab,ak,al,hm⟩:=dG hm;refine mD (fun n H' M' L'=>∃ (a1:Nat) (a5:List ByteArray),(nodes).drop a1=a5∧a5.length=n∧ab a1 a5 ()=some r∧H.le H'∧.obj b0 (.map a2 a3)::.obj aa (.cells [.map (some b0),v0].toArray 77 (0,0))::M=M'∧[(2,v1),(3,.pointer (some ⟨aa,0,none⟩)),(21,v1),(22,.int .i64 ((nodes.length:Int))),(23,.int .i64 ((a1:Int)))]=L') _ ⟨0,_,G,G,hm,(G8 _),G,G⟩ ?_;rintro _ b2 _ _ ⟨a1,a5,ac,rfl,hm,a0,rfl,rfl⟩;refine gs ?_;refine gs ?_;refine bT G (fun a8=>?_) (fun a8=>?_);obtain ⟨b3,ad,rfl,a9,am⟩:=iA ac a8;have hm:=(ak _ _ _ _).symm.trans hm
 generalize an:ab (a1+1) ad=b4 at hm;unfold eY at hm;refine gs ?_;refine aG ?_;refine gs ?_;obtain ⟨_,rfl,ao⟩:=(h2).elem a9;refine aY G G HA Ih G (h2.mono a0) G (Hy _) a9 (aJ G G IW G (cB.one (ao.mono a0) 0 G).at (gs ?_));refine fi 1 Mg G JM G ?_;refine lo JW G (.tail _ (.head _)) G (go ?_);obtain ⟨b5,ap,hm⟩:=bind_some hm;refine aE call14 G G G (fun w ht=>(fA (hm:=ap) (h1.mono a0) ht :)) ?_;rintro _ _ _ ⟨rfl,rfl,rfl⟩;refine ny G G G G (go ?_);refine cd hm G (fun aq hm=>?_) (fun aq hm=>?_);refine gs ?_;refine go ?_;obtain rfl:=G7 hm;refine aU (.cons_cons _ (.cons _ (.refl _))) ?_;exact cL G G ⟨a0,a2,a3,v0,G,G,a4,(h1.mono a0)⟩;refine eS (aH (aO ?_));refine gj ?_;exact kj (bZ (Hi _) ⟨a1+1,ad,am,G,((HJ an _).trans hm),a0,G,G⟩) ⟨G,G,G,G,(HB (fun z=>some (Value.int .i64 z)) (cS a9 ((h2.mono a0)).dQ)),G_⟩
 obtain rfl:=hO ac a8;have hm:=(al _ _).symm.trans hm;refine gs ?_;refine gs ?_;cases a6:(decide ((nodes.length:Int)=2));have hm:=fE a6 hm;refine od fm 10 [ph v1,ph (.int .i64 ((nodes.length:Int))),ph (.bool (false)),ph (.bool (false)),ph undef,ph undef,ph undef,ph undef,ph undef,ph undef] ⟨om,?_,?_,om,om,om,om,om,om,om,G_⟩ ?_;rintro HX hX X Rest hR _ _ ⟨rfl,rfl⟩ hU hUp;refine bD G G HA G ((h2.mono a0).mono hX) ?_;exact o0 ⟨G,G⟩;rintro HX hX X Rest hR _ _ ⟨rfl,rfl⟩ hU hUp;refine wo ?_;exact o0 ⟨G,(by first | rfl | (rw [a6]; try rfl))⟩
 intro b6 ae;refine dz ?_;refine go ?_;refine cF G (gs ?_);refine go ?_;obtain rfl:=G7 hm;refine aU (.cons_cons _ (.cons _ (.refl _))) ?_;exact cL G G ⟨(G4 a0 ae),a2,a3,v0,G,G,a4,((h1.mono a0).mono ae)⟩;have hm:=fF a6 hm;obtain ⟨ar,au,af,hm⟩:=aD hm;obtain ⟨_,rfl,av⟩:=(h2).elem af;obtain ⟨aw,ax,ag,hm⟩:=aD hm;obtain ⟨_,rfl,ay⟩:=(h2).elem ag;refine od fm 10 [ph v1,ph (.int .i64 ((nodes.length:Int))),ph (.bool (true)),ph (.bool (true)),ph v1,ph (.pointer (some ((Value.base (v1)).add ((0:Int).toNat*1)))),ph (.string (ar)),ph v1,ph (.pointer (some ((Value.base (v1)).add ((1:Int).toNat*1)))),ph (.string (aw))] ⟨om,?_,?_,om,om,?_,?_,om,?_,?_,G_⟩ ?_;rintro HX hX X Rest hR _ _ ⟨rfl,rfl⟩ hU hUp;refine bD G G HA G ((h2.mono a0).mono hX) ?_;exact o0 ⟨G,G⟩;rintro HX hX X Rest hR _ _ ⟨rfl,rfl⟩ hU hUp;refine wo ?_
 exact o0 ⟨G,(by first | rfl | (rw [a6]; try rfl))⟩
 rintro HX hX X Rest hR _ _ ⟨rfl,rfl⟩ _ _ ⟨rfl,rfl⟩ hU hUp;refine aY G G HA Ih G ((h2.mono a0).mono hX) G au af ?_;exact o0 ⟨G,G⟩;rintro HX hX X Rest hR _ _ ⟨rfl,rfl⟩ _ _ ⟨rfl,rfl⟩ hU hUp;refine aJ G G IW G (cB.one ((av.mono a0).mono hX) 0 G).at ?_;exact o0 ⟨G,G⟩;rintro HX hX X Rest hR _ _ ⟨rfl,rfl⟩ _ _ ⟨rfl,rfl⟩ hU hUp;refine aY G G HA Ih G ((h2.mono a0).mono hX) G ax ag ?_;exact o0 ⟨G,G⟩;rintro HX hX X Rest hR _ _ ⟨rfl,rfl⟩ _ _ ⟨rfl,rfl⟩ hU hUp;refine aJ G G IW G (cB.one ((ay.mono a0).mono hX) 0 G).at ?_;exact o0 ⟨G,G⟩;intro b7 a7;refine dz ?_;refine go ?_;refine cd hm G (fun az hm=>?_) (fun az hm=>?_);refine gs ?_;refine go ?_;obtain rfl:=G7 hm;refine aU (.cons_cons _ (.cons _ (.refl _))) ?_;exact cL G G ⟨(G4 a0 a7),a2,a3,v0,G,G,a4,((h1.mono a0).mono a7)⟩;refine gs ?_;refine go ?_;obtain rfl:=G7 hm
 refine aU (.cons_cons _ (.cons _ (.refl _))) ?_;exact cL G G ⟨(G4 a0 a7),a2,a3,v0,G,G,a4,((h1.mono a0).mono a7)⟩
theorem gX {B:Nat}{w0 w:World}[cQ B w0] {H:Hp}{M:List bR}{p0_n p1_low p2_high:Int}{r:Bool} (hm:bI p0_n p1_low p2_high=r) (ht:St B w0 H (M) w):
    Calls prog 65 [.int .i64 (p0_n),.int .i64 (p1_low),.int .i64 (p2_high)].toArray w (fG B w0 fun H' M' v=>H=H'∧M=M'∧.bool (r)=v):=by
 unfold bI at hm;refine enter func65 G G G ht (gs ?_);refine bK (fun H' M' L'=>H=H'∧M=M'∧[(6,.bool ((decide (p0_n<p1_low)) || (decide (p2_high<p0_n))))]=L') ?_ (fun a0=>?_);rintro _ _ _ ⟨rfl,rfl,rfl⟩;refine go ?_;obtain rfl:=hm;refine aZ (G8 _) ?_;exact cL G G ⟨G,G,G⟩;refine go ?_;cases a1:(decide (p0_n<p1_low));refine gj ?_;exact kj (a0 _ _ _ ⟨G,G,G⟩) ⟨(by exact sb (by first | rfl | simp only [a1,oA])),G_⟩
 refine gj ?_;exact kj (a0 _ _ _ ⟨G,G,G⟩) ⟨(by exact sb (by first | rfl | simp only [a1,oA])),G_⟩
theorem sE {B:Nat}{w0 w:World}[cQ B w0] {H:Hp}{M:List bR}{p0_b:bH}{r:Int} (hm:gH p0_b=r) (ht:St B w0 H (M) w):
    Calls prog 34 [.agg [.string (p0_b.Name),.string (p0_b.iT),.string (p0_b.To),.int .i64 (p0_b.X),.int .i64 (p0_b.rz),.int .i64 (p0_b.Shift),.int .i64 (p0_b.jS),.int .i64 (p0_b.me),.int .i64 (p0_b.pU)].toArray].toArray w (fG B w0 fun H' M' v=>H=H'∧M=M'∧.int .i64 (r)=v):=by
 unfold gH at hm;refine enter func34 G G G ht (gs ?_);refine dO (cs:=[.string (p0_b.Name),.string (p0_b.iT),.string (p0_b.To),.int .i64 (p0_b.X),.int .i64 (p0_b.rz),.int .i64 (p0_b.Shift),.int .i64 (p0_b.jS),.int .i64 (p0_b.me),.int .i64 (p0_b.pU)]) G G G G (fun a7=>?_);refine gs ?_;refine bK (fun H' M' L'=>H=H'∧M=M'∧[(32,.bool ((((((bI p0_b.X 1 10000) || (bI p0_b.rz 500 1500)) || (bI p0_b.Shift (-1000) 1000)) || (bI p0_b.jS 0 100000)) || (bI p0_b.me p0_b.jS 100000)) || (bI p0_b.pU 0 200000)))]=L') ?_ (fun a0=>?_);rintro _ _ _ ⟨rfl,rfl,rfl⟩;refine cd hm G (fun a6 hm=>?_) (fun a6 hm=>?_);refine gs ?_;refine go ?_;obtain rfl:=hm;refine aZ (G8 _) ?_;exact cL G G ⟨G,G,G⟩;refine gs ?_;refine go ?_;obtain rfl:=hm;refine aZ (G8 _) ?_;exact cL G G ⟨G,G,G⟩;refine go ?_;refine fi 3 IP G Hq G ?_;refine lo HP G (.head _) G ?_
 refine aE call65 G G G (fun w ht=>(gX (hm:=(G:bI p0_b.X 1 10000=_))  ht :)) ?_;rintro _ _ _ ⟨rfl,rfl,rfl⟩;refine go ?_;cases a1:((bI p0_b.X 1 10000));refine fi 4 IP G Hq G ?_;refine lo HP G (.head _) G ?_;refine aE call65 G G G (fun w ht=>(gX (hm:=(G:bI p0_b.rz 500 1500=_))  ht :)) ?_;rintro _ _ _ ⟨rfl,rfl,rfl⟩;refine go ?_;cases a2:((bI p0_b.rz 500 1500));refine fi 5 IP G Hq G ?_;refine lo HP G (.head _) G ?_;refine aE call65 G G G (fun w ht=>(gX (hm:=(G:bI p0_b.Shift (-1000) 1000=_))  ht :)) ?_;rintro _ _ _ ⟨rfl,rfl,rfl⟩;refine go ?_;cases a3:((bI p0_b.Shift (-1000) 1000));refine fi 6 IP G Hq G ?_;refine lo HP G (.head _) G ?_;refine aE call65 G G G (fun w ht=>(gX (hm:=(G:bI p0_b.jS 0 100000=_))  ht :)) ?_;rintro _ _ _ ⟨rfl,rfl,rfl⟩;refine go ?_;cases a4:((bI p0_b.jS 0 100000))
 refine fi 7 IP G Hq G ?_;refine lo HP G (.head _) G ?_;refine fi 6 IP G Hq G ?_;refine lo HP G (.head _) G ?_;refine aE call65 G G G (fun w ht=>(gX (hm:=(G:bI p0_b.me p0_b.jS 100000=_))  ht :)) ?_;rintro _ _ _ ⟨rfl,rfl,rfl⟩;refine go ?_;cases a5:((bI p0_b.me p0_b.jS 100000));refine fi 8 IP G Hq G ?_;refine lo HP G (.head _) G ?_;refine aE call65 G G G (fun w ht=>(gX (hm:=(G:bI p0_b.pU 0 200000=_))  ht :)) ?_;rintro _ _ _ ⟨rfl,rfl,rfl⟩;refine gj ?_;refine aU (.cons _ (.refl _)) ?_;exact kj (a0 _ _ _ ⟨G,G,G⟩) ⟨(by exact sb (by first | rfl | simp only [a1,a2,a3,a4,a5,oA])),G_⟩
 refine gj ?_;refine aU (.cons _ (.refl _)) ?_;exact kj (a0 _ _ _ ⟨G,G,G⟩) ⟨(by exact sb (by first | rfl | simp only [a1,a2,a3,a4,a5,oA])),G_⟩
 refine gj ?_;refine aU (.cons _ (.refl _)) ?_;exact kj (a0 _ _ _ ⟨G,G,G⟩) ⟨(by exact sb (by first | rfl | simp only [a1,a2,a3,a4,oA])),G_⟩
 refine gj ?_;refine aU (.cons _ (.refl _)) ?_;exact kj (a0 _ _ _ ⟨G,G,G⟩) ⟨(by exact sb (by first | rfl | simp only [a1,a2,a3,oA])),G_⟩
 refine gj ?_;refine aU (.cons _ (.refl _)) ?_;exact kj (a0 _ _ _ ⟨G,G,G⟩) ⟨(by exact sb (by first | rfl | simp only [a1,a2,oA])),G_⟩
 refine gj ?_;refine aU (.cons _ (.refl _)) ?_;exact kj (a0 _ _ _ ⟨G,G,G⟩) ⟨(by exact sb (by first | rfl | simp only [a1,oA])),G_⟩
theorem gA {B:Nat}{w0 w:World}[cQ B w0] {H:Hp}{M:List bR}{p0_n:Int}{r:Bool} (hm:aX p0_n=r) (ht:St B w0 H (M) w):
    Calls prog 66 [.int .i64 (p0_n)].toArray w (fG B w0 fun H' M' v=>H=H'∧M=M'∧.bool (r)=v):=by
 unfold aX at hm;refine enter func66 G G G ht (gs ?_);refine gs ?_;refine aE call65 G G G (fun w ht=>(gX (hm:=(G:bI p0_n 0 100000=_))  ht :)) ?_;rintro _ _ _ ⟨rfl,rfl,rfl⟩;refine ny G G G G (go ?_);obtain rfl:=hm;refine aZ (G8 _) ?_;exact cL G G ⟨G,G,G⟩
theorem qm {B:Nat}{w0 w:World}[cQ B w0] {H:Hp}{M:List bR}{p0_c:aQ}{p1_n:aC}{b0:Nat}{es0:Array MapEntry}{c0:Nat}{v0 v1 v2 v3 v4 v5 v6:Value}{r:Int×aQ} (hm:eM p0_c p1_n=some r) (h0:nR es0 c0 p0_c.seen) (h1:aI H v0 p0_c.nodes) (h2:aI H v1 p1_n.bJ) (h3:aI H v2 p1_n.bM) (h4:aI H v3 p1_n.aS) (h5:aI H v4 p1_n.dR) (h6:aI H v5 p1_n.bQ) (h7:aI H v6 p1_n.bY) (ht:St B w0 H (.obj b0 (.map es0 c0)::M) w):
    Calls prog 35 [.agg [.map (some b0),v0].toArray,.agg [v1,v2,v3,v4,v5,v6].toArray].toArray w (fG B w0 fun H' M' v=>H.le H'∧∃ qes0:Array MapEntry,∃ qc0:Nat,∃ qv0:Value,.obj b0 (.map qes0 qc0)::M=M'∧.int .i64 (r.1)=v∧nR qes0 qc0 r.2.seen∧aI H' qv0 r.2.nodes):=by
 unfold eM at hm;refine enter func35 G G G ht (gs ?_);refine dO (cs:=[.map (some b0),v0]) G G G G (fun a6=>?_);refine dO (cs:=[v1,v2,v3,v4,v5,v6]) G G G G (fun a9=>?_);refine gs ?_;refine gs ?_;refine fi 3 Hs G K9 G ?_;refine lo L8 G (.head _) G ?_;refine bD G G Jf G h5 (go ?_);refine aG ?_;obtain ⟨bf,bv,bw,hm⟩:=dG hm;refine mD (fun n H' M' L'=>∃ (a7:Nat) (ah:List cR),∃ ao:(List (ByteArray×Bool)),∃ ap:Array MapEntry,∃ aq:Nat,(p1_n.dR).drop a7=ah∧ah.length=n∧bf a7 ah ao=some r∧nR ap aq ao∧H.le H'∧.obj a9 (.cells [v1,v2,v3,v4,v5,v6].toArray 29 (0,0))::.obj a6 (.cells [.map (some b0),v0].toArray 77 (0,0))::.obj b0 (.map ap aq)::M=M'∧[(2,.pointer (some ⟨a6,0,none⟩)),(3,.pointer (some ⟨a9,0,none⟩)),(15,v4),(16,.int .i64 ((p1_n.dR.length:Int))),(17,.int .i64 ((a7:Int)))]=L') _ ⟨0,_,_,_,_,G,G,hm,h0,(G8 _),G,G⟩ ?_
 rintro _ bx _ _ ⟨a7,ah,ao,ap,aq,bg,rfl,hm,bh,a0,rfl,rfl⟩;refine gs ?_;refine gs ?_;refine bT G (fun ar=>?_) (fun ar=>?_);obtain ⟨a1,bi,rfl,au,bz⟩:=iA bg ar;have hm:=(bv _ _ _ _).symm.trans hm;generalize c1:bf (a7+1) bi=cv at hm;unfold fV at hm;refine gs ?_;refine aG ?_;refine gs ?_;obtain ⟨_,⟨rfl⟩,c2⟩:=(h5).elem au;refine aY G G Jf J2 G (h5.mono a0) G (Hy _) au (aR G G isAgg117 J2 G (c2.mono a0).at G ?_);refine bO (cs:=[.string (⟨#[]⟩),.string (⟨#[]⟩),.int .i64 (0),.int .i64 (0),.int .i64 (0)]) G G LC G (fun cw=>?_);refine aM (cs:=[.string (a1.Name),.string (a1.Node),.int .i64 (a1.c_),.int .i64 (a1.gK),.int .i64 (a1.s8)]) (out:=[.string (a1.Name),.string (a1.Node),.int .i64 (a1.c_),.int .i64 (a1.gK),.int .i64 (a1.s8)]) G J2 G G G G G (G5 G (G5 G (G5 G (G5 G (G5 G Hj))))) (aP G) (gs ?_)
 refine gs ?_;refine la isAgg77 LY G (.tail _ (.tail _ (.head _))) G ?_;refine fi 0 IV G Ih G ?_;refine lo IW G (.head _) G ?_;refine fi 1 IV G Ih G ?_;refine lo IW G (.head _) G ?_;refine dT (α:=ByteArray) (css:=[[.string (a1.Node)]]) (zs:=[.string (⟨#[]⟩)]) (out:=[.string (a1.Node)]) (ys:=[a1.Node]) G G G ⟨G,G_⟩ HA Ih G Kd (by kernel_rfl) G G G G ⟨[.string (a1.Node)],[],G,G,G⟩ G ?_
 intro cx cy c3;refine cY (c3).rd G (fun cz aa c4=>?_);refine a_ (.trans (.cons _ (.cons _ (.swap _ _ _))) (.trans (.cons _ (.swap _ _ _)) (.swap _ _ _))) ?_;obtain ⟨d0,c5,hm⟩:=bind_some hm;refine aE call33 G G G (fun w ht=>(eE (hm:=c5) bh ((h1.mono a0).mono aa) c4 ht :)) ?_;rintro _ c6 _ ⟨ae,av,aw,d1,rfl,rfl,ax,d2⟩;refine gs ?_;refine cd hm G (fun ai hm=>?_) (fun ai hm=>?_);refine gs ?_;refine go ?_;obtain rfl:=G7 hm;refine aU (.cons_cons _ (.cons _ (.cons _ (.cons _ (.refl _))))) ?_;exact cL G G ⟨(G4 (G4 a0 aa) ae),av,aw,v0,G,G,ax,(((h1.mono a0).mono aa).mono ae)⟩;refine go ?_;refine bK (fun H' M' L'=>c6=H'∧.obj b0 (.map av aw)::.obj a9 (.cells [v1,v2,v3,v4,v5,v6].toArray 29 (0,0))::.obj a6 (.cells [.map (some b0),v0].toArray 77 (0,0))::M=M'∧[(2,.pointer (some ⟨a6,0,none⟩)),(3,.pointer (some ⟨a9,0,none⟩)),(15,v4),(16,.int .i64 ((p1_n.dR.length:Int))),(17,.int .i64 ((a7:Int))),(47,.bool (((!(aX a1.c_)) || (bI a1.gK a1.c_ 100000)) || (!(aX a1.s8))))]=L') ?_ (fun ay=>?_)
 rintro _ _ _ ⟨rfl,rfl,rfl⟩;refine cd hm G (fun c7 hm=>?_) (fun c7 hm=>?_);refine gs ?_;refine go ?_;obtain rfl:=G7 hm;refine aU (.cons_cons _ (.cons _ (.cons _ (.refl _)))) ?_;exact cL G G ⟨(G4 (G4 a0 aa) ae),av,aw,v0,G,G,ax,(((h1.mono a0).mono aa).mono ae)⟩;refine eS (aH (aO ?_));refine gj ?_;exact kp (bZ (Hi _) ⟨a7+1,bi,_,_,_,bz,G,((HJ c1 _).trans hm),ax,(G4 (G4 a0 aa) ae),G,G⟩) (.trans (.swap _ _ _) (.cons _ (.swap _ _ _))) ⟨G,G,G,G,(HB (fun z=>some (Value.int .i64 z)) (cS au ((h5.mono a0)).dQ)),G_⟩;refine go ?_;refine fi 2 IV G Hq G ?_;refine lo HP G (.tail _ (.head _)) G ?_;refine aE call66 G G G (fun w ht=>(gA (hm:=(G:aX a1.c_=_))  ht :)) ?_;rintro _ _ _ ⟨rfl,rfl,rfl⟩;refine ny G G G G (go ?_);cases az:(aX a1.c_);refine gj ?_;refine aU (.cons_cons _ (.cons _ (.refl _))) ?_
 exact kj (ay _ _ _ ⟨G,G,G⟩) ⟨G,G,G,G,G,(by exact sb (by first | rfl | simp only [ai,az,oA])),G_⟩
 refine fi 3 IV G Hq G ?_;refine lo HP G (.tail _ (.head _)) G ?_;refine fi 2 IV G Hq G ?_;refine lo HP G (.tail _ (.head _)) G ?_;refine aE call65 G G G (fun w ht=>(gX (hm:=(G:bI a1.gK a1.c_ 100000=_))  ht :)) ?_;rintro _ _ _ ⟨rfl,rfl,rfl⟩;refine go ?_;cases bj:((bI a1.gK a1.c_ 100000));refine fi 4 IV G Hq G ?_;refine lo HP G (.tail _ (.head _)) G ?_;refine aE call66 G G G (fun w ht=>(gA (hm:=(G:aX a1.s8=_))  ht :)) ?_;rintro _ _ _ ⟨rfl,rfl,rfl⟩;refine ny G G G G (gj ?_);refine aU (.cons_cons _ (.cons _ (.refl _))) ?_;exact kj (ay _ _ _ ⟨G,G,G⟩) ⟨G,G,G,G,G,(by exact sb (by first | rfl | simp only [ai,az,bj,oA])),G_⟩
 refine gj ?_;refine aU (.cons_cons _ (.cons _ (.refl _))) ?_;exact kj (ay _ _ _ ⟨G,G,G⟩) ⟨G,G,G,G,G,(by exact sb (by first | rfl | simp only [ai,az,bj,oA])),G_⟩
 obtain rfl:=hO bg ar;have hm:=(bw _ _).symm.trans hm;refine gs ?_;refine gs ?_;refine fi 4 Hs G JY G ?_;refine lo KZ G (.head _) G ?_;refine bD G G Iq G (h6.mono a0) (go ?_);refine aG ?_;obtain ⟨bk,c8,c9,hm⟩:=dG hm;refine mD (fun n H' M' L'=>∃ (ab:Nat) (aj:List aK),∃ b1:(List (ByteArray×Bool)),∃ b2:Array MapEntry,∃ b3:Nat,(p1_n.bQ).drop ab=aj∧aj.length=n∧bk ab aj b1=some r∧nR b2 b3 b1∧bx.le H'∧.obj a9 (.cells [v1,v2,v3,v4,v5,v6].toArray 29 (0,0))::.obj a6 (.cells [.map (some b0),v0].toArray 77 (0,0))::.obj b0 (.map b2 b3)::M=M'∧[(2,.pointer (some ⟨a6,0,none⟩)),(3,.pointer (some ⟨a9,0,none⟩)),(50,v5),(51,.int .i64 ((p1_n.bQ.length:Int))),(52,.int .i64 ((ab:Int)))]=L') _ ⟨0,_,_,_,_,G,G,hm,bh,(G8 _),G,G⟩ ?_;rintro _ ca _ _ ⟨ab,aj,b1,b2,b3,bl,rfl,hm,bm,a3,rfl,rfl⟩
 refine gs ?_;refine gs ?_;refine bT G (fun b4=>?_) (fun b4=>?_);obtain ⟨a4,bn,rfl,b5,cb⟩:=iA bl b4;have hm:=(c8 _ _ _ _).symm.trans hm;generalize cc:bk (ab+1) bn=d3 at hm;unfold fW at hm;refine gs ?_;refine aG ?_;refine gs ?_;obtain ⟨_,⟨rfl⟩,ce⟩:=(h6).elem b5;refine aY G G Iq I3 G ((h6.mono a0).mono a3) G (Hy _) b5 (aR G G LK I3 G ((ce.mono a0).mono a3).at G ?_);refine bO (cs:=[.string (⟨#[]⟩),.string (⟨#[]⟩),.int .i64 (0)]) G G KR G (fun d4=>?_);refine aM (cs:=[.string (a4.Name),.string (a4.Node),.int .i64 (a4.bL)]) (out:=[.string (a4.Name),.string (a4.Node),.int .i64 (a4.bL)]) G I3 G G G G G (G5 G (G5 G (G5 G Hj))) (aP G) (gs ?_);refine gs ?_;refine la isAgg77 LY G (.tail _ (.tail _ (.head _))) G ?_;refine fi 0 Jq G Ih G ?_;refine lo IW G (.head _) G ?_
 refine fi 1 Jq G Ih G ?_;refine lo IW G (.head _) G ?_;refine dT (α:=ByteArray) (css:=[[.string (a4.Node)]]) (zs:=[.string (⟨#[]⟩)]) (out:=[.string (a4.Node)]) (ys:=[a4.Node]) G G G ⟨G,G_⟩ HA Ih G Kd (by kernel_rfl) G G G G ⟨[.string (a4.Node)],[],G,G,G⟩ G ?_
 intro d5 d6 cf;refine cY (cf).rd G (fun d7 ac cg=>?_);refine a_ (.trans (.cons _ (.cons _ (.swap _ _ _))) (.trans (.cons _ (.swap _ _ _)) (.swap _ _ _))) ?_;obtain ⟨d8,ch,hm⟩:=bind_some hm;refine aE call33 G G G (fun w ht=>(eE (hm:=ch) bm (((h1.mono a0).mono a3).mono ac) cg ht :)) ?_;rintro _ d9 _ ⟨af,bo,bp,da,rfl,rfl,b6,db⟩;refine gs ?_;refine cd hm G (fun ci hm=>?_) (fun ci hm=>?_);refine gs ?_;refine go ?_;obtain rfl:=G7 hm;refine aU (.cons_cons _ (.cons _ (.cons _ (.cons _ (.refl _))))) ?_;exact cL G G ⟨(G4 (G4 (G4 a0 a3) ac) af),bo,bp,v0,G,G,b6,((((h1.mono a0).mono a3).mono ac).mono af)⟩;refine gs ?_;refine fi 2 Jq G Hq G ?_;refine lo HP G (.tail _ (.head _)) G ?_;refine aE call66 G G G (fun w ht=>(gA (hm:=(G:aX a4.bL=_))  ht :)) ?_;rintro _ _ _ ⟨rfl,rfl,rfl⟩;refine ny G G G G (go ?_)
 refine cd hm G (fun cj hm=>?_) (fun cj hm=>?_);refine gs ?_;refine go ?_;obtain rfl:=G7 hm;refine aU (.cons_cons _ (.cons _ (.cons _ (.cons _ (.refl _))))) ?_;exact cL G G ⟨(G4 (G4 (G4 a0 a3) ac) af),bo,bp,v0,G,G,b6,((((h1.mono a0).mono a3).mono ac).mono af)⟩;refine eS (aH (aO ?_));refine gj ?_;refine aU (.cons_cons _ (.cons _ (.refl _))) ?_;exact kp (bZ (Hi _) ⟨ab+1,bn,_,_,_,cb,G,((HJ cc _).trans hm),b6,(G4 (G4 a3 ac) af),G,G⟩) (.trans (.swap _ _ _) (.cons _ (.swap _ _ _))) ⟨G,G,G,G,(HB (fun z=>some (Value.int .i64 z)) (cS b5 (((h6.mono a0).mono a3)).dQ)),G_⟩;obtain rfl:=hO bl b4;have hm:=(c9 _ _).symm.trans hm;refine gs ?_;refine gs ?_;refine fi 5 Hs G sizeOf27 G ?_;refine lo isAgg27 G (.head _) G ?_;refine bD G G J0 G ((h7.mono a0).mono a3) (go ?_)
 refine aG (ox (.cons _ (.refl _)) ?_);obtain ⟨bq,ck,cl,hm⟩:=dG hm;refine mD (fun n H' M' L'=>∃ (a8:Nat) (ak:List dS),∃ b7:(List (ByteArray×Bool)),∃ al:Array MapEntry,∃ am:Nat,(p1_n.bY).drop a8=ak∧ak.length=n∧bq a8 ak b7=some r∧nR al am b7∧ca.le H'∧.obj a6 (.cells [.map (some b0),v0].toArray 77 (0,0))::.obj b0 (.map al am)::M=M'∧[(2,.pointer (some ⟨a6,0,none⟩)),(72,v6),(73,.int .i64 ((p1_n.bY.length:Int))),(74,.int .i64 ((a8:Int)))]=L') _ ⟨0,_,_,_,_,G,G,hm,bm,(G8 _),G,G⟩ ?_;rintro _ dc _ _ ⟨a8,ak,b7,al,am,br,rfl,hm,bs,a5,rfl,rfl⟩;refine gs ?_;refine gs ?_;refine bT G (fun b8=>?_) (fun b8=>?_);obtain ⟨a2,bt,rfl,b9,cm⟩:=iA br b8;have hm:=(ck _ _ _ _).symm.trans hm;generalize cn:bq (a8+1) bt=dd at hm;unfold fX at hm;refine gs ?_;refine aG ?_;refine gs ?_;obtain ⟨_,⟨rfl⟩,co⟩:=(h7).elem b9
 refine aY G G J0 L_ G (((h7.mono a0).mono a3).mono a5) G (Hy _) b9 (aR G G isAgg121 L_ G (((co.mono a0).mono a3).mono a5).at G ?_);refine bO (cs:=[.string (⟨#[]⟩),.string (⟨#[]⟩),.int .i64 (0),.int .i64 (0),.int .i64 (0)]) G G zeroValue121 G (fun de=>?_);refine aM (cs:=[.string (a2.Name),.string (a2.Node),.int .i64 (a2.lg),.int .i64 (a2.Discharge),.int .i64 (a2.m_)]) (out:=[.string (a2.Name),.string (a2.Node),.int .i64 (a2.lg),.int .i64 (a2.Discharge),.int .i64 (a2.m_)]) G L_ G G G G G (G5 G (G5 G (G5 G (G5 G (G5 G Hj))))) (aP G) (gs ?_);refine gs ?_;refine la isAgg77 LY G (.tail _ (.head _)) G ?_;refine fi 0 JS G Ih G ?_;refine lo IW G (.head _) G ?_;refine fi 1 JS G Ih G ?_;refine lo IW G (.head _) G ?_;refine dT (α:=ByteArray) (css:=[[.string (a2.Node)]]) (zs:=[.string (⟨#[]⟩)]) (out:=[.string (a2.Node)]) (ys:=[a2.Node]) G G G ⟨G,G_⟩ HA Ih G Kd (by kernel_rfl) G G G G ⟨[.string (a2.Node)],[],G,G,G⟩ G ?_
 intro df dg cp;refine cY (cp).rd G (fun dh ad cq=>?_);refine a_ (.trans (.cons _ (.swap _ _ _)) (.swap _ _ _)) ?_;obtain ⟨di,cr,hm⟩:=bind_some hm;refine aE call33 G G G (fun w ht=>(eE (hm:=cr) bs ((((h1.mono a0).mono a3).mono a5).mono ad) cq ht :)) ?_;rintro _ ct _ ⟨ag,ba,bb,dj,rfl,rfl,bc,dk⟩;refine gs ?_;refine cd hm G (fun an hm=>?_) (fun an hm=>?_);refine gs ?_;refine go ?_;obtain rfl:=G7 hm;refine aU (.cons_cons _ (.cons _ (.cons _ (.refl _)))) ?_;exact cL G G ⟨(G4 (G4 (G4 (G4 a0 a3) a5) ad) ag),ba,bb,v0,G,G,bc,(((((h1.mono a0).mono a3).mono a5).mono ad).mono ag)⟩;refine go ?_;refine bK (fun H' M' L'=>ct=H'∧.obj b0 (.map ba bb)::.obj a6 (.cells [.map (some b0),v0].toArray 77 (0,0))::M=M'∧[(2,.pointer (some ⟨a6,0,none⟩)),(72,v6),(73,.int .i64 ((p1_n.bY.length:Int))),(74,.int .i64 ((a8:Int))),(103,.bool (((!(aX a2.lg)) || (!(aX a2.Discharge))) || (!(aX a2.m_))))]=L') ?_ (fun bd=>?_)
 rintro _ _ _ ⟨rfl,rfl,rfl⟩;refine cd hm G (fun cu hm=>?_) (fun cu hm=>?_);refine gs ?_;refine go ?_;obtain rfl:=G7 hm;refine aU (.cons_cons _ (.cons _ (.refl _))) ?_;exact cL G G ⟨(G4 (G4 (G4 (G4 a0 a3) a5) ad) ag),ba,bb,v0,G,G,bc,(((((h1.mono a0).mono a3).mono a5).mono ad).mono ag)⟩;refine eS (aH (aO ?_));refine gj ?_;exact kp (bZ (Hi _) ⟨a8+1,bt,_,_,_,cm,G,((HJ cn _).trans hm),bc,(G4 (G4 a5 ad) ag),G,G⟩) (.swap _ _ _) ⟨G,G,G,(HB (fun z=>some (Value.int .i64 z)) (cS b9 ((((h7.mono a0).mono a3).mono a5)).dQ)),G_⟩;refine go ?_;refine fi 2 JS G Hq G ?_;refine lo HP G (.tail _ (.head _)) G ?_;refine aE call66 G G G (fun w ht=>(gA (hm:=(G:aX a2.lg=_))  ht :)) ?_;rintro _ _ _ ⟨rfl,rfl,rfl⟩;refine ny G G G G (go ?_);cases be:(aX a2.lg)
 refine gj ?_;refine aU (.cons_cons _ (.cons _ (.refl _))) ?_;exact kj (bd _ _ _ ⟨G,G,G⟩) ⟨G,G,G,G,(by exact sb (by first | rfl | simp only [an,be,oA])),G_⟩
 refine fi 3 JS G Hq G ?_;refine lo HP G (.tail _ (.head _)) G ?_;refine aE call66 G G G (fun w ht=>(gA (hm:=(G:aX a2.Discharge=_))  ht :)) ?_;rintro _ _ _ ⟨rfl,rfl,rfl⟩;refine ny G G G G (go ?_);cases bu:(aX a2.Discharge);refine gj ?_;refine aU (.cons_cons _ (.cons _ (.refl _))) ?_;exact kj (bd _ _ _ ⟨G,G,G⟩) ⟨G,G,G,G,(by exact sb (by first | rfl | simp only [an,be,bu,oA])),G_⟩
 refine fi 4 JS G Hq G ?_;refine lo HP G (.tail _ (.head _)) G ?_;refine aE call66 G G G (fun w ht=>(gA (hm:=(G:aX a2.m_=_))  ht :)) ?_;rintro _ _ _ ⟨rfl,rfl,rfl⟩;refine ny G G G G (gj ?_);refine aU (.cons_cons _ (.cons _ (.refl _))) ?_;exact kj (bd _ _ _ ⟨G,G,G⟩) ⟨G,G,G,G,(by exact sb (by first | rfl | simp only [an,be,bu,oA])),G_⟩
 obtain rfl:=hO br b8;have hm:=(cl _ _).symm.trans hm;refine gs ?_;refine go ?_;obtain rfl:=G7 hm;refine aU (.cons _ (.refl _)) ?_;exact cL G G ⟨(G4 (G4 a0 a3) a5),al,am,v0,G,G,bs,(((h1.mono a0).mono a3).mono a5)⟩
theorem kA {B:Nat}{w0 w:World}[cQ B w0] {H:Hp}{M:List bR}{p0_n:aC}{v0 v1 v2 v3 v4 v5:Value}{r:Int} (hm:cI p0_n=some r) (h0:aI H v0 p0_n.bJ) (h1:aI H v1 p0_n.bM) (h2:aI H v2 p0_n.aS) (h3:aI H v3 p0_n.dR) (h4:aI H v4 p0_n.bQ) (h5:aI H v5 p0_n.bY) (ht:St B w0 H (M) w):
    Calls prog 9 [.agg [v0,v1,v2,v3,v4,v5].toArray].toArray w (fG B w0 fun H' M' v=>H=H'∧M=M'∧.int .i64 (r)=v):=by
 unfold cI at hm;refine enter func9 G G G ht (gs ?_);refine dO (cs:=[v0,v1,v2,v3,v4,v5]) G G G G (fun a6=>?_);refine gs ?_;refine bK (fun H' M' L'=>H=H'∧.obj a6 (.cells [v0,v1,v2,v3,v4,v5].toArray 29 (0,0))::M=M'∧[(1,.pointer (some ⟨a6,0,none⟩)),(47,.bool ((((((decide (24<(p0_n.bJ.length:Int))) || (decide (32<(p0_n.bM.length:Int)))) || (decide (24<(p0_n.aS.length:Int)))) || (decide (10<(p0_n.dR.length:Int)))) || (decide (12<(p0_n.bQ.length:Int)))) || (decide (4<(p0_n.bY.length:Int)))))]=L') ?_ (fun a7=>?_);rintro _ _ _ ⟨rfl,rfl,rfl⟩;refine cd hm G (fun bi hm=>?_) (fun bi hm=>?_);refine gs ?_;refine go ?_;obtain rfl:=G7 hm;refine aU (.cons _ (.refl _)) (aZ (G8 _) ?_);exact cL G G ⟨G,G,G⟩;refine gs ?_;refine tS G G (fun a5=>?_);refine fi 0 Hs G JM G ?_;refine lo JW G (.tail _ (.head _)) G ?_
 refine eD (css:=[[.map (some a5)],[v0]]) (zs:=[.map none,.slice none 0 0]) (out:=[.map (some a5),v0]) (places:=[(0,1),(1,1)]) G G G ⟨G,(aI.cells h0),G_⟩ zeroValue77 G Mg (fun w=>by kernel_rfl) G ?_
 refine bO (cs:=[.map none,.slice none 0 0]) G G zeroValue77 G (fun a8=>?_);refine aM (cs:=[.map (some a5),v0]) (out:=[.map (some a5),v0]) G LY G G G G G (G5 G (G5 (aI.cA h0) Hj)) (aP G) (gs ?_);refine gs ?_;refine fi 0 Hs G JM G ?_;refine lo JW G (.tail _ (.tail _ (.head _))) G ?_;refine bD G G HA G h0 (go ?_);refine aG ?_;obtain ⟨b3,bj,bk,hm⟩:=dG hm;refine mD (fun n H' M' L'=>∃ (a9:Nat) (ae:List ByteArray),∃ aj:(List (ByteArray×Bool)),∃ ak:Array MapEntry,∃ al:Nat,(p0_n.bJ).drop a9=ae∧ae.length=n∧b3 a9 ae aj=some r∧nR ak al aj∧H.le H'∧.obj a8 (.cells [.map (some a5),v0].toArray 77 (0,0))::.obj a5 (.map ak al)::.obj a6 (.cells [v0,v1,v2,v3,v4,v5].toArray 29 (0,0))::M=M'∧[(1,.pointer (some ⟨a6,0,none⟩)),(3,.pointer (some ⟨a8,0,none⟩)),(53,v0),(54,.int .i64 ((p0_n.bJ.length:Int))),(55,.int .i64 ((a9:Int)))]=L') _ ⟨0,_,_,_,_,G,G,hm,(nR.nil (κ:=ByteArray) (ν:=Bool)),(G8 _),G,G⟩ ?_
 rintro _ bl _ _ ⟨a9,ae,aj,ak,al,b4,rfl,hm,b5,a1,rfl,rfl⟩;refine gs ?_;refine gs ?_;refine bT G (fun am=>?_) (fun am=>?_);obtain ⟨ci,b6,rfl,an,bm⟩:=iA b4 am;have hm:=(bj _ _ _ _).symm.trans hm;generalize bn:b3 (a9+1) b6=cj at hm;unfold jX at hm;refine gs ?_;refine aG ?_;refine gs ?_;obtain ⟨_,rfl,bo⟩:=(h0).elem an;refine aY G G HA Ih G (h0.mono a1) G (Hy _) an (aJ G G IW G (cB.one (bo.mono a1) 0 G).at (gs ?_));refine la isAgg77 LY G (.head _) G (go ?_);refine a_ (.swap _ _ _) ?_;obtain ⟨ck,bp,hm⟩:=bind_some hm;refine aE call33 G G G (fun w ht=>(eE (hm:=bp) b5 (h0.mono a1) aI.nil ht :)) ?_;rintro _ cl _ ⟨b7,cm,cn,co,rfl,rfl,bq,cp⟩;refine gs ?_;refine cd hm G (fun br hm=>?_) (fun br hm=>?_);refine gs ?_;refine go ?_;obtain rfl:=G7 hm;refine aU (.cons _ (.cons _ (.cons _ (.refl _)))) (aZ (G4 a1 b7) ?_)
 exact cL G G ⟨G,G,G⟩;refine eS (aH (aO ?_));refine gj ?_;exact kp (bZ (Hi _) ⟨a9+1,b6,_,_,_,bm,G,((HJ bn _).trans hm),bq,(G4 a1 b7),G,G⟩) (.swap _ _ _) ⟨G,G,G,G,(HB (fun z=>some (Value.int .i64 z)) (cS an ((h0.mono a1)).dQ)),G_⟩;obtain rfl:=hO b4 am;have hm:=(bk _ _).symm.trans hm;refine gs ?_;refine gs ?_;refine fi 1 Hs G sizeOf23 G ?_;refine lo isAgg23 G (.tail _ (.tail _ (.head _))) G ?_;refine bD G G Kp G (h1.mono a1) (go ?_);refine aG ?_;obtain ⟨b8,bs,bt,hm⟩:=dG hm;refine mD (fun n H' M' L'=>∃ (aa:Nat) (af:List cN),∃ ao:(List (ByteArray×Bool)),∃ ap:Array MapEntry,∃ aq:Nat,(p0_n.bM).drop aa=af∧af.length=n∧b8 aa af ao=some r∧nR ap aq ao∧bl.le H'∧.obj a8 (.cells [.map (some a5),v0].toArray 77 (0,0))::.obj a5 (.map ap aq)::.obj a6 (.cells [v0,v1,v2,v3,v4,v5].toArray 29 (0,0))::M=M'∧[(1,.pointer (some ⟨a6,0,none⟩)),(3,.pointer (some ⟨a8,0,none⟩)),(67,v1),(68,.int .i64 ((p0_n.bM.length:Int))),(69,.int .i64 ((aa:Int)))]=L') _ ⟨0,_,_,_,_,G,G,hm,b5,(G8 _),G,G⟩ ?_
 rintro _ bu _ _ ⟨aa,af,ao,ap,aq,b9,rfl,hm,ba,a2,rfl,rfl⟩;refine gs ?_;refine gs ?_;refine bT G (fun ar=>?_) (fun ar=>?_);obtain ⟨a3,bb,rfl,au,bv⟩:=iA b9 ar;have hm:=(bs _ _ _ _).symm.trans hm;generalize bw:b8 (aa+1) bb=cq at hm;unfold jY at hm;refine gs ?_;refine aG ?_;refine gs ?_;obtain ⟨_,⟨rfl⟩,bx⟩:=(h1).elem au;refine aY G G Kp LZ G ((h1.mono a1).mono a2) G (Hy _) au (aR G G isAgg80 LZ G ((bx.mono a1).mono a2).at G ?_);refine bO (cs:=[.string (⟨#[]⟩),.string (⟨#[]⟩),.string (⟨#[]⟩),.bool (false),.bool (false)]) G G zeroValue80 G (fun cr=>?_);refine aM (cs:=[.string (a3.Name),.string (a3.A),.string (a3.B_),.bool (a3.si),.bool (a3.Open)]) (out:=[.string (a3.Name),.string (a3.A),.string (a3.B_),.bool (a3.si),.bool (a3.Open)]) G LZ G G G G G (G5 G (G5 G (G5 G (G5 G (G5 G Hj))))) (aP G) (gs ?_)
 refine la isAgg77 LY G (.tail _ (.head _)) G ?_;refine fi 0 KJ G Ih G ?_;refine lo IW G (.head _) G ?_;refine fi 1 KJ G Ih G ?_;refine lo IW G (.head _) G ?_;refine fi 2 KJ G Ih G ?_;refine lo IW G (.head _) G ?_;refine dT (α:=ByteArray) (css:=[[.string (a3.A)],[.string (a3.B_)]]) (zs:=[.string (⟨#[]⟩),.string (⟨#[]⟩)]) (out:=[.string (a3.A),.string (a3.B_)]) (ys:=[a3.A,a3.B_]) G G G ⟨G,G,G_⟩ HA Ih G Kd (by kernel_rfl) G G G G ⟨[.string (a3.A)],[.string (a3.B_)],G,G,⟨[.string (a3.B_)],[],G,G,G⟩⟩ G ?_
 intro ct cu bz;refine cY (bz).rd G (fun cv av c0=>?_);refine a_ (.trans (.cons _ (.swap _ _ _)) (.swap _ _ _)) ?_;obtain ⟨cw,c1,hm⟩:=bind_some hm;refine aE call33 G G G (fun w ht=>(eE (hm:=c1) ba (((h0.mono a1).mono a2).mono av) c0 ht :)) ?_;rintro _ cx _ ⟨bc,cy,cz,d0,rfl,rfl,c2,d1⟩;refine gs ?_;refine cd hm G (fun c3 hm=>?_) (fun c3 hm=>?_);refine gs ?_;refine go ?_;obtain rfl:=G7 hm;refine aU (.cons _ (.cons _ (.cons _ (.cons _ (.refl _))))) (aZ (G4 (G4 (G4 a1 a2) av) bc) ?_);exact cL G G ⟨G,G,G⟩;refine eS (aH (aO ?_));refine gj ?_;refine aU (.cons_cons _ (.cons _ (.refl _))) ?_;exact kp (bZ (Hi _) ⟨aa+1,bb,_,_,_,bv,G,((HJ bw _).trans hm),c2,(G4 (G4 a2 av) bc),G,G⟩) (.swap _ _ _) ⟨G,G,G,G,(HB (fun z=>some (Value.int .i64 z)) (cS au (((h1.mono a1).mono a2)).dQ)),G_⟩
 obtain rfl:=hO b9 ar;have hm:=(bt _ _).symm.trans hm;refine gs ?_;refine gs ?_;refine fi 2 Hs G sizeOf24 G ?_;refine lo isAgg24 G (.tail _ (.tail _ (.head _))) G ?_;refine bD G G Jy G ((h2.mono a1).mono a2) (go ?_);refine aG ?_;obtain ⟨bd,c4,c5,hm⟩:=dG hm;refine mD (fun n H' M' L'=>∃ (ab:Nat) (ag:List bH),∃ aw:(List (ByteArray×Bool)),∃ ax:Array MapEntry,∃ ay:Nat,(p0_n.aS).drop ab=ag∧ag.length=n∧bd ab ag aw=some r∧nR ax ay aw∧bu.le H'∧.obj a8 (.cells [.map (some a5),v0].toArray 77 (0,0))::.obj a5 (.map ax ay)::.obj a6 (.cells [v0,v1,v2,v3,v4,v5].toArray 29 (0,0))::M=M'∧[(1,.pointer (some ⟨a6,0,none⟩)),(3,.pointer (some ⟨a8,0,none⟩)),(87,v2),(88,.int .i64 ((p0_n.aS.length:Int))),(89,.int .i64 ((ab:Int)))]=L') _ ⟨0,_,_,_,_,G,G,hm,ba,(G8 _),G,G⟩ ?_;rintro _ d2 _ _ ⟨ab,ag,aw,ax,ay,be,rfl,hm,bf,a4,rfl,rfl⟩
 refine gs ?_;refine gs ?_;refine bT G (fun az=>?_) (fun az=>?_);obtain ⟨a0,bg,rfl,b0,c6⟩:=iA be az;have hm:=(c4 _ _ _ _).symm.trans hm;generalize c7:bd (ab+1) bg=d3 at hm;unfold jZ at hm;refine gs ?_;refine aG ?_;refine gs ?_;obtain ⟨_,⟨rfl⟩,c8⟩:=(h2).elem b0;refine aY G G Jy Kq G (((h2.mono a1).mono a2).mono a4) G (Hy _) b0 (aR G G isAgg56 Kq G (((c8.mono a1).mono a2).mono a4).at G ?_);refine bO (cs:=[.string (⟨#[]⟩),.string (⟨#[]⟩),.string (⟨#[]⟩),.int .i64 (0),.int .i64 (0),.int .i64 (0),.int .i64 (0),.int .i64 (0),.int .i64 (0)]) G G LS G (fun d4=>?_);refine aM (cs:=[.string (a0.Name),.string (a0.iT),.string (a0.To),.int .i64 (a0.X),.int .i64 (a0.rz),.int .i64 (a0.Shift),.int .i64 (a0.jS),.int .i64 (a0.me),.int .i64 (a0.pU)]) (out:=[.string (a0.Name),.string (a0.iT),.string (a0.To),.int .i64 (a0.X),.int .i64 (a0.rz),.int .i64 (a0.Shift),.int .i64 (a0.jS),.int .i64 (a0.me),.int .i64 (a0.pU)]) G Kq G G G G G (G5 G (G5 G (G5 G (G5 G (G5 G (G5 G (G5 G (G5 G (G5 G Hj))))))))) (aP G) (gs ?_)
 refine gs ?_;refine la isAgg77 LY G (.tail _ (.head _)) G ?_;refine fi 0 IP G Ih G ?_;refine lo IW G (.head _) G ?_;refine fi 1 IP G Ih G ?_;refine lo IW G (.head _) G ?_;refine fi 2 IP G Ih G ?_;refine lo IW G (.head _) G ?_;refine dT (α:=ByteArray) (css:=[[.string (a0.iT)],[.string (a0.To)]]) (zs:=[.string (⟨#[]⟩),.string (⟨#[]⟩)]) (out:=[.string (a0.iT),.string (a0.To)]) (ys:=[a0.iT,a0.To]) G G G ⟨G,G,G_⟩ HA Ih G Kd (by kernel_rfl) G G G G ⟨[.string (a0.iT)],[.string (a0.To)],G,G,⟨[.string (a0.To)],[],G,G,G⟩⟩ G ?_
 intro d5 d6 c9;refine cY (c9).rd G (fun d7 ah ca=>?_);refine a_ (.trans (.cons _ (.swap _ _ _)) (.swap _ _ _)) ?_;obtain ⟨d8,cb,hm⟩:=bind_some hm;refine aE call33 G G G (fun w ht=>(eE (hm:=cb) bf ((((h0.mono a1).mono a2).mono a4).mono ah) ca ht :)) ?_;rintro _ d9 _ ⟨b1,da,db,dc,rfl,rfl,cc,dd⟩;refine gs ?_;refine cd hm G (fun ce hm=>?_) (fun ce hm=>?_);refine gs ?_;refine go ?_;obtain rfl:=G7 hm;refine aU (.cons _ (.cons _ (.cons _ (.cons _ (.refl _))))) (aZ (G4 (G4 (G4 (G4 a1 a2) a4) ah) b1) ?_);exact cL G G ⟨G,G,G⟩;refine gs ?_;refine la isAgg56 Kq G (.tail _ (.head _)) G ?_;refine aE call34 G G G (fun w ht=>(sE (hm:=(G:gH a0=_))  ht :)) ?_;rintro _ _ _ ⟨rfl,rfl,rfl⟩;refine gs ?_;refine cd hm G (fun cf hm=>?_) (fun cf hm=>?_);refine gs ?_;refine go ?_;obtain rfl:=G7 hm;refine aU (.cons _ (.cons _ (.cons _ (.cons _ (.refl _))))) (aZ (G4 (G4 (G4 (G4 a1 a2) a4) ah) b1) ?_)
 exact cL G G ⟨G,G,G⟩;refine eS (aH (aO ?_));refine gj ?_;refine aU (.cons_cons _ (.cons _ (.refl _))) ?_;exact kp (bZ (Hi _) ⟨ab+1,bg,_,_,_,c6,G,((HJ c7 _).trans hm),cc,(G4 (G4 a4 ah) b1),G,G⟩) (.swap _ _ _) ⟨G,G,G,G,(HB (fun z=>some (Value.int .i64 z)) (cS b0 ((((h2.mono a1).mono a2).mono a4)).dQ)),G_⟩;obtain rfl:=hO be az;have hm:=(c5 _ _).symm.trans hm;refine gs ?_;refine la isAgg77 LY G (.head _) G ?_;refine la ID Ie G (.tail _ (.tail _ (.head _))) G ?_;refine a_ (.swap _ _ _) ?_;obtain ⟨de,cg,hm⟩:=bind_some hm;refine aE call35 G G G (fun w ht=>(qm (hm:=cg) bf (((h0.mono a1).mono a2).mono a4) (((h0.mono a1).mono a2).mono a4) (((h1.mono a1).mono a2).mono a4) (((h2.mono a1).mono a2).mono a4) (((h3.mono a1).mono a2).mono a4) (((h4.mono a1).mono a2).mono a4) (((h5.mono a1).mono a2).mono a4) ht :)) ?_
 rintro _ df _ ⟨ch,dg,dh,di,rfl,rfl,dj,dk⟩;refine go ?_;obtain rfl:=G7 hm;refine aU (.cons _ (.cons _ (.cons _ (.refl _)))) (aZ (G4 (G4 (G4 a1 a2) a4) ch) ?_);exact cL G G ⟨G,G,G⟩;refine go ?_;refine fi 0 Hs G JM G ?_;refine lo JW G (.head _) G ?_;refine bD G G HA G h0 (go ?_);cases ac:(decide (24<(p0_n.bJ.length:Int)));refine fi 1 Hs G sizeOf23 G ?_;refine lo isAgg23 G (.head _) G ?_;refine bD G G Kp G h1 (go ?_);cases ad:(decide (32<(p0_n.bM.length:Int)));refine fi 2 Hs G sizeOf24 G ?_;refine lo isAgg24 G (.head _) G ?_;refine bD G G Jy G h2 (go ?_);cases ai:(decide (24<(p0_n.aS.length:Int)));refine fi 3 Hs G K9 G ?_;refine lo L8 G (.head _) G ?_;refine bD G G Jf G h3 (go ?_);cases b2:(decide (10<(p0_n.dR.length:Int)))
 refine fi 4 Hs G JY G ?_;refine lo KZ G (.head _) G ?_;refine bD G G Iq G h4 (go ?_);cases bh:(decide (12<(p0_n.bQ.length:Int)));refine fi 5 Hs G sizeOf27 G ?_;refine lo isAgg27 G (.head _) G ?_;refine bD G G J0 G h5 (gj ?_);exact kj (a7 _ _ _ ⟨G,G,G⟩) ⟨G,(by exact sb (by first | rfl | simp only [ac,ad,ai,b2,bh,oA])),G_⟩
 refine gj ?_;exact kj (a7 _ _ _ ⟨G,G,G⟩) ⟨G,(by exact sb (by first | rfl | simp only [ac,ad,ai,b2,bh,oA])),G_⟩
 refine gj ?_;exact kj (a7 _ _ _ ⟨G,G,G⟩) ⟨G,(by exact sb (by first | rfl | simp only [ac,ad,ai,b2,oA])),G_⟩
 refine gj ?_;exact kj (a7 _ _ _ ⟨G,G,G⟩) ⟨G,(by exact sb (by first | rfl | simp only [ac,ad,ai,oA])),G_⟩
 refine gj ?_;exact kj (a7 _ _ _ ⟨G,G,G⟩) ⟨G,(by exact sb (by first | rfl | simp only [ac,ad,oA])),G_⟩
 refine gj ?_;exact kj (a7 _ _ _ ⟨G,G,G⟩) ⟨G,(by exact sb (by first | rfl | simp only [ac,oA])),G_⟩
theorem sF {B:Nat}{w0 w:World}[cQ B w0] {H:Hp}{M:List bR}{p0_l:aK}{p1_c1:ByteArray}{b0:Nat}{r:Bool} (hm:k9 p0_l p1_c1=r) (ht:St B w0 H (.obj b0 (.cells ([.string (p1_c1)]:List Value).toArray 9 (0,0))::M) w):
    Calls prog 60 [.agg [.string (p0_l.Name),.string (p0_l.Node),.int .i64 (p0_l.bL)].toArray,.pointer (some ⟨b0,0,none⟩)].toArray w (fG B w0 fun H' M' v=>H=H'∧.obj b0 (.cells ([.string (p1_c1)]:List Value).toArray 9 (0,0))::M=M'∧.bool (r)=v):=by
 unfold k9 at hm;refine enter func60 G G G ht (gs ?_);refine dO (cs:=[.string (p0_l.Name),.string (p0_l.Node),.int .i64 (p0_l.bL)]) G G G G (fun a0=>?_);refine gs ?_;refine fi 0 Jq G Ih G ?_;refine lo IW G (.head _) G ?_;refine lo IW G (.tail _ (.head _)) G (go ?_);obtain rfl:=hm;refine aU (.cons _ (.refl _)) (aZ (G8 _) ?_);exact cL G G ⟨G,G,G⟩
theorem jG {B:Nat}{w0 w:World}[cQ B w0] {H:Hp}{M:List bR}{p0_s:(List aK)}{p1_f_0:ByteArray}{v0:Value}{b0:Nat}{r:Int} (hm:cU p0_s p1_f_0=some r) (h0:aI H v0 p0_s) (ht:St B w0 H (.obj b0 (.cells ([.string (p1_f_0)]:List Value).toArray 9 (0,0))::M) w):
    Calls prog 100 [v0,.func (.func 60) [].toArray [.pointer (some ⟨b0,0,none⟩)].toArray].toArray w (fG B w0 fun H' M' v=>H=H'∧.obj b0 (.cells ([.string (p1_f_0)]:List Value).toArray 9 (0,0))::M=M'∧.int .i64 (r)=v):=by
 unfold cU at hm;refine enter func100 G G G ht (gs ?_);refine gs ?_;refine gs ?_;refine bD G G Iq G h0 (go ?_);refine aG ?_;obtain ⟨a4,a8,a9,hm⟩:=kP hm;refine mD (fun n H' M' L'=>∃ (a0:Nat) (a2:Nat),a0+a2=((p0_s.length:Int):Int).toNat∧a2=n∧a4 a2 a0 ()=some r∧H.le H'∧.obj b0 (.cells ([.string (p1_f_0)]:List Value).toArray 9 (0,0))::M=M'∧[(0,v0),(1,.func (.func 60) [].toArray [.pointer (some ⟨b0,0,none⟩)].toArray),(7,.int .i64 ((p0_s.length:Int))),(8,.int .i64 ((a0:Int)))]=L') _ ⟨0,_,H_ _,G,hm,(G8 _),G,G⟩ ?_;rintro _ ah _ _ ⟨a0,a2,a5,rfl,hm,a1,rfl,rfl⟩;refine gs ?_;refine gs ?_;refine bT G (fun a3=>?_) (fun a3=>?_);obtain ⟨a6,rfl,aa,ab⟩:=mB a5 a3;have hm:=(a8 _ _ _).symm.trans hm;generalize ac:a4 a6 (a0+1)=ai at hm;unfold dD at hm;refine gs ?_;refine aG ?_;refine gs ?_;refine gs ?_
 obtain ⟨ad,ae,a7,hm⟩:=aD hm;obtain ⟨_,⟨rfl⟩,af⟩:=(h0).elem a7;refine aY G G Iq I3 G (h0.mono a1) G ae a7 (aR G G LK I3 G (af.mono a1).at G ?_);refine uF call60 G G G G (fun w ht=>(sF (hm:=(G:k9 ad p1_f_0=_))  ht :)) ?_;rintro _ _ _ ⟨rfl,rfl,rfl⟩;refine go ?_;refine cd hm G (fun ag hm=>?_) (fun ag hm=>?_);refine gs ?_;refine go ?_;obtain rfl:=G7 hm;refine aZ a1 ?_;exact cL G G ⟨G,G,G⟩;refine eS (aH (aO ?_));refine gj ?_;exact kj (bZ (Hi _) ⟨a0+1,a6,aa,G,((HJ ac _).trans hm),a1,G,G⟩) ⟨G,G,G,(HB (fun z=>some (Value.int .i64 z)) (gP ab (iB (mH (h0).dQ)))),G_⟩;obtain rfl:=mA a5 a3;have hm:=(a9 _ _).symm.trans hm;refine gs ?_;refine go ?_;obtain rfl:=G7 hm;refine aZ a1 ?_;exact cL G G ⟨G,G,G⟩
theorem jx {B:Nat}{w0 w:World}[cQ B w0] {H:Hp}{M:List bR}{p0_s:(List aK)}{p1_f_0:ByteArray}{v0:Value}{b0:Nat}{r:Bool} (hm:cO p0_s p1_f_0=some r) (h0:aI H v0 p0_s) (ht:St B w0 H (.obj b0 (.cells ([.string (p1_f_0)]:List Value).toArray 9 (0,0))::M) w):
    Calls prog 59 [v0,.func (.func 60) [].toArray [.pointer (some ⟨b0,0,none⟩)].toArray].toArray w (fG B w0 fun H' M' v=>H=H'∧.obj b0 (.cells ([.string (p1_f_0)]:List Value).toArray 9 (0,0))::M=M'∧.bool (r)=v):=by
 unfold cO at hm;refine enter func59 G G G ht (gs ?_);refine gs ?_;obtain ⟨a1,a0,hm⟩:=bind_some hm;refine aE call100 G G G (fun w ht=>(jG (hm:=a0) h0 ht :)) ?_;rintro _ _ _ ⟨rfl,rfl,rfl⟩;refine go ?_;obtain rfl:=G7 hm;refine aZ (G8 _) ?_;exact cL G G ⟨G,G,G⟩
theorem qD {B:Nat}{w0 w:World}[cQ B w0] {H:Hp}{M:List bR}{p0_n:aC}{on:(List ByteArray)}{v0 v1 v2 v3 v4 v5 v6:Value}{r:Int} (hm:iR p0_n on=some r) (h0:aI H v0 p0_n.bJ) (h1:aI H v1 p0_n.bM) (h2:aI H v2 p0_n.aS) (h3:aI H v3 p0_n.dR) (h4:aI H v4 p0_n.bQ) (h5:aI H v5 p0_n.bY) (h6:aI H v6 on) (ht:St B w0 H (M) w):
    Calls prog 26 [.agg [v0,v1,v2,v3,v4,v5].toArray,v6].toArray w (fG B w0 fun H' M' v=>H=H'∧M=M'∧.int .i64 (r)=v):=by
 unfold iR at hm;refine enter func26 G G G ht (gs ?_);refine dO (cs:=[v0,v1,v2,v3,v4,v5]) G G G G (fun a8=>?_);refine gs ?_;refine gs ?_;refine la ID Ie G (.head _) G ?_;obtain ⟨ao,ad,hm⟩:=bind_some hm;refine aE call9 G G G (fun w ht=>(kA (hm:=ad) h0 h1 h2 h3 h4 h5 ht :)) ?_;rintro _ _ _ ⟨rfl,rfl,rfl⟩;refine gs ?_;refine cd hm G (fun ae hm=>?_) (fun ae hm=>?_);refine gs ?_;refine go ?_;obtain rfl:=G7 hm;refine aU (.cons _ (.refl _)) (aZ (G8 _) ?_);exact cL G G ⟨G,G,G⟩;refine gs ?_;refine gs ?_;refine bD G G HA G h6 (go ?_);refine aG ?_;obtain ⟨a9,af,ag,hm⟩:=dG hm;refine mD (fun n H' M' L'=>∃ (a0:Nat) (a3:List ByteArray),(on).drop a0=a3∧a3.length=n∧a9 a0 a3 ()=some r∧H.le H'∧.obj a8 (.cells [v0,v1,v2,v3,v4,v5].toArray 29 (0,0))::M=M'∧[(1,v6),(2,.pointer (some ⟨a8,0,none⟩)),(13,v6),(14,.int .i64 ((on.length:Int))),(15,.int .i64 ((a0:Int)))]=L') _ ⟨0,_,G,G,hm,(G8 _),G,G⟩ ?_
 rintro _ ap _ _ ⟨a0,a3,aa,rfl,hm,a1,rfl,rfl⟩;refine gs ?_;refine gs ?_;refine bT G (fun a4=>?_) (fun a4=>?_);obtain ⟨a5,ab,rfl,a6,ah⟩:=iA aa a4;have hm:=(af _ _ _ _).symm.trans hm;generalize ai:a9 (a0+1) ab=aq at hm;unfold nJ at hm;refine gs ?_;refine aG ?_;refine gs ?_;obtain ⟨_,rfl,aj⟩:=(h6).elem a6;refine aY G G HA Ih G (h6.mono a1) G (Hy _) a6 (aJ G G IW G (cB.one (aj.mono a1) 0 G).at ?_);refine bO (cs:=[.string (⟨#[]⟩)]) G G Kd G (fun ar=>?_);refine go ?_;refine aM (cs:=[.string (a5)]) (out:=[.string (a5)]) G Ih G G G G G (G5 G Hj) (aP G) (go ?_);refine aG ?_;refine gs ?_;refine fi 4 Hs G JY G ?_;refine lo KZ G (.tail _ (.head _)) G ?_;refine uX G G G G ?_;obtain ⟨au,ak,hm⟩:=bind_some hm;refine aE call59 G G G (fun w ht=>(jx (hm:=ak) (h4.mono a1) ht :)) ?_
 rintro _ _ _ ⟨rfl,rfl,rfl⟩;refine ny G G G G (go ?_);refine cd hm G (fun al hm=>?_) (fun al hm=>?_);refine gs ?_;refine go ?_;obtain rfl:=G7 hm;refine aU (.cons _ (.cons _ (.refl _))) (aZ a1 ?_);exact cL G G ⟨G,G,G⟩;refine gs ?_;obtain ⟨av,hm⟩:=aT hm;refine od fm 4 [ph v6,ph (.int .i64 ((a0:Int))),(fun H rs v=>∃ a2:Value,[]=rs∧a2=v∧aI H a2 (nr on 0 (((a0:Int):Int).toNat))),ph (.string (a5))] ⟨om,om,?_,?_,G_⟩ ?_;rintro HX hX X Rest hR _ _ ⟨rfl,rfl⟩ _ _ ⟨rfl,rfl⟩ hU hUp;refine qT (α:=ByteArray) (l:=0) (h:=((a0:Int):Int).toNat) (xs:=on) G G HA Ih G ((h6.mono a1).mono hX) (by omega) (by omega) (.inl G) (fun cap hcap=>by rw [Hl G]; exact (.inl ⟨G,G⟩)) (fun m hmm=>(.inr ⟨_,_,_,G,G,by omega,by omega,G⟩)) (.inl ⟨G,G⟩) ?_
 intro a2 a7 aw;exact o0 ⟨a2,G,G,(a7)⟩;rintro HX hX X Rest hR hU hUp;refine aJ G G IW G (bV (hR _ (.head _)) G) ?_;exact o0 ⟨G,G⟩;intro ax ac;refine dr ?_;rintro _ _ ⟨a2,rfl,rfl,a7⟩;refine dz ?_;obtain ⟨ay,am,hm⟩:=bind_some hm;refine aE call14 G G G (fun w ht=>(fA (hm:=am) a7 ht :)) ?_;rintro _ _ _ ⟨rfl,rfl,rfl⟩;refine go ?_;refine cd hm G (fun an hm=>?_) (fun an hm=>?_);refine gs ?_;refine go ?_;obtain rfl:=G7 hm;refine aU (.cons _ (.cons _ (.refl _))) (aZ (G4 a1 ac) ?_);exact cL G G ⟨G,G,G⟩;refine eS (aH (aH (aO ?_)));refine gj ?_;refine aU (.cons _ (.refl _)) ?_;exact kj (bZ (Hi _) ⟨a0+1,ab,ah,G,((HJ ai _).trans hm),(G4 a1 ac),G,G⟩) ⟨G,G,G,G,(HB (fun z=>some (Value.int .i64 z)) (cS a6 ((h6.mono a1)).dQ)),G_⟩;obtain rfl:=hO aa a4;have hm:=(ag _ _).symm.trans hm;refine gs ?_;refine go ?_
 obtain rfl:=G7 hm;refine aU (.cons _ (.refl _)) (aZ a1 ?_);exact cL G G ⟨G,G,G⟩
theorem tU {B:Nat}{w0 w:World}{H:Hp}{M:List bR}{s:List ByteArray}{v0:Value} (h0:aI H v0 s) (hz:s.length*16≤140737488355328) (ht:St B w0 H M w):
  Calls prog 12 [v0].toArray w (fG B w0 fun H' M' v=>H=H'∧∃ (v':Value) (xs':List Value),.row v' 9 (aF.sz ByteArray) s.length xs'::M=M'∧v'=v∧qt v' xs' s):=by
 refine enter func12 G G G ht ?_;obtain ⟨o,n,c,rfl⟩:=h0.shape;refine cG ?_;refine bE (aN G G G ?_);refine bC (aO ?_);refine cG ?_;refine cG ?_;refine bE (bX G G G (qu G G HA G G ?_));refine bC (aO ?_);cases o with
 | none=>
  refine bT (b:=true) G (fun _=>?_) (fun hb=>Bool.noConfusion hb);obtain rfl:=h0.isNil;refine cG ?_;refine bE (aN G G G ?_);refine bC (aO ?_);refine lD (jN ?_);refine gJ 9 (aF.sz ByteArray) ?_;exact cL G G ⟨G,.slice none 0 0,[],G,G,(Rw.nil (H:=H)).nh⟩
 | some a=>
  refine bT (b:=false) G (fun hb=>Bool.noConfusion hb) (fun _=>?_);refine eS (aO ?_);refine cG ?_;refine bE (oW ByteArray G G HA Ih ?_);intro v1 xs1 h1;refine bX G G G (dF (α:=ByteArray) (l:=[]) (ys:=s) (bytes:=16) G G underlying22 ⟨_,G,G,G,G⟩ G G G G G h1 h0 (by simpa using hz) ?_)
  intro v2 xs2 h2;refine aN G G G ?_;refine bC (aO ?_);refine lD ?_;exact cL G G ⟨G,v2,xs2,G,G,h2.nh⟩
theorem zi {B:Nat}{w0 w:World}{H:Hp}{M:List bR}{s:List cN}{v0:Value} (h0:aI H v0 s) (hz:s.length*56≤140737488355328) (ht:St B w0 H M w):
  Calls prog 101 [v0].toArray w (fG B w0 fun H' M' v=>H=H'∧∃ (v':Value) (xs':List Value),.row v' 80 (aF.sz cN) s.length xs'::M=M'∧v'=v∧qt v' xs' s):=by
 refine enter func101 G G G ht ?_;obtain ⟨o,n,c,rfl⟩:=h0.shape;refine cG ?_;refine bE (aN G G G ?_);refine bC (aO ?_);refine cG ?_;refine cG ?_;refine bE (bX G G G (qu G G Kp G G ?_));refine bC (aO ?_);cases o with
 | none=>
  refine bT (b:=true) G (fun _=>?_) (fun hb=>Bool.noConfusion hb);obtain rfl:=h0.isNil;refine cG ?_;refine bE (aN G G G ?_);refine bC (aO ?_);refine lD (jN ?_);refine gJ 80 (aF.sz cN) ?_;exact cL G G ⟨G,.slice none 0 0,[],G,G,(Rw.nil (H:=H)).nh⟩
 | some a=>
  refine bT (b:=false) G (fun hb=>Bool.noConfusion hb) (fun _=>?_);refine eS (aO ?_);refine cG ?_;refine bE (oW cN G G Kp LZ ?_);intro v1 xs1 h1;refine bX G G G (dF (α:=cN) (l:=[]) (ys:=s) (bytes:=56) G G underlying23 ⟨_,G,G,G,G⟩ G G G G G h1 h0 (by simpa using hz) ?_)
  intro v2 xs2 h2;refine aN G G G ?_;refine bC (aO ?_);refine lD ?_;exact cL G G ⟨G,v2,xs2,G,G,h2.nh⟩
theorem zj {B:Nat}{w0 w:World}{H:Hp}{M:List bR}{s:List bH}{v0:Value} (h0:aI H v0 s) (hz:s.length*96≤140737488355328) (ht:St B w0 H M w):
  Calls prog 102 [v0].toArray w (fG B w0 fun H' M' v=>H=H'∧∃ (v':Value) (xs':List Value),.row v' 56 (aF.sz bH) s.length xs'::M=M'∧v'=v∧qt v' xs' s):=by
 refine enter func102 G G G ht ?_;obtain ⟨o,n,c,rfl⟩:=h0.shape;refine cG ?_;refine bE (aN G G G ?_);refine bC (aO ?_);refine cG ?_;refine cG ?_;refine bE (bX G G G (qu G G Jy G G ?_));refine bC (aO ?_);cases o with
 | none=>
  refine bT (b:=true) G (fun _=>?_) (fun hb=>Bool.noConfusion hb);obtain rfl:=h0.isNil;refine cG ?_;refine bE (aN G G G ?_);refine bC (aO ?_);refine lD (jN ?_);refine gJ 56 (aF.sz bH) ?_;exact cL G G ⟨G,.slice none 0 0,[],G,G,(Rw.nil (H:=H)).nh⟩
 | some a=>
  refine bT (b:=false) G (fun hb=>Bool.noConfusion hb) (fun _=>?_);refine eS (aO ?_);refine cG ?_;refine bE (oW bH G G Jy Kq ?_);intro v1 xs1 h1;refine bX G G G (dF (α:=bH) (l:=[]) (ys:=s) (bytes:=96) G G underlying24 ⟨_,G,G,G,G⟩ G G G G G h1 h0 (by simpa using hz) ?_)
  intro v2 xs2 h2;refine aN G G G ?_;refine bC (aO ?_);refine lD ?_;exact cL G G ⟨G,v2,xs2,G,G,h2.nh⟩
theorem zk {B:Nat}{w0 w:World}{H:Hp}{M:List bR}{s:List cR}{v0:Value} (h0:aI H v0 s) (hz:s.length*56≤140737488355328) (ht:St B w0 H M w):
  Calls prog 103 [v0].toArray w (fG B w0 fun H' M' v=>H=H'∧∃ (v':Value) (xs':List Value),.row v' 117 (aF.sz cR) s.length xs'::M=M'∧v'=v∧qt v' xs' s):=by
 refine enter func103 G G G ht ?_;obtain ⟨o,n,c,rfl⟩:=h0.shape;refine cG ?_;refine bE (aN G G G ?_);refine bC (aO ?_);refine cG ?_;refine cG ?_;refine bE (bX G G G (qu G G Jf G G ?_));refine bC (aO ?_);cases o with
 | none=>
  refine bT (b:=true) G (fun _=>?_) (fun hb=>Bool.noConfusion hb);obtain rfl:=h0.isNil;refine cG ?_;refine bE (aN G G G ?_);refine bC (aO ?_);refine lD (jN ?_);refine gJ 117 (aF.sz cR) ?_;exact cL G G ⟨G,.slice none 0 0,[],G,G,(Rw.nil (H:=H)).nh⟩
 | some a=>
  refine bT (b:=false) G (fun hb=>Bool.noConfusion hb) (fun _=>?_);refine eS (aO ?_);refine cG ?_;refine bE (oW cR G G Jf J2 ?_);intro v1 xs1 h1;refine bX G G G (dF (α:=cR) (l:=[]) (ys:=s) (bytes:=56) G G underlying25 ⟨_,G,G,G,G⟩ G G G G G h1 h0 (by simpa using hz) ?_)
  intro v2 xs2 h2;refine aN G G G ?_;refine bC (aO ?_);refine lD ?_;exact cL G G ⟨G,v2,xs2,G,G,h2.nh⟩
theorem zl {B:Nat}{w0 w:World}{H:Hp}{M:List bR}{s:List aK}{v0:Value} (h0:aI H v0 s) (hz:s.length*40≤140737488355328) (ht:St B w0 H M w):
  Calls prog 104 [v0].toArray w (fG B w0 fun H' M' v=>H=H'∧∃ (v':Value) (xs':List Value),.row v' 32 (aF.sz aK) s.length xs'::M=M'∧v'=v∧qt v' xs' s):=by
 refine enter func104 G G G ht ?_;obtain ⟨o,n,c,rfl⟩:=h0.shape;refine cG ?_;refine bE (aN G G G ?_);refine bC (aO ?_);refine cG ?_;refine cG ?_;refine bE (bX G G G (qu G G Iq G G ?_));refine bC (aO ?_);cases o with
 | none=>
  refine bT (b:=true) G (fun _=>?_) (fun hb=>Bool.noConfusion hb);obtain rfl:=h0.isNil;refine cG ?_;refine bE (aN G G G ?_);refine bC (aO ?_);refine lD (jN ?_);refine gJ 32 (aF.sz aK) ?_;exact cL G G ⟨G,.slice none 0 0,[],G,G,(Rw.nil (H:=H)).nh⟩
 | some a=>
  refine bT (b:=false) G (fun hb=>Bool.noConfusion hb) (fun _=>?_);refine eS (aO ?_);refine cG ?_;refine bE (oW aK G G Iq I3 ?_);intro v1 xs1 h1;refine bX G G G (dF (α:=aK) (l:=[]) (ys:=s) (bytes:=40) G G underlying26 ⟨_,G,G,G,G⟩ G G G G G h1 h0 (by simpa using hz) ?_)
  intro v2 xs2 h2;refine aN G G G ?_;refine bC (aO ?_);refine lD ?_;exact cL G G ⟨G,v2,xs2,G,G,h2.nh⟩
theorem zm {B:Nat}{w0 w:World}{H:Hp}{M:List bR}{s:List dS}{v0:Value} (h0:aI H v0 s) (hz:s.length*56≤140737488355328) (ht:St B w0 H M w):
  Calls prog 105 [v0].toArray w (fG B w0 fun H' M' v=>H=H'∧∃ (v':Value) (xs':List Value),.row v' 121 (aF.sz dS) s.length xs'::M=M'∧v'=v∧qt v' xs' s):=by
 refine enter func105 G G G ht ?_;obtain ⟨o,n,c,rfl⟩:=h0.shape;refine cG ?_;refine bE (aN G G G ?_);refine bC (aO ?_);refine cG ?_;refine cG ?_;refine bE (bX G G G (qu G G J0 G G ?_));refine bC (aO ?_);cases o with
 | none=>
  refine bT (b:=true) G (fun _=>?_) (fun hb=>Bool.noConfusion hb);obtain rfl:=h0.isNil;refine cG ?_;refine bE (aN G G G ?_);refine bC (aO ?_);refine lD (jN ?_);refine gJ 121 (aF.sz dS) ?_;exact cL G G ⟨G,.slice none 0 0,[],G,G,(Rw.nil (H:=H)).nh⟩
 | some a=>
  refine bT (b:=false) G (fun hb=>Bool.noConfusion hb) (fun _=>?_);refine eS (aO ?_);refine cG ?_;refine bE (oW dS G G J0 L_ ?_);intro v1 xs1 h1;refine bX G G G (dF (α:=dS) (l:=[]) (ys:=s) (bytes:=56) G G underlying27 ⟨_,G,G,G,G⟩ G G G G G h1 h0 (by simpa using hz) ?_)
  intro v2 xs2 h2;refine aN G G G ?_;refine bC (aO ?_);refine lD ?_;exact cL G G ⟨G,v2,xs2,G,G,h2.nh⟩
theorem tA {B:Nat}{w0 w:World}[cQ B w0] {H:Hp}{M:List bR}{p0_n:aC}{v0 v1 v2 v3 v4 v5:Value}{r:aC} (hm:nq p0_n=some r) (h0:aI H v0 p0_n.bJ) (h1:aI H v1 p0_n.bM) (h2:aI H v2 p0_n.aS) (h3:aI H v3 p0_n.dR) (h4:aI H v4 p0_n.bQ) (h5:aI H v5 p0_n.bY) (ht:St B w0 H (M) w):
    Calls prog 61 [.agg [v0,v1,v2,v3,v4,v5].toArray].toArray w (fG B w0 fun H' M' v=>H=H'∧∃ qv0:Value,∃ qxs0:List Value,∃ qv1:Value,∃ qxs1:List Value,∃ qv2:Value,∃ qxs2:List Value,∃ qv3:Value,∃ qxs3:List Value,∃ qv4:Value,∃ qxs4:List Value,∃ qv5:Value,∃ qxs5:List Value,.row qv0 9 (aF.sz ByteArray) r.bJ.length qxs0::.row qv1 80 (aF.sz cN) r.bM.length qxs1::.row qv2 56 (aF.sz bH) r.aS.length qxs2::.row qv3 117 (aF.sz cR) r.dR.length qxs3::.row qv4 32 (aF.sz aK) r.bQ.length qxs4::.row qv5 121 (aF.sz dS) r.bY.length qxs5::M=M'∧.agg [qv0,qv1,qv2,qv3,qv4,qv5].toArray=v∧qt qv0 qxs0 r.bJ∧qt qv1 qxs1 r.bM∧qt qv2 qxs2 r.aS∧qt qv3 qxs3 r.dR∧qt qv4 qxs4 r.bQ∧qt qv5 qxs5 r.bY):=by
 unfold nq at hm;refine enter func61 G G G ht (gs ?_);refine dO (cs:=[v0,v1,v2,v3,v4,v5]) G G G G (fun ae=>?_);refine bO (cs:=[.slice none 0 0,.slice none 0 0,.slice none 0 0,.slice none 0 0,.slice none 0 0,.slice none 0 0]) G G KB G (fun aj=>?_);refine gs ?_;obtain ⟨ak,hm⟩:=aT hm;obtain ⟨al,hm⟩:=aT hm;obtain ⟨am,hm⟩:=aT hm;obtain ⟨an,hm⟩:=aT hm;obtain ⟨ao,hm⟩:=aT hm;refine od fm 17 [ph (.pointer (some ⟨ae,0,none⟩)),ph v0,(fun H rs v=>∃ a0:Value,∃ a5:List Value,[.row a0 9 (aF.sz ByteArray) p0_n.bJ.length a5]=rs∧a0=v∧Rw H a0 a5 p0_n.bJ),ph (.pointer (some ⟨ae,1,none⟩)),ph v1,(fun H rs v=>∃ a1:Value,∃ a6:List Value,[.row a1 80 (aF.sz cN) p0_n.bM.length a6]=rs∧a1=v∧Rw H a1 a6 p0_n.bM),ph (.pointer (some ⟨ae,2,none⟩)),ph v2,(fun H rs v=>∃ a2:Value,∃ a7:List Value,[.row a2 56 (aF.sz bH) p0_n.aS.length a7]=rs∧a2=v∧Rw H a2 a7 p0_n.aS),ph (.pointer (some ⟨ae,3,none⟩)),ph v3,(fun H rs v=>∃ a3:Value,∃ a8:List Value,[.row a3 117 (aF.sz cR) p0_n.dR.length a8]=rs∧a3=v∧Rw H a3 a8 p0_n.dR),ph (.pointer (some ⟨ae,4,none⟩)),ph v4,(fun H rs v=>∃ a4:Value,∃ a9:List Value,[.row a4 32 (aF.sz aK) p0_n.bQ.length a9]=rs∧a4=v∧Rw H a4 a9 p0_n.bQ),ph (.pointer (some ⟨ae,5,none⟩)),ph v5] ⟨?_,?_,?_,?_,?_,?_,?_,?_,?_,?_,?_,?_,?_,?_,?_,?_,?_,G_⟩ ?_
 rintro HX hX X Rest hR hU hUp;refine fi 0 Hs G JM G ?_;exact o0 ⟨G,G⟩;rintro HX hX X Rest hR _ _ ⟨rfl,rfl⟩ hU hUp;refine aJ G G JW G (bV (hR _ (.tail _ (.head _))) G) ?_;exact o0 ⟨G,G⟩;rintro HX hX X Rest hR _ _ ⟨rfl,rfl⟩ hU hUp;refine aE call12 G G G (fun w ht=>(tU (s:=p0_n.bJ) (h0.mono hX) ak ht :)) ?_;rintro _ _ _ ⟨rfl,a0,a5,rfl,rfl,aa⟩;have aa:=aa HX;exact oe [.row a0 9 (aF.sz ByteArray) p0_n.bJ.length a5] (G8 _) ⟨a0,a5,G,G,(aa)⟩;rintro HX hX X Rest hR hU hUp;refine fi 1 Hs G sizeOf23 G ?_;exact o0 ⟨G,G⟩;rintro HX hX X Rest hR _ _ ⟨rfl,rfl⟩ hU hUp;refine aJ G G isAgg23 G (bV (hR _ (.tail _ (.head _))) G) ?_;exact o0 ⟨G,G⟩;rintro HX hX X Rest hR _ _ ⟨rfl,rfl⟩ _ _ ⟨a0,a5,rfl,rfl,aa⟩ hU hUp;refine aE call101 G G G (fun w ht=>(zi (s:=p0_n.bM) (h1.mono hX) al ht :)) ?_;rintro _ _ _ ⟨rfl,a1,a6,rfl,rfl,ab⟩;have ab:=ab HX
 exact oe [.row a1 80 (aF.sz cN) p0_n.bM.length a6] (G8 _) ⟨a1,a6,G,G,(ab)⟩;rintro HX hX X Rest hR hU hUp;refine fi 2 Hs G sizeOf24 G ?_;exact o0 ⟨G,G⟩;rintro HX hX X Rest hR _ _ ⟨rfl,rfl⟩ hU hUp;refine aJ G G isAgg24 G (bV (hR _ (.tail _ (.head _))) G) ?_;exact o0 ⟨G,G⟩;rintro HX hX X Rest hR _ _ ⟨rfl,rfl⟩ _ _ ⟨a1,a6,rfl,rfl,ab⟩ hU hUp;refine aE call102 G G G (fun w ht=>(zj (s:=p0_n.aS) (h2.mono hX) am ht :)) ?_;rintro _ _ _ ⟨rfl,a2,a7,rfl,rfl,ac⟩;have ac:=ac HX;exact oe [.row a2 56 (aF.sz bH) p0_n.aS.length a7] (G8 _) ⟨a2,a7,G,G,(ac)⟩;rintro HX hX X Rest hR hU hUp;refine fi 3 Hs G K9 G ?_;exact o0 ⟨G,G⟩;rintro HX hX X Rest hR _ _ ⟨rfl,rfl⟩ hU hUp;refine aJ G G L8 G (bV (hR _ (.tail _ (.head _))) G) ?_;exact o0 ⟨G,G⟩;rintro HX hX X Rest hR _ _ ⟨rfl,rfl⟩ _ _ ⟨a2,a7,rfl,rfl,ac⟩ hU hUp;refine aE call103 G G G (fun w ht=>(zk (s:=p0_n.dR) (h3.mono hX) an ht :)) ?_
 rintro _ _ _ ⟨rfl,a3,a8,rfl,rfl,ad⟩;have ad:=ad HX;exact oe [.row a3 117 (aF.sz cR) p0_n.dR.length a8] (G8 _) ⟨a3,a8,G,G,(ad)⟩;rintro HX hX X Rest hR hU hUp;refine fi 4 Hs G JY G ?_;exact o0 ⟨G,G⟩;rintro HX hX X Rest hR _ _ ⟨rfl,rfl⟩ hU hUp;refine aJ G G KZ G (bV (hR _ (.tail _ (.head _))) G) ?_;exact o0 ⟨G,G⟩;rintro HX hX X Rest hR _ _ ⟨rfl,rfl⟩ _ _ ⟨a3,a8,rfl,rfl,ad⟩ hU hUp;refine aE call104 G G G (fun w ht=>(zl (s:=p0_n.bQ) (h4.mono hX) ao ht :)) ?_;rintro _ _ _ ⟨rfl,a4,a9,rfl,rfl,af⟩;have af:=af HX;exact oe [.row a4 32 (aF.sz aK) p0_n.bQ.length a9] (G8 _) ⟨a4,a9,G,G,(af)⟩;rintro HX hX X Rest hR hU hUp;refine fi 5 Hs G sizeOf27 G ?_;exact o0 ⟨G,G⟩;rintro HX hX X Rest hR _ _ ⟨rfl,rfl⟩ hU hUp;refine aJ G G isAgg27 G (bV (hR _ (.tail _ (.head _))) G) ?_;exact o0 ⟨G,G⟩;intro ap ai;refine dr ?_;rintro _ _ ⟨a0,a5,rfl,rfl,aa⟩
 refine dr ?_;rintro _ _ ⟨a1,a6,rfl,rfl,ab⟩;refine dr ?_;rintro _ _ ⟨a2,a7,rfl,rfl,ac⟩;refine dr ?_;rintro _ _ ⟨a3,a8,rfl,rfl,ad⟩;refine dr ?_;rintro _ _ ⟨a4,a9,rfl,rfl,af⟩;refine dz ?_;refine gI (M':=.row a0 9 (aF.sz ByteArray) p0_n.bJ.length a5::.row a1 80 (aF.sz cN) p0_n.bM.length a6::.row a2 56 (aF.sz bH) p0_n.aS.length a7::.row a3 117 (aF.sz cR) p0_n.dR.length a8::.row a4 32 (aF.sz aK) p0_n.bQ.length a9::.obj aj (.cells ([.slice none 0 0,.slice none 0 0,.slice none 0 0,.slice none 0 0,.slice none 0 0,.slice none 0 0]:List Value).toArray 29 (0,0))::.obj ae (.cells [v0,v1,v2,v3,v4,v5].toArray 29 (0,0))::M) G ?_;obtain ⟨aq,hm⟩:=aT hm;refine aE call105 G G G (fun w ht=>(zm (s:=p0_n.bY) (h5.mono ai) aq ht :)) ?_;rintro _ _ _ ⟨rfl,ag,ar,rfl,rfl,ah⟩;have ah:=ah ap;refine eD (css:=[[a0],[a1],[a2],[a3],[a4],[ag]]) (zs:=[.slice none 0 0,.slice none 0 0,.slice none 0 0,.slice none 0 0,.slice none 0 0,.slice none 0 0]) (out:=[a0,a1,a2,a3,a4,ag]) (places:=[(0,1),(1,1),(2,1),(3,1),(4,1),(5,1)]) G G G ⟨(Rw.cells aa),(Rw.cells ab),(Rw.cells ac),(Rw.cells ad),(Rw.cells af),(Rw.cells ah),G_⟩ KB G Hs (fun w=>by kernel_rfl) G ?_
 refine a_ (.trans (.cons _ (.cons _ (.cons _ (.cons _ (.cons _ (.swap _ _ _)))))) (.trans (.cons _ (.cons _ (.cons _ (.cons _ (.swap _ _ _))))) (.trans (.cons _ (.cons _ (.cons _ (.swap _ _ _)))) (.trans (.cons _ (.cons _ (.swap _ _ _))) (.trans (.cons _ (.swap _ _ _)) (.swap _ _ _)))))) (aM (cs:=[a0,a1,a2,a3,a4,ag]) (out:=[a0,a1,a2,a3,a4,ag]) G Ie G G G G G (G5 (Rw.one aa) (G5 (Rw.one ab) (G5 (Rw.one ac) (G5 (Rw.one ad) (G5 (Rw.one af) (G5 (Rw.one ah) Hj)))))) (aP G) (go ?_));obtain rfl:=G7 hm;exact iE ai G (eT.agg G ID Ie (.head _) G) (.cons _ (.cons_cons _ (.cons_cons _ (.cons_cons _ (.cons_cons _ (.cons_cons _ (.cons_cons _ (.cons _ (.refl _))))))))) (.trans (.swap _ _ _) (.trans (.cons _ (.swap _ _ _)) (.trans (.cons _ (.cons _ (.swap _ _ _))) (.trans (.cons _ (.cons _ (.cons _ (.swap _ _ _)))) (.cons _ (.cons _ (.cons _ (.cons _ (.swap _ _ _))))))))) ⟨G,a0,a5,a1,a6,a2,a7,a3,a8,a4,a9,ag,ar,G,G,(aa).nh,(ab).nh,(ac).nh,(ad).nh,(af).nh,(ah).nh⟩
theorem qi {B:Nat}{w0 w:World}[cQ B w0] {H:Hp}{M:List bR}{p0_l:aK}{p1_c1:(List ByteArray)}{b0:Nat}{v0:Value}{r:Bool} (hm:ku p0_l p1_c1=some r) (h0:aI H v0 p1_c1) (ht:St B w0 H (.obj b0 (.cells [v0].toArray 22 (0,0))::M) w):
    Calls prog 63 [.agg [.string (p0_l.Name),.string (p0_l.Node),.int .i64 (p0_l.bL)].toArray,.pointer (some ⟨b0,0,none⟩)].toArray w (fG B w0 fun H' M' v=>H=H'∧.obj b0 (.cells [v0].toArray 22 (0,0))::M=M'∧.bool (r)=v):=by
 unfold ku at hm;refine enter func63 G G G ht (gs ?_);refine dO (cs:=[.string (p0_l.Name),.string (p0_l.Node),.int .i64 (p0_l.bL)]) G G G G (fun a1=>?_);refine gs ?_;refine lo JW G (.tail _ (.head _)) G ?_;refine fi 0 Jq G Ih G ?_;refine lo IW G (.head _) G ?_;obtain ⟨a2,a0,hm⟩:=bind_some hm;refine aE call14 G G G (fun w ht=>(fA (hm:=a0) h0 ht :)) ?_;rintro _ _ _ ⟨rfl,rfl,rfl⟩;refine ny G G G G (go ?_);obtain rfl:=G7 hm;refine aU (.cons _ (.refl _)) (aZ (G8 _) ?_);exact cL G G ⟨G,G,G⟩
theorem jR {B:Nat}{w0 w:World}[cQ B w0] {H:Hp}{M:List bR}{p0_s:(List aK)}{p1_f_0:(List ByteArray)}{v0:Value}{b0:Nat}{v1:Value}{r:Int} (hm:cW p0_s p1_f_0=some r) (h0:aI H v0 p0_s) (h1:aI H v1 p1_f_0) (ht:St B w0 H (.obj b0 (.cells [v1].toArray 22 (0,0))::M) w):
    Calls prog 100 [v0,.func (.func 63) [].toArray [.pointer (some ⟨b0,0,none⟩)].toArray].toArray w (fG B w0 fun H' M' v=>H=H'∧.obj b0 (.cells [v1].toArray 22 (0,0))::M=M'∧.int .i64 (r)=v):=by
 unfold cW at hm;refine enter func100 G G G ht (gs ?_);refine gs ?_;refine gs ?_;refine bD G G Iq G h0 (go ?_);refine aG ?_;obtain ⟨a4,a8,a9,hm⟩:=kP hm;refine mD (fun n H' M' L'=>∃ (a0:Nat) (a2:Nat),a0+a2=((p0_s.length:Int):Int).toNat∧a2=n∧a4 a2 a0 ()=some r∧H.le H'∧.obj b0 (.cells [v1].toArray 22 (0,0))::M=M'∧[(0,v0),(1,.func (.func 63) [].toArray [.pointer (some ⟨b0,0,none⟩)].toArray),(7,.int .i64 ((p0_s.length:Int))),(8,.int .i64 ((a0:Int)))]=L') _ ⟨0,_,H_ _,G,hm,(G8 _),G,G⟩ ?_;rintro _ ah _ _ ⟨a0,a2,a5,rfl,hm,a1,rfl,rfl⟩;refine gs ?_;refine gs ?_;refine bT G (fun a3=>?_) (fun a3=>?_);obtain ⟨a6,rfl,aa,ab⟩:=mB a5 a3;have hm:=(a8 _ _ _).symm.trans hm;generalize ac:a4 a6 (a0+1)=ai at hm;unfold dE at hm;refine gs ?_;refine aG ?_;refine gs ?_;refine gs ?_;obtain ⟨aj,ad,a7,hm⟩:=aD hm
 obtain ⟨_,⟨rfl⟩,ae⟩:=(h0).elem a7;refine aY G G Iq I3 G (h0.mono a1) G ad a7 (aR G G LK I3 G (ae.mono a1).at G ?_);obtain ⟨ak,af,hm⟩:=bind_some hm;refine uF call63 G G G G (fun w ht=>(qi (hm:=af) (h1.mono a1) ht :)) ?_;rintro _ _ _ ⟨rfl,rfl,rfl⟩;refine go ?_;refine cd hm G (fun ag hm=>?_) (fun ag hm=>?_);refine gs ?_;refine go ?_;obtain rfl:=G7 hm;refine aZ a1 ?_;exact cL G G ⟨G,G,G⟩;refine eS (aH (aO ?_));refine gj ?_;exact kj (bZ (Hi _) ⟨a0+1,a6,aa,G,((HJ ac _).trans hm),a1,G,G⟩) ⟨G,G,G,(HB (fun z=>some (Value.int .i64 z)) (gP ab (iB (mH (h0).dQ)))),G_⟩;obtain rfl:=mA a5 a3;have hm:=(a9 _ _).symm.trans hm;refine gs ?_;refine go ?_;obtain rfl:=G7 hm;refine aZ a1 ?_;exact cL G G ⟨G,G,G⟩
theorem jF {B:Nat}{w0 w:World}[cQ B w0] {H:Hp}{M:List bR}{p0_s:(List aK)}{del_0:(List ByteArray)}{v0:Value}{xs0:List Value}{b0:Nat}{v1:Value}{r:(List aK)} (hm:cD p0_s del_0=some r) (h0:Rw H v0 xs0 p0_s) (h1:aI H v1 del_0) (ht:St B w0 H (.row v0 32 (aF.sz aK) p0_s.length xs0::.obj b0 (.cells [v1].toArray 22 (0,0))::M) w):
    Calls prog 62 [v0,.func (.func 63) [].toArray [.pointer (some ⟨b0,0,none⟩)].toArray].toArray w (fG B w0 fun H' M' v=>H=H'∧∃ qv0:Value,∃ qxs0:List Value,.row qv0 32 (aF.sz aK) r.length qxs0::.obj b0 (.cells [v1].toArray 22 (0,0))::M=M'∧qv0=v∧qt qv0 qxs0 r):=by
 unfold cD at hm;refine enter func62 G G G ht (gs ?_);refine gs ?_;obtain ⟨b5,ah,hm⟩:=bind_some hm;refine aE call100 G G G (fun w ht=>by obtain ⟨H0_,hl0_,ht0_,hr0_,bk0_⟩:=ht.eI h0 G; have h:=jR (hm:=ah) hr0_ (h1.mono hl0_) ht0_; exact cZ bk0_ (h)) ?_
 rintro _ _ _ ⟨rfl,⟨_,rfl,rfl,rfl⟩⟩;refine gs ?_;refine gs ?_;refine cd hm G (fun ai hm=>?_) (fun ai hm=>?_);refine gs ?_;refine go ?_;obtain rfl:=G7 hm;refine aZ (G8 _) ?_;exact cL G G ⟨G,v0,xs0,G,G,(h0).nh⟩;refine gs ?_;refine gs ?_;refine aG ?_;obtain ⟨ad,aj,ak,hm⟩:=iF hm;refine mD (fun n H' M' L'=>∃ a3:List aK,∃ a1 a4:Int,∃ a5:List Value,ad n (a3,a1,a4)=some r∧Rw H' v0 a5 a3∧H.le H'∧.row v0 32 (aF.sz aK) a3.length a5::.obj b0 (.cells [v1].toArray 22 (0,0))::M=M'∧[(0,v0),(1,.func (.func 63) [].toArray [.pointer (some ⟨b0,0,none⟩)].toArray),(5,.int .i64 (a1)),(6,.int .i64 (a4))]=L') eB ⟨_,_,_,_,hm,h0,(G8 _),G,G⟩ ?_;rintro a8 al _ _ ⟨a3,a1,a4,a5,hm,a2,a9,rfl,rfl⟩
 rcases a8 with _ | a8
 exact nomatch (ak _).symm.trans hm;have hm:=(aj _ _).symm.trans hm;generalize am:ad a8=an at hm
 try dsimp only at hm
 unfold dC at hm;refine gs ?_;refine gs ?_;refine l8 (.head _) G G Iq G (go ?_);refine cd hm G (fun ao hm=>?_) (fun ao hm=>?_);refine go ?_;refine bK (fun H' M' L'=>∃ a6:List aK,∃ aa:Int,∃ ab:List Value,b_ a4 an a6 aa=some r∧Rw H' v0 ab a6∧al=H'∧.row v0 32 (aF.sz aK) a6.length ab::.obj b0 (.cells [v1].toArray 22 (0,0))::M=M'∧[(0,v0),(1,.func (.func 63) [].toArray [.pointer (some ⟨b0,0,none⟩)].toArray),(5,.int .i64 (aa)),(6,.int .i64 (a4))]=L') ?_ (fun ae=>?_);rintro _ _ _ ⟨a6,aa,ab,hm,ap,rfl,rfl,rfl⟩;unfold b_ at hm;refine gj ?_;exact kj (bZ (Hi _) ⟨_,_,_,_,((HJ am _).trans hm),ap,a9,G,G⟩);refine aG ?_;refine gs ?_;obtain ⟨a0,aq,af,hm⟩:=aD hm;refine bF (.head _) G G Iq I3 G G aq (G6.1 af).1 ?_;obtain ⟨_,rfl,ar⟩:=(a2).elem af;refine aR (cs:=[.string (a0.Name),.string (a0.Node),.int .i64 (a0.bL)]) G G LK I3 G (q9 (.head _) ar) G ?_
 refine bO (cs:=[.string (⟨#[]⟩),.string (⟨#[]⟩),.int .i64 (0)]) G G KR G (fun b6=>?_);refine aM (cs:=[.string (a0.Name),.string (a0.Node),.int .i64 (a0.bL)]) (out:=[.string (a0.Name),.string (a0.Node),.int .i64 (a0.bL)]) G I3 G G G G G (G5 G (G5 G (G5 G Hj))) (aP G) (gs ?_);refine la LK I3 G (.head _) G ?_;refine a_ (.trans (.cons _ (.swap _ _ _)) (.swap _ _ _)) ?_;obtain ⟨b7,au,hm⟩:=bind_some hm;refine uF call63 G G G G (fun w ht=>(qi (hm:=au) (h1.mono a9) ht :)) ?_;rintro _ _ _ ⟨rfl,rfl,rfl⟩;refine ny G G G G (go ?_);refine cd hm G (fun av hm=>?_) (fun av hm=>?_);refine gs ?_;refine la LK I3 G (.tail _ (.head _)) G ?_;obtain ⟨ac,aw,a7,hm⟩:=aD hm;refine bF (.tail _ (.tail _ (.head _))) G G Iq I3 G G aw (G6.1 a7).1 ?_;obtain ⟨_,rfl,ax⟩:=(a2).elem a7;refine a_ (.trans (.cons _ (.swap _ _ _)) (.swap _ _ _)) ?_
 obtain ⟨ag,b8,ay⟩:=Rw.put (cs:=[.string (a0.Name),.string (a0.Node),.int .i64 (a0.bL)]) (o:=0) (c:=[.string (ac.Name),.string (ac.Node),.int .i64 (ac.bL)]) (out:=[.string (a0.Name),.string (a0.Node),.int .i64 (a0.bL)]) (e2:=a0) a2 a7 rfl ax rfl rfl rfl;refine cX (i:=(a1:Int).toNat*aF.sz aK+0) (cs:=[.string (a0.Name),.string (a0.Node),.int .i64 (a0.bL)]) G I3 G (eO _ _) G G G (Rw.room a2 a7 G) G (G5 G (G5 G (G5 G Hj))) (n':=(a3.set ((a1:Int).toNat) a0).length) Hw ?_;generalize over a5 ((a1:Int).toNat*aF.sz aK+0) [.string (a0.Name),.string (a0.Node),.int .i64 (a0.bL)]=b9 at ag ay ⊢;refine bC (aO ?_);refine gj ?_;refine aU (.cons_cons _ (.cons_cons _ (.cons _ (.refl _)))) ?_;exact kj (ae _ _ _ ⟨_,_,_,hm,ag,G,G,G⟩);refine gj ?_;refine aU (.cons_cons _ (.cons _ (.refl _))) ?_;exact kp (ae _ _ _ ⟨_,_,_,hm,a2,G,G,G⟩) (.swap _ _ _)
 refine gs ?_;obtain ⟨az,hm⟩:=aT hm;refine xN (α:=aK) (zs:=[.string (⟨#[]⟩),.string (⟨#[]⟩),.int .i64 (0)]) (ze:=(aK.mk (⟨#[]⟩) (⟨#[]⟩) 0)) G G (fun _=>G) underlying26 Iq I3 KR G G G G G G a2 az ?_;intro ba bb b1;refine gs ?_;obtain ⟨bc,hm⟩:=aT hm;refine u4 (α:=aK) (l:=0) (h:=(a1:Int).toNat) G G Iq I3 G G b1 (by omega) (by omega) (fun m hmm=>(.inr ⟨_,_,_,G,G,by omega,by omega,G⟩)) (.inl ⟨G,G⟩) ?_
 intro b2 b3 b4;refine go ?_;obtain rfl:=G7 hm;refine aZ a9 ?_;exact cL G G ⟨G,b2,b3,G,G,(b4).nh⟩
theorem oN {B:Nat}{w0 w:World}[cQ B w0] {H:Hp}{M:List bR}{p0_n:aC}{on:(List ByteArray)}{v0 v1 v2 v3 v4 v5 v6:Value}{r:aC} (hm:kB p0_n on=some r) (h0:aI H v0 p0_n.bJ) (h1:aI H v1 p0_n.bM) (h2:aI H v2 p0_n.aS) (h3:aI H v3 p0_n.dR) (h4:aI H v4 p0_n.bQ) (h5:aI H v5 p0_n.bY) (h6:aI H v6 on) (ht:St B w0 H (M) w):
    Calls prog 30 [.agg [v0,v1,v2,v3,v4,v5].toArray,v6].toArray w (fG B w0 fun H' M' v=>H=H'∧∃ qv0:Value,∃ qxs0:List Value,∃ qv1:Value,∃ qxs1:List Value,∃ qv2:Value,∃ qxs2:List Value,∃ qv3:Value,∃ qxs3:List Value,∃ qv4:Value,∃ qxs4:List Value,∃ qv5:Value,∃ qxs5:List Value,.row qv0 9 (aF.sz ByteArray) r.bJ.length qxs0::.row qv1 80 (aF.sz cN) r.bM.length qxs1::.row qv2 56 (aF.sz bH) r.aS.length qxs2::.row qv3 117 (aF.sz cR) r.dR.length qxs3::.row qv4 32 (aF.sz aK) r.bQ.length qxs4::.row qv5 121 (aF.sz dS) r.bY.length qxs5::M=M'∧.agg [qv0,qv1,qv2,qv3,qv4,qv5].toArray=v∧qt qv0 qxs0 r.bJ∧qt qv1 qxs1 r.bM∧qt qv2 qxs2 r.aS∧qt qv3 qxs3 r.dR∧qt qv4 qxs4 r.bQ∧qt qv5 qxs5 r.bY):=by
 unfold kB at hm;refine enter func30 G G G ht (gs ?_);refine dO (cs:=[v0,v1,v2,v3,v4,v5]) G G G G (fun am=>?_);refine dO (cs:=[v6]) G G G (aI.cells h6) (fun an=>?_);refine bO (cs:=[.slice none 0 0,.slice none 0 0,.slice none 0 0,.slice none 0 0,.slice none 0 0,.slice none 0 0]) G G KB G (fun ao=>?_);refine gs ?_;refine la ID Ie G (.tail _ (.tail _ (.head _))) G ?_;obtain ⟨ap,ae,hm⟩:=bind_some hm;refine aE call61 G G G (fun w ht=>(tA (hm:=ae) h0 h1 h2 h3 h4 h5 ht :)) ?_;rintro _ _ _ ⟨rfl,a0,af,a1,ag,a2,ah,a3,ai,ad,aq,a4,aj,rfl,rfl,a6,a7,a8,a9,ac,aa⟩;have a6:=a6 H;have a7:=a7 H;have a8:=a8 H;have a9:=a9 H;have ac:=ac H;have aa:=aa H;refine bO (cs:=[.slice none 0 0,.slice none 0 0,.slice none 0 0,.slice none 0 0,.slice none 0 0,.slice none 0 0]) G G KB G (fun ar=>?_);refine aM (cs:=[a0,a1,a2,a3,ad,a4]) (out:=[a0,a1,a2,a3,ad,a4]) G Ie G G G G G (G5 (Rw.one a6) (G5 (Rw.one a7) (G5 (Rw.one a8) (G5 (Rw.one a9) (G5 (Rw.one ac) (G5 (Rw.one aa) Hj)))))) (aP G) (gs ?_)
 refine fi 4 Hs G JY G ?_;refine lo KZ G (.head _) G ?_;refine uX G G G G (a_ (.trans (.cons _ (.cons _ (.cons _ (.cons _ (.swap _ _ _))))) (.trans (.cons _ (.cons _ (.cons _ (.swap _ _ _)))) (.trans (.cons _ (.cons _ (.swap _ _ _))) (.trans (.cons _ (.swap _ _ _)) (.trans (.swap _ _ _) (.trans (.cons _ (.cons _ (.cons _ (.cons _ (.cons _ (.cons _ (.cons _ (.swap _ _ _)))))))) (.trans (.cons _ (.cons _ (.cons _ (.cons _ (.cons _ (.cons _ (.swap _ _ _))))))) (.trans (.cons _ (.cons _ (.cons _ (.cons _ (.cons _ (.swap _ _ _)))))) (.trans (.cons _ (.cons _ (.cons _ (.cons _ (.swap _ _ _))))) (.trans (.cons _ (.cons _ (.cons _ (.swap _ _ _)))) (.trans (.cons _ (.cons _ (.swap _ _ _))) (.cons _ (.swap _ _ _))))))))))))) ?_);obtain ⟨au,ak,hm⟩:=bind_some hm;refine aE call62 G G G (fun w ht=>(jF (hm:=ak) ac h6 ht :)) ?_;rintro _ _ _ ⟨rfl,ab,al,rfl,rfl,a5⟩;have a5:=a5 H
 refine fi 4 Hs G JY G ?_;refine a_ (.trans (.cons _ (.swap _ _ _)) (.swap _ _ _)) (aM (cs:=[ab]) (out:=[a0,a1,a2,a3,ab,a4]) G JY G G (Rw.cells a5) G G (G5 (Rw.one a5) Hj) G (gs ?_));refine la ID Ie G (.head _) G ?_;refine a_ (.trans (.cons _ (.cons _ (.cons _ (.cons _ (.cons _ (.cons _ (.cons _ (.swap _ _ _)))))))) (.trans (.cons _ (.cons _ (.cons _ (.cons _ (.cons _ (.cons _ (.swap _ _ _))))))) (.trans (.cons _ (.cons _ (.cons _ (.cons _ (.cons _ (.swap _ _ _)))))) (.trans (.cons _ (.cons _ (.cons _ (.cons _ (.swap _ _ _))))) (.trans (.cons _ (.cons _ (.cons _ (.swap _ _ _)))) (.trans (.cons _ (.cons _ (.swap _ _ _))) (.trans (.cons _ (.swap _ _ _)) (.swap _ _ _)))))))) (aM (cs:=[a0,a1,a2,a3,ab,a4]) (out:=[a0,a1,a2,a3,ab,a4]) G Ie G G G G G (G5 (Rw.one a6) (G5 (Rw.one a7) (G5 (Rw.one a8) (G5 (Rw.one a9) (G5 (Rw.one a5) (G5 (Rw.one aa) Hj)))))) (aP G) (go ?_))
 obtain rfl:=G7 hm;exact iE (G8 _) G (eT.agg G ID Ie (.head _) G) (.cons _ (.cons _ (.cons_cons _ (.cons _ (.cons_cons _ (.cons_cons _ (.cons_cons _ (.cons_cons _ (.cons_cons _ (.cons _ (.refl _))))))))))) (.trans (.swap _ _ _) (.trans (.cons _ (.swap _ _ _)) (.trans (.cons _ (.cons _ (.swap _ _ _))) (.cons _ (.cons _ (.cons _ (.swap _ _ _))))))) ⟨G,a0,af,a1,ag,a2,ah,a3,ai,ab,al,a4,aj,G,G,(a6).nh,(a7).nh,(a8).nh,(a9).nh,(a5).nh,(aa).nh⟩
theorem ub {B:Nat}{w0 w:World}[cQ B w0] {H:Hp}{M:List bR}{p0_n:aC}{on:(List ByteArray)}{v0 v1 v2 v3 v4 v5 v6:Value}{r:aC×Int} (hm:qg p0_n on=some r) (h0:aI H v0 p0_n.bJ) (h1:aI H v1 p0_n.bM) (h2:aI H v2 p0_n.aS) (h3:aI H v3 p0_n.dR) (h4:aI H v4 p0_n.bQ) (h5:aI H v5 p0_n.bY) (h6:aI H v6 on) (ht:St B w0 H (M) w):
    Calls prog 15 [.agg [v0,v1,v2,v3,v4,v5].toArray,v6].toArray w (fG B w0 fun H' M' v=>H.le H'∧∃ qv0 qv1 qv2 qv3 qv4 qv5:Value,M=M'∧.tuple #[.agg [qv0,qv1,qv2,qv3,qv4,qv5].toArray,.int .i64 (r.2)]=v∧aI H' qv0 r.1.bJ∧aI H' qv1 r.1.bM∧aI H' qv2 r.1.aS∧aI H' qv3 r.1.dR∧aI H' qv4 r.1.bQ∧aI H' qv5 r.1.bY):=by
 unfold qg at hm;refine enter func15 G G G ht (gs ?_);refine dO (cs:=[v0,v1,v2,v3,v4,v5]) G G G G (fun ar=>?_);refine bO (cs:=[.slice none 0 0,.slice none 0 0,.slice none 0 0,.slice none 0 0,.slice none 0 0,.slice none 0 0]) G G KB G (fun au=>?_);refine gs ?_;refine gs ?_;refine la ID Ie G (.tail _ (.head _)) G (go ?_);obtain ⟨av,ai,hm⟩:=bind_some hm;refine aE call26 G G G (fun w ht=>(qD (hm:=ai) h0 h1 h2 h3 h4 h5 h6 ht :)) ?_;rintro _ _ _ ⟨rfl,rfl,rfl⟩;refine gs ?_;refine cd hm G (fun aj hm=>?_) (fun aj hm=>?_);refine gs ?_;refine eD (css:=[]) (zs:=[.slice none 0 0,.slice none 0 0,.slice none 0 0,.slice none 0 0,.slice none 0 0,.slice none 0 0]) (out:=[.slice none 0 0,.slice none 0 0,.slice none 0 0,.slice none 0 0,.slice none 0 0,.slice none 0 0]) (places:=[(0,1),(1,1),(2,1),(3,1),(4,1),(5,1)]) G G G G_ KB G Hs (fun w=>by kernel_rfl) G ?_
 refine go ?_;refine aM (cs:=[.slice none 0 0,.slice none 0 0,.slice none 0 0,.slice none 0 0,.slice none 0 0,.slice none 0 0]) (out:=[.slice none 0 0,.slice none 0 0,.slice none 0 0,.slice none 0 0,.slice none 0 0,.slice none 0 0]) G Ie G G G G G (G5 G (G5 G (G5 G (G5 G (G5 G (G5 G Hj)))))) (aP G) (go ?_);obtain rfl:=G7 hm;exact wD (G8 _) G (eT.agg G ID Ie (.head _) G) (eT.tmp G) (.cons _ (.cons _ (.refl _))) (.refl _) ⟨(G8 _),(.slice none 0 0),(.slice none 0 0),(.slice none 0 0),(.slice none 0 0),(.slice none 0 0),(.slice none 0 0),G,G,aI.nil,aI.nil,aI.nil,aI.nil,aI.nil,aI.nil⟩;refine gs ?_;refine la ID Ie G (.tail _ (.head _)) G (go ?_);obtain ⟨aw,ak,hm⟩:=bind_some hm;refine aE call30 G G G (fun w ht=>(oN (hm:=ak) h0 h1 h2 h3 h4 h5 h6 ht :)) ?_;rintro _ _ _ ⟨rfl,ac,ax,ad,ay,ae,az,af,b0,ag,b1,ah,b2,rfl,rfl,a6,a7,a8,a9,aa,ab⟩
 have a6:=a6 H;have a7:=a7 H;have a8:=a8 H;have a9:=a9 H;have aa:=aa H;have ab:=ab H;refine a_ (.trans (.cons _ (.cons _ (.cons _ (.cons _ (.cons _ (.swap _ _ _)))))) (.trans (.cons _ (.cons _ (.cons _ (.cons _ (.swap _ _ _))))) (.trans (.cons _ (.cons _ (.cons _ (.swap _ _ _)))) (.trans (.cons _ (.cons _ (.swap _ _ _))) (.trans (.cons _ (.swap _ _ _)) (.swap _ _ _)))))) (aM (cs:=[ac,ad,ae,af,ag,ah]) (out:=[ac,ad,ae,af,ag,ah]) G Ie G G G G G (G5 (Rw.one a6) (G5 (Rw.one a7) (G5 (Rw.one a8) (G5 (Rw.one a9) (G5 (Rw.one aa) (G5 (Rw.one ab) Hj)))))) (aP G) ?_);refine aN G G G (bC (aO ?_));refine gj ?_;refine pd (.swap _ _ _) ?_;refine lx (a6).rd G (fun b3 a0 al=>?_);refine pd (.swap _ _ _) ?_;refine lx ((a7.mono a0)).rd G (fun b4 a1 am=>?_);refine pd (.swap _ _ _) ?_;refine lx (((a8.mono a0).mono a1)).rd G (fun b5 a2 an=>?_)
 refine pd (.swap _ _ _) ?_;refine lx ((((a9.mono a0).mono a1).mono a2)).rd G (fun b6 a3 ao=>?_);refine pd (.swap _ _ _) ?_;refine lx (((((aa.mono a0).mono a1).mono a2).mono a3)).rd G (fun b7 a4 ap=>?_);refine pd (.swap _ _ _) ?_;refine lx ((((((ab.mono a0).mono a1).mono a2).mono a3).mono a4)).rd G (fun b8 a5 aq=>?_);obtain rfl:=G7 hm;exact wD (G8 _) G (eT.agg G ID Ie (.head _) G) (eT.tmp G) (.cons _ (.cons _ (.refl _))) (.refl _) ⟨(G4 (G4 (G4 (G4 (G4 a0 a1) a2) a3) a4) a5),ac,ad,ae,af,ag,ah,G,G,(((((al.mono a1).mono a2).mono a3).mono a4).mono a5),((((am.mono a2).mono a3).mono a4).mono a5),(((an.mono a3).mono a4).mono a5),((ao.mono a4).mono a5),(ap.mono a5),aq⟩
theorem tE {B:Nat}{w0 w:World}[cQ B w0] {H:Hp}{M:List bR}{p0_n:aC}{p1_open:Bool}{v0 v1 v2 v3 v4 v5:Value}{r:(List bS)×(List Int)} (hm:lX p0_n p1_open=some r) (h0:aI H v0 p0_n.bJ) (h1:aI H v1 p0_n.bM) (h2:aI H v2 p0_n.aS) (h3:aI H v3 p0_n.dR) (h4:aI H v4 p0_n.bQ) (h5:aI H v5 p0_n.bY) (ht:St B w0 H (M) w):
    Calls prog 138 [.agg [v0,v1,v2,v3,v4,v5].toArray,.bool (p1_open)].toArray w (fG B w0 fun H' M' v=>H=H'∧∃ qv0:Value,∃ qxs0:List Value,∃ qv1:Value,∃ qxs1:List Value,.row qv0 178 (aF.sz bS) r.1.length qxs0::.row qv1 3 (aF.sz Int) r.2.length qxs1::M=M'∧.tuple #[qv0,qv1]=v∧qt qv0 qxs0 r.1∧qt qv1 qxs1 r.2):=by
 unfold lX at hm;refine enter func138 G G G ht (gs ?_);refine dO (cs:=[v0,v1,v2,v3,v4,v5]) G G G G (fun a6=>?_);refine gs ?_;refine gs ?_;refine gs ?_;refine gs ?_;refine fi 1 Hs G sizeOf23 G ?_;refine lo isAgg23 G (.head _) G ?_;refine bD G G Kp G h1 (go ?_);refine aG (jB 178 (aF.sz bS) (jB 3 (aF.sz Int) ?_));obtain ⟨ar,az,b0,hm⟩:=dG hm;refine Fj (.swap _ _ _) (fun n H' M' L'=>∃ (a0:Nat) (ab:List cN),∃ a8:List bS,∃ a9:List Int,∃ a7:Value,∃ ac:List Value,∃ aa:Value,∃ ad:List Value,(p0_n.bM).drop a0=ab∧ab.length=n∧ar a0 ab (a8,a9)=some r∧Rw H' a7 ac a8∧Rw H' aa ad a9∧H.le H'∧.row a7 178 (aF.sz bS) a8.length ac::.row aa 3 (aF.sz Int) a9.length ad::.obj a6 (.cells [v0,v1,v2,v3,v4,v5].toArray 29 (0,0))::M=M'∧[(1,.bool (p1_open)),(2,.pointer (some ⟨a6,0,none⟩)),(6,a7),(7,aa),(11,v1),(12,.int .i64 ((p0_n.bM.length:Int))),(13,.int .i64 ((a0:Int)))]=L') _ ⟨0,_,_,_,_,_,_,_,G,G,hm,Rw.nil,Rw.nil,(G8 _),G,G⟩ ?_
 rintro _ b1 _ _ ⟨a0,ab,a8,a9,a7,ac,aa,ad,au,rfl,hm,ai,aj,a4,rfl,rfl⟩;refine gs ?_;refine gs ?_;refine bT G (fun ak=>?_) (fun ak=>?_);obtain ⟨a1,av,rfl,al,b2⟩:=iA au ak;have hm:=(az _ _ _ _).symm.trans hm;generalize b3:ar (a0+1) av=b4 at hm
 try dsimp only at hm
 unfold nK at hm;refine go ?_;refine bK (fun H' M' L'=>∃ ae:List bS,∃ af:List Int,∃ ag:Value,∃ am:List Value,∃ ah:Value,∃ an:List Value,kC b4 ae af=some r∧Rw H' ag am ae∧Rw H' ah an af∧b1.le H'∧.row ag 178 (aF.sz bS) ae.length am::.row ah 3 (aF.sz Int) af.length an::.obj a6 (.cells [v0,v1,v2,v3,v4,v5].toArray 29 (0,0))::M=M'∧[(1,.bool (p1_open)),(2,.pointer (some ⟨a6,0,none⟩)),(6,ag),(7,ah),(11,v1),(12,.int .i64 ((p0_n.bM.length:Int))),(13,.int .i64 ((a0:Int)))]=L') ?_ (fun aw=>?_);rintro bl _ _ ⟨ae,af,ag,am,ah,an,hm,b5,b6,b7,rfl,rfl⟩;unfold kC at hm;refine gj ?_;exact kj (bZ (Hi _) ⟨a0+1,av,_,_,_,_,_,_,b2,G,((HJ b3 _).trans hm),b5,b6,(G4 a4 b7),G,G⟩) ⟨G,G,G,G,G,G,(HB (fun z=>some (Value.int .i64 z)) (cS al ((h1.mono a4)).dQ)),G_⟩;refine aG ?_;refine gs ?_
 obtain ⟨_,⟨rfl⟩,b8⟩:=(h1).elem al;refine aY G G Kp LZ G (h1.mono a4) G (Hy _) al (aR G G isAgg80 LZ G (b8.mono a4).at G ?_);refine bO (cs:=[.string (⟨#[]⟩),.string (⟨#[]⟩),.string (⟨#[]⟩),.bool (false),.bool (false)]) G G zeroValue80 G (fun ax=>?_);refine go ?_;refine aM (cs:=[.string (a1.Name),.string (a1.A),.string (a1.B_),.bool (a1.si),.bool (a1.Open)]) (out:=[.string (a1.Name),.string (a1.A),.string (a1.B_),.bool (a1.si),.bool (a1.Open)]) G LZ G G G G G (G5 G (G5 G (G5 G (G5 G (G5 G Hj))))) (aP G) (gs ?_);refine fi 4 KJ G Iz G ?_;refine lo Ko G (.head _) G (go ?_);refine xQ G G runUnderlying4 G G (go ?_);refine cd hm G (fun b9 hm=>?_) (fun b9 hm=>?_);refine gs ?_;obtain ⟨a2,ba,hm⟩:=bind_some hm;obtain ⟨a3,bb,hm⟩:=bind_some hm;refine od fm 13 [ph a7,ph (.pointer (some ⟨a6,0,none⟩)),ph v0,ph (.pointer (some ⟨ax,1,none⟩)),ph (.string (a1.A)),ph (.int .i64 (a2)),ph (.pointer (some ⟨a6,0,none⟩)),ph v0,ph (.pointer (some ⟨ax,2,none⟩)),ph (.string (a1.B_)),ph (.int .i64 (a3)),ph (.agg [.int .i64 (a2),.int .i64 (a3)].toArray),(fun H rs v=>∃ a5:Value,[]=rs∧a5=v∧aI H a5 ([(bS.mk a2 a3)])∧Value.l9 a5=([(bS.mk a2 a3)]).length)] ⟨om,?_,?_,?_,?_,?_,?_,?_,?_,?_,?_,?_,?_,G_⟩ ?_
 rintro HX hX X Rest hR hU hUp;refine fi 0 Hs G JM G ?_;exact o0 ⟨G,G⟩;rintro HX hX X Rest hR _ _ ⟨rfl,rfl⟩ hU hUp;refine aJ G G JW G (bV (hR _ (.tail _ (.tail _ (.tail _ (.head _))))) G) ?_;exact o0 ⟨G,G⟩;rintro HX hX X Rest hR hU hUp;refine fi 1 KJ G Ih G ?_;exact o0 ⟨G,G⟩;rintro HX hX X Rest hR _ _ ⟨rfl,rfl⟩ hU hUp;refine aJ G G IW G (bV (hR _ (.head _)) G) ?_;exact o0 ⟨G,G⟩;rintro HX hX X Rest hR _ _ ⟨rfl,rfl⟩ _ _ ⟨rfl,rfl⟩ hU hUp;refine aE Ly G G G (fun w ht=>(bU (hm:=ba) ((h0.mono a4).mono hX) ht :)) ?_;rintro _ _ _ ⟨rfl,rfl,rfl⟩;exact o0 ⟨G,G⟩;rintro HX hX X Rest hR hU hUp;refine fi 0 Hs G JM G ?_;exact o0 ⟨G,G⟩;rintro HX hX X Rest hR _ _ ⟨rfl,rfl⟩ hU hUp;refine aJ G G JW G (bV (hR _ (.tail _ (.tail _ (.tail _ (.head _))))) G) ?_;exact o0 ⟨G,G⟩;rintro HX hX X Rest hR hU hUp;refine fi 2 KJ G Ih G ?_
 exact o0 ⟨G,G⟩;rintro HX hX X Rest hR _ _ ⟨rfl,rfl⟩ hU hUp;refine aJ G G IW G (bV (hR _ (.head _)) G) ?_;exact o0 ⟨G,G⟩;intro HX hX X Rest hR;refine dr ?_;intro hU hUp;refine aE Ly G G G (fun w ht=>(bU (hm:=bb) ((h0.mono a4).mono hX) ht :)) ?_;rintro _ _ _ ⟨rfl,rfl,rfl⟩;exact o0 ⟨G,G⟩;rintro HX hX X Rest hR _ _ ⟨rfl,rfl⟩ _ _ ⟨rfl,rfl⟩ hU hUp;refine uU (css:=[[.int .i64 (a2)],[.int .i64 (a3)]]) (zs:=[.int .i64 (0),.int .i64 (0)]) (out:=[.int .i64 (a2),.int .i64 (a3)]) (places:=[(0,1),(1,1)]) G G G ⟨G,G,G_⟩ LF G Js Hq G G ?_;exact o0 ⟨G,G⟩;rintro HX hX X Rest hR _ _ ⟨rfl,rfl⟩ hU hUp;refine dP (α:=bS) (css:=[[.int .i64 (a2),.int .i64 (a3)]]) (zs:=[.int .i64 (0),.int .i64 (0)]) (out:=[.int .i64 (a2),.int .i64 (a3)]) (ys:=[(bS.mk a2 a3)]) G G G ⟨G,G_⟩ Ky LB G LF (by kernel_rfl) G G G G ⟨[.int .i64 (a2),.int .i64 (a3)],[],G,G,G⟩ G ?_
 intro bm a5 bn bc bd ao;have ay:Value.l9 a5=([(bS.mk a2 a3)]).length:=by rw [bc]; rfl
 exact oe [] bd ⟨a5,G,G,(ao),(ay)⟩;intro bo ap;refine dr ?_;rintro _ _ ⟨a5,rfl,rfl,ao,ay⟩;refine rD ?_;obtain ⟨be,hm⟩:=aT hm;refine a_ (.swap _ _ _) (dF (α:=bS) (l:=a8) (ys:=[(bS.mk a2 a3)]) G G underlying177 ⟨_,G,G,G,G⟩ G G G G G (ai.mono ap) ao be ?_);intro bp bq bf;refine go ?_;refine dP (α:=Int) (css:=[[.int .i64 ((a0:Int))]]) (zs:=[.int .i64 (0)]) (out:=[.int .i64 ((a0:Int))]) (ys:=([((a0:Int))]:List Int)) G G G ⟨G,G_⟩ Hf Hq G Kc (by kernel_rfl) G G G G ⟨[.int .i64 ((a0:Int))],[],G,G,G⟩ G ?_
 intro br bg bs bh aq bi;have bt:Value.l9 bg=([((a0:Int))]:List Int).length:=by rw [bh]; rfl
 obtain ⟨bj,hm⟩:=aT hm;refine a_ (.trans (.cons _ (.swap _ _ _)) (.swap _ _ _)) (dF (α:=Int) (l:=a9) (ys:=([((a0:Int))]:List Int)) G G Jz ⟨_,G,G,G,G⟩ G G G G G ((aj.mono ap).mono aq) bi bj ?_);intro bu bv bk;refine gj ?_;refine aU (.cons_cons _ (.cons_cons _ (.cons _ (.refl _)))) ?_;exact kp (aw _ _ _ ⟨_,_,_,_,_,_,hm,(bf.mono aq),bk,(G4 ap aq),G,G⟩) (.swap _ _ _);refine gj ?_;refine aU (.cons _ (.refl _)) ?_;exact kj (aw _ _ _ ⟨_,_,_,_,_,_,hm,ai,aj,(G8 _),G,G⟩);obtain rfl:=hO au ak;have hm:=(b0 _ _).symm.trans hm
 try dsimp only at hm
 refine gs ?_;refine go ?_;obtain rfl:=G7 hm;refine aU (.cons_cons _ (.cons_cons _ (.cons _ (.refl _)))) (aZ a4 ?_);exact ki G G G ⟨G,a7,ac,aa,ad,G,G,(ai).nh,(aj).nh⟩
theorem uv {B:Nat}{w0 w:World}[cQ B w0] {H:Hp}{M:List bR}{p0_n:Int}{p1_l:(List bS)}{v0:Value}{r:Int} (hm:nc p0_n p1_l=some r) (h0:aI H v0 p1_l) (ht:St B w0 H (M) w):
    Calls prog 139 [.int .i64 (p0_n),v0].toArray w (fG B w0 fun H' M' v=>H=H'∧M=M'∧.int .i64 (r)=v):=by
 unfold nc at hm;refine enter func139 G G G ht (gs ?_);refine gs ?_;refine bK (fun H' M' L'=>H=H'∧M=M'∧[(0,.int .i64 (p0_n)),(1,v0),(17,.bool (((decide (p0_n<0)) || (decide (24<p0_n))) || (decide (64<(p1_l.length:Int)))))]=L') ?_ (fun a6=>?_);rintro _ _ _ ⟨rfl,rfl,rfl⟩;refine cd hm G (fun ah hm=>?_) (fun ah hm=>?_);refine gs ?_;refine go ?_;obtain rfl:=G7 hm;refine aZ (G8 _) ?_;exact cL G G ⟨G,G,G⟩;refine gs ?_;refine gs ?_;refine bD G G Ky G h0 (go ?_);refine aG ?_;obtain ⟨aa,ai,aj,hm⟩:=dG hm;refine mD (fun n H' M' L'=>∃ (a4:Nat) (a5:List bS),(p1_l).drop a4=a5∧a5.length=n∧aa a4 a5 ()=some r∧H.le H'∧M=M'∧[(0,.int .i64 (p0_n)),(18,v0),(19,.int .i64 ((p1_l.length:Int))),(20,.int .i64 ((a4:Int)))]=L') _ ⟨0,_,G,G,hm,(G8 _),G,G⟩ ?_;rintro _ ao _ _ ⟨a4,a5,ab,rfl,hm,a2,rfl,rfl⟩
 refine gs ?_;refine gs ?_;refine bT G (fun a7=>?_) (fun a7=>?_);obtain ⟨a3,ac,rfl,a8,ak⟩:=iA ab a7;have hm:=(ai _ _ _ _).symm.trans hm;generalize al:aa (a4+1) ac=ap at hm;unfold oH at hm;refine gs ?_;refine aG ?_;refine gs ?_;obtain ⟨_,⟨rfl⟩,am⟩:=(h0).elem a8;refine aY G G Ky LB G (h0.mono a2) G (Hy _) a8 (aR G G isAgg178 LB G (am.mono a2).at G ?_);refine bO (cs:=[.int .i64 (0),.int .i64 (0)]) G G LF G (fun aq=>?_);refine aM (cs:=[.int .i64 (a3.a0),.int .i64 (a3.a1)]) (out:=[.int .i64 (a3.a0),.int .i64 (a3.a1)]) G LB G G G G G (G5 G (G5 G Hj)) (aP G) (gs ?_);refine lY G G Js Hq G G (by decide) (by decide) ?_
 refine lo HP G (.head _) G (go ?_);cases ad:(decide (a3.a0<0));have hm:=fE ad hm;refine lY G G Js Hq G G (by decide) (by decide) ?_
 refine lo HP G (.head _) G (go ?_);cases ae:(decide (p0_n≤a3.a0));have hm:=fE ae hm;refine lY G G Js Hq G G (by decide) (by decide) ?_
 refine lo HP G (.head _) G (go ?_);cases af:(decide (a3.a1<0));have hm:=fE af hm;refine lY G G Js Hq G G (by decide) (by decide) ?_
 refine lo HP G (.head _) G (go ?_);refine cd hm G (fun an hm=>?_) (fun an hm=>?_);refine gs ?_;refine go ?_;obtain rfl:=G7 hm;refine aU (.cons _ (.refl _)) (aZ a2 ?_);exact cL G G ⟨G,G,G⟩;refine eS (aH (aO ?_));refine gj ?_;refine aU (.cons _ (.refl _)) ?_;exact kj (bZ (Hi _) ⟨a4+1,ac,ak,G,((HJ al _).trans hm),a2,G,G⟩) ⟨G,G,G,(HB (fun z=>some (Value.int .i64 z)) (cS a8 ((h0.mono a2)).dQ)),G_⟩;have hm:=fF af hm;refine go ?_;refine cT G (gs ?_);refine go ?_;obtain rfl:=G7 hm;refine aU (.cons _ (.refl _)) (aZ a2 ?_);exact cL G G ⟨G,G,G⟩;have hm:=fF ae hm;refine go ?_;refine cT G (gs ?_);refine go ?_;obtain rfl:=G7 hm;refine aU (.cons _ (.refl _)) (aZ a2 ?_);exact cL G G ⟨G,G,G⟩;have hm:=fF ad hm;refine go ?_;refine cT G (gs ?_);refine go ?_;obtain rfl:=G7 hm;refine aU (.cons _ (.refl _)) (aZ a2 ?_)
 exact cL G G ⟨G,G,G⟩;obtain rfl:=hO ab a7;have hm:=(aj _ _).symm.trans hm;refine gs ?_;refine go ?_;obtain rfl:=G7 hm;refine aZ a2 ?_;exact cL G G ⟨G,G,G⟩;refine go ?_;cases a9:(decide (p0_n<0));refine go ?_;cases ag:(decide (24<p0_n));refine go ?_;refine bD G G Ky G h0 (gj ?_);exact kj (a6 _ _ _ ⟨G,G,G⟩) ⟨G,G,(by exact sb (by first | rfl | simp only [a9,ag,oA])),G_⟩
 refine gj ?_;exact kj (a6 _ _ _ ⟨G,G,G⟩) ⟨G,G,(by exact sb (by first | rfl | simp only [a9,ag,oA])),G_⟩
 refine gj ?_;exact kj (a6 _ _ _ ⟨G,G,G⟩) ⟨G,G,(by exact sb (by first | rfl | simp only [a9,oA])),G_⟩
theorem sD {B:Nat}{w0 w:World}[cQ B w0] {H:Hp}{M:List bR}{p0_x p1_y:Int}{r:Int×Int} (hm:jL p0_x p1_y=r) (ht:St B w0 H (M) w):
    Calls prog 181 [.int .u64 (p0_x),.int .u64 (p1_y)].toArray w (fG B w0 fun H' M' v=>H=H'∧M=M'∧.tuple #[.int .u64 (r.1),.int .u64 (r.2)]=v):=by
 unfold jL at hm;refine enter func181 G G G ht (gs ?_);refine gs ?_;refine gs ?_;refine nS G G G G (by decide) (gs ?_)
 refine gs ?_;refine nS G G G G (by decide) (gs ?_)
 refine gs ?_;refine nS G G G G (by decide) (gs ?_)
 refine gs ?_;refine nS G G G G (by decide) (gs ?_)
 refine gs ?_;refine nS G G G G (by decide) (gs ?_)
 refine go ?_;obtain rfl:=hm;refine aZ (G8 _) ?_;exact ki G G G ⟨G,G,G⟩
theorem qB {B:Nat}{w0 w:World}[cQ B w0] {H:Hp}{M:List bR}{p0_x p1_y:Int}{r:Int×Int} (hm:np p0_x p1_y=r) (ht:St B w0 H (M) w):
    Calls prog 163 [.int .u64 (p0_x),.int .u64 (p1_y)].toArray w (fG B w0 fun H' M' v=>H=H'∧M=M'∧.tuple #[.int .u64 (r.1),.int .u64 (r.2)]=v):=by
 unfold np at hm;refine enter func163 G G G ht (gs ?_);refine gs ?_;refine cF G (gs ?_);refine aE call181 G G G (fun w ht=>(sD (hm:=(G:jL p0_x p1_y=_))  ht :)) ?_;rintro _ _ _ ⟨rfl,rfl,rfl⟩;refine gs ?_;refine go ?_;obtain rfl:=hm;refine aZ (G8 _) ?_;exact ki G G G ⟨G,G,G⟩
theorem ur (m:Nat) (hm:m<9223372036854775808):np (u64.wrap (1:Int)) (u64.wrap (m:Int))=(0,(m:Int)):=by
 have hw:u64.wrap (m:Int)=m:=by rw [IntKind.wrap_u64]; omega
 have h1:u64.wrap (1:Int)=1:=rfl;have hand:u64.wrap ((BitVec.ofInt (u64).bits (m:Int) &&& BitVec.ofInt (u64).bits 4294967295).toNat)=((m%4294967296:Nat):Int):=by
  have h:=bits_and_u64_nat m 4294967295 (by omega) (by omega)
  have e:m &&& 4294967295=m%4294967296:=K2 m 32;rw [e] at h;exact h
 have hand2:u64.wrap ((BitVec.ofInt (u64).bits ((m / 4294967296%4294967296:Nat):Int) &&& BitVec.ofInt (u64).bits 4294967295).toNat)=((m / 4294967296%4294967296:Nat):Int):=by
  have h:=bits_and_u64_nat (m / 4294967296%4294967296) 4294967295 (by omega) (by omega)
  have e:(m / 4294967296%4294967296) &&& 4294967295=(m / 4294967296%4294967296)%4294967296:=K2 _ 32;rw [e,Nat.mod_mod] at h;exact h
 have hs0:jA .u64 (1:Int) 32=0:=rfl;have hs00:jA .u64 (0:Int) 32=0:=rfl;have hand1:u64.wrap ((BitVec.ofInt (u64).bits (1:Int) &&& BitVec.ofInt (u64).bits 4294967295).toNat)=1:=rfl;have hand0:u64.wrap ((BitVec.ofInt (u64).bits (0:Int) &&& BitVec.ofInt (u64).bits 4294967295).toNat)=0:=rfl;have hsm:∀ k:Nat,jA .u64 (k:Int) 32=((k / 4294967296:Nat):Int):=fun k=>zX k;have e0:((m%4294967296:Nat):Int)=((m%4294967296:Nat):Int):=rfl;have w1:u64.wrap ((m%4294967296:Nat):Int)=((m%4294967296:Nat):Int):=by rw [IntKind.wrap_u64]; omega
 have w2:u64.wrap ((m / 4294967296:Nat):Int)=((m / 4294967296:Nat):Int):=by rw [IntKind.wrap_u64]; omega
 have d1:m%4294967296 / 4294967296=0:=by omega
 have d2:m / 4294967296 / 4294967296=0:=by omega
 have z0:u64.wrap (0:Int)=0:=rfl;unfold np jL;rw [hw,h1]
 simp only [hs0,hs00,hand1,hand,hsm,Int.zero_mul,Int.one_mul,z0,Int.zero_add,w1,d1,Int.ofNat_zero,Int.natCast_zero,Int.add_zero,hand0,w2,d2,hw]
end Go.Sim
