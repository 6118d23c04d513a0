/-
  The proof, part C1.
-/
import Derived.KernelRfl
import Derived.Shelf.Strconv.Itoa0
import Derived.Shelf.Strconv.Itoa1
import Derived.Shelf.LaysM
import Derived.Shelf.Strconv.Itoa2
import Derived.Shelf.Strconv.Itoa3
import Derived.Shelf.Strconv.Clone
import Derived.Shelf.Strconv.SyntaxError
import Derived.Shelf.LaysC
import Derived.Shelf.Strconv.ToError
import Derived.Shelf.Strconv.Lower
import Derived.Shelf.Strconv.ParseUint10
import Derived.Shelf.Strconv.ParseUint10Empty
import Derived.Shelf.Strconv.ParseUint10Any
import Derived.Shelf.Strconv.RangeError
import Derived.Shelf.Strconv.ToErrorRange
import Derived.Shelf.Strconv.ParseUintEmpty
import Derived.Shelf.Strconv.ParseUint10b64
import Derived.Shelf.Strconv.ParseUint10b32
import Derived.Shelf.Strconv.ParseUint10b16
import Derived.Shelf.Strconv.ParseUint10b8
import Derived.Test.YtcfeheigjjnpnaaGreatDoorProg
import Derived.Test.YtcfeheigjjnpnaaGreatDoorRows
import Derived.Test.YtcfeheigjjnpnaaGreatDoorSqA2
set_option linter.unusedVariables false
set_option linter.unusedSimpArgs false
set_option linter.unusedSectionVars false
set_option linter.unnecessarySimpa false
namespace Go.Sim
abbrev HF := @Int.natCast_nonneg
abbrev Lm := @List.Perm.refl
abbrev K_ := @Nat.and_two_pow_sub_one_eq_mod
abbrev LJ := @Go.Proofs.Tryz.call38
abbrev HN := @congrFun
abbrev Jy := @Go.Proofs.Tryz.isAgg22
abbrev Mg := @Go.Proofs.Tryz.isAgg25
abbrev KF := @Go.Proofs.Tryz.isAgg26
abbrev IJ := @Go.Proofs.Tryz.isAgg29
abbrev HY := @Go.Proofs.Tryz.isAgg3
abbrev Ly := @Go.Proofs.Tryz.isAgg32
abbrev Ky := @Go.Proofs.Tryz.isAgg4
abbrev IX := @Go.Proofs.Tryz.isAgg9
abbrev I5 := @Go.Proofs.Tryz.runUnderlying117
abbrev J7 := @Go.Proofs.Tryz.runUnderlying121
abbrev L7 := @Go.Proofs.Tryz.runUnderlying175
abbrev KH := @Go.Proofs.Tryz.runUnderlying177
abbrev JC := @Go.Proofs.Tryz.runUnderlying178
abbrev Hw := @Go.Proofs.Tryz.runUnderlying22
abbrev Kz := @Go.Proofs.Tryz.runUnderlying23
abbrev JH := @Go.Proofs.Tryz.runUnderlying24
abbrev Jn := @Go.Proofs.Tryz.runUnderlying25
abbrev Ip := @Go.Proofs.Tryz.runUnderlying26
abbrev Kc := @Go.Proofs.Tryz.runUnderlying27
abbrev Hy := @Go.Proofs.Tryz.runUnderlying29
abbrev Jo := @Go.Proofs.Tryz.runUnderlying32
abbrev Hn := @Go.Proofs.Tryz.runUnderlying51
abbrev IY := @Go.Proofs.Tryz.runUnderlying56
abbrev Mm := @Go.Proofs.Tryz.runUnderlying77
abbrev KS := @Go.Proofs.Tryz.runUnderlying80
abbrev IE := @Go.Proofs.Tryz.runUnderlying9
abbrev Ke := @Go.Proofs.Tryz.sizeOf117
abbrev Mi := @Go.Proofs.Tryz.sizeOf121
abbrev LN := @Go.Proofs.Tryz.sizeOf178
abbrev JP := @Go.Proofs.Tryz.sizeOf22
abbrev Lh := @Go.Proofs.Tryz.sizeOf25
abbrev JL := @Go.Proofs.Tryz.sizeOf26
abbrev Iq := @Go.Proofs.Tryz.sizeOf29
abbrev Hz := @Go.Proofs.Tryz.sizeOf3
abbrev I7 := @Go.Proofs.Tryz.sizeOf32
abbrev IF := @Go.Proofs.Tryz.sizeOf4
abbrev KA := @Go.Proofs.Tryz.sizeOf56
abbrev L8 := @Go.Proofs.Tryz.sizeOf77
abbrev L9 := @Go.Proofs.Tryz.sizeOf80
abbrev Ik := @Go.Proofs.Tryz.sizeOf9
abbrev KP := @Go.Proofs.Tryz.underlying22
abbrev JI := @Go.Proofs.Tryz.underlying51
abbrev LO := @Go.Proofs.Tryz.zeroValue117
abbrev LQ := @Go.Proofs.Tryz.zeroValue178
abbrev KK := @Go.Proofs.Tryz.zeroValue29
abbrev Ko := @Go.Proofs.Tryz.zeroValue3
abbrev KL := @Go.Proofs.Tryz.zeroValue32
abbrev L5 := @Go.Proofs.Tryz.zeroValue56
abbrev JJ := @Go.Proofs.Tryz.zeroValue9
end Go.Sim
namespace Go.Sim
open Go
open _root_.Go.IntKind (i64 u64 u32 u8)
theorem G {α : Sort _} {a : α} : a = a := rfl
section
variable {x:Cx}{ops:Array Oper}{Q:kZ}{rest:List Oper}{H:Hp}{M:List bV}{L:Env}{e:Exit}{c:Code}
theorem rV (k:W x ops Q rest H M L):W x ops Q rest H M L:=k
theorem Gi (k:E x e Q H M L):E x e Q H M L:=k
theorem Gh (k:Go.Sim.C x c Q H M L):Go.Sim.C x c Q H M L:=k
end
theorem wo {P Q:Prop} (k:Q) (h:Q→P:=by
  intro k
  repeat first
   | (with_reducible refine rV ?_); first
    | refine cA rfl rfl rfl ?_
    | refine aL rfl rfl rfl ?_
    | refine A8 rfl rfl rfl ?_
    | refine pN rfl rfl rfl rfl rfl ?_
    | refine r8 rfl rfl rfl rfl ?_
    | refine k5 rfl rfl rfl rfl ?_
    | refine jG rfl rfl rfl ?_
    | refine wL rfl rfl ?_
  exact k):P:=h k
theorem go {P Q:Prop} (k:Q) (h:Q→P:=by
  intro k
  repeat first
   | (with_reducible refine rV ?_); first
    | refine cA rfl rfl rfl ?_
    | refine aL rfl rfl rfl ?_
    | refine A8 rfl rfl rfl ?_
    | refine pN rfl rfl rfl rfl rfl ?_
    | refine r8 rfl rfl rfl rfl ?_
    | refine k5 rfl rfl rfl rfl ?_
    | refine jG rfl rfl rfl ?_
    | refine wL rfl rfl ?_
    | refine bC ?_
   | (with_reducible refine Gi ?_); first
    | with_reducible refine aP ?_
    | with_reducible refine eU ?_
    | with_reducible refine aH ?_
    | with_reducible refine ke ?_
    | with_reducible refine qH ?_
    | with_reducible refine kQ ?_
    | refine qG rfl ?_
   | (with_reducible refine Gh ?_); first
    | with_reducible refine bB ?_
    | with_reducible refine eP ?_
    | with_reducible refine qa ?_
    | with_reducible refine lY ?_
  exact k):P:=h k
theorem gj {P Q:Prop} (k:Q) (h:Q→P:=by
  intro k
  repeat first
   | (with_reducible refine rV ?_); first
    | refine cA rfl rfl rfl ?_
    | refine aL rfl rfl rfl ?_
    | refine A8 rfl rfl rfl ?_
    | refine pN rfl rfl rfl rfl rfl ?_
    | refine r8 rfl rfl rfl rfl ?_
    | refine k5 rfl rfl rfl rfl ?_
    | refine jG rfl rfl rfl ?_
    | refine wL rfl rfl ?_
    | refine bC ?_
   | (with_reducible refine Gi ?_); first
    | with_reducible refine eU ?_
    | with_reducible refine aH ?_
    | with_reducible refine ke ?_
    | with_reducible refine qH ?_
    | with_reducible refine kQ ?_
    | refine qG rfl ?_
   | (with_reducible refine Gh ?_); first
    | with_reducible refine bB ?_
    | with_reducible refine eP ?_
    | with_reducible refine qa ?_
    | with_reducible refine lY ?_
  exact k):P:=h k
theorem gs {P Q:Prop} (k:Q) (h:Q→P:=by
  intro k
  repeat first
   | (with_reducible refine rV ?_); first
    | refine cA rfl rfl rfl ?_
    | refine aL rfl rfl rfl ?_
    | refine A8 rfl rfl rfl ?_
    | refine pN rfl rfl rfl rfl rfl ?_
    | refine r8 rfl rfl rfl rfl ?_
    | refine k5 rfl rfl rfl rfl ?_
    | refine jG rfl rfl rfl ?_
    | refine wL rfl rfl ?_
    | refine bC ?_
   | (with_reducible refine Gi ?_); first
    | with_reducible refine aP ?_
    | with_reducible refine eU ?_
    | with_reducible refine aH ?_
    | with_reducible refine ke ?_
    | with_reducible refine qH ?_
    | with_reducible refine kQ ?_
    | refine qG rfl ?_
   | (with_reducible refine Gh ?_); first
    | with_reducible refine bB ?_
    | with_reducible refine eP ?_
    | with_reducible refine qa ?_
    | with_reducible refine lY ?_
  refine cH ?_
  repeat first
   | (with_reducible refine rV ?_); first
    | refine cA rfl rfl rfl ?_
    | refine aL rfl rfl rfl ?_
    | refine A8 rfl rfl rfl ?_
    | refine pN rfl rfl rfl rfl rfl ?_
    | refine r8 rfl rfl rfl rfl ?_
    | refine k5 rfl rfl rfl rfl ?_
    | refine jG rfl rfl rfl ?_
    | refine wL rfl rfl ?_
    | refine bC ?_
   | (with_reducible refine Gi ?_); first
    | with_reducible refine aP ?_
    | with_reducible refine eU ?_
    | with_reducible refine aH ?_
    | with_reducible refine ke ?_
    | with_reducible refine qH ?_
    | with_reducible refine kQ ?_
    | refine qG rfl ?_
   | (with_reducible refine Gh ?_); first
    | with_reducible refine bB ?_
    | with_reducible refine eP ?_
    | with_reducible refine qa ?_
    | with_reducible refine lY ?_
  exact k):P:=h k
abbrev ph (a:Value):Hp→List bV→Value→Prop:=fun _ rs v=>[]=rs∧a=v
def nn (n:Nat):List (List Nat):=List.replicate n []
section
variable {x:Cx}{ops:Array Oper}{Q:kZ}{H H':Hp}{M:List bV}{L:Env}{t:Nat}{ps:Option Nat}{v:Value}{φ:Hp→List bV→Value→Prop}
theorem o0 (h:φ H [] v):W x ops (w5 x H M L (some t) ps φ) [] H M ((t,v)::L):=bC (eL [] (Hg _) h)
theorem oe (rs:List bV) (hle:H.le H') (h:φ H' rs v):W x ops (w5 x H M L (some t) ps φ) [] H' (rs++M) ((t,v)::L):=bC (eL rs hle h)
end
theorem om {P:Prop} (h:P:=by
  intro HX hX X Rest hR
  repeat (rintro _ _ ⟨rfl,rfl⟩)
  intro hU hUp
  repeat first
   | (with_reducible refine rV ?_); first
    | refine cA rfl rfl rfl ?_
    | refine aL rfl rfl rfl ?_
    | refine A8 rfl rfl rfl ?_
    | refine pN rfl rfl rfl rfl rfl ?_
    | refine r8 rfl rfl rfl rfl ?_
    | refine k5 rfl rfl rfl rfl ?_
    | refine jG rfl rfl rfl ?_
    | refine wL rfl rfl ?_
  exact o0 ⟨rfl,rfl⟩):P:=h
theorem dr {P Q:Prop} (k:Q) (h:Q→P:=by
  intro k
  repeat (rintro _ _ ⟨rfl,rfl⟩)
  exact k):P:=h k
theorem dz {P Q:Prop} (k:Q) (h:Q→P:=by
  intro k
  repeat (rintro _ _ ⟨rfl,rfl⟩)
  refine rV ?_;exact k):P:=h k
theorem ma {P:Prop} (h:P:=by
    repeat' first
      | exact Hh
      | exact fE _ _
      | refine ⟨?_,?_⟩
      | (intro H1 H2 rs v hle
         repeat' first
           | exact fun h=>h
           | exact fun h=>aI.mono hle h
           | exact fun h=>Rw.mono hle h
           | exact fun h=>mU.mono hle h
           | exact fun h=>cD.mono hle h
           | exact fun h=>Mx.mono h hle
           | refine Exists.imp (fun _=>?_)
           | refine And.imp ?_ ?_)):P:=h
theorem y6 {x:Cx}{l:List Oper}{Q:kZ}{H:Hp}{M:List bV}{L:Env}{id:Nat} (hmix:x.P.follows .mixedOrders=true) (m:Nat) (F:List (Hp→List bV→Value→Prop)) (C U:List (List Nat)) (I:List (List bV)) (live:List Nat)
  (hop:sY x l (uQ F) C U [] (y0 m I) H M L 0 (l.take m))
  (k:∀ H',H.le H'→rN l (uQ F) H' (List.range m) L (y0 m I) (fun L' R=>W x l.toArray Q (l.drop m) H' (pP live R M) L'))
  (hB:q7 l m=true:=by kernel_rfl) (hml:Nat.ble m l.length=true:=by rfl) (hD:ui l m L=true:=by rfl) (hNd:uj l m=true:=by rfl)
  (hT:BN l m (m+I.length) C U live=true:=by kernel_rfl) (hmono:w4 F:=by exact ma):Go.Sim.C x (.region id l.toArray true) Q H (I.flatten++M) L:=
 nE m (uQ F) C U I live hmix hB hml hD hNd hT (p9 hmono) hop k
theorem pw {x:Cx}{l:List Oper}{Q:kZ}{H:Hp}{M:List bV}{L:Env}{id:Nat} (hmix:x.P.follows .mixedOrders=true) (m:Nat) (F:List (Hp→List bV→Value→Prop))
  (hop:sY x l (uQ F) (nn m) (nn m) [] (y0 m []) H M L 0 (l.take m))
  (k:∀ H',H.le H'→rN l (uQ F) H' (List.range m) L (y0 m []) (fun L' R=>W x l.toArray Q (l.drop m) H' (pP (List.range m) R M) L'))
  (hB:q7 l m=true:=by kernel_rfl) (hml:Nat.ble m l.length=true:=by rfl) (hD:ui l m L=true:=by rfl) (hNd:uj l m=true:=by rfl)
  (hT:BN l m m (nn m) (nn m) (List.range m)=true:=by kernel_rfl) (hmono:w4 F:=by exact ma):Go.Sim.C x (.region id l.toArray true) Q H M L:=
 nE m (uQ F) (nn m) (nn m) [] (List.range m) hmix hB hml hD hNd hT (p9 hmono) hop k
theorem dO {α σ R:Type}{B:Nat→α→σ→(σ→Option R)→Option R}{K:σ→Option R}{l:List α}{s:σ}{r:Option R}{i:Nat} (h:eE B K i l s=r):
  ∃ F:Nat→List α→σ→Option R,(∀ i y ys s,F i (y::ys) s=B i y s (F (i+1) ys))∧(∀ i s,F i [] s=K s)∧F i l s=r:=⟨eE B K,fun _ _ _ _=>rfl,fun _ _=>rfl,h⟩
theorem jX {σ R:Type}{B:Nat→σ→(σ→Option R)→Option R}{K:σ→Option R}{m:Nat}{s:σ}{r:Option R}{i:Nat} (h:jH B K m i s=r):
  ∃ F:Nat→Nat→σ→Option R,(∀ m i s,F (m+1) i s=B i s (F m (i+1)))∧(∀ i s,F 0 i s=K s)∧F m i s=r:=⟨jH B K,fun _ _ _=>rfl,fun _ _=>rfl,h⟩
theorem iV {σ R:Type}{B:σ→(σ→Option R)→Option R}{m:Nat}{s:σ}{r:Option R} (h:fV B m s=r):
  ∃ F:Nat→σ→Option R,(∀ m s,F (m+1) s=B s (F m))∧(∀ s,F 0 s=none)∧F m s=r:=⟨fV B,fun _ _=>rfl,fun _=>rfl,h⟩
section
variable {x:Cx}{Q:kZ}{H:Hp}{M M':List bV}{L L':Env}{e:Exit}{c:Code}
theorem kj (k:E x e Q H M L') (hL:Kept L L':=by repeat first | exact Hh | refine ⟨rfl,?_⟩):E x e Q H M L:=y7 hL (Lm _) k
theorem kp (k:E x e Q H M' L') (hM:M.Perm M') (hL:Kept L L':=by repeat first | exact Hh | refine ⟨rfl,?_⟩):E x e Q H M L:=y7 hL hM k
theorem mA (S:xP) (n:Nat) (h0:S n H M L') (step:∀ n H M L,S n H M L→Go.Sim.C x c (Exit.then (DR x S n) Q) H M L) (hL:Kept L L':=by repeat first | exact Hh | refine ⟨rfl,?_⟩):Go.Sim.C x (.loop c) Q H M L:=
 u6 hL (Lm _) (u7 S n h0 step)
theorem Fq (hM:M.Perm M') (S:xP) (n:Nat) (h0:S n H M' L') (step:∀ n H M L,S n H M L→Go.Sim.C x c (Exit.then (DR x S n) Q) H M L) (hL:Kept L L':=by repeat first | exact Hh | refine ⟨rfl,?_⟩):Go.Sim.C x (.loop c) Q H M L:=
 u6 hL hM (u7 S n h0 step)
theorem cd {α:Type}{o:Operand}{p q:Code}{b:Bool}{u v r:α} (hm:(if b=true then u else v)=r) (hb:ev L o=some (.bool b)) (k1:b=true→u=r→Go.Sim.C x p Q H M L) (k2:b=false→v=r→Go.Sim.C x q Q H M L):Go.Sim.C x (.cond o p q) Q H M L:=
 bS hb (fun h=>k1 h (gW h hm)) (fun h=>k2 h (gV h hm))
theorem cT {o:Operand}{p q:Code} (hb:ev L o=some (.bool true)) (k:Go.Sim.C x p Q H M L):Go.Sim.C x (.cond o p q) Q H M L:=bS hb (fun _=>k) (fun h=>Bool.noConfusion h)
theorem cF {o:Operand}{p q:Code} (hb:ev L o=some (.bool false)) (k:Go.Sim.C x q Q H M L):Go.Sim.C x (.cond o p q) Q H M L:=bS hb (fun h=>Bool.noConfusion h) (fun _=>k)
end
theorem sb {a b:Bool} (h:a=b):some (Value.bool a)=some (Value.bool b):=by rw [h]
theorem oh:(∀ b,(b && true)=b)∧(∀ b,(true && b)=b)∧(∀ b,(false && b)=false)∧(∀ b,(b && false)=false)∧(∀ b,(b || true)=true)∧(∀ b,(true || b)=true)∧(∀ b,(b || false)=b)∧(∀ b,(false || b)=b)∧(!true)=false∧(!false)=true:=by
 refine ⟨?_,?_,?_,?_,?_,?_,?_,?_,rfl,rfl⟩ <;> intro b <;> cases b <;> rfl
section
variable {x:Cx}{ops:Array Oper}{Q:kZ}{rest:List Oper}{H:Hp}{M:List bV}{L:Env}{d:Nat}{ty:TypeId}{pos:String}{aft:Array Edge}{g:Option (Nat×Bool)}
theorem lo {T b i U:Nat}{fz:Nat×Nat}{y:Operand}{l:List Value}{v:Value} (hT:∀ w,(isAgg T).run x.P w=.ok false w) (hy:ev L y=some (.pointer (some ⟨b,i,none⟩))) (hm:bV.obj b (.cells l.toArray U fz) ∈ M) (hc:l[i]? = some v)
  (k:W x ops Q rest H M ((d,v)::L)) (hg:gd ops L ⟨some d,.load T y,ty,pos,aft,g⟩=some true:=by rfl) (hN:Nat.blt d x.N=true:=by rfl):W x ops Q (⟨some d,.load T y,ty,pos,aft,g⟩::rest) H M L:=
 aJ hg hN hT hy (bZ hm hc) k
theorem la {T b U n:Nat}{fz:Nat×Nat}{y:Operand}{l:List Value} (hT:∀ w,(isAgg T).run x.P w=.ok true w) (hn:∀ w,(sizeOf T).run x.P w=.ok n w) (hy:ev L y=some (.pointer (some ⟨b,0,none⟩))) (hm:bV.obj b (.cells l.toArray U fz) ∈ M) (hl:l.length=n)
  (k:W x ops Q rest H M ((d,.agg l.toArray)::L)) (hg:gd ops L ⟨some d,.load T y,ty,pos,aft,g⟩=some true:=by rfl) (hN:Nat.blt d x.N=true:=by rfl):W x ops Q (⟨some d,.load T y,ty,pos,aft,g⟩::rest) H M L:=
 aT hg hN hT hn hy (eX hm) hl k
theorem fi {T:TypeId}{y:Operand}{ad:Addr}{f n:Nat}{fs:Array Field}{fd:Field} (o:Nat) (hT:∀ w,(underlying T).run x.P w=.ok (.struct fs) w) (hf:fs[f]? = some fd) (hn:∀ w,(sizeOf fd.type).run x.P w=.ok n w) (hy:ev L y=some (.pointer (some ad)))
  (k:W x ops Q rest H M ((d,.pointer (some (ad.add o)))::L)) (ho:fd.offset=o:=by rfl) (hn0:Nat.beq n 0=false:=by rfl) (hg:gd ops L ⟨some d,.fieldAddr T y f,ty,pos,aft,g⟩=some true:=by rfl) (hN:Nat.blt d x.N=true:=by rfl):
  W x ops Q (⟨some d,.fieldAddr T y f,ty,pos,aft,g⟩::rest) H M L:=qJ hg hN hT hf hn hn0 ho hy k
end
end Go.Sim
namespace Go.Proofs
open Go.Shelf
open _root_.Go.IntKind (i64 u64 u32 u8)
def Tryz.yv:Go.Shelf.Ren:=⟨fun | 283=>182 | n=>n,fun | 3=>3 | 9=>9 | 4=>4 | n=>n,fun | n=>n⟩
theorem Tryz.Ek:Go.Proofs.Lays.n283 Tryz.prog Tryz.yv:={
 mixed:=by kernel_rfl
 f283:=Tryz.func182.trans (congrArg some (by kernel_rfl))
 t3:=Tryz.underlying3
 a3:=Tryz.isAgg3
 z3:=Tryz.sizeOf3
 v3:=Tryz.zeroValue3
 t4:=Tryz.underlying4
 a4:=Tryz.isAgg4
 z4:=Tryz.sizeOf4
 v4:=Tryz.zeroValue4
 t9:=Tryz.underlying9
 a9:=Tryz.isAgg9
 z9:=Tryz.sizeOf9
 v9:=Tryz.zeroValue9 }
open Go.Lib in
theorem Tryz.internal_strconv_small (i:Nat) (h:i<100) (w:World):
  Calls Tryz.prog 182 #[.int .i64 i] w fun e w'=>e=.returned (.string ⟨(Lib.decDigits i).toArray⟩)∧w'=w:=Any.internal_strconv_small Tryz.Ek i h w
def Tryz.xp:Go.Shelf.Ren:=⟨fun | 284=>183 | 129=>99 | 317=>192 | 318=>193 | n=>n,fun | 53=>168 | 3=>3 | 212=>269 | 0=>0 | 4=>4 | 46=>112 | 5=>5 | 9=>9 | n=>n,fun | 17=>3 | n=>n⟩
theorem Tryz.CW:Go.Proofs.LaysM.n284 Tryz.prog Tryz.xp:={
 mixed:=by kernel_rfl
 f129:=Tryz.func99.trans (congrArg some (by kernel_rfl))
 f284:=Tryz.func183.trans (congrArg some (by kernel_rfl))
 f317:=Tryz.func192.trans (congrArg some (by kernel_rfl))
 f318:=Tryz.func193.trans (congrArg some (by kernel_rfl))
 t0:=Tryz.underlying0
 a0:=Tryz.isAgg0
 z0:=Tryz.sizeOf0
 v0:=Tryz.zeroValue0
 t3:=Tryz.underlying3
 a3:=Tryz.isAgg3
 z3:=Tryz.sizeOf3
 v3:=Tryz.zeroValue3
 t4:=Tryz.underlying4
 a4:=Tryz.isAgg4
 z4:=Tryz.sizeOf4
 v4:=Tryz.zeroValue4
 t5:=Tryz.underlying5
 a5:=Tryz.isAgg5
 z5:=Tryz.sizeOf5
 v5:=Tryz.zeroValue5
 t9:=Tryz.underlying9
 a9:=Tryz.isAgg9
 z9:=Tryz.sizeOf9
 v9:=Tryz.zeroValue9
 t46:=Tryz.underlying112
 a46:=Tryz.isAgg112
 z46:=Tryz.sizeOf112
 v46:=Tryz.zeroValue112
 t53:=Tryz.underlying168
 a53:=Tryz.isAgg168
 z53:=Tryz.sizeOf168
 v53:=Tryz.zeroValue168
 t212:=Tryz.underlying269
 a212:=Tryz.isAgg269
 z212:=Tryz.sizeOf269
 v212:=Tryz.zeroValue269
 g17:=by kernel_rfl
 i0:=by kernel_rfl
 i3:=by kernel_rfl
 i4:=by kernel_rfl
 i5:=by kernel_rfl
 i9:=by kernel_rfl
 i46:=by kernel_rfl
 i53:=by kernel_rfl
 i212:=by kernel_rfl
 m17:=by kernel_rfl }
open Go.Lib in
theorem Tryz.internal_strconv_numDigits (u:Nat) (h1:1≤u) (h2:u<18446744073709551616) (w:World) (htab:Lib.TabIs Tryz.prog w "internal/strconv.uint64pow10" .u64 Lib.pow10Tab):
  Calls Tryz.prog 183 #[.int .u64 u] w fun e w'=>e=.returned (.int .i64 (Lib.nDigits u))∧w'=w:=Any.internal_strconv_numDigits Tryz.CW u h1 h2 w htab
def Tryz.yw:Go.Shelf.Ren:=⟨fun | 285=>184 | n=>n,fun | 37=>175 | 53=>168 | 3=>3 | 4=>4 | 51=>166 | 9=>9 | 5=>5 | 0=>0 | n=>n,fun | n=>n⟩
theorem Tryz.El:Go.Proofs.Lays.n285 Tryz.prog Tryz.yw:={
 mixed:=by kernel_rfl
 f285:=Tryz.func184.trans (congrArg some (by kernel_rfl))
 t0:=Tryz.underlying0
 a0:=Tryz.isAgg0
 z0:=Tryz.sizeOf0
 v0:=Tryz.zeroValue0
 t3:=Tryz.underlying3
 a3:=Tryz.isAgg3
 z3:=Tryz.sizeOf3
 v3:=Tryz.zeroValue3
 t4:=Tryz.underlying4
 a4:=Tryz.isAgg4
 z4:=Tryz.sizeOf4
 v4:=Tryz.zeroValue4
 t5:=Tryz.underlying5
 a5:=Tryz.isAgg5
 z5:=Tryz.sizeOf5
 v5:=Tryz.zeroValue5
 t9:=Tryz.underlying9
 a9:=Tryz.isAgg9
 z9:=Tryz.sizeOf9
 v9:=Tryz.zeroValue9
 t37:=Tryz.underlying175
 a37:=Tryz.isAgg175
 z37:=Tryz.sizeOf175
 v37:=Tryz.zeroValue175
 t51:=Tryz.underlying166
 a51:=Tryz.isAgg166
 z51:=Tryz.sizeOf166
 v51:=Tryz.zeroValue166
 t53:=Tryz.underlying168
 a53:=Tryz.isAgg168
 z53:=Tryz.sizeOf168
 v53:=Tryz.zeroValue168 }
open Go.RowKit Go.Sort Go.Lib in
theorem Tryz.internal_strconv_formatBase10 (blk off cap:Nat) (u:Nat) (d:Array UInt8) (w:World) (hH:Holds (fun (b:UInt8)=>Value.int .u8 (b.toNat:Int)) w blk off d) (hu:u<10 ^ d.size) (hu64:u<18446744073709551616) (hsz:d.size<4611686018427387904):
  Calls Tryz.prog 184 #[.slice (some ⟨blk,off,none⟩) d.size cap,.int .u64 u] w fun e w'=>
   e=.returned (.tuple #[])∧∃ (n v':Nat) (dk:Array UInt8),w'=(putRow (fun (b:UInt8)=>Value.int .u8 (b.toNat:Int)) w blk off dk).drewN n∧FmtInv d.size u 0 v' dk:=Any.internal_strconv_formatBase10 Tryz.El blk off cap u d w hH hu hu64 hsz
def Tryz.yx:Go.Shelf.Ren:=⟨fun | 287=>156 | 321=>174 | 322=>175 | n=>n,fun | 9=>9 | 3=>3 | 53=>168 | 75=>200 | 4=>4 | 167=>247 | 5=>5 | 46=>112 | 37=>175 | 0=>0 | 21=>21 | 80=>225 | n=>n,fun | n=>n⟩
theorem Tryz.Em:Go.Proofs.Lays.n287 Tryz.prog Tryz.yx:={
 mixed:=by kernel_rfl
 f287:=Tryz.func156.trans (congrArg some (by kernel_rfl))
 f321:=Tryz.func174.trans (congrArg some (by kernel_rfl))
 f322:=Tryz.func175.trans (congrArg some (by kernel_rfl))
 t0:=Tryz.underlying0
 a0:=Tryz.isAgg0
 z0:=Tryz.sizeOf0
 v0:=Tryz.zeroValue0
 t3:=Tryz.underlying3
 a3:=Tryz.isAgg3
 z3:=Tryz.sizeOf3
 v3:=Tryz.zeroValue3
 t4:=Tryz.underlying4
 a4:=Tryz.isAgg4
 z4:=Tryz.sizeOf4
 v4:=Tryz.zeroValue4
 t5:=Tryz.underlying5
 a5:=Tryz.isAgg5
 z5:=Tryz.sizeOf5
 v5:=Tryz.zeroValue5
 t9:=Tryz.underlying9
 a9:=Tryz.isAgg9
 z9:=Tryz.sizeOf9
 v9:=Tryz.zeroValue9
 t21:=Tryz.underlying21
 a21:=Tryz.isAgg21
 z21:=Tryz.sizeOf21
 v21:=Tryz.zeroValue21
 t37:=Tryz.underlying175
 a37:=Tryz.isAgg175
 z37:=Tryz.sizeOf175
 v37:=Tryz.zeroValue175
 t46:=Tryz.underlying112
 a46:=Tryz.isAgg112
 z46:=Tryz.sizeOf112
 v46:=Tryz.zeroValue112
 t53:=Tryz.underlying168
 a53:=Tryz.isAgg168
 z53:=Tryz.sizeOf168
 v53:=Tryz.zeroValue168
 t75:=Tryz.underlying200
 a75:=Tryz.isAgg200
 z75:=Tryz.sizeOf200
 v75:=Tryz.zeroValue200
 t167:=Tryz.underlying247
 a167:=Tryz.isAgg247
 z167:=Tryz.sizeOf247
 v167:=Tryz.zeroValue247 }
open Go.RowKit in
theorem Tryz.internal_strconv_ParseUint_10_b32 (t:ByteArray) (hne:t.size≠0) (hmax:t.size≤9223372036854775806) (w:World):
  Calls Tryz.prog 156 #[.string t,.int .i64 10,.int .i64 32] w fun e w'=>e=.returned (Lib.uintTupleM 247 4294967295 (Lib.parseUintM 4294967295 0 t.data.toList))∧w'=Lib.bytesWorld w 5 t:=Any.internal_strconv_ParseUint_10_b32 Tryz.Em t hne hmax w
end Go.Proofs
namespace Go.Sim
open Go Go.Proofs.Tryz
open _root_.Go.IntKind (i64 u64 u32 u8)
set_option maxRecDepth 100000
set_option maxHeartbeats 4000000
theorem fm:Proofs.Tryz.prog.follows .mixedOrders=true:=by kernel_rfl
theorem Ad.mixed:Proofs.Tryz.prog.follows .mixedOrders=true:=fm
class cW (B:Nat) (w0:World):Prop where
 lt:6≤B
 e1:∃ T p,w0.var? Proofs.Tryz.prog "strconv.ErrSyntax" = some #[.iface T p]
 e2:∃ T p,w0.var? Proofs.Tryz.prog "strconv.ErrRange" = some #[.iface T p]
 t3:Lib.TabIs Proofs.Tryz.prog w0 "internal/strconv.uint64pow10" .u64 Gg
 t4:Lib.TabIs Proofs.Tryz.prog w0 "math/bits.deBruijn32tab" .u8 GB
 t5:Lib.TabIs Proofs.Tryz.prog w0 "math/bits.deBruijn64tab" .u8 GC
theorem cW.below {B:Nat}{w0:World}[h:cW B w0] {g:Nat} (hg:Nat.blt g 6=true):g<B:=by
 have:=h.lt;have:g<6:=by simpa [IM] using hg
 omega
theorem GQ:Proofs.Tryz.prog.globalNamed "strconv.ErrSyntax" = some 1:=by kernel_rfl
theorem GR:Proofs.Tryz.prog.globalNamed "strconv.ErrRange" = some 2:=by kernel_rfl
theorem GO:Proofs.Tryz.prog.globalNamed "internal/strconv.uint64pow10" = some 3:=by kernel_rfl
theorem GS:Proofs.Tryz.prog.globalNamed "math/bits.deBruijn32tab" = some 4:=by kernel_rfl
theorem GP:Proofs.Tryz.prog.globalNamed "math/bits.deBruijn64tab" = some 5:=by kernel_rfl
theorem rS {B:Nat}{w0 w:World}[cW B w0] {H:Hp}{M:List bV}{p0_n:aC}{v0 v1 v2 v3 v4 v5:Value}{r:aC} (hm:lN p0_n=some r) (h0:aI H v0 p0_n.bJ) (h1:aI H v1 p0_n.bF) (h2:aI H v2 p0_n.aN) (h3:aI H v3 p0_n.dM) (h4:aI H v4 p0_n.bK) (h5:aI H v5 p0_n.bQ) (ht:St B w0 H (M) w):
    Calls prog 6 [.agg [v0,v1,v2,v3,v4,v5].toArray].toArray w (fS B w0 fun H' M' v=>H.le H'∧∃ qv0 qv1 qv2 qv3 qv4 qv5:Value,M=M'∧.agg [qv0,qv1,qv2,qv3,qv4,qv5].toArray=v∧aI H' qv0 r.bJ∧aI H' qv1 r.bF∧aI H' qv2 r.aN∧aI H' qv3 r.dM∧aI H' qv4 r.bK∧aI H' qv5 r.bQ):=by
 unfold lN at hm;refine enter func6 G G G ht (gs ?_);refine dY (cs:=[v0,v1,v2,v3,v4,v5]) G G G G (fun a4=>?_);refine bO (cs:=[.slice none 0 0,.slice none 0 0,.slice none 0 0,.slice none 0 0,.slice none 0 0,.slice none 0 0]) G G KK G (fun a5=>?_);refine gs ?_;refine fi 4 Hy G JL G ?_;refine lo KF G (.tail _ (.head _)) G ?_;refine fi 4 Hy G JL G ?_;refine lo KF G (.tail _ (.head _)) G ?_;refine bD G G Ip G h4 (Ai G G G G ?_);obtain ⟨a6,hm⟩:=aR hm;refine qg (α:=aK) (l:=0) (h:=(min (p0_n.bK.length:Int) 4:Int).toNat) (xs:=p0_n.bK) G G Ip I7 G h4 (by omega) (by omega) (.inl G) (fun cap hcap=>by rw [Hv G]; exact (.inl ⟨G,G⟩)) (fun m hmm=>(.inr ⟨_,_,_,G,G,by omega,by omega,G⟩)) (.inl ⟨G,G⟩) ?_
 intro a0 a2 a7;refine fi 4 Hy G JL G ?_;refine a_ (.swap _ _ _) (aM (cs:=[a0]) (out:=[v0,v1,v2,v3,a0,v5]) G JL G G (aI.cells a2) G G (Hb (aI.cM a2) Hr) G (gs ?_));refine fi 3 Hy G Lh G ?_;refine lo Mg G (.head _) G ?_;refine fi 3 Hy G Lh G ?_;refine lo Mg G (.head _) G ?_;refine bD G G Jn G h3 (Ai G G G G ?_);obtain ⟨a8,hm⟩:=aR hm;refine qg (α:=cP) (l:=0) (h:=(min (p0_n.dM.length:Int) 4:Int).toNat) (xs:=p0_n.dM) G G Jn Ke G h3 (by omega) (by omega) (.inl G) (fun cap hcap=>by rw [Hv G]; exact (.inl ⟨G,G⟩)) (fun m hmm=>(.inr ⟨_,_,_,G,G,by omega,by omega,G⟩)) (.inl ⟨G,G⟩) ?_
 intro a1 a3 a9;refine fi 3 Hy G Lh G ?_;refine aM (cs:=[a1]) (out:=[v0,v1,v2,a1,a0,v5]) G Lh G G (aI.cells a3) G G (Hb (aI.cM a3) Hr) G (gs ?_);refine la IJ Iq G (.head _) G ?_;refine a_ (.swap _ _ _) (aM (cs:=[v0,v1,v2,a1,a0,v5]) (out:=[v0,v1,v2,a1,a0,v5]) G Iq G G G G G (Hb (aI.cM h0) (Hb (aI.cM h1) (Hb (aI.cM h2) (Hb (aI.cM a3) (Hb (aI.cM a2) (Hb (aI.cM h5) Hr)))))) (aQ G) (go ?_));obtain rfl:=Hc hm;exact iT (Hg _) G (fI.agg G IJ Iq (.head _) G) (.cons _ (.cons _ (.refl _))) (.refl _) ⟨(Hg _),v0,v1,v2,a1,a0,v5,G,G,h0,h1,h2,a3,a2,h5⟩
theorem tR {B:Nat}{w0 w:World}[cW B w0] {H:Hp}{M:List bV}{p0_s:ByteArray}{r:Bool} (hm:cN p0_s=some r) (ht:St B w0 H (M) w):
    Calls prog 64 [.string (p0_s)].toArray w (fS B w0 fun H' M' v=>H=H'∧M=M'∧.bool (r)=v):=by
 unfold cN at hm;refine enter func64 G G G ht (gs ?_);refine gs ?_;refine gs ?_;obtain ⟨am,hm⟩:=aR hm;refine xU G G IE L7 runUnderlying5 G am ?_;intro ac an ad a5;refine bD G G L7 G a5 (go ?_);refine aG ?_;obtain ⟨ae,ao,ap,hm⟩:=dO hm;refine mA (fun n H' M' L'=>∃ (a0:Nat) (a6:List U8),(iH p0_s).drop a0=a6∧a6.length=n∧ae a0 a6 ()=some r∧an.le H'∧M=M'∧[(0,.string (p0_s)),(6,ac),(7,.int .i64 (((iH p0_s).length:Int))),(8,.int .i64 ((a0:Int)))]=L') _ ⟨0,_,G,G,hm,(Hg _),G,G⟩ ?_;rintro _ af _ _ ⟨a0,a6,ag,rfl,hm,a4,rfl,rfl⟩;refine gs ?_;refine gs ?_;refine bS G (fun a8=>?_) (fun a8=>?_);obtain ⟨a1,ah,rfl,a9,aq⟩:=iE ag a8;have hm:=(ao _ _ _ _).symm.trans hm;generalize ar:ae (a0+1) ah=aw at hm;unfold nZ at hm;refine gs ?_;refine aG ?_;refine gs ?_;obtain ⟨_,rfl,au⟩:=(a5).elem a9
 refine aY G G L7 sizeOf5 G (a5.mono a4) G (HF _) a9 (aJ G G isAgg5 G (cD.one (au.mono a4) 0 G).at (go ?_));refine bL (fun H' M' L'=>af=H'∧M=M'∧[(0,.string (p0_s)),(6,ac),(7,.int .i64 (((iH p0_s).length:Int))),(8,.int .i64 ((a0:Int))),(31,.bool (!(((decide (65≤a1.n)) && (decide (a1.n≤90))) || (((decide (0<(a0:Int))) && (decide (48≤a1.n))) && (decide (a1.n≤57))))))]=L') ?_ (fun a2=>?_);rintro _ _ _ ⟨rfl,rfl,rfl⟩;refine cd hm G (fun av hm=>?_) (fun av hm=>?_);refine gs ?_;refine go ?_;obtain rfl:=Hc hm;refine aZ (Hf ad a4) ?_;exact cL G G ⟨G,G,G⟩;refine eP (aH (aP ?_));refine gj ?_;exact kj (b_ (Hq _) ⟨a0+1,ah,aq,G,((HN ar _).trans hm),a4,G,G⟩) ⟨G,G,G,(HH (fun z=>some (Value.int .i64 z)) (cR a9 ((a5.mono a4)).dT)),Hh⟩;refine go ?_;cases a3:(decide (65≤a1.n))
 refine go ?_;cases aa:(decide (0<(a0:Int)));refine go ?_;refine nQ G G G G (gj ?_);exact kj (a2 _ _ _ ⟨G,G,G⟩) ⟨G,G,G,G,(by exact sb (by first | rfl | simp only [a3,aa,oh])),Hh⟩
 refine go ?_;cases ai:(decide (48≤a1.n));refine go ?_;refine nQ G G G G (gj ?_);exact kj (a2 _ _ _ ⟨G,G,G⟩) ⟨G,G,G,G,(by exact sb (by first | rfl | simp only [a3,aa,ai,oh])),Hh⟩
 refine go ?_;refine nQ G G G G (gj ?_);exact kj (a2 _ _ _ ⟨G,G,G⟩) ⟨G,G,G,G,(by exact sb (by first | rfl | simp only [a3,aa,ai,oh])),Hh⟩
 refine go ?_;cases a7:(decide (a1.n≤90));refine go ?_;cases ab:(decide (0<(a0:Int)));refine go ?_;refine nQ G G G G (gj ?_);exact kj (a2 _ _ _ ⟨G,G,G⟩) ⟨G,G,G,G,(by exact sb (by first | rfl | simp only [a3,a7,ab,oh])),Hh⟩
 refine go ?_;cases aj:(decide (48≤a1.n));refine go ?_;refine nQ G G G G (gj ?_);exact kj (a2 _ _ _ ⟨G,G,G⟩) ⟨G,G,G,G,(by exact sb (by first | rfl | simp only [a3,a7,ab,aj,oh])),Hh⟩
 refine go ?_;refine nQ G G G G (gj ?_);exact kj (a2 _ _ _ ⟨G,G,G⟩) ⟨G,G,G,G,(by exact sb (by first | rfl | simp only [a3,a7,ab,aj,oh])),Hh⟩
 refine go ?_;refine nQ G G G G (gj ?_);exact kj (a2 _ _ _ ⟨G,G,G⟩) ⟨G,G,G,G,(by exact sb (by first | rfl | simp only [a3,a7,oh])),Hh⟩
 obtain rfl:=iD ag a8;have hm:=(ap _ _).symm.trans hm;refine go ?_;refine bL (fun H' M' L'=>af=H'∧M=M'∧[(2,.bool ((decide (1≤(p0_s.size:Int))) && (decide ((p0_s.size:Int)≤8))))]=L') ?_ (fun ak=>?_);rintro _ _ _ ⟨rfl,rfl,rfl⟩;refine go ?_;obtain rfl:=Hc hm;refine aZ (Hf ad a4) ?_;exact cL G G ⟨G,G,G⟩;refine go ?_;refine lf G G IE G (go ?_);cases al:(decide (1≤(p0_s.size:Int)));refine gj ?_;exact kj (ak _ _ _ ⟨G,G,G⟩) ⟨(by exact sb (by first | rfl | simp only [al,oh])),Hh⟩
 refine go ?_;refine lf G G IE G (gj ?_);exact kj (ak _ _ _ ⟨G,G,G⟩) ⟨(by exact sb (by first | rfl | simp only [al,oh])),Hh⟩
theorem bY {B:Nat}{w0 w:World}[cW B w0] {H:Hp}{M:List bV}{p0_s:(List ByteArray)}{p1_v:ByteArray}{v0:Value}{r:Int} (hm:bE p0_s p1_v=some r) (h0:aI H v0 p0_s) (ht:St B w0 H (M) w):
    Calls prog 38 [v0,.string (p1_v)].toArray w (fS B w0 fun H' M' v=>H=H'∧M=M'∧.int .i64 (r)=v):=by
 unfold bE at hm;refine enter func38 G G G ht (gs ?_);refine gs ?_;refine gs ?_;refine bD G G Hw G h0 (go ?_);refine aG ?_;obtain ⟨a4,a8,a9,hm⟩:=jX hm;refine mA (fun n H' M' L'=>∃ (a0:Nat) (a2:Nat),a0+a2=((p0_s.length:Int):Int).toNat∧a2=n∧a4 a2 a0 ()=some r∧H.le H'∧M=M'∧[(0,v0),(1,.string (p1_v)),(7,.int .i64 ((p0_s.length:Int))),(8,.int .i64 ((a0:Int)))]=L') _ ⟨0,_,Ii _,G,hm,(Hg _),G,G⟩ ?_;rintro _ ag _ _ ⟨a0,a2,a5,rfl,hm,a1,rfl,rfl⟩;refine gs ?_;refine gs ?_;refine bS G (fun a3=>?_) (fun a3=>?_);obtain ⟨a6,rfl,aa,ab⟩:=lX a5 a3;have hm:=(a8 _ _ _).symm.trans hm;generalize ac:a4 a6 (a0+1)=ah at hm;unfold jC at hm;refine gs ?_;refine aG ?_;refine gs ?_;refine gs ?_;obtain ⟨ai,ad,a7,hm⟩:=aD hm;obtain ⟨_,rfl,ae⟩:=(h0).elem a7;refine aY G G Hw Ik G (h0.mono a1) G ad a7 (aJ G G IX G (cD.one (ae.mono a1) 0 G).at (go ?_))
 refine cd hm G (fun af hm=>?_) (fun af hm=>?_);refine gs ?_;refine go ?_;obtain rfl:=Hc hm;refine aZ a1 ?_;exact cL G G ⟨G,G,G⟩;refine eP (aH (aP ?_));refine gj ?_;exact kj (b_ (Hq _) ⟨a0+1,a6,aa,G,((HN ac _).trans hm),a1,G,G⟩) ⟨G,G,G,(HH (fun z=>some (Value.int .i64 z)) (fZ ab (gB (mb (h0).dT)))),Hh⟩;obtain rfl:=lW a5 a3;have hm:=(a9 _ _).symm.trans hm;refine gs ?_;refine go ?_;obtain rfl:=Hc hm;refine aZ a1 ?_;exact cL G G ⟨G,G,G⟩
theorem dF {B:Nat}{w0 w:World}[cW B w0] {H:Hp}{M:List bV}{p0_s:(List ByteArray)}{p1_v:ByteArray}{v0:Value}{r:Bool} (hm:bU p0_s p1_v=some r) (h0:aI H v0 p0_s) (ht:St B w0 H (M) w):
    Calls prog 14 [v0,.string (p1_v)].toArray w (fS B w0 fun H' M' v=>H=H'∧M=M'∧.bool (r)=v):=by
 unfold bU at hm;refine enter func14 G G G ht (gs ?_);refine gs ?_;obtain ⟨a1,a0,hm⟩:=bind_some hm;refine aF LJ G G G (fun w ht=>(bY (hm:=a0) h0 ht :)) ?_;rintro _ _ _ ⟨rfl,rfl,rfl⟩;refine go ?_;obtain rfl:=Hc hm;refine aZ (Hg _) ?_;exact cL G G ⟨G,G,G⟩
theorem eS {B:Nat}{w0 w:World}[cW B w0] {H:Hp}{M:List bV}{p0_c:aS}{name:ByteArray}{nodes:(List ByteArray)}{b0:Nat}{es0:Array MapEntry}{c0:Nat}{v0 v1:Value}{r:Int×aS} (hm:cB p0_c name nodes=some r) (h0:ot es0 c0 p0_c.seen) (h1:aI H v0 p0_c.nodes) (h2:aI H v1 nodes) (ht:St B w0 H (.obj b0 (.map es0 c0)::M) w):
    Calls prog 33 [.agg [.map (some b0),v0].toArray,.string (name),v1].toArray w (fS B w0 fun H' M' v=>H.le H'∧∃ qes0:Array MapEntry,∃ qc0:Nat,∃ qv0:Value,.obj b0 (.map qes0 qc0)::M=M'∧.int .i64 (r.1)=v∧ot qes0 qc0 r.2.seen∧aI H' qv0 r.2.nodes):=by
 unfold cB at hm;refine enter func33 G G G ht (gs ?_);refine dY (cs:=[.map (some b0),v0]) G G G G (fun aa=>?_);refine gs ?_;refine aG ?_;refine gs ?_;obtain ⟨b1,ah,hm⟩:=bind_some hm;refine aF call64 G G G (fun w ht=>(tR (hm:=ah)  ht :)) ?_;rintro _ _ _ ⟨rfl,rfl,rfl⟩;refine nQ G G G G (go ?_);refine cd hm G (fun ai hm=>?_) (fun ai hm=>?_);refine gs ?_;refine go ?_;obtain rfl:=Hc hm;refine aU (.cons _ (.refl _)) ?_;exact cL G G ⟨(Hg _),es0,c0,v0,G,G,h0,h1⟩;refine gs ?_;refine fi 0 Mm G sizeOf75 G ?_;refine lo isAgg75 G (.head _) G (go ?_);refine vf (z:=false) (k:=name) (.tail _ (.head _)) h0 G G runUnderlying75 IE zeroValue4 G G G G (go ?_);refine cd hm G (fun aj hm=>?_) (fun aj hm=>?_);refine gs ?_;refine go ?_;obtain rfl:=Hc hm;refine aU (.cons _ (.refl _)) ?_;exact cL G G ⟨(Hg _),es0,c0,v0,G,G,h0,h1⟩
 refine gs ?_;refine fi 0 Mm G sizeOf75 G ?_;refine lo isAgg75 G (.head _) G (go ?_);refine a_ (.swap _ _ _) (r7 (k:=name) (v:=true) h0 G runUnderlying75 IE G G G G G ?_);intro a2 a3 a4;refine gs ?_;refine gs ?_;refine bD G G Hw G h2 (go ?_);refine aG ?_;obtain ⟨ab,ak,al,hm⟩:=dO hm;refine mA (fun n H' M' L'=>∃ (a1:Nat) (a5:List ByteArray),(nodes).drop a1=a5∧a5.length=n∧ab a1 a5 ()=some r∧H.le H'∧.obj b0 (.map a2 a3)::.obj aa (.cells [.map (some b0),v0].toArray 77 (0,0))::M=M'∧[(2,v1),(3,.pointer (some ⟨aa,0,none⟩)),(21,v1),(22,.int .i64 ((nodes.length:Int))),(23,.int .i64 ((a1:Int)))]=L') _ ⟨0,_,G,G,hm,(Hg _),G,G⟩ ?_;rintro _ b2 _ _ ⟨a1,a5,ac,rfl,hm,a0,rfl,rfl⟩;refine gs ?_;refine gs ?_;refine bS G (fun a8=>?_) (fun a8=>?_);obtain ⟨b3,ad,rfl,a9,am⟩:=iE ac a8;have hm:=(ak _ _ _ _).symm.trans hm
 generalize an:ab (a1+1) ad=b4 at hm;unfold fP at hm;refine gs ?_;refine aG ?_;refine gs ?_;obtain ⟨_,rfl,ao⟩:=(h2).elem a9;refine aY G G Hw Ik G (h2.mono a0) G (HF _) a9 (aJ G G IX G (cD.one (ao.mono a0) 0 G).at (gs ?_));refine fi 1 Mm G JP G ?_;refine lo Jy G (.tail _ (.head _)) G (go ?_);obtain ⟨b5,ap,hm⟩:=bind_some hm;refine aF call14 G G G (fun w ht=>(dF (hm:=ap) (h1.mono a0) ht :)) ?_;rintro _ _ _ ⟨rfl,rfl,rfl⟩;refine nQ G G G G (go ?_);refine cd hm G (fun aq hm=>?_) (fun aq hm=>?_);refine gs ?_;refine go ?_;obtain rfl:=Hc hm;refine aU (.cons_cons _ (.cons _ (.refl _))) ?_;exact cL G G ⟨a0,a2,a3,v0,G,G,a4,(h1.mono a0)⟩;refine eP (aH (aP ?_));refine gj ?_;exact kj (b_ (Hq _) ⟨a1+1,ad,am,G,((HN an _).trans hm),a0,G,G⟩) ⟨G,G,G,G,(HH (fun z=>some (Value.int .i64 z)) (cR a9 ((h2.mono a0)).dT)),Hh⟩
 obtain rfl:=iD ac a8;have hm:=(al _ _).symm.trans hm;refine gs ?_;refine gs ?_;cases a6:(decide ((nodes.length:Int)=2));have hm:=gV a6 hm;refine pw fm 10 [ph v1,ph (.int .i64 ((nodes.length:Int))),ph (.bool (false)),ph (.bool (false)),ph undef,ph undef,ph undef,ph undef,ph undef,ph undef] ⟨om,?_,?_,om,om,om,om,om,om,om,Hh⟩ ?_;rintro HX hX X Rest hR _ _ ⟨rfl,rfl⟩ hU hUp;refine bD G G Hw G ((h2.mono a0).mono hX) ?_;exact o0 ⟨G,G⟩;rintro HX hX X Rest hR _ _ ⟨rfl,rfl⟩ hU hUp;refine wo ?_;exact o0 ⟨G,(by first | rfl | (rw [a6]; try rfl))⟩
 intro b6 ae;refine dz ?_;refine go ?_;refine cF G (gs ?_);refine go ?_;obtain rfl:=Hc hm;refine aU (.cons_cons _ (.cons _ (.refl _))) ?_;exact cL G G ⟨(Hf a0 ae),a2,a3,v0,G,G,a4,((h1.mono a0).mono ae)⟩;have hm:=gW a6 hm;obtain ⟨ar,au,af,hm⟩:=aD hm;obtain ⟨_,rfl,av⟩:=(h2).elem af;obtain ⟨aw,ax,ag,hm⟩:=aD hm;obtain ⟨_,rfl,ay⟩:=(h2).elem ag;refine pw fm 10 [ph v1,ph (.int .i64 ((nodes.length:Int))),ph (.bool (true)),ph (.bool (true)),ph v1,ph (.pointer (some ((Value.base (v1)).add ((0:Int).toNat*1)))),ph (.string (ar)),ph v1,ph (.pointer (some ((Value.base (v1)).add ((1:Int).toNat*1)))),ph (.string (aw))] ⟨om,?_,?_,om,om,?_,?_,om,?_,?_,Hh⟩ ?_;rintro HX hX X Rest hR _ _ ⟨rfl,rfl⟩ hU hUp;refine bD G G Hw G ((h2.mono a0).mono hX) ?_;exact o0 ⟨G,G⟩;rintro HX hX X Rest hR _ _ ⟨rfl,rfl⟩ hU hUp;refine wo ?_
 exact o0 ⟨G,(by first | rfl | (rw [a6]; try rfl))⟩
 rintro HX hX X Rest hR _ _ ⟨rfl,rfl⟩ _ _ ⟨rfl,rfl⟩ hU hUp;refine aY G G Hw Ik G ((h2.mono a0).mono hX) G au af ?_;exact o0 ⟨G,G⟩;rintro HX hX X Rest hR _ _ ⟨rfl,rfl⟩ _ _ ⟨rfl,rfl⟩ hU hUp;refine aJ G G IX G (cD.one ((av.mono a0).mono hX) 0 G).at ?_;exact o0 ⟨G,G⟩;rintro HX hX X Rest hR _ _ ⟨rfl,rfl⟩ _ _ ⟨rfl,rfl⟩ hU hUp;refine aY G G Hw Ik G ((h2.mono a0).mono hX) G ax ag ?_;exact o0 ⟨G,G⟩;rintro HX hX X Rest hR _ _ ⟨rfl,rfl⟩ _ _ ⟨rfl,rfl⟩ hU hUp;refine aJ G G IX G (cD.one ((ay.mono a0).mono hX) 0 G).at ?_;exact o0 ⟨G,G⟩;intro b7 a7;refine dz ?_;refine go ?_;refine cd hm G (fun az hm=>?_) (fun az hm=>?_);refine gs ?_;refine go ?_;obtain rfl:=Hc hm;refine aU (.cons_cons _ (.cons _ (.refl _))) ?_;exact cL G G ⟨(Hf a0 a7),a2,a3,v0,G,G,a4,((h1.mono a0).mono a7)⟩;refine gs ?_;refine go ?_;obtain rfl:=Hc hm
 refine aU (.cons_cons _ (.cons _ (.refl _))) ?_;exact cL G G ⟨(Hf a0 a7),a2,a3,v0,G,G,a4,((h1.mono a0).mono a7)⟩
theorem iQ {B:Nat}{w0 w:World}[cW B w0] {H:Hp}{M:List bV}{p0_n p1_low p2_high:Int}{r:Bool} (hm:bM p0_n p1_low p2_high=r) (ht:St B w0 H (M) w):
    Calls prog 65 [.int .i64 (p0_n),.int .i64 (p1_low),.int .i64 (p2_high)].toArray w (fS B w0 fun H' M' v=>H=H'∧M=M'∧.bool (r)=v):=by
 unfold bM at hm;refine enter func65 G G G ht (gs ?_);refine bL (fun H' M' L'=>H=H'∧M=M'∧[(6,.bool ((decide (p0_n<p1_low)) || (decide (p2_high<p0_n))))]=L') ?_ (fun a0=>?_);rintro _ _ _ ⟨rfl,rfl,rfl⟩;refine go ?_;obtain rfl:=hm;refine aZ (Hg _) ?_;exact cL G G ⟨G,G,G⟩;refine go ?_;cases a1:(decide (p0_n<p1_low));refine gj ?_;exact kj (a0 _ _ _ ⟨G,G,G⟩) ⟨(by exact sb (by first | rfl | simp only [a1,oh])),Hh⟩
 refine gj ?_;exact kj (a0 _ _ _ ⟨G,G,G⟩) ⟨(by exact sb (by first | rfl | simp only [a1,oh])),Hh⟩
theorem sU {B:Nat}{w0 w:World}[cW B w0] {H:Hp}{M:List bV}{p0_b:bH}{r:Int} (hm:gZ p0_b=r) (ht:St B w0 H (M) w):
    Calls prog 34 [.agg [.string (p0_b.Name),.string (p0_b.jB),.string (p0_b.To),.int .i64 (p0_b.X),.int .i64 (p0_b.rL),.int .i64 (p0_b.Shift),.int .i64 (p0_b.kr),.int .i64 (p0_b.mF),.int .i64 (p0_b.qc)].toArray].toArray w (fS B w0 fun H' M' v=>H=H'∧M=M'∧.int .i64 (r)=v):=by
 unfold gZ at hm;refine enter func34 G G G ht (gs ?_);refine dY (cs:=[.string (p0_b.Name),.string (p0_b.jB),.string (p0_b.To),.int .i64 (p0_b.X),.int .i64 (p0_b.rL),.int .i64 (p0_b.Shift),.int .i64 (p0_b.kr),.int .i64 (p0_b.mF),.int .i64 (p0_b.qc)]) G G G G (fun a7=>?_);refine gs ?_;refine bL (fun H' M' L'=>H=H'∧M=M'∧[(32,.bool ((((((bM p0_b.X 1 10000) || (bM p0_b.rL 500 1500)) || (bM p0_b.Shift (-1000) 1000)) || (bM p0_b.kr 0 100000)) || (bM p0_b.mF p0_b.kr 100000)) || (bM p0_b.qc 0 200000)))]=L') ?_ (fun a0=>?_);rintro _ _ _ ⟨rfl,rfl,rfl⟩;refine cd hm G (fun a6 hm=>?_) (fun a6 hm=>?_);refine gs ?_;refine go ?_;obtain rfl:=hm;refine aZ (Hg _) ?_;exact cL G G ⟨G,G,G⟩;refine gs ?_;refine go ?_;obtain rfl:=hm;refine aZ (Hg _) ?_;exact cL G G ⟨G,G,G⟩;refine go ?_;refine fi 3 IY G Hz G ?_;refine lo HY G (.head _) G ?_
 refine aF call65 G G G (fun w ht=>(iQ (hm:=(G:bM p0_b.X 1 10000=_))  ht :)) ?_;rintro _ _ _ ⟨rfl,rfl,rfl⟩;refine go ?_;cases a1:((bM p0_b.X 1 10000));refine fi 4 IY G Hz G ?_;refine lo HY G (.head _) G ?_;refine aF call65 G G G (fun w ht=>(iQ (hm:=(G:bM p0_b.rL 500 1500=_))  ht :)) ?_;rintro _ _ _ ⟨rfl,rfl,rfl⟩;refine go ?_;cases a2:((bM p0_b.rL 500 1500));refine fi 5 IY G Hz G ?_;refine lo HY G (.head _) G ?_;refine aF call65 G G G (fun w ht=>(iQ (hm:=(G:bM p0_b.Shift (-1000) 1000=_))  ht :)) ?_;rintro _ _ _ ⟨rfl,rfl,rfl⟩;refine go ?_;cases a3:((bM p0_b.Shift (-1000) 1000));refine fi 6 IY G Hz G ?_;refine lo HY G (.head _) G ?_;refine aF call65 G G G (fun w ht=>(iQ (hm:=(G:bM p0_b.kr 0 100000=_))  ht :)) ?_;rintro _ _ _ ⟨rfl,rfl,rfl⟩;refine go ?_;cases a4:((bM p0_b.kr 0 100000))
 refine fi 7 IY G Hz G ?_;refine lo HY G (.head _) G ?_;refine fi 6 IY G Hz G ?_;refine lo HY G (.head _) G ?_;refine aF call65 G G G (fun w ht=>(iQ (hm:=(G:bM p0_b.mF p0_b.kr 100000=_))  ht :)) ?_;rintro _ _ _ ⟨rfl,rfl,rfl⟩;refine go ?_;cases a5:((bM p0_b.mF p0_b.kr 100000));refine fi 8 IY G Hz G ?_;refine lo HY G (.head _) G ?_;refine aF call65 G G G (fun w ht=>(iQ (hm:=(G:bM p0_b.qc 0 200000=_))  ht :)) ?_;rintro _ _ _ ⟨rfl,rfl,rfl⟩;refine gj ?_;refine aU (.cons _ (.refl _)) ?_;exact kj (a0 _ _ _ ⟨G,G,G⟩) ⟨(by exact sb (by first | rfl | simp only [a1,a2,a3,a4,a5,oh])),Hh⟩
 refine gj ?_;refine aU (.cons _ (.refl _)) ?_;exact kj (a0 _ _ _ ⟨G,G,G⟩) ⟨(by exact sb (by first | rfl | simp only [a1,a2,a3,a4,a5,oh])),Hh⟩
 refine gj ?_;refine aU (.cons _ (.refl _)) ?_;exact kj (a0 _ _ _ ⟨G,G,G⟩) ⟨(by exact sb (by first | rfl | simp only [a1,a2,a3,a4,oh])),Hh⟩
 refine gj ?_;refine aU (.cons _ (.refl _)) ?_;exact kj (a0 _ _ _ ⟨G,G,G⟩) ⟨(by exact sb (by first | rfl | simp only [a1,a2,a3,oh])),Hh⟩
 refine gj ?_;refine aU (.cons _ (.refl _)) ?_;exact kj (a0 _ _ _ ⟨G,G,G⟩) ⟨(by exact sb (by first | rfl | simp only [a1,a2,oh])),Hh⟩
 refine gj ?_;refine aU (.cons _ (.refl _)) ?_;exact kj (a0 _ _ _ ⟨G,G,G⟩) ⟨(by exact sb (by first | rfl | simp only [a1,oh])),Hh⟩
theorem gR {B:Nat}{w0 w:World}[cW B w0] {H:Hp}{M:List bV}{p0_n:Int}{r:Bool} (hm:aX p0_n=r) (ht:St B w0 H (M) w):
    Calls prog 66 [.int .i64 (p0_n)].toArray w (fS B w0 fun H' M' v=>H=H'∧M=M'∧.bool (r)=v):=by
 unfold aX at hm;refine enter func66 G G G ht (gs ?_);refine gs ?_;refine aF call65 G G G (fun w ht=>(iQ (hm:=(G:bM p0_n 0 100000=_))  ht :)) ?_;rintro _ _ _ ⟨rfl,rfl,rfl⟩;refine nQ G G G G (go ?_);obtain rfl:=hm;refine aZ (Hg _) ?_;exact cL G G ⟨G,G,G⟩
theorem qD {B:Nat}{w0 w:World}[cW B w0] {H:Hp}{M:List bV}{p0_c:aS}{p1_n:aC}{b0:Nat}{es0:Array MapEntry}{c0:Nat}{v0 v1 v2 v3 v4 v5 v6:Value}{r:Int×aS} (hm:e_ p0_c p1_n=some r) (h0:ot es0 c0 p0_c.seen) (h1:aI H v0 p0_c.nodes) (h2:aI H v1 p1_n.bJ) (h3:aI H v2 p1_n.bF) (h4:aI H v3 p1_n.aN) (h5:aI H v4 p1_n.dM) (h6:aI H v5 p1_n.bK) (h7:aI H v6 p1_n.bQ) (ht:St B w0 H (.obj b0 (.map es0 c0)::M) w):
    Calls prog 35 [.agg [.map (some b0),v0].toArray,.agg [v1,v2,v3,v4,v5,v6].toArray].toArray w (fS B w0 fun H' M' v=>H.le H'∧∃ qes0:Array MapEntry,∃ qc0:Nat,∃ qv0:Value,.obj b0 (.map qes0 qc0)::M=M'∧.int .i64 (r.1)=v∧ot qes0 qc0 r.2.seen∧aI H' qv0 r.2.nodes):=by
 unfold e_ at hm;refine enter func35 G G G ht (gs ?_);refine dY (cs:=[.map (some b0),v0]) G G G G (fun a6=>?_);refine dY (cs:=[v1,v2,v3,v4,v5,v6]) G G G G (fun a9=>?_);refine gs ?_;refine gs ?_;refine fi 3 Hy G Lh G ?_;refine lo Mg G (.head _) G ?_;refine bD G G Jn G h5 (go ?_);refine aG ?_;obtain ⟨bf,bv,bw,hm⟩:=dO hm;refine mA (fun n H' M' L'=>∃ (a7:Nat) (ah:List cP),∃ ao:(List (ByteArray×Bool)),∃ ap:Array MapEntry,∃ aq:Nat,(p1_n.dM).drop a7=ah∧ah.length=n∧bf a7 ah ao=some r∧ot ap aq ao∧H.le H'∧.obj a9 (.cells [v1,v2,v3,v4,v5,v6].toArray 29 (0,0))::.obj a6 (.cells [.map (some b0),v0].toArray 77 (0,0))::.obj b0 (.map ap aq)::M=M'∧[(2,.pointer (some ⟨a6,0,none⟩)),(3,.pointer (some ⟨a9,0,none⟩)),(15,v4),(16,.int .i64 ((p1_n.dM.length:Int))),(17,.int .i64 ((a7:Int)))]=L') _ ⟨0,_,_,_,_,G,G,hm,h0,(Hg _),G,G⟩ ?_
 rintro _ bx _ _ ⟨a7,ah,ao,ap,aq,bg,rfl,hm,bh,a0,rfl,rfl⟩;refine gs ?_;refine gs ?_;refine bS G (fun ar=>?_) (fun ar=>?_);obtain ⟨a1,bi,rfl,au,bz⟩:=iE bg ar;have hm:=(bv _ _ _ _).symm.trans hm;generalize c1:bf (a7+1) bi=cv at hm;unfold gG at hm;refine gs ?_;refine aG ?_;refine gs ?_;obtain ⟨_,⟨rfl⟩,c2⟩:=(h5).elem au;refine aY G G Jn Ke G (h5.mono a0) G (HF _) au (aT G G isAgg117 Ke G (c2.mono a0).at G ?_);refine bO (cs:=[.string (⟨#[]⟩),.string (⟨#[]⟩),.int .i64 (0),.int .i64 (0),.int .i64 (0)]) G G LO G (fun cw=>?_);refine aM (cs:=[.string (a1.Name),.string (a1.Node),.int .i64 (a1.dI),.int .i64 (a1.g_),.int .i64 (a1.tz)]) (out:=[.string (a1.Name),.string (a1.Node),.int .i64 (a1.dI),.int .i64 (a1.g_),.int .i64 (a1.tz)]) G Ke G G G G G (Hb G (Hb G (Hb G (Hb G (Hb G Hr))))) (aQ G) (gs ?_)
 refine gs ?_;refine la isAgg77 L8 G (.tail _ (.tail _ (.head _))) G ?_;refine fi 0 I5 G Ik G ?_;refine lo IX G (.head _) G ?_;refine fi 1 I5 G Ik G ?_;refine lo IX G (.head _) G ?_;refine eD (α:=ByteArray) (css:=[[.string (a1.Node)]]) (zs:=[.string (⟨#[]⟩)]) (out:=[.string (a1.Node)]) (ys:=[a1.Node]) G G G ⟨G,Hh⟩ Hw Ik G JJ (by kernel_rfl) G G G G ⟨[.string (a1.Node)],[],G,G,G⟩ G ?_
 intro cx cy c3;refine dR (c3).rd G (fun cz aa c4=>?_);refine a_ (.trans (.cons _ (.cons _ (.swap _ _ _))) (.trans (.cons _ (.swap _ _ _)) (.swap _ _ _))) ?_;obtain ⟨d0,c5,hm⟩:=bind_some hm;refine aF call33 G G G (fun w ht=>(eS (hm:=c5) bh ((h1.mono a0).mono aa) c4 ht :)) ?_;rintro _ c6 _ ⟨ae,av,aw,d1,rfl,rfl,ax,d2⟩;refine gs ?_;refine cd hm G (fun ai hm=>?_) (fun ai hm=>?_);refine gs ?_;refine go ?_;obtain rfl:=Hc hm;refine aU (.cons_cons _ (.cons _ (.cons _ (.cons _ (.refl _))))) ?_;exact cL G G ⟨(Hf (Hf a0 aa) ae),av,aw,v0,G,G,ax,(((h1.mono a0).mono aa).mono ae)⟩;refine go ?_;refine bL (fun H' M' L'=>c6=H'∧.obj b0 (.map av aw)::.obj a9 (.cells [v1,v2,v3,v4,v5,v6].toArray 29 (0,0))::.obj a6 (.cells [.map (some b0),v0].toArray 77 (0,0))::M=M'∧[(2,.pointer (some ⟨a6,0,none⟩)),(3,.pointer (some ⟨a9,0,none⟩)),(15,v4),(16,.int .i64 ((p1_n.dM.length:Int))),(17,.int .i64 ((a7:Int))),(47,.bool (((!(aX a1.dI)) || (bM a1.g_ a1.dI 100000)) || (!(aX a1.tz))))]=L') ?_ (fun ay=>?_)
 rintro _ _ _ ⟨rfl,rfl,rfl⟩;refine cd hm G (fun c7 hm=>?_) (fun c7 hm=>?_);refine gs ?_;refine go ?_;obtain rfl:=Hc hm;refine aU (.cons_cons _ (.cons _ (.cons _ (.refl _)))) ?_;exact cL G G ⟨(Hf (Hf a0 aa) ae),av,aw,v0,G,G,ax,(((h1.mono a0).mono aa).mono ae)⟩;refine eP (aH (aP ?_));refine gj ?_;exact kp (b_ (Hq _) ⟨a7+1,bi,_,_,_,bz,G,((HN c1 _).trans hm),ax,(Hf (Hf a0 aa) ae),G,G⟩) (.trans (.swap _ _ _) (.cons _ (.swap _ _ _))) ⟨G,G,G,G,(HH (fun z=>some (Value.int .i64 z)) (cR au ((h5.mono a0)).dT)),Hh⟩;refine go ?_;refine fi 2 I5 G Hz G ?_;refine lo HY G (.tail _ (.head _)) G ?_;refine aF call66 G G G (fun w ht=>(gR (hm:=(G:aX a1.dI=_))  ht :)) ?_;rintro _ _ _ ⟨rfl,rfl,rfl⟩;refine nQ G G G G (go ?_);cases az:(aX a1.dI);refine gj ?_;refine aU (.cons_cons _ (.cons _ (.refl _))) ?_
 exact kj (ay _ _ _ ⟨G,G,G⟩) ⟨G,G,G,G,G,(by exact sb (by first | rfl | simp only [ai,az,oh])),Hh⟩
 refine fi 3 I5 G Hz G ?_;refine lo HY G (.tail _ (.head _)) G ?_;refine fi 2 I5 G Hz G ?_;refine lo HY G (.tail _ (.head _)) G ?_;refine aF call65 G G G (fun w ht=>(iQ (hm:=(G:bM a1.g_ a1.dI 100000=_))  ht :)) ?_;rintro _ _ _ ⟨rfl,rfl,rfl⟩;refine go ?_;cases bj:((bM a1.g_ a1.dI 100000));refine fi 4 I5 G Hz G ?_;refine lo HY G (.tail _ (.head _)) G ?_;refine aF call66 G G G (fun w ht=>(gR (hm:=(G:aX a1.tz=_))  ht :)) ?_;rintro _ _ _ ⟨rfl,rfl,rfl⟩;refine nQ G G G G (gj ?_);refine aU (.cons_cons _ (.cons _ (.refl _))) ?_;exact kj (ay _ _ _ ⟨G,G,G⟩) ⟨G,G,G,G,G,(by exact sb (by first | rfl | simp only [ai,az,bj,oh])),Hh⟩
 refine gj ?_;refine aU (.cons_cons _ (.cons _ (.refl _))) ?_;exact kj (ay _ _ _ ⟨G,G,G⟩) ⟨G,G,G,G,G,(by exact sb (by first | rfl | simp only [ai,az,bj,oh])),Hh⟩
 obtain rfl:=iD bg ar;have hm:=(bw _ _).symm.trans hm;refine gs ?_;refine gs ?_;refine fi 4 Hy G JL G ?_;refine lo KF G (.head _) G ?_;refine bD G G Ip G (h6.mono a0) (go ?_);refine aG ?_;obtain ⟨bk,c8,c9,hm⟩:=dO hm;refine mA (fun n H' M' L'=>∃ (ab:Nat) (aj:List aK),∃ b1:(List (ByteArray×Bool)),∃ b2:Array MapEntry,∃ b3:Nat,(p1_n.bK).drop ab=aj∧aj.length=n∧bk ab aj b1=some r∧ot b2 b3 b1∧bx.le H'∧.obj a9 (.cells [v1,v2,v3,v4,v5,v6].toArray 29 (0,0))::.obj a6 (.cells [.map (some b0),v0].toArray 77 (0,0))::.obj b0 (.map b2 b3)::M=M'∧[(2,.pointer (some ⟨a6,0,none⟩)),(3,.pointer (some ⟨a9,0,none⟩)),(50,v5),(51,.int .i64 ((p1_n.bK.length:Int))),(52,.int .i64 ((ab:Int)))]=L') _ ⟨0,_,_,_,_,G,G,hm,bh,(Hg _),G,G⟩ ?_;rintro _ ca _ _ ⟨ab,aj,b1,b2,b3,bl,rfl,hm,bm,a3,rfl,rfl⟩
 refine gs ?_;refine gs ?_;refine bS G (fun b4=>?_) (fun b4=>?_);obtain ⟨a4,bn,rfl,b5,cb⟩:=iE bl b4;have hm:=(c8 _ _ _ _).symm.trans hm;generalize cc:bk (ab+1) bn=d3 at hm;unfold gH at hm;refine gs ?_;refine aG ?_;refine gs ?_;obtain ⟨_,⟨rfl⟩,ce⟩:=(h6).elem b5;refine aY G G Ip I7 G ((h6.mono a0).mono a3) G (HF _) b5 (aT G G Ly I7 G ((ce.mono a0).mono a3).at G ?_);refine bO (cs:=[.string (⟨#[]⟩),.string (⟨#[]⟩),.int .i64 (0)]) G G KL G (fun d4=>?_);refine aM (cs:=[.string (a4.Name),.string (a4.Node),.int .i64 (a4.bN)]) (out:=[.string (a4.Name),.string (a4.Node),.int .i64 (a4.bN)]) G I7 G G G G G (Hb G (Hb G (Hb G Hr))) (aQ G) (gs ?_);refine gs ?_;refine la isAgg77 L8 G (.tail _ (.tail _ (.head _))) G ?_;refine fi 0 Jo G Ik G ?_;refine lo IX G (.head _) G ?_
 refine fi 1 Jo G Ik G ?_;refine lo IX G (.head _) G ?_;refine eD (α:=ByteArray) (css:=[[.string (a4.Node)]]) (zs:=[.string (⟨#[]⟩)]) (out:=[.string (a4.Node)]) (ys:=[a4.Node]) G G G ⟨G,Hh⟩ Hw Ik G JJ (by kernel_rfl) G G G G ⟨[.string (a4.Node)],[],G,G,G⟩ G ?_
 intro d5 d6 cf;refine dR (cf).rd G (fun d7 ac cg=>?_);refine a_ (.trans (.cons _ (.cons _ (.swap _ _ _))) (.trans (.cons _ (.swap _ _ _)) (.swap _ _ _))) ?_;obtain ⟨d8,ch,hm⟩:=bind_some hm;refine aF call33 G G G (fun w ht=>(eS (hm:=ch) bm (((h1.mono a0).mono a3).mono ac) cg ht :)) ?_;rintro _ d9 _ ⟨af,bo,bp,da,rfl,rfl,b6,db⟩;refine gs ?_;refine cd hm G (fun ci hm=>?_) (fun ci hm=>?_);refine gs ?_;refine go ?_;obtain rfl:=Hc hm;refine aU (.cons_cons _ (.cons _ (.cons _ (.cons _ (.refl _))))) ?_;exact cL G G ⟨(Hf (Hf (Hf a0 a3) ac) af),bo,bp,v0,G,G,b6,((((h1.mono a0).mono a3).mono ac).mono af)⟩;refine gs ?_;refine fi 2 Jo G Hz G ?_;refine lo HY G (.tail _ (.head _)) G ?_;refine aF call66 G G G (fun w ht=>(gR (hm:=(G:aX a4.bN=_))  ht :)) ?_;rintro _ _ _ ⟨rfl,rfl,rfl⟩;refine nQ G G G G (go ?_)
 refine cd hm G (fun cj hm=>?_) (fun cj hm=>?_);refine gs ?_;refine go ?_;obtain rfl:=Hc hm;refine aU (.cons_cons _ (.cons _ (.cons _ (.cons _ (.refl _))))) ?_;exact cL G G ⟨(Hf (Hf (Hf a0 a3) ac) af),bo,bp,v0,G,G,b6,((((h1.mono a0).mono a3).mono ac).mono af)⟩;refine eP (aH (aP ?_));refine gj ?_;refine aU (.cons_cons _ (.cons _ (.refl _))) ?_;exact kp (b_ (Hq _) ⟨ab+1,bn,_,_,_,cb,G,((HN cc _).trans hm),b6,(Hf (Hf a3 ac) af),G,G⟩) (.trans (.swap _ _ _) (.cons _ (.swap _ _ _))) ⟨G,G,G,G,(HH (fun z=>some (Value.int .i64 z)) (cR b5 (((h6.mono a0).mono a3)).dT)),Hh⟩;obtain rfl:=iD bl b4;have hm:=(c9 _ _).symm.trans hm;refine gs ?_;refine gs ?_;refine fi 5 Hy G sizeOf27 G ?_;refine lo isAgg27 G (.head _) G ?_;refine bD G G Kc G ((h7.mono a0).mono a3) (go ?_)
 refine aG (oP (.cons _ (.refl _)) ?_);obtain ⟨bq,ck,cl,hm⟩:=dO hm;refine mA (fun n H' M' L'=>∃ (a8:Nat) (ak:List dC),∃ b7:(List (ByteArray×Bool)),∃ al:Array MapEntry,∃ am:Nat,(p1_n.bQ).drop a8=ak∧ak.length=n∧bq a8 ak b7=some r∧ot al am b7∧ca.le H'∧.obj a6 (.cells [.map (some b0),v0].toArray 77 (0,0))::.obj b0 (.map al am)::M=M'∧[(2,.pointer (some ⟨a6,0,none⟩)),(72,v6),(73,.int .i64 ((p1_n.bQ.length:Int))),(74,.int .i64 ((a8:Int)))]=L') _ ⟨0,_,_,_,_,G,G,hm,bm,(Hg _),G,G⟩ ?_;rintro _ dc _ _ ⟨a8,ak,b7,al,am,br,rfl,hm,bs,a5,rfl,rfl⟩;refine gs ?_;refine gs ?_;refine bS G (fun b8=>?_) (fun b8=>?_);obtain ⟨a2,bt,rfl,b9,cm⟩:=iE br b8;have hm:=(ck _ _ _ _).symm.trans hm;generalize cn:bq (a8+1) bt=dd at hm;unfold gI at hm;refine gs ?_;refine aG ?_;refine gs ?_;obtain ⟨_,⟨rfl⟩,co⟩:=(h7).elem b9
 refine aY G G Kc Mi G (((h7.mono a0).mono a3).mono a5) G (HF _) b9 (aT G G isAgg121 Mi G (((co.mono a0).mono a3).mono a5).at G ?_);refine bO (cs:=[.string (⟨#[]⟩),.string (⟨#[]⟩),.int .i64 (0),.int .i64 (0),.int .i64 (0)]) G G zeroValue121 G (fun de=>?_);refine aM (cs:=[.string (a2.Name),.string (a2.Node),.int .i64 (a2.lF),.int .i64 (a2.Discharge),.int .i64 (a2.nF)]) (out:=[.string (a2.Name),.string (a2.Node),.int .i64 (a2.lF),.int .i64 (a2.Discharge),.int .i64 (a2.nF)]) G Mi G G G G G (Hb G (Hb G (Hb G (Hb G (Hb G Hr))))) (aQ G) (gs ?_);refine gs ?_;refine la isAgg77 L8 G (.tail _ (.head _)) G ?_;refine fi 0 J7 G Ik G ?_;refine lo IX G (.head _) G ?_;refine fi 1 J7 G Ik G ?_;refine lo IX G (.head _) G ?_;refine eD (α:=ByteArray) (css:=[[.string (a2.Node)]]) (zs:=[.string (⟨#[]⟩)]) (out:=[.string (a2.Node)]) (ys:=[a2.Node]) G G G ⟨G,Hh⟩ Hw Ik G JJ (by kernel_rfl) G G G G ⟨[.string (a2.Node)],[],G,G,G⟩ G ?_
 intro df dg cp;refine dR (cp).rd G (fun dh ad cq=>?_);refine a_ (.trans (.cons _ (.swap _ _ _)) (.swap _ _ _)) ?_;obtain ⟨di,cr,hm⟩:=bind_some hm;refine aF call33 G G G (fun w ht=>(eS (hm:=cr) bs ((((h1.mono a0).mono a3).mono a5).mono ad) cq ht :)) ?_;rintro _ ct _ ⟨ag,ba,bb,dj,rfl,rfl,bc,dk⟩;refine gs ?_;refine cd hm G (fun an hm=>?_) (fun an hm=>?_);refine gs ?_;refine go ?_;obtain rfl:=Hc hm;refine aU (.cons_cons _ (.cons _ (.cons _ (.refl _)))) ?_;exact cL G G ⟨(Hf (Hf (Hf (Hf a0 a3) a5) ad) ag),ba,bb,v0,G,G,bc,(((((h1.mono a0).mono a3).mono a5).mono ad).mono ag)⟩;refine go ?_;refine bL (fun H' M' L'=>ct=H'∧.obj b0 (.map ba bb)::.obj a6 (.cells [.map (some b0),v0].toArray 77 (0,0))::M=M'∧[(2,.pointer (some ⟨a6,0,none⟩)),(72,v6),(73,.int .i64 ((p1_n.bQ.length:Int))),(74,.int .i64 ((a8:Int))),(103,.bool (((!(aX a2.lF)) || (!(aX a2.Discharge))) || (!(aX a2.nF))))]=L') ?_ (fun bd=>?_)
 rintro _ _ _ ⟨rfl,rfl,rfl⟩;refine cd hm G (fun cu hm=>?_) (fun cu hm=>?_);refine gs ?_;refine go ?_;obtain rfl:=Hc hm;refine aU (.cons_cons _ (.cons _ (.refl _))) ?_;exact cL G G ⟨(Hf (Hf (Hf (Hf a0 a3) a5) ad) ag),ba,bb,v0,G,G,bc,(((((h1.mono a0).mono a3).mono a5).mono ad).mono ag)⟩;refine eP (aH (aP ?_));refine gj ?_;exact kp (b_ (Hq _) ⟨a8+1,bt,_,_,_,cm,G,((HN cn _).trans hm),bc,(Hf (Hf a5 ad) ag),G,G⟩) (.swap _ _ _) ⟨G,G,G,(HH (fun z=>some (Value.int .i64 z)) (cR b9 ((((h7.mono a0).mono a3).mono a5)).dT)),Hh⟩;refine go ?_;refine fi 2 J7 G Hz G ?_;refine lo HY G (.tail _ (.head _)) G ?_;refine aF call66 G G G (fun w ht=>(gR (hm:=(G:aX a2.lF=_))  ht :)) ?_;rintro _ _ _ ⟨rfl,rfl,rfl⟩;refine nQ G G G G (go ?_);cases be:(aX a2.lF)
 refine gj ?_;refine aU (.cons_cons _ (.cons _ (.refl _))) ?_;exact kj (bd _ _ _ ⟨G,G,G⟩) ⟨G,G,G,G,(by exact sb (by first | rfl | simp only [an,be,oh])),Hh⟩
 refine fi 3 J7 G Hz G ?_;refine lo HY G (.tail _ (.head _)) G ?_;refine aF call66 G G G (fun w ht=>(gR (hm:=(G:aX a2.Discharge=_))  ht :)) ?_;rintro _ _ _ ⟨rfl,rfl,rfl⟩;refine nQ G G G G (go ?_);cases bu:(aX a2.Discharge);refine gj ?_;refine aU (.cons_cons _ (.cons _ (.refl _))) ?_;exact kj (bd _ _ _ ⟨G,G,G⟩) ⟨G,G,G,G,(by exact sb (by first | rfl | simp only [an,be,bu,oh])),Hh⟩
 refine fi 4 J7 G Hz G ?_;refine lo HY G (.tail _ (.head _)) G ?_;refine aF call66 G G G (fun w ht=>(gR (hm:=(G:aX a2.nF=_))  ht :)) ?_;rintro _ _ _ ⟨rfl,rfl,rfl⟩;refine nQ G G G G (gj ?_);refine aU (.cons_cons _ (.cons _ (.refl _))) ?_;exact kj (bd _ _ _ ⟨G,G,G⟩) ⟨G,G,G,G,(by exact sb (by first | rfl | simp only [an,be,bu,oh])),Hh⟩
 obtain rfl:=iD br b8;have hm:=(cl _ _).symm.trans hm;refine gs ?_;refine go ?_;obtain rfl:=Hc hm;refine aU (.cons _ (.refl _)) ?_;exact cL G G ⟨(Hf (Hf a0 a3) a5),al,am,v0,G,G,bs,(((h1.mono a0).mono a3).mono a5)⟩
theorem jM {B:Nat}{w0 w:World}[cW B w0] {H:Hp}{M:List bV}{p0_n:aC}{v0 v1 v2 v3 v4 v5:Value}{r:Int} (hm:cG p0_n=some r) (h0:aI H v0 p0_n.bJ) (h1:aI H v1 p0_n.bF) (h2:aI H v2 p0_n.aN) (h3:aI H v3 p0_n.dM) (h4:aI H v4 p0_n.bK) (h5:aI H v5 p0_n.bQ) (ht:St B w0 H (M) w):
    Calls prog 9 [.agg [v0,v1,v2,v3,v4,v5].toArray].toArray w (fS B w0 fun H' M' v=>H=H'∧M=M'∧.int .i64 (r)=v):=by
 unfold cG at hm;refine enter func9 G G G ht (gs ?_);refine dY (cs:=[v0,v1,v2,v3,v4,v5]) G G G G (fun a6=>?_);refine gs ?_;refine bL (fun H' M' L'=>H=H'∧.obj a6 (.cells [v0,v1,v2,v3,v4,v5].toArray 29 (0,0))::M=M'∧[(1,.pointer (some ⟨a6,0,none⟩)),(47,.bool ((((((decide (24<(p0_n.bJ.length:Int))) || (decide (32<(p0_n.bF.length:Int)))) || (decide (24<(p0_n.aN.length:Int)))) || (decide (10<(p0_n.dM.length:Int)))) || (decide (12<(p0_n.bK.length:Int)))) || (decide (4<(p0_n.bQ.length:Int)))))]=L') ?_ (fun a7=>?_);rintro _ _ _ ⟨rfl,rfl,rfl⟩;refine cd hm G (fun bi hm=>?_) (fun bi hm=>?_);refine gs ?_;refine go ?_;obtain rfl:=Hc hm;refine aU (.cons _ (.refl _)) (aZ (Hg _) ?_);exact cL G G ⟨G,G,G⟩;refine gs ?_;refine uf G G (fun a5=>?_);refine fi 0 Hy G JP G ?_;refine lo Jy G (.tail _ (.head _)) G ?_
 refine eR (css:=[[.map (some a5)],[v0]]) (zs:=[.map none,.slice none 0 0]) (out:=[.map (some a5),v0]) (places:=[(0,1),(1,1)]) G G G ⟨G,(aI.cells h0),Hh⟩ zeroValue77 G Mm (fun w=>by kernel_rfl) G ?_
 refine bO (cs:=[.map none,.slice none 0 0]) G G zeroValue77 G (fun a8=>?_);refine aM (cs:=[.map (some a5),v0]) (out:=[.map (some a5),v0]) G L8 G G G G G (Hb G (Hb (aI.cM h0) Hr)) (aQ G) (gs ?_);refine gs ?_;refine fi 0 Hy G JP G ?_;refine lo Jy G (.tail _ (.tail _ (.head _))) G ?_;refine bD G G Hw G h0 (go ?_);refine aG ?_;obtain ⟨b3,bj,bk,hm⟩:=dO hm;refine mA (fun n H' M' L'=>∃ (a9:Nat) (ae:List ByteArray),∃ aj:(List (ByteArray×Bool)),∃ ak:Array MapEntry,∃ al:Nat,(p0_n.bJ).drop a9=ae∧ae.length=n∧b3 a9 ae aj=some r∧ot ak al aj∧H.le H'∧.obj a8 (.cells [.map (some a5),v0].toArray 77 (0,0))::.obj a5 (.map ak al)::.obj a6 (.cells [v0,v1,v2,v3,v4,v5].toArray 29 (0,0))::M=M'∧[(1,.pointer (some ⟨a6,0,none⟩)),(3,.pointer (some ⟨a8,0,none⟩)),(53,v0),(54,.int .i64 ((p0_n.bJ.length:Int))),(55,.int .i64 ((a9:Int)))]=L') _ ⟨0,_,_,_,_,G,G,hm,(ot.nil (κ:=ByteArray) (ν:=Bool)),(Hg _),G,G⟩ ?_
 rintro _ bl _ _ ⟨a9,ae,aj,ak,al,b4,rfl,hm,b5,a1,rfl,rfl⟩;refine gs ?_;refine gs ?_;refine bS G (fun am=>?_) (fun am=>?_);obtain ⟨ci,b6,rfl,an,bm⟩:=iE b4 am;have hm:=(bj _ _ _ _).symm.trans hm;generalize bn:b3 (a9+1) b6=cj at hm;unfold kx at hm;refine gs ?_;refine aG ?_;refine gs ?_;obtain ⟨_,rfl,bo⟩:=(h0).elem an;refine aY G G Hw Ik G (h0.mono a1) G (HF _) an (aJ G G IX G (cD.one (bo.mono a1) 0 G).at (gs ?_));refine la isAgg77 L8 G (.head _) G (go ?_);refine a_ (.swap _ _ _) ?_;obtain ⟨ck,bp,hm⟩:=bind_some hm;refine aF call33 G G G (fun w ht=>(eS (hm:=bp) b5 (h0.mono a1) aI.nil ht :)) ?_;rintro _ cl _ ⟨b7,cm,cn,co,rfl,rfl,bq,cp⟩;refine gs ?_;refine cd hm G (fun br hm=>?_) (fun br hm=>?_);refine gs ?_;refine go ?_;obtain rfl:=Hc hm;refine aU (.cons _ (.cons _ (.cons _ (.refl _)))) (aZ (Hf a1 b7) ?_)
 exact cL G G ⟨G,G,G⟩;refine eP (aH (aP ?_));refine gj ?_;exact kp (b_ (Hq _) ⟨a9+1,b6,_,_,_,bm,G,((HN bn _).trans hm),bq,(Hf a1 b7),G,G⟩) (.swap _ _ _) ⟨G,G,G,G,(HH (fun z=>some (Value.int .i64 z)) (cR an ((h0.mono a1)).dT)),Hh⟩;obtain rfl:=iD b4 am;have hm:=(bk _ _).symm.trans hm;refine gs ?_;refine gs ?_;refine fi 1 Hy G sizeOf23 G ?_;refine lo isAgg23 G (.tail _ (.tail _ (.head _))) G ?_;refine bD G G Kz G (h1.mono a1) (go ?_);refine aG ?_;obtain ⟨b8,bs,bt,hm⟩:=dO hm;refine mA (fun n H' M' L'=>∃ (aa:Nat) (af:List cE),∃ ao:(List (ByteArray×Bool)),∃ ap:Array MapEntry,∃ aq:Nat,(p0_n.bF).drop aa=af∧af.length=n∧b8 aa af ao=some r∧ot ap aq ao∧bl.le H'∧.obj a8 (.cells [.map (some a5),v0].toArray 77 (0,0))::.obj a5 (.map ap aq)::.obj a6 (.cells [v0,v1,v2,v3,v4,v5].toArray 29 (0,0))::M=M'∧[(1,.pointer (some ⟨a6,0,none⟩)),(3,.pointer (some ⟨a8,0,none⟩)),(67,v1),(68,.int .i64 ((p0_n.bF.length:Int))),(69,.int .i64 ((aa:Int)))]=L') _ ⟨0,_,_,_,_,G,G,hm,b5,(Hg _),G,G⟩ ?_
 rintro _ bu _ _ ⟨aa,af,ao,ap,aq,b9,rfl,hm,ba,a2,rfl,rfl⟩;refine gs ?_;refine gs ?_;refine bS G (fun ar=>?_) (fun ar=>?_);obtain ⟨a3,bb,rfl,au,bv⟩:=iE b9 ar;have hm:=(bs _ _ _ _).symm.trans hm;generalize bw:b8 (aa+1) bb=cq at hm;unfold ky at hm;refine gs ?_;refine aG ?_;refine gs ?_;obtain ⟨_,⟨rfl⟩,bx⟩:=(h1).elem au;refine aY G G Kz L9 G ((h1.mono a1).mono a2) G (HF _) au (aT G G isAgg80 L9 G ((bx.mono a1).mono a2).at G ?_);refine bO (cs:=[.string (⟨#[]⟩),.string (⟨#[]⟩),.string (⟨#[]⟩),.bool (false),.bool (false)]) G G zeroValue80 G (fun cr=>?_);refine aM (cs:=[.string (a3.Name),.string (a3.A),.string (a3.B_),.bool (a3.sH),.bool (a3.Open)]) (out:=[.string (a3.Name),.string (a3.A),.string (a3.B_),.bool (a3.sH),.bool (a3.Open)]) G L9 G G G G G (Hb G (Hb G (Hb G (Hb G (Hb G Hr))))) (aQ G) (gs ?_)
 refine la isAgg77 L8 G (.tail _ (.head _)) G ?_;refine fi 0 KS G Ik G ?_;refine lo IX G (.head _) G ?_;refine fi 1 KS G Ik G ?_;refine lo IX G (.head _) G ?_;refine fi 2 KS G Ik G ?_;refine lo IX G (.head _) G ?_;refine eD (α:=ByteArray) (css:=[[.string (a3.A)],[.string (a3.B_)]]) (zs:=[.string (⟨#[]⟩),.string (⟨#[]⟩)]) (out:=[.string (a3.A),.string (a3.B_)]) (ys:=[a3.A,a3.B_]) G G G ⟨G,G,Hh⟩ Hw Ik G JJ (by kernel_rfl) G G G G ⟨[.string (a3.A)],[.string (a3.B_)],G,G,⟨[.string (a3.B_)],[],G,G,G⟩⟩ G ?_
 intro ct cu bz;refine dR (bz).rd G (fun cv av c0=>?_);refine a_ (.trans (.cons _ (.swap _ _ _)) (.swap _ _ _)) ?_;obtain ⟨cw,c1,hm⟩:=bind_some hm;refine aF call33 G G G (fun w ht=>(eS (hm:=c1) ba (((h0.mono a1).mono a2).mono av) c0 ht :)) ?_;rintro _ cx _ ⟨bc,cy,cz,d0,rfl,rfl,c2,d1⟩;refine gs ?_;refine cd hm G (fun c3 hm=>?_) (fun c3 hm=>?_);refine gs ?_;refine go ?_;obtain rfl:=Hc hm;refine aU (.cons _ (.cons _ (.cons _ (.cons _ (.refl _))))) (aZ (Hf (Hf (Hf a1 a2) av) bc) ?_);exact cL G G ⟨G,G,G⟩;refine eP (aH (aP ?_));refine gj ?_;refine aU (.cons_cons _ (.cons _ (.refl _))) ?_;exact kp (b_ (Hq _) ⟨aa+1,bb,_,_,_,bv,G,((HN bw _).trans hm),c2,(Hf (Hf a2 av) bc),G,G⟩) (.swap _ _ _) ⟨G,G,G,G,(HH (fun z=>some (Value.int .i64 z)) (cR au (((h1.mono a1).mono a2)).dT)),Hh⟩
 obtain rfl:=iD b9 ar;have hm:=(bt _ _).symm.trans hm;refine gs ?_;refine gs ?_;refine fi 2 Hy G sizeOf24 G ?_;refine lo isAgg24 G (.tail _ (.tail _ (.head _))) G ?_;refine bD G G JH G ((h2.mono a1).mono a2) (go ?_);refine aG ?_;obtain ⟨bd,c4,c5,hm⟩:=dO hm;refine mA (fun n H' M' L'=>∃ (ab:Nat) (ag:List bH),∃ aw:(List (ByteArray×Bool)),∃ ax:Array MapEntry,∃ ay:Nat,(p0_n.aN).drop ab=ag∧ag.length=n∧bd ab ag aw=some r∧ot ax ay aw∧bu.le H'∧.obj a8 (.cells [.map (some a5),v0].toArray 77 (0,0))::.obj a5 (.map ax ay)::.obj a6 (.cells [v0,v1,v2,v3,v4,v5].toArray 29 (0,0))::M=M'∧[(1,.pointer (some ⟨a6,0,none⟩)),(3,.pointer (some ⟨a8,0,none⟩)),(87,v2),(88,.int .i64 ((p0_n.aN.length:Int))),(89,.int .i64 ((ab:Int)))]=L') _ ⟨0,_,_,_,_,G,G,hm,ba,(Hg _),G,G⟩ ?_;rintro _ d2 _ _ ⟨ab,ag,aw,ax,ay,be,rfl,hm,bf,a4,rfl,rfl⟩
 refine gs ?_;refine gs ?_;refine bS G (fun az=>?_) (fun az=>?_);obtain ⟨a0,bg,rfl,b0,c6⟩:=iE be az;have hm:=(c4 _ _ _ _).symm.trans hm;generalize c7:bd (ab+1) bg=d3 at hm;unfold kz at hm;refine gs ?_;refine aG ?_;refine gs ?_;obtain ⟨_,⟨rfl⟩,c8⟩:=(h2).elem b0;refine aY G G JH KA G (((h2.mono a1).mono a2).mono a4) G (HF _) b0 (aT G G isAgg56 KA G (((c8.mono a1).mono a2).mono a4).at G ?_);refine bO (cs:=[.string (⟨#[]⟩),.string (⟨#[]⟩),.string (⟨#[]⟩),.int .i64 (0),.int .i64 (0),.int .i64 (0),.int .i64 (0),.int .i64 (0),.int .i64 (0)]) G G L5 G (fun d4=>?_);refine aM (cs:=[.string (a0.Name),.string (a0.jB),.string (a0.To),.int .i64 (a0.X),.int .i64 (a0.rL),.int .i64 (a0.Shift),.int .i64 (a0.kr),.int .i64 (a0.mF),.int .i64 (a0.qc)]) (out:=[.string (a0.Name),.string (a0.jB),.string (a0.To),.int .i64 (a0.X),.int .i64 (a0.rL),.int .i64 (a0.Shift),.int .i64 (a0.kr),.int .i64 (a0.mF),.int .i64 (a0.qc)]) G KA G G G G G (Hb G (Hb G (Hb G (Hb G (Hb G (Hb G (Hb G (Hb G (Hb G Hr))))))))) (aQ G) (gs ?_)
 refine gs ?_;refine la isAgg77 L8 G (.tail _ (.head _)) G ?_;refine fi 0 IY G Ik G ?_;refine lo IX G (.head _) G ?_;refine fi 1 IY G Ik G ?_;refine lo IX G (.head _) G ?_;refine fi 2 IY G Ik G ?_;refine lo IX G (.head _) G ?_;refine eD (α:=ByteArray) (css:=[[.string (a0.jB)],[.string (a0.To)]]) (zs:=[.string (⟨#[]⟩),.string (⟨#[]⟩)]) (out:=[.string (a0.jB),.string (a0.To)]) (ys:=[a0.jB,a0.To]) G G G ⟨G,G,Hh⟩ Hw Ik G JJ (by kernel_rfl) G G G G ⟨[.string (a0.jB)],[.string (a0.To)],G,G,⟨[.string (a0.To)],[],G,G,G⟩⟩ G ?_
 intro d5 d6 c9;refine dR (c9).rd G (fun d7 ah ca=>?_);refine a_ (.trans (.cons _ (.swap _ _ _)) (.swap _ _ _)) ?_;obtain ⟨d8,cb,hm⟩:=bind_some hm;refine aF call33 G G G (fun w ht=>(eS (hm:=cb) bf ((((h0.mono a1).mono a2).mono a4).mono ah) ca ht :)) ?_;rintro _ d9 _ ⟨b1,da,db,dc,rfl,rfl,cc,dd⟩;refine gs ?_;refine cd hm G (fun ce hm=>?_) (fun ce hm=>?_);refine gs ?_;refine go ?_;obtain rfl:=Hc hm;refine aU (.cons _ (.cons _ (.cons _ (.cons _ (.refl _))))) (aZ (Hf (Hf (Hf (Hf a1 a2) a4) ah) b1) ?_);exact cL G G ⟨G,G,G⟩;refine gs ?_;refine la isAgg56 KA G (.tail _ (.head _)) G ?_;refine aF call34 G G G (fun w ht=>(sU (hm:=(G:gZ a0=_))  ht :)) ?_;rintro _ _ _ ⟨rfl,rfl,rfl⟩;refine gs ?_;refine cd hm G (fun cf hm=>?_) (fun cf hm=>?_);refine gs ?_;refine go ?_;obtain rfl:=Hc hm;refine aU (.cons _ (.cons _ (.cons _ (.cons _ (.refl _))))) (aZ (Hf (Hf (Hf (Hf a1 a2) a4) ah) b1) ?_)
 exact cL G G ⟨G,G,G⟩;refine eP (aH (aP ?_));refine gj ?_;refine aU (.cons_cons _ (.cons _ (.refl _))) ?_;exact kp (b_ (Hq _) ⟨ab+1,bg,_,_,_,c6,G,((HN c7 _).trans hm),cc,(Hf (Hf a4 ah) b1),G,G⟩) (.swap _ _ _) ⟨G,G,G,G,(HH (fun z=>some (Value.int .i64 z)) (cR b0 ((((h2.mono a1).mono a2).mono a4)).dT)),Hh⟩;obtain rfl:=iD be az;have hm:=(c5 _ _).symm.trans hm;refine gs ?_;refine la isAgg77 L8 G (.head _) G ?_;refine la IJ Iq G (.tail _ (.tail _ (.head _))) G ?_;refine a_ (.swap _ _ _) ?_;obtain ⟨de,cg,hm⟩:=bind_some hm;refine aF call35 G G G (fun w ht=>(qD (hm:=cg) bf (((h0.mono a1).mono a2).mono a4) (((h0.mono a1).mono a2).mono a4) (((h1.mono a1).mono a2).mono a4) (((h2.mono a1).mono a2).mono a4) (((h3.mono a1).mono a2).mono a4) (((h4.mono a1).mono a2).mono a4) (((h5.mono a1).mono a2).mono a4) ht :)) ?_
 rintro _ df _ ⟨ch,dg,dh,di,rfl,rfl,dj,dk⟩;refine go ?_;obtain rfl:=Hc hm;refine aU (.cons _ (.cons _ (.cons _ (.refl _)))) (aZ (Hf (Hf (Hf a1 a2) a4) ch) ?_);exact cL G G ⟨G,G,G⟩;refine go ?_;refine fi 0 Hy G JP G ?_;refine lo Jy G (.head _) G ?_;refine bD G G Hw G h0 (go ?_);cases ac:(decide (24<(p0_n.bJ.length:Int)));refine fi 1 Hy G sizeOf23 G ?_;refine lo isAgg23 G (.head _) G ?_;refine bD G G Kz G h1 (go ?_);cases ad:(decide (32<(p0_n.bF.length:Int)));refine fi 2 Hy G sizeOf24 G ?_;refine lo isAgg24 G (.head _) G ?_;refine bD G G JH G h2 (go ?_);cases ai:(decide (24<(p0_n.aN.length:Int)));refine fi 3 Hy G Lh G ?_;refine lo Mg G (.head _) G ?_;refine bD G G Jn G h3 (go ?_);cases b2:(decide (10<(p0_n.dM.length:Int)))
 refine fi 4 Hy G JL G ?_;refine lo KF G (.head _) G ?_;refine bD G G Ip G h4 (go ?_);cases bh:(decide (12<(p0_n.bK.length:Int)));refine fi 5 Hy G sizeOf27 G ?_;refine lo isAgg27 G (.head _) G ?_;refine bD G G Kc G h5 (gj ?_);exact kj (a7 _ _ _ ⟨G,G,G⟩) ⟨G,(by exact sb (by first | rfl | simp only [ac,ad,ai,b2,bh,oh])),Hh⟩
 refine gj ?_;exact kj (a7 _ _ _ ⟨G,G,G⟩) ⟨G,(by exact sb (by first | rfl | simp only [ac,ad,ai,b2,bh,oh])),Hh⟩
 refine gj ?_;exact kj (a7 _ _ _ ⟨G,G,G⟩) ⟨G,(by exact sb (by first | rfl | simp only [ac,ad,ai,b2,oh])),Hh⟩
 refine gj ?_;exact kj (a7 _ _ _ ⟨G,G,G⟩) ⟨G,(by exact sb (by first | rfl | simp only [ac,ad,ai,oh])),Hh⟩
 refine gj ?_;exact kj (a7 _ _ _ ⟨G,G,G⟩) ⟨G,(by exact sb (by first | rfl | simp only [ac,ad,oh])),Hh⟩
 refine gj ?_;exact kj (a7 _ _ _ ⟨G,G,G⟩) ⟨G,(by exact sb (by first | rfl | simp only [ac,oh])),Hh⟩
theorem sV {B:Nat}{w0 w:World}[cW B w0] {H:Hp}{M:List bV}{p0_l:aK}{p1_c1:ByteArray}{b0:Nat}{r:Bool} (hm:lC p0_l p1_c1=r) (ht:St B w0 H (.obj b0 (.cells ([.string (p1_c1)]:List Value).toArray 9 (0,0))::M) w):
    Calls prog 60 [.agg [.string (p0_l.Name),.string (p0_l.Node),.int .i64 (p0_l.bN)].toArray,.pointer (some ⟨b0,0,none⟩)].toArray w (fS B w0 fun H' M' v=>H=H'∧.obj b0 (.cells ([.string (p1_c1)]:List Value).toArray 9 (0,0))::M=M'∧.bool (r)=v):=by
 unfold lC at hm;refine enter func60 G G G ht (gs ?_);refine dY (cs:=[.string (p0_l.Name),.string (p0_l.Node),.int .i64 (p0_l.bN)]) G G G G (fun a0=>?_);refine gs ?_;refine fi 0 Jo G Ik G ?_;refine lo IX G (.head _) G ?_;refine lo IX G (.tail _ (.head _)) G (go ?_);obtain rfl:=hm;refine aU (.cons _ (.refl _)) (aZ (Hg _) ?_);exact cL G G ⟨G,G,G⟩
theorem jV {B:Nat}{w0 w:World}[cW B w0] {H:Hp}{M:List bV}{p0_s:(List aK)}{p1_f_0:ByteArray}{v0:Value}{b0:Nat}{r:Int} (hm:dB p0_s p1_f_0=some r) (h0:aI H v0 p0_s) (ht:St B w0 H (.obj b0 (.cells ([.string (p1_f_0)]:List Value).toArray 9 (0,0))::M) w):
    Calls prog 100 [v0,.func (.func 60) [].toArray [.pointer (some ⟨b0,0,none⟩)].toArray].toArray w (fS B w0 fun H' M' v=>H=H'∧.obj b0 (.cells ([.string (p1_f_0)]:List Value).toArray 9 (0,0))::M=M'∧.int .i64 (r)=v):=by
 unfold dB at hm;refine enter func100 G G G ht (gs ?_);refine gs ?_;refine gs ?_;refine bD G G Ip G h0 (go ?_);refine aG ?_;obtain ⟨a4,a8,a9,hm⟩:=jX hm;refine mA (fun n H' M' L'=>∃ (a0:Nat) (a2:Nat),a0+a2=((p0_s.length:Int):Int).toNat∧a2=n∧a4 a2 a0 ()=some r∧H.le H'∧.obj b0 (.cells ([.string (p1_f_0)]:List Value).toArray 9 (0,0))::M=M'∧[(0,v0),(1,.func (.func 60) [].toArray [.pointer (some ⟨b0,0,none⟩)].toArray),(7,.int .i64 ((p0_s.length:Int))),(8,.int .i64 ((a0:Int)))]=L') _ ⟨0,_,Ii _,G,hm,(Hg _),G,G⟩ ?_;rintro _ ah _ _ ⟨a0,a2,a5,rfl,hm,a1,rfl,rfl⟩;refine gs ?_;refine gs ?_;refine bS G (fun a3=>?_) (fun a3=>?_);obtain ⟨a6,rfl,aa,ab⟩:=lX a5 a3;have hm:=(a8 _ _ _).symm.trans hm;generalize ac:a4 a6 (a0+1)=ai at hm;unfold dS at hm;refine gs ?_;refine aG ?_;refine gs ?_;refine gs ?_
 obtain ⟨ad,ae,a7,hm⟩:=aD hm;obtain ⟨_,⟨rfl⟩,af⟩:=(h0).elem a7;refine aY G G Ip I7 G (h0.mono a1) G ae a7 (aT G G Ly I7 G (af.mono a1).at G ?_);refine pQ call60 G G G G (fun w ht=>(sV (hm:=(G:lC ad p1_f_0=_))  ht :)) ?_;rintro _ _ _ ⟨rfl,rfl,rfl⟩;refine go ?_;refine cd hm G (fun ag hm=>?_) (fun ag hm=>?_);refine gs ?_;refine go ?_;obtain rfl:=Hc hm;refine aZ a1 ?_;exact cL G G ⟨G,G,G⟩;refine eP (aH (aP ?_));refine gj ?_;exact kj (b_ (Hq _) ⟨a0+1,a6,aa,G,((HN ac _).trans hm),a1,G,G⟩) ⟨G,G,G,(HH (fun z=>some (Value.int .i64 z)) (fZ ab (gB (mb (h0).dT)))),Hh⟩;obtain rfl:=lW a5 a3;have hm:=(a9 _ _).symm.trans hm;refine gs ?_;refine go ?_;obtain rfl:=Hc hm;refine aZ a1 ?_;exact cL G G ⟨G,G,G⟩
theorem jO {B:Nat}{w0 w:World}[cW B w0] {H:Hp}{M:List bV}{p0_s:(List aK)}{p1_f_0:ByteArray}{v0:Value}{b0:Nat}{r:Bool} (hm:cS p0_s p1_f_0=some r) (h0:aI H v0 p0_s) (ht:St B w0 H (.obj b0 (.cells ([.string (p1_f_0)]:List Value).toArray 9 (0,0))::M) w):
    Calls prog 59 [v0,.func (.func 60) [].toArray [.pointer (some ⟨b0,0,none⟩)].toArray].toArray w (fS B w0 fun H' M' v=>H=H'∧.obj b0 (.cells ([.string (p1_f_0)]:List Value).toArray 9 (0,0))::M=M'∧.bool (r)=v):=by
 unfold cS at hm;refine enter func59 G G G ht (gs ?_);refine gs ?_;obtain ⟨a1,a0,hm⟩:=bind_some hm;refine aF call100 G G G (fun w ht=>(jV (hm:=a0) h0 ht :)) ?_;rintro _ _ _ ⟨rfl,rfl,rfl⟩;refine go ?_;obtain rfl:=Hc hm;refine aZ (Hg _) ?_;exact cL G G ⟨G,G,G⟩
theorem qR {B:Nat}{w0 w:World}[cW B w0] {H:Hp}{M:List bV}{p0_n:aC}{on:(List ByteArray)}{v0 v1 v2 v3 v4 v5 v6:Value}{r:Int} (hm:dW p0_n on=some r) (h0:aI H v0 p0_n.bJ) (h1:aI H v1 p0_n.bF) (h2:aI H v2 p0_n.aN) (h3:aI H v3 p0_n.dM) (h4:aI H v4 p0_n.bK) (h5:aI H v5 p0_n.bQ) (h6:aI H v6 on) (ht:St B w0 H (M) w):
    Calls prog 26 [.agg [v0,v1,v2,v3,v4,v5].toArray,v6].toArray w (fS B w0 fun H' M' v=>H=H'∧M=M'∧.int .i64 (r)=v):=by
 unfold dW at hm;refine enter func26 G G G ht (gs ?_);refine dY (cs:=[v0,v1,v2,v3,v4,v5]) G G G G (fun a8=>?_);refine gs ?_;refine gs ?_;refine la IJ Iq G (.head _) G ?_;obtain ⟨ao,ad,hm⟩:=bind_some hm;refine aF call9 G G G (fun w ht=>(jM (hm:=ad) h0 h1 h2 h3 h4 h5 ht :)) ?_;rintro _ _ _ ⟨rfl,rfl,rfl⟩;refine gs ?_;refine cd hm G (fun ae hm=>?_) (fun ae hm=>?_);refine gs ?_;refine go ?_;obtain rfl:=Hc hm;refine aU (.cons _ (.refl _)) (aZ (Hg _) ?_);exact cL G G ⟨G,G,G⟩;refine gs ?_;refine gs ?_;refine bD G G Hw G h6 (go ?_);refine aG ?_;obtain ⟨a9,af,ag,hm⟩:=dO hm;refine mA (fun n H' M' L'=>∃ (a0:Nat) (a3:List ByteArray),(on).drop a0=a3∧a3.length=n∧a9 a0 a3 ()=some r∧H.le H'∧.obj a8 (.cells [v0,v1,v2,v3,v4,v5].toArray 29 (0,0))::M=M'∧[(1,v6),(2,.pointer (some ⟨a8,0,none⟩)),(13,v6),(14,.int .i64 ((on.length:Int))),(15,.int .i64 ((a0:Int)))]=L') _ ⟨0,_,G,G,hm,(Hg _),G,G⟩ ?_
 rintro _ ap _ _ ⟨a0,a3,aa,rfl,hm,a1,rfl,rfl⟩;refine gs ?_;refine gs ?_;refine bS G (fun a4=>?_) (fun a4=>?_);obtain ⟨a5,ab,rfl,a6,ah⟩:=iE aa a4;have hm:=(af _ _ _ _).symm.trans hm;generalize ai:a9 (a0+1) ab=aq at hm;unfold n6 at hm;refine gs ?_;refine aG ?_;refine gs ?_;obtain ⟨_,rfl,aj⟩:=(h6).elem a6;refine aY G G Hw Ik G (h6.mono a1) G (HF _) a6 (aJ G G IX G (cD.one (aj.mono a1) 0 G).at ?_);refine bO (cs:=[.string (⟨#[]⟩)]) G G JJ G (fun ar=>?_);refine go ?_;refine aM (cs:=[.string (a5)]) (out:=[.string (a5)]) G Ik G G G G G (Hb G Hr) (aQ G) (go ?_);refine aG ?_;refine gs ?_;refine fi 4 Hy G JL G ?_;refine lo KF G (.tail _ (.head _)) G ?_;refine qe G G G G ?_;obtain ⟨au,ak,hm⟩:=bind_some hm;refine aF call59 G G G (fun w ht=>(jO (hm:=ak) (h4.mono a1) ht :)) ?_
 rintro _ _ _ ⟨rfl,rfl,rfl⟩;refine nQ G G G G (go ?_);refine cd hm G (fun al hm=>?_) (fun al hm=>?_);refine gs ?_;refine go ?_;obtain rfl:=Hc hm;refine aU (.cons _ (.cons _ (.refl _))) (aZ a1 ?_);exact cL G G ⟨G,G,G⟩;refine gs ?_;obtain ⟨av,hm⟩:=aR hm;refine pw fm 4 [ph v6,ph (.int .i64 ((a0:Int))),(fun H rs v=>∃ a2:Value,[]=rs∧a2=v∧aI H a2 (lK on 0 (((a0:Int):Int).toNat))),ph (.string (a5))] ⟨om,om,?_,?_,Hh⟩ ?_;rintro HX hX X Rest hR _ _ ⟨rfl,rfl⟩ _ _ ⟨rfl,rfl⟩ hU hUp;refine qg (α:=ByteArray) (l:=0) (h:=((a0:Int):Int).toNat) (xs:=on) G G Hw Ik G ((h6.mono a1).mono hX) (by omega) (by omega) (.inl G) (fun cap hcap=>by rw [Hv G]; exact (.inl ⟨G,G⟩)) (fun m hmm=>(.inr ⟨_,_,_,G,G,by omega,by omega,G⟩)) (.inl ⟨G,G⟩) ?_
 intro a2 a7 aw;exact o0 ⟨a2,G,G,(a7)⟩;rintro HX hX X Rest hR hU hUp;refine aJ G G IX G (bZ (hR _ (.head _)) G) ?_;exact o0 ⟨G,G⟩;intro ax ac;refine dr ?_;rintro _ _ ⟨a2,rfl,rfl,a7⟩;refine dz ?_;obtain ⟨ay,am,hm⟩:=bind_some hm;refine aF call14 G G G (fun w ht=>(dF (hm:=am) a7 ht :)) ?_;rintro _ _ _ ⟨rfl,rfl,rfl⟩;refine go ?_;refine cd hm G (fun an hm=>?_) (fun an hm=>?_);refine gs ?_;refine go ?_;obtain rfl:=Hc hm;refine aU (.cons _ (.cons _ (.refl _))) (aZ (Hf a1 ac) ?_);exact cL G G ⟨G,G,G⟩;refine eP (aH (aH (aP ?_)));refine gj ?_;refine aU (.cons _ (.refl _)) ?_;exact kj (b_ (Hq _) ⟨a0+1,ab,ah,G,((HN ai _).trans hm),(Hf a1 ac),G,G⟩) ⟨G,G,G,G,(HH (fun z=>some (Value.int .i64 z)) (cR a6 ((h6.mono a1)).dT)),Hh⟩;obtain rfl:=iD aa a4;have hm:=(ag _ _).symm.trans hm;refine gs ?_;refine go ?_
 obtain rfl:=Hc hm;refine aU (.cons _ (.refl _)) (aZ a1 ?_);exact cL G G ⟨G,G,G⟩
theorem uh {B:Nat}{w0 w:World}{H:Hp}{M:List bV}{s:List ByteArray}{v0:Value} (h0:aI H v0 s) (hz:s.length*16≤140737488355328) (ht:St B w0 H M w):
  Calls prog 12 [v0].toArray w (fS B w0 fun H' M' v=>H=H'∧∃ (v':Value) (xs':List Value),.row v' 9 (aE.sz ByteArray) s.length xs'::M=M'∧v'=v∧nf v' xs' s):=by
 refine enter func12 G G G ht ?_;obtain ⟨o,n,c,rfl⟩:=h0.shape;refine cH ?_;refine bB (aL G G G ?_);refine bC (aP ?_);refine cH ?_;refine cH ?_;refine bB (cA G G G (qI G G Hw G G ?_));refine bC (aP ?_);cases o with
 | none=>
  refine bS (b:=true) G (fun _=>?_) (fun hb=>Bool.noConfusion hb);obtain rfl:=h0.isNil;refine cH ?_;refine bB (aL G G G ?_);refine bC (aP ?_);refine lY (ke ?_);refine cQ 9 (aE.sz ByteArray) ?_;exact cL G G ⟨G,.slice none 0 0,[],G,G,(Rw.nil (H:=H)).jF⟩
 | some a=>
  refine bS (b:=false) G (fun hb=>Bool.noConfusion hb) (fun _=>?_);refine eP (aP ?_);refine cH ?_;refine bB (px ByteArray G G Hw Ik ?_);intro v1 xs1 h1;refine cA G G G (dN (α:=ByteArray) (l:=[]) (ys:=s) (bytes:=16) G G KP ⟨_,G,G,G,G⟩ G G G G G h1 h0 (by simpa using hz) ?_)
  intro v2 xs2 h2;refine aL G G G ?_;refine bC (aP ?_);refine lY ?_;exact cL G G ⟨G,v2,xs2,G,G,h2.jF⟩
theorem zo {B:Nat}{w0 w:World}{H:Hp}{M:List bV}{s:List cE}{v0:Value} (h0:aI H v0 s) (hz:s.length*56≤140737488355328) (ht:St B w0 H M w):
  Calls prog 101 [v0].toArray w (fS B w0 fun H' M' v=>H=H'∧∃ (v':Value) (xs':List Value),.row v' 80 (aE.sz cE) s.length xs'::M=M'∧v'=v∧nf v' xs' s):=by
 refine enter func101 G G G ht ?_;obtain ⟨o,n,c,rfl⟩:=h0.shape;refine cH ?_;refine bB (aL G G G ?_);refine bC (aP ?_);refine cH ?_;refine cH ?_;refine bB (cA G G G (qI G G Kz G G ?_));refine bC (aP ?_);cases o with
 | none=>
  refine bS (b:=true) G (fun _=>?_) (fun hb=>Bool.noConfusion hb);obtain rfl:=h0.isNil;refine cH ?_;refine bB (aL G G G ?_);refine bC (aP ?_);refine lY (ke ?_);refine cQ 80 (aE.sz cE) ?_;exact cL G G ⟨G,.slice none 0 0,[],G,G,(Rw.nil (H:=H)).jF⟩
 | some a=>
  refine bS (b:=false) G (fun hb=>Bool.noConfusion hb) (fun _=>?_);refine eP (aP ?_);refine cH ?_;refine bB (px cE G G Kz L9 ?_);intro v1 xs1 h1;refine cA G G G (dN (α:=cE) (l:=[]) (ys:=s) (bytes:=56) G G underlying23 ⟨_,G,G,G,G⟩ G G G G G h1 h0 (by simpa using hz) ?_)
  intro v2 xs2 h2;refine aL G G G ?_;refine bC (aP ?_);refine lY ?_;exact cL G G ⟨G,v2,xs2,G,G,h2.jF⟩
theorem zp {B:Nat}{w0 w:World}{H:Hp}{M:List bV}{s:List bH}{v0:Value} (h0:aI H v0 s) (hz:s.length*96≤140737488355328) (ht:St B w0 H M w):
  Calls prog 102 [v0].toArray w (fS B w0 fun H' M' v=>H=H'∧∃ (v':Value) (xs':List Value),.row v' 56 (aE.sz bH) s.length xs'::M=M'∧v'=v∧nf v' xs' s):=by
 refine enter func102 G G G ht ?_;obtain ⟨o,n,c,rfl⟩:=h0.shape;refine cH ?_;refine bB (aL G G G ?_);refine bC (aP ?_);refine cH ?_;refine cH ?_;refine bB (cA G G G (qI G G JH G G ?_));refine bC (aP ?_);cases o with
 | none=>
  refine bS (b:=true) G (fun _=>?_) (fun hb=>Bool.noConfusion hb);obtain rfl:=h0.isNil;refine cH ?_;refine bB (aL G G G ?_);refine bC (aP ?_);refine lY (ke ?_);refine cQ 56 (aE.sz bH) ?_;exact cL G G ⟨G,.slice none 0 0,[],G,G,(Rw.nil (H:=H)).jF⟩
 | some a=>
  refine bS (b:=false) G (fun hb=>Bool.noConfusion hb) (fun _=>?_);refine eP (aP ?_);refine cH ?_;refine bB (px bH G G JH KA ?_);intro v1 xs1 h1;refine cA G G G (dN (α:=bH) (l:=[]) (ys:=s) (bytes:=96) G G underlying24 ⟨_,G,G,G,G⟩ G G G G G h1 h0 (by simpa using hz) ?_)
  intro v2 xs2 h2;refine aL G G G ?_;refine bC (aP ?_);refine lY ?_;exact cL G G ⟨G,v2,xs2,G,G,h2.jF⟩
theorem zq {B:Nat}{w0 w:World}{H:Hp}{M:List bV}{s:List cP}{v0:Value} (h0:aI H v0 s) (hz:s.length*56≤140737488355328) (ht:St B w0 H M w):
  Calls prog 103 [v0].toArray w (fS B w0 fun H' M' v=>H=H'∧∃ (v':Value) (xs':List Value),.row v' 117 (aE.sz cP) s.length xs'::M=M'∧v'=v∧nf v' xs' s):=by
 refine enter func103 G G G ht ?_;obtain ⟨o,n,c,rfl⟩:=h0.shape;refine cH ?_;refine bB (aL G G G ?_);refine bC (aP ?_);refine cH ?_;refine cH ?_;refine bB (cA G G G (qI G G Jn G G ?_));refine bC (aP ?_);cases o with
 | none=>
  refine bS (b:=true) G (fun _=>?_) (fun hb=>Bool.noConfusion hb);obtain rfl:=h0.isNil;refine cH ?_;refine bB (aL G G G ?_);refine bC (aP ?_);refine lY (ke ?_);refine cQ 117 (aE.sz cP) ?_;exact cL G G ⟨G,.slice none 0 0,[],G,G,(Rw.nil (H:=H)).jF⟩
 | some a=>
  refine bS (b:=false) G (fun hb=>Bool.noConfusion hb) (fun _=>?_);refine eP (aP ?_);refine cH ?_;refine bB (px cP G G Jn Ke ?_);intro v1 xs1 h1;refine cA G G G (dN (α:=cP) (l:=[]) (ys:=s) (bytes:=56) G G underlying25 ⟨_,G,G,G,G⟩ G G G G G h1 h0 (by simpa using hz) ?_)
  intro v2 xs2 h2;refine aL G G G ?_;refine bC (aP ?_);refine lY ?_;exact cL G G ⟨G,v2,xs2,G,G,h2.jF⟩
theorem zr {B:Nat}{w0 w:World}{H:Hp}{M:List bV}{s:List aK}{v0:Value} (h0:aI H v0 s) (hz:s.length*40≤140737488355328) (ht:St B w0 H M w):
  Calls prog 104 [v0].toArray w (fS B w0 fun H' M' v=>H=H'∧∃ (v':Value) (xs':List Value),.row v' 32 (aE.sz aK) s.length xs'::M=M'∧v'=v∧nf v' xs' s):=by
 refine enter func104 G G G ht ?_;obtain ⟨o,n,c,rfl⟩:=h0.shape;refine cH ?_;refine bB (aL G G G ?_);refine bC (aP ?_);refine cH ?_;refine cH ?_;refine bB (cA G G G (qI G G Ip G G ?_));refine bC (aP ?_);cases o with
 | none=>
  refine bS (b:=true) G (fun _=>?_) (fun hb=>Bool.noConfusion hb);obtain rfl:=h0.isNil;refine cH ?_;refine bB (aL G G G ?_);refine bC (aP ?_);refine lY (ke ?_);refine cQ 32 (aE.sz aK) ?_;exact cL G G ⟨G,.slice none 0 0,[],G,G,(Rw.nil (H:=H)).jF⟩
 | some a=>
  refine bS (b:=false) G (fun hb=>Bool.noConfusion hb) (fun _=>?_);refine eP (aP ?_);refine cH ?_;refine bB (px aK G G Ip I7 ?_);intro v1 xs1 h1;refine cA G G G (dN (α:=aK) (l:=[]) (ys:=s) (bytes:=40) G G underlying26 ⟨_,G,G,G,G⟩ G G G G G h1 h0 (by simpa using hz) ?_)
  intro v2 xs2 h2;refine aL G G G ?_;refine bC (aP ?_);refine lY ?_;exact cL G G ⟨G,v2,xs2,G,G,h2.jF⟩
theorem zt {B:Nat}{w0 w:World}{H:Hp}{M:List bV}{s:List dC}{v0:Value} (h0:aI H v0 s) (hz:s.length*56≤140737488355328) (ht:St B w0 H M w):
  Calls prog 105 [v0].toArray w (fS B w0 fun H' M' v=>H=H'∧∃ (v':Value) (xs':List Value),.row v' 121 (aE.sz dC) s.length xs'::M=M'∧v'=v∧nf v' xs' s):=by
 refine enter func105 G G G ht ?_;obtain ⟨o,n,c,rfl⟩:=h0.shape;refine cH ?_;refine bB (aL G G G ?_);refine bC (aP ?_);refine cH ?_;refine cH ?_;refine bB (cA G G G (qI G G Kc G G ?_));refine bC (aP ?_);cases o with
 | none=>
  refine bS (b:=true) G (fun _=>?_) (fun hb=>Bool.noConfusion hb);obtain rfl:=h0.isNil;refine cH ?_;refine bB (aL G G G ?_);refine bC (aP ?_);refine lY (ke ?_);refine cQ 121 (aE.sz dC) ?_;exact cL G G ⟨G,.slice none 0 0,[],G,G,(Rw.nil (H:=H)).jF⟩
 | some a=>
  refine bS (b:=false) G (fun hb=>Bool.noConfusion hb) (fun _=>?_);refine eP (aP ?_);refine cH ?_;refine bB (px dC G G Kc Mi ?_);intro v1 xs1 h1;refine cA G G G (dN (α:=dC) (l:=[]) (ys:=s) (bytes:=56) G G underlying27 ⟨_,G,G,G,G⟩ G G G G G h1 h0 (by simpa using hz) ?_)
  intro v2 xs2 h2;refine aL G G G ?_;refine bC (aP ?_);refine lY ?_;exact cL G G ⟨G,v2,xs2,G,G,h2.jF⟩
theorem tQ {B:Nat}{w0 w:World}[cW B w0] {H:Hp}{M:List bV}{p0_n:aC}{v0 v1 v2 v3 v4 v5:Value}{r:aC} (hm:nO p0_n=some r) (h0:aI H v0 p0_n.bJ) (h1:aI H v1 p0_n.bF) (h2:aI H v2 p0_n.aN) (h3:aI H v3 p0_n.dM) (h4:aI H v4 p0_n.bK) (h5:aI H v5 p0_n.bQ) (ht:St B w0 H (M) w):
    Calls prog 61 [.agg [v0,v1,v2,v3,v4,v5].toArray].toArray w (fS B w0 fun H' M' v=>H=H'∧∃ qv0:Value,∃ qxs0:List Value,∃ qv1:Value,∃ qxs1:List Value,∃ qv2:Value,∃ qxs2:List Value,∃ qv3:Value,∃ qxs3:List Value,∃ qv4:Value,∃ qxs4:List Value,∃ qv5:Value,∃ qxs5:List Value,.row qv0 9 (aE.sz ByteArray) r.bJ.length qxs0::.row qv1 80 (aE.sz cE) r.bF.length qxs1::.row qv2 56 (aE.sz bH) r.aN.length qxs2::.row qv3 117 (aE.sz cP) r.dM.length qxs3::.row qv4 32 (aE.sz aK) r.bK.length qxs4::.row qv5 121 (aE.sz dC) r.bQ.length qxs5::M=M'∧.agg [qv0,qv1,qv2,qv3,qv4,qv5].toArray=v∧nf qv0 qxs0 r.bJ∧nf qv1 qxs1 r.bF∧nf qv2 qxs2 r.aN∧nf qv3 qxs3 r.dM∧nf qv4 qxs4 r.bK∧nf qv5 qxs5 r.bQ):=by
 unfold nO at hm;refine enter func61 G G G ht (gs ?_);refine dY (cs:=[v0,v1,v2,v3,v4,v5]) G G G G (fun ae=>?_);refine bO (cs:=[.slice none 0 0,.slice none 0 0,.slice none 0 0,.slice none 0 0,.slice none 0 0,.slice none 0 0]) G G KK G (fun aj=>?_);refine gs ?_;obtain ⟨ak,hm⟩:=aR hm;obtain ⟨al,hm⟩:=aR hm;obtain ⟨am,hm⟩:=aR hm;obtain ⟨an,hm⟩:=aR hm;obtain ⟨ao,hm⟩:=aR hm;refine pw fm 17 [ph (.pointer (some ⟨ae,0,none⟩)),ph v0,(fun H rs v=>∃ a0:Value,∃ a5:List Value,[.row a0 9 (aE.sz ByteArray) p0_n.bJ.length a5]=rs∧a0=v∧Rw H a0 a5 p0_n.bJ),ph (.pointer (some ⟨ae,1,none⟩)),ph v1,(fun H rs v=>∃ a1:Value,∃ a6:List Value,[.row a1 80 (aE.sz cE) p0_n.bF.length a6]=rs∧a1=v∧Rw H a1 a6 p0_n.bF),ph (.pointer (some ⟨ae,2,none⟩)),ph v2,(fun H rs v=>∃ a2:Value,∃ a7:List Value,[.row a2 56 (aE.sz bH) p0_n.aN.length a7]=rs∧a2=v∧Rw H a2 a7 p0_n.aN),ph (.pointer (some ⟨ae,3,none⟩)),ph v3,(fun H rs v=>∃ a3:Value,∃ a8:List Value,[.row a3 117 (aE.sz cP) p0_n.dM.length a8]=rs∧a3=v∧Rw H a3 a8 p0_n.dM),ph (.pointer (some ⟨ae,4,none⟩)),ph v4,(fun H rs v=>∃ a4:Value,∃ a9:List Value,[.row a4 32 (aE.sz aK) p0_n.bK.length a9]=rs∧a4=v∧Rw H a4 a9 p0_n.bK),ph (.pointer (some ⟨ae,5,none⟩)),ph v5] ⟨?_,?_,?_,?_,?_,?_,?_,?_,?_,?_,?_,?_,?_,?_,?_,?_,?_,Hh⟩ ?_
 rintro HX hX X Rest hR hU hUp;refine fi 0 Hy G JP G ?_;exact o0 ⟨G,G⟩;rintro HX hX X Rest hR _ _ ⟨rfl,rfl⟩ hU hUp;refine aJ G G Jy G (bZ (hR _ (.tail _ (.head _))) G) ?_;exact o0 ⟨G,G⟩;rintro HX hX X Rest hR _ _ ⟨rfl,rfl⟩ hU hUp;refine aF call12 G G G (fun w ht=>(uh (s:=p0_n.bJ) (h0.mono hX) ak ht :)) ?_;rintro _ _ _ ⟨rfl,a0,a5,rfl,rfl,aa⟩;have aa:=aa HX;exact oe [.row a0 9 (aE.sz ByteArray) p0_n.bJ.length a5] (Hg _) ⟨a0,a5,G,G,(aa)⟩;rintro HX hX X Rest hR hU hUp;refine fi 1 Hy G sizeOf23 G ?_;exact o0 ⟨G,G⟩;rintro HX hX X Rest hR _ _ ⟨rfl,rfl⟩ hU hUp;refine aJ G G isAgg23 G (bZ (hR _ (.tail _ (.head _))) G) ?_;exact o0 ⟨G,G⟩;rintro HX hX X Rest hR _ _ ⟨rfl,rfl⟩ _ _ ⟨a0,a5,rfl,rfl,aa⟩ hU hUp;refine aF call101 G G G (fun w ht=>(zo (s:=p0_n.bF) (h1.mono hX) al ht :)) ?_;rintro _ _ _ ⟨rfl,a1,a6,rfl,rfl,ab⟩;have ab:=ab HX
 exact oe [.row a1 80 (aE.sz cE) p0_n.bF.length a6] (Hg _) ⟨a1,a6,G,G,(ab)⟩;rintro HX hX X Rest hR hU hUp;refine fi 2 Hy G sizeOf24 G ?_;exact o0 ⟨G,G⟩;rintro HX hX X Rest hR _ _ ⟨rfl,rfl⟩ hU hUp;refine aJ G G isAgg24 G (bZ (hR _ (.tail _ (.head _))) G) ?_;exact o0 ⟨G,G⟩;rintro HX hX X Rest hR _ _ ⟨rfl,rfl⟩ _ _ ⟨a1,a6,rfl,rfl,ab⟩ hU hUp;refine aF call102 G G G (fun w ht=>(zp (s:=p0_n.aN) (h2.mono hX) am ht :)) ?_;rintro _ _ _ ⟨rfl,a2,a7,rfl,rfl,ac⟩;have ac:=ac HX;exact oe [.row a2 56 (aE.sz bH) p0_n.aN.length a7] (Hg _) ⟨a2,a7,G,G,(ac)⟩;rintro HX hX X Rest hR hU hUp;refine fi 3 Hy G Lh G ?_;exact o0 ⟨G,G⟩;rintro HX hX X Rest hR _ _ ⟨rfl,rfl⟩ hU hUp;refine aJ G G Mg G (bZ (hR _ (.tail _ (.head _))) G) ?_;exact o0 ⟨G,G⟩;rintro HX hX X Rest hR _ _ ⟨rfl,rfl⟩ _ _ ⟨a2,a7,rfl,rfl,ac⟩ hU hUp;refine aF call103 G G G (fun w ht=>(zq (s:=p0_n.dM) (h3.mono hX) an ht :)) ?_
 rintro _ _ _ ⟨rfl,a3,a8,rfl,rfl,ad⟩;have ad:=ad HX;exact oe [.row a3 117 (aE.sz cP) p0_n.dM.length a8] (Hg _) ⟨a3,a8,G,G,(ad)⟩;rintro HX hX X Rest hR hU hUp;refine fi 4 Hy G JL G ?_;exact o0 ⟨G,G⟩;rintro HX hX X Rest hR _ _ ⟨rfl,rfl⟩ hU hUp;refine aJ G G KF G (bZ (hR _ (.tail _ (.head _))) G) ?_;exact o0 ⟨G,G⟩;rintro HX hX X Rest hR _ _ ⟨rfl,rfl⟩ _ _ ⟨a3,a8,rfl,rfl,ad⟩ hU hUp;refine aF call104 G G G (fun w ht=>(zr (s:=p0_n.bK) (h4.mono hX) ao ht :)) ?_;rintro _ _ _ ⟨rfl,a4,a9,rfl,rfl,af⟩;have af:=af HX;exact oe [.row a4 32 (aE.sz aK) p0_n.bK.length a9] (Hg _) ⟨a4,a9,G,G,(af)⟩;rintro HX hX X Rest hR hU hUp;refine fi 5 Hy G sizeOf27 G ?_;exact o0 ⟨G,G⟩;rintro HX hX X Rest hR _ _ ⟨rfl,rfl⟩ hU hUp;refine aJ G G isAgg27 G (bZ (hR _ (.tail _ (.head _))) G) ?_;exact o0 ⟨G,G⟩;intro ap ai;refine dr ?_;rintro _ _ ⟨a0,a5,rfl,rfl,aa⟩
 refine dr ?_;rintro _ _ ⟨a1,a6,rfl,rfl,ab⟩;refine dr ?_;rintro _ _ ⟨a2,a7,rfl,rfl,ac⟩;refine dr ?_;rintro _ _ ⟨a3,a8,rfl,rfl,ad⟩;refine dr ?_;rintro _ _ ⟨a4,a9,rfl,rfl,af⟩;refine dz ?_;refine gP (M':=.row a0 9 (aE.sz ByteArray) p0_n.bJ.length a5::.row a1 80 (aE.sz cE) p0_n.bF.length a6::.row a2 56 (aE.sz bH) p0_n.aN.length a7::.row a3 117 (aE.sz cP) p0_n.dM.length a8::.row a4 32 (aE.sz aK) p0_n.bK.length a9::.obj aj (.cells ([.slice none 0 0,.slice none 0 0,.slice none 0 0,.slice none 0 0,.slice none 0 0,.slice none 0 0]:List Value).toArray 29 (0,0))::.obj ae (.cells [v0,v1,v2,v3,v4,v5].toArray 29 (0,0))::M) G ?_;obtain ⟨aq,hm⟩:=aR hm;refine aF call105 G G G (fun w ht=>(zt (s:=p0_n.bQ) (h5.mono ai) aq ht :)) ?_;rintro _ _ _ ⟨rfl,ag,ar,rfl,rfl,ah⟩;have ah:=ah ap;refine eR (css:=[[a0],[a1],[a2],[a3],[a4],[ag]]) (zs:=[.slice none 0 0,.slice none 0 0,.slice none 0 0,.slice none 0 0,.slice none 0 0,.slice none 0 0]) (out:=[a0,a1,a2,a3,a4,ag]) (places:=[(0,1),(1,1),(2,1),(3,1),(4,1),(5,1)]) G G G ⟨(Rw.cells aa),(Rw.cells ab),(Rw.cells ac),(Rw.cells ad),(Rw.cells af),(Rw.cells ah),Hh⟩ KK G Hy (fun w=>by kernel_rfl) G ?_
 refine a_ (.trans (.cons _ (.cons _ (.cons _ (.cons _ (.cons _ (.swap _ _ _)))))) (.trans (.cons _ (.cons _ (.cons _ (.cons _ (.swap _ _ _))))) (.trans (.cons _ (.cons _ (.cons _ (.swap _ _ _)))) (.trans (.cons _ (.cons _ (.swap _ _ _))) (.trans (.cons _ (.swap _ _ _)) (.swap _ _ _)))))) (aM (cs:=[a0,a1,a2,a3,a4,ag]) (out:=[a0,a1,a2,a3,a4,ag]) G Iq G G G G G (Hb (Rw.one aa) (Hb (Rw.one ab) (Hb (Rw.one ac) (Hb (Rw.one ad) (Hb (Rw.one af) (Hb (Rw.one ah) Hr)))))) (aQ G) (go ?_));obtain rfl:=Hc hm;exact iT ai G (fI.agg G IJ Iq (.head _) G) (.cons _ (.cons_cons _ (.cons_cons _ (.cons_cons _ (.cons_cons _ (.cons_cons _ (.cons_cons _ (.cons _ (.refl _))))))))) (.trans (.swap _ _ _) (.trans (.cons _ (.swap _ _ _)) (.trans (.cons _ (.cons _ (.swap _ _ _))) (.trans (.cons _ (.cons _ (.cons _ (.swap _ _ _)))) (.cons _ (.cons _ (.cons _ (.cons _ (.swap _ _ _))))))))) ⟨G,a0,a5,a1,a6,a2,a7,a3,a8,a4,a9,ag,ar,G,G,(aa).jF,(ab).jF,(ac).jF,(ad).jF,(af).jF,(ah).jF⟩
theorem qz {B:Nat}{w0 w:World}[cW B w0] {H:Hp}{M:List bV}{p0_l:aK}{p1_c1:(List ByteArray)}{b0:Nat}{v0:Value}{r:Bool} (hm:jN p0_l p1_c1=some r) (h0:aI H v0 p1_c1) (ht:St B w0 H (.obj b0 (.cells [v0].toArray 22 (0,0))::M) w):
    Calls prog 63 [.agg [.string (p0_l.Name),.string (p0_l.Node),.int .i64 (p0_l.bN)].toArray,.pointer (some ⟨b0,0,none⟩)].toArray w (fS B w0 fun H' M' v=>H=H'∧.obj b0 (.cells [v0].toArray 22 (0,0))::M=M'∧.bool (r)=v):=by
 unfold jN at hm;refine enter func63 G G G ht (gs ?_);refine dY (cs:=[.string (p0_l.Name),.string (p0_l.Node),.int .i64 (p0_l.bN)]) G G G G (fun a1=>?_);refine gs ?_;refine lo Jy G (.tail _ (.head _)) G ?_;refine fi 0 Jo G Ik G ?_;refine lo IX G (.head _) G ?_;obtain ⟨a2,a0,hm⟩:=bind_some hm;refine aF call14 G G G (fun w ht=>(dF (hm:=a0) h0 ht :)) ?_;rintro _ _ _ ⟨rfl,rfl,rfl⟩;refine nQ G G G G (go ?_);obtain rfl:=Hc hm;refine aU (.cons _ (.refl _)) (aZ (Hg _) ?_);exact cL G G ⟨G,G,G⟩
theorem ko {B:Nat}{w0 w:World}[cW B w0] {H:Hp}{M:List bV}{p0_s:(List aK)}{p1_f_0:(List ByteArray)}{v0:Value}{b0:Nat}{v1:Value}{r:Int} (hm:eB p0_s p1_f_0=some r) (h0:aI H v0 p0_s) (h1:aI H v1 p1_f_0) (ht:St B w0 H (.obj b0 (.cells [v1].toArray 22 (0,0))::M) w):
    Calls prog 100 [v0,.func (.func 63) [].toArray [.pointer (some ⟨b0,0,none⟩)].toArray].toArray w (fS B w0 fun H' M' v=>H=H'∧.obj b0 (.cells [v1].toArray 22 (0,0))::M=M'∧.int .i64 (r)=v):=by
 unfold eB at hm;refine enter func100 G G G ht (gs ?_);refine gs ?_;refine gs ?_;refine bD G G Ip G h0 (go ?_);refine aG ?_;obtain ⟨a4,a8,a9,hm⟩:=jX hm;refine mA (fun n H' M' L'=>∃ (a0:Nat) (a2:Nat),a0+a2=((p0_s.length:Int):Int).toNat∧a2=n∧a4 a2 a0 ()=some r∧H.le H'∧.obj b0 (.cells [v1].toArray 22 (0,0))::M=M'∧[(0,v0),(1,.func (.func 63) [].toArray [.pointer (some ⟨b0,0,none⟩)].toArray),(7,.int .i64 ((p0_s.length:Int))),(8,.int .i64 ((a0:Int)))]=L') _ ⟨0,_,Ii _,G,hm,(Hg _),G,G⟩ ?_;rintro _ ah _ _ ⟨a0,a2,a5,rfl,hm,a1,rfl,rfl⟩;refine gs ?_;refine gs ?_;refine bS G (fun a3=>?_) (fun a3=>?_);obtain ⟨a6,rfl,aa,ab⟩:=lX a5 a3;have hm:=(a8 _ _ _).symm.trans hm;generalize ac:a4 a6 (a0+1)=ai at hm;unfold fL at hm;refine gs ?_;refine aG ?_;refine gs ?_;refine gs ?_;obtain ⟨aj,ad,a7,hm⟩:=aD hm
 obtain ⟨_,⟨rfl⟩,ae⟩:=(h0).elem a7;refine aY G G Ip I7 G (h0.mono a1) G ad a7 (aT G G Ly I7 G (ae.mono a1).at G ?_);obtain ⟨ak,af,hm⟩:=bind_some hm;refine pQ call63 G G G G (fun w ht=>(qz (hm:=af) (h1.mono a1) ht :)) ?_;rintro _ _ _ ⟨rfl,rfl,rfl⟩;refine go ?_;refine cd hm G (fun ag hm=>?_) (fun ag hm=>?_);refine gs ?_;refine go ?_;obtain rfl:=Hc hm;refine aZ a1 ?_;exact cL G G ⟨G,G,G⟩;refine eP (aH (aP ?_));refine gj ?_;exact kj (b_ (Hq _) ⟨a0+1,a6,aa,G,((HN ac _).trans hm),a1,G,G⟩) ⟨G,G,G,(HH (fun z=>some (Value.int .i64 z)) (fZ ab (gB (mb (h0).dT)))),Hh⟩;obtain rfl:=lW a5 a3;have hm:=(a9 _ _).symm.trans hm;refine gs ?_;refine go ?_;obtain rfl:=Hc hm;refine aZ a1 ?_;exact cL G G ⟨G,G,G⟩
theorem jT {B:Nat}{w0 w:World}[cW B w0] {H:Hp}{M:List bV}{p0_s:(List aK)}{del_0:(List ByteArray)}{v0:Value}{xs0:List Value}{b0:Nat}{v1:Value}{r:(List aK)} (hm:c_ p0_s del_0=some r) (h0:Rw H v0 xs0 p0_s) (h1:aI H v1 del_0) (ht:St B w0 H (.row v0 32 (aE.sz aK) p0_s.length xs0::.obj b0 (.cells [v1].toArray 22 (0,0))::M) w):
    Calls prog 62 [v0,.func (.func 63) [].toArray [.pointer (some ⟨b0,0,none⟩)].toArray].toArray w (fS B w0 fun H' M' v=>H=H'∧∃ qv0:Value,∃ qxs0:List Value,.row qv0 32 (aE.sz aK) r.length qxs0::.obj b0 (.cells [v1].toArray 22 (0,0))::M=M'∧qv0=v∧nf qv0 qxs0 r):=by
 unfold c_ at hm;refine enter func62 G G G ht (gs ?_);refine gs ?_;obtain ⟨b5,ah,hm⟩:=bind_some hm;refine aF call100 G G G (fun w ht=>by obtain ⟨H0_,hl0_,ht0_,hr0_,bk0_⟩:=ht.cZ h0 G; have h:=ko (hm:=ah) hr0_ (h1.mono hl0_) ht0_; exact bX bk0_ (h)) ?_
 rintro _ _ _ ⟨rfl,⟨_,rfl,rfl,rfl⟩⟩;refine gs ?_;refine gs ?_;refine cd hm G (fun ai hm=>?_) (fun ai hm=>?_);refine gs ?_;refine go ?_;obtain rfl:=Hc hm;refine aZ (Hg _) ?_;exact cL G G ⟨G,v0,xs0,G,G,(h0).jF⟩;refine gs ?_;refine gs ?_;refine aG ?_;obtain ⟨ad,aj,ak,hm⟩:=iV hm;refine mA (fun n H' M' L'=>∃ a3:List aK,∃ a1 a4:Int,∃ a5:List Value,ad n (a3,a1,a4)=some r∧Rw H' v0 a5 a3∧H.le H'∧.row v0 32 (aE.sz aK) a3.length a5::.obj b0 (.cells [v1].toArray 22 (0,0))::M=M'∧[(0,v0),(1,.func (.func 63) [].toArray [.pointer (some ⟨b0,0,none⟩)].toArray),(5,.int .i64 (a1)),(6,.int .i64 (a4))]=L') eT ⟨_,_,_,_,hm,h0,(Hg _),G,G⟩ ?_;rintro a8 al _ _ ⟨a3,a1,a4,a5,hm,a2,a9,rfl,rfl⟩
 rcases a8 with _ | a8
 exact nomatch (ak _).symm.trans hm;have hm:=(aj _ _).symm.trans hm;generalize am:ad a8=an at hm
 try dsimp only at hm
 unfold fG at hm;refine gs ?_;refine gs ?_;refine iS (.head _) G G Ip G (go ?_);refine cd hm G (fun ao hm=>?_) (fun ao hm=>?_);refine go ?_;refine bL (fun H' M' L'=>∃ a6:List aK,∃ aa:Int,∃ ab:List Value,cU a4 an a6 aa=some r∧Rw H' v0 ab a6∧al=H'∧.row v0 32 (aE.sz aK) a6.length ab::.obj b0 (.cells [v1].toArray 22 (0,0))::M=M'∧[(0,v0),(1,.func (.func 63) [].toArray [.pointer (some ⟨b0,0,none⟩)].toArray),(5,.int .i64 (aa)),(6,.int .i64 (a4))]=L') ?_ (fun ae=>?_);rintro _ _ _ ⟨a6,aa,ab,hm,ap,rfl,rfl,rfl⟩;unfold cU at hm;refine gj ?_;exact kj (b_ (Hq _) ⟨_,_,_,_,((HN am _).trans hm),ap,a9,G,G⟩);refine aG ?_;refine gs ?_;obtain ⟨a0,aq,af,hm⟩:=aD hm;refine bG (.head _) G G Ip I7 G G aq (He.1 af).1 ?_;obtain ⟨_,rfl,ar⟩:=(a2).elem af;refine aT (cs:=[.string (a0.Name),.string (a0.Node),.int .i64 (a0.bN)]) G G Ly I7 G (rp (.head _) ar) G ?_
 refine bO (cs:=[.string (⟨#[]⟩),.string (⟨#[]⟩),.int .i64 (0)]) G G KL G (fun b6=>?_);refine aM (cs:=[.string (a0.Name),.string (a0.Node),.int .i64 (a0.bN)]) (out:=[.string (a0.Name),.string (a0.Node),.int .i64 (a0.bN)]) G I7 G G G G G (Hb G (Hb G (Hb G Hr))) (aQ G) (gs ?_);refine la Ly I7 G (.head _) G ?_;refine a_ (.trans (.cons _ (.swap _ _ _)) (.swap _ _ _)) ?_;obtain ⟨b7,au,hm⟩:=bind_some hm;refine pQ call63 G G G G (fun w ht=>(qz (hm:=au) (h1.mono a9) ht :)) ?_;rintro _ _ _ ⟨rfl,rfl,rfl⟩;refine nQ G G G G (go ?_);refine cd hm G (fun av hm=>?_) (fun av hm=>?_);refine gs ?_;refine la Ly I7 G (.tail _ (.head _)) G ?_;obtain ⟨ac,aw,a7,hm⟩:=aD hm;refine bG (.tail _ (.tail _ (.head _))) G G Ip I7 G G aw (He.1 a7).1 ?_;obtain ⟨_,rfl,ax⟩:=(a2).elem a7;refine a_ (.trans (.cons _ (.swap _ _ _)) (.swap _ _ _)) ?_
 obtain ⟨ag,b8,ay⟩:=Rw.put (cs:=[.string (a0.Name),.string (a0.Node),.int .i64 (a0.bN)]) (o:=0) (c:=[.string (ac.Name),.string (ac.Node),.int .i64 (ac.bN)]) (out:=[.string (a0.Name),.string (a0.Node),.int .i64 (a0.bN)]) (e2:=a0) a2 a7 rfl ax rfl rfl rfl;refine dG (i:=(a1:Int).toNat*aE.sz aK+0) (cs:=[.string (a0.Name),.string (a0.Node),.int .i64 (a0.bN)]) G I7 G (fC _ _) G G G (Rw.room a2 a7 G) G (Hb G (Hb G (Hb G Hr))) (n':=(a3.set ((a1:Int).toNat) a0).length) HI ?_;generalize over a5 ((a1:Int).toNat*aE.sz aK+0) [.string (a0.Name),.string (a0.Node),.int .i64 (a0.bN)]=b9 at ag ay ⊢;refine bC (aP ?_);refine gj ?_;refine aU (.cons_cons _ (.cons_cons _ (.cons _ (.refl _)))) ?_;exact kj (ae _ _ _ ⟨_,_,_,hm,ag,G,G,G⟩);refine gj ?_;refine aU (.cons_cons _ (.cons _ (.refl _))) ?_;exact kp (ae _ _ _ ⟨_,_,_,hm,a2,G,G,G⟩) (.swap _ _ _)
 refine gs ?_;obtain ⟨az,hm⟩:=aR hm;refine rZ (α:=aK) (zs:=[.string (⟨#[]⟩),.string (⟨#[]⟩),.int .i64 (0)]) (ze:=(aK.mk (⟨#[]⟩) (⟨#[]⟩) 0)) G G (fun _=>G) underlying26 Ip I7 KL G G G G G G a2 az ?_;intro ba bb b1;refine gs ?_;obtain ⟨bc,hm⟩:=aR hm;refine r9 (α:=aK) (l:=0) (h:=(a1:Int).toNat) G G Ip I7 G G b1 (by omega) (by omega) (fun m hmm=>(.inr ⟨_,_,_,G,G,by omega,by omega,G⟩)) (.inl ⟨G,G⟩) ?_
 intro b2 b3 b4;refine go ?_;obtain rfl:=Hc hm;refine aZ a9 ?_;exact cL G G ⟨G,b2,b3,G,G,(b4).jF⟩
theorem pc {B:Nat}{w0 w:World}[cW B w0] {H:Hp}{M:List bV}{p0_n:aC}{on:(List ByteArray)}{v0 v1 v2 v3 v4 v5 v6:Value}{r:aC} (hm:kV p0_n on=some r) (h0:aI H v0 p0_n.bJ) (h1:aI H v1 p0_n.bF) (h2:aI H v2 p0_n.aN) (h3:aI H v3 p0_n.dM) (h4:aI H v4 p0_n.bK) (h5:aI H v5 p0_n.bQ) (h6:aI H v6 on) (ht:St B w0 H (M) w):
    Calls prog 30 [.agg [v0,v1,v2,v3,v4,v5].toArray,v6].toArray w (fS B w0 fun H' M' v=>H=H'∧∃ qv0:Value,∃ qxs0:List Value,∃ qv1:Value,∃ qxs1:List Value,∃ qv2:Value,∃ qxs2:List Value,∃ qv3:Value,∃ qxs3:List Value,∃ qv4:Value,∃ qxs4:List Value,∃ qv5:Value,∃ qxs5:List Value,.row qv0 9 (aE.sz ByteArray) r.bJ.length qxs0::.row qv1 80 (aE.sz cE) r.bF.length qxs1::.row qv2 56 (aE.sz bH) r.aN.length qxs2::.row qv3 117 (aE.sz cP) r.dM.length qxs3::.row qv4 32 (aE.sz aK) r.bK.length qxs4::.row qv5 121 (aE.sz dC) r.bQ.length qxs5::M=M'∧.agg [qv0,qv1,qv2,qv3,qv4,qv5].toArray=v∧nf qv0 qxs0 r.bJ∧nf qv1 qxs1 r.bF∧nf qv2 qxs2 r.aN∧nf qv3 qxs3 r.dM∧nf qv4 qxs4 r.bK∧nf qv5 qxs5 r.bQ):=by
 unfold kV at hm;refine enter func30 G G G ht (gs ?_);refine dY (cs:=[v0,v1,v2,v3,v4,v5]) G G G G (fun am=>?_);refine dY (cs:=[v6]) G G G (aI.cells h6) (fun an=>?_);refine bO (cs:=[.slice none 0 0,.slice none 0 0,.slice none 0 0,.slice none 0 0,.slice none 0 0,.slice none 0 0]) G G KK G (fun ao=>?_);refine gs ?_;refine la IJ Iq G (.tail _ (.tail _ (.head _))) G ?_;obtain ⟨ap,ae,hm⟩:=bind_some hm;refine aF call61 G G G (fun w ht=>(tQ (hm:=ae) h0 h1 h2 h3 h4 h5 ht :)) ?_;rintro _ _ _ ⟨rfl,a0,af,a1,ag,a2,ah,a3,ai,ad,aq,a4,aj,rfl,rfl,a6,a7,a8,a9,ac,aa⟩;have a6:=a6 H;have a7:=a7 H;have a8:=a8 H;have a9:=a9 H;have ac:=ac H;have aa:=aa H;refine bO (cs:=[.slice none 0 0,.slice none 0 0,.slice none 0 0,.slice none 0 0,.slice none 0 0,.slice none 0 0]) G G KK G (fun ar=>?_);refine aM (cs:=[a0,a1,a2,a3,ad,a4]) (out:=[a0,a1,a2,a3,ad,a4]) G Iq G G G G G (Hb (Rw.one a6) (Hb (Rw.one a7) (Hb (Rw.one a8) (Hb (Rw.one a9) (Hb (Rw.one ac) (Hb (Rw.one aa) Hr)))))) (aQ G) (gs ?_)
 refine fi 4 Hy G JL G ?_;refine lo KF G (.head _) G ?_;refine qe G G G G (a_ (.trans (.cons _ (.cons _ (.cons _ (.cons _ (.swap _ _ _))))) (.trans (.cons _ (.cons _ (.cons _ (.swap _ _ _)))) (.trans (.cons _ (.cons _ (.swap _ _ _))) (.trans (.cons _ (.swap _ _ _)) (.trans (.swap _ _ _) (.trans (.cons _ (.cons _ (.cons _ (.cons _ (.cons _ (.cons _ (.cons _ (.swap _ _ _)))))))) (.trans (.cons _ (.cons _ (.cons _ (.cons _ (.cons _ (.cons _ (.swap _ _ _))))))) (.trans (.cons _ (.cons _ (.cons _ (.cons _ (.cons _ (.swap _ _ _)))))) (.trans (.cons _ (.cons _ (.cons _ (.cons _ (.swap _ _ _))))) (.trans (.cons _ (.cons _ (.cons _ (.swap _ _ _)))) (.trans (.cons _ (.cons _ (.swap _ _ _))) (.cons _ (.swap _ _ _))))))))))))) ?_);obtain ⟨au,ak,hm⟩:=bind_some hm;refine aF call62 G G G (fun w ht=>(jT (hm:=ak) ac h6 ht :)) ?_;rintro _ _ _ ⟨rfl,ab,al,rfl,rfl,a5⟩;have a5:=a5 H
 refine fi 4 Hy G JL G ?_;refine a_ (.trans (.cons _ (.swap _ _ _)) (.swap _ _ _)) (aM (cs:=[ab]) (out:=[a0,a1,a2,a3,ab,a4]) G JL G G (Rw.cells a5) G G (Hb (Rw.one a5) Hr) G (gs ?_));refine la IJ Iq G (.head _) G ?_;refine a_ (.trans (.cons _ (.cons _ (.cons _ (.cons _ (.cons _ (.cons _ (.cons _ (.swap _ _ _)))))))) (.trans (.cons _ (.cons _ (.cons _ (.cons _ (.cons _ (.cons _ (.swap _ _ _))))))) (.trans (.cons _ (.cons _ (.cons _ (.cons _ (.cons _ (.swap _ _ _)))))) (.trans (.cons _ (.cons _ (.cons _ (.cons _ (.swap _ _ _))))) (.trans (.cons _ (.cons _ (.cons _ (.swap _ _ _)))) (.trans (.cons _ (.cons _ (.swap _ _ _))) (.trans (.cons _ (.swap _ _ _)) (.swap _ _ _)))))))) (aM (cs:=[a0,a1,a2,a3,ab,a4]) (out:=[a0,a1,a2,a3,ab,a4]) G Iq G G G G G (Hb (Rw.one a6) (Hb (Rw.one a7) (Hb (Rw.one a8) (Hb (Rw.one a9) (Hb (Rw.one a5) (Hb (Rw.one aa) Hr)))))) (aQ G) (go ?_))
 obtain rfl:=Hc hm;exact iT (Hg _) G (fI.agg G IJ Iq (.head _) G) (.cons _ (.cons _ (.cons_cons _ (.cons _ (.cons_cons _ (.cons_cons _ (.cons_cons _ (.cons_cons _ (.cons_cons _ (.cons _ (.refl _))))))))))) (.trans (.swap _ _ _) (.trans (.cons _ (.swap _ _ _)) (.trans (.cons _ (.cons _ (.swap _ _ _))) (.cons _ (.cons _ (.cons _ (.swap _ _ _))))))) ⟨G,a0,af,a1,ag,a2,ah,a3,ai,ab,al,a4,aj,G,G,(a6).jF,(a7).jF,(a8).jF,(a9).jF,(a5).jF,(aa).jF⟩
theorem uv {B:Nat}{w0 w:World}[cW B w0] {H:Hp}{M:List bV}{p0_n:aC}{on:(List ByteArray)}{v0 v1 v2 v3 v4 v5 v6:Value}{r:aC×Int} (hm:kU p0_n on=some r) (h0:aI H v0 p0_n.bJ) (h1:aI H v1 p0_n.bF) (h2:aI H v2 p0_n.aN) (h3:aI H v3 p0_n.dM) (h4:aI H v4 p0_n.bK) (h5:aI H v5 p0_n.bQ) (h6:aI H v6 on) (ht:St B w0 H (M) w):
    Calls prog 15 [.agg [v0,v1,v2,v3,v4,v5].toArray,v6].toArray w (fS B w0 fun H' M' v=>H=H'∧∃ qv0:Value,∃ qxs0:List Value,∃ qv1:Value,∃ qxs1:List Value,∃ qv2:Value,∃ qxs2:List Value,∃ qv3:Value,∃ qxs3:List Value,∃ qv4:Value,∃ qxs4:List Value,∃ qv5:Value,∃ qxs5:List Value,.row qv0 9 (aE.sz ByteArray) r.1.bJ.length qxs0::.row qv1 80 (aE.sz cE) r.1.bF.length qxs1::.row qv2 56 (aE.sz bH) r.1.aN.length qxs2::.row qv3 117 (aE.sz cP) r.1.dM.length qxs3::.row qv4 32 (aE.sz aK) r.1.bK.length qxs4::.row qv5 121 (aE.sz dC) r.1.bQ.length qxs5::M=M'∧.tuple #[.agg [qv0,qv1,qv2,qv3,qv4,qv5].toArray,.int .i64 (r.2)]=v∧nf qv0 qxs0 r.1.bJ∧nf qv1 qxs1 r.1.bF∧nf qv2 qxs2 r.1.aN∧nf qv3 qxs3 r.1.dM∧nf qv4 qxs4 r.1.bK∧nf qv5 qxs5 r.1.bQ):=by
 unfold kU at hm;refine enter func15 G G G ht (gs ?_);refine dY (cs:=[v0,v1,v2,v3,v4,v5]) G G G G (fun al=>?_);refine bO (cs:=[.slice none 0 0,.slice none 0 0,.slice none 0 0,.slice none 0 0,.slice none 0 0,.slice none 0 0]) G G KK G (fun am=>?_);refine gs ?_;refine gs ?_;refine la IJ Iq G (.tail _ (.head _)) G (go ?_);obtain ⟨an,ac,hm⟩:=bind_some hm;refine aF call26 G G G (fun w ht=>(qR (hm:=ac) h0 h1 h2 h3 h4 h5 h6 ht :)) ?_;rintro _ _ _ ⟨rfl,rfl,rfl⟩;refine gs ?_;refine cd hm G (fun ad hm=>?_) (fun ad hm=>?_);refine gs ?_;refine eR (css:=[]) (zs:=[.slice none 0 0,.slice none 0 0,.slice none 0 0,.slice none 0 0,.slice none 0 0,.slice none 0 0]) (out:=[.slice none 0 0,.slice none 0 0,.slice none 0 0,.slice none 0 0,.slice none 0 0,.slice none 0 0]) (places:=[(0,1),(1,1),(2,1),(3,1),(4,1),(5,1)]) G G G Hh KK G Hy (fun w=>by kernel_rfl) G ?_
 refine go ?_;refine aM (cs:=[.slice none 0 0,.slice none 0 0,.slice none 0 0,.slice none 0 0,.slice none 0 0,.slice none 0 0]) (out:=[.slice none 0 0,.slice none 0 0,.slice none 0 0,.slice none 0 0,.slice none 0 0,.slice none 0 0]) G Iq G G G G G (Hb G (Hb G (Hb G (Hb G (Hb G (Hb G Hr)))))) (aQ G) ?_;refine aL G G G (bC (aP ?_));refine gj ?_;refine cQ 9 (aE.sz ByteArray) (cQ 80 (aE.sz cE) (cQ 56 (aE.sz bH) (cQ 117 (aE.sz cP) (cQ 32 (aE.sz aK) (cQ 121 (aE.sz dC) ?_)))));obtain rfl:=Hc hm;exact wP (Hg _) G (fI.agg G IJ Iq (.tail _ (.tail _ (.tail _ (.tail _ (.tail _ (.tail _ (.head _))))))) G) (fI.tmp G) (.cons_cons _ (.cons_cons _ (.cons_cons _ (.cons_cons _ (.cons_cons _ (.cons_cons _ (.cons _ (.cons _ (.refl _))))))))) (.trans (.cons _ (.cons _ (.cons _ (.cons _ (.swap _ _ _))))) (.trans (.cons _ (.cons _ (.cons _ (.swap _ _ _)))) (.trans (.cons _ (.cons _ (.swap _ _ _))) (.trans (.cons _ (.swap _ _ _)) (.trans (.swap _ _ _) (.trans (.cons _ (.cons _ (.cons _ (.cons _ (.swap _ _ _))))) (.trans (.cons _ (.cons _ (.cons _ (.swap _ _ _)))) (.trans (.cons _ (.cons _ (.swap _ _ _))) (.trans (.cons _ (.swap _ _ _)) (.trans (.cons _ (.cons _ (.cons _ (.cons _ (.swap _ _ _))))) (.trans (.cons _ (.cons _ (.cons _ (.swap _ _ _)))) (.trans (.cons _ (.cons _ (.swap _ _ _))) (.trans (.cons _ (.cons _ (.cons _ (.cons _ (.swap _ _ _))))) (.trans (.cons _ (.cons _ (.cons _ (.swap _ _ _)))) (.cons _ (.cons _ (.cons _ (.cons _ (.swap _ _ _))))))))))))))))))) ⟨G,(.slice none 0 0),[],(.slice none 0 0),[],(.slice none 0 0),[],(.slice none 0 0),[],(.slice none 0 0),[],(.slice none 0 0),[],G,G,(Rw.nil (H:=H)).jF,(Rw.nil (H:=H)).jF,(Rw.nil (H:=H)).jF,(Rw.nil (H:=H)).jF,(Rw.nil (H:=H)).jF,(Rw.nil (H:=H)).jF⟩
 refine gs ?_;refine la IJ Iq G (.tail _ (.head _)) G (go ?_);obtain ⟨ao,ae,hm⟩:=bind_some hm;refine aF call30 G G G (fun w ht=>(pc (hm:=ae) h0 h1 h2 h3 h4 h5 h6 ht :)) ?_;rintro _ _ _ ⟨rfl,a6,af,a7,ag,a8,ah,a9,ai,aa,aj,ab,ak,rfl,rfl,a0,a1,a2,a3,a4,a5⟩;have a0:=a0 H;have a1:=a1 H;have a2:=a2 H;have a3:=a3 H;have a4:=a4 H;have a5:=a5 H;refine a_ (.trans (.cons _ (.cons _ (.cons _ (.cons _ (.cons _ (.swap _ _ _)))))) (.trans (.cons _ (.cons _ (.cons _ (.cons _ (.swap _ _ _))))) (.trans (.cons _ (.cons _ (.cons _ (.swap _ _ _)))) (.trans (.cons _ (.cons _ (.swap _ _ _))) (.trans (.cons _ (.swap _ _ _)) (.swap _ _ _)))))) (aM (cs:=[a6,a7,a8,a9,aa,ab]) (out:=[a6,a7,a8,a9,aa,ab]) G Iq G G G G G (Hb (Rw.one a0) (Hb (Rw.one a1) (Hb (Rw.one a2) (Hb (Rw.one a3) (Hb (Rw.one a4) (Hb (Rw.one a5) Hr)))))) (aQ G) (go ?_))
 obtain rfl:=Hc hm;exact wP (Hg _) G (fI.agg G IJ Iq (.head _) G) (fI.tmp G) (.cons _ (.cons_cons _ (.cons_cons _ (.cons_cons _ (.cons_cons _ (.cons_cons _ (.cons_cons _ (.cons _ (.refl _))))))))) (.refl _) ⟨G,a6,af,a7,ag,a8,ah,a9,ai,aa,aj,ab,ak,G,G,(a0).jF,(a1).jF,(a2).jF,(a3).jF,(a4).jF,(a5).jF⟩
theorem tT {B:Nat}{w0 w:World}[cW B w0] {H:Hp}{M:List bV}{p0_n:aC}{p1_open:Bool}{v0 v1 v2 v3 v4 v5:Value}{r:(List bW)×(List Int)} (hm:mu p0_n p1_open=some r) (h0:aI H v0 p0_n.bJ) (h1:aI H v1 p0_n.bF) (h2:aI H v2 p0_n.aN) (h3:aI H v3 p0_n.dM) (h4:aI H v4 p0_n.bK) (h5:aI H v5 p0_n.bQ) (ht:St B w0 H (M) w):
    Calls prog 138 [.agg [v0,v1,v2,v3,v4,v5].toArray,.bool (p1_open)].toArray w (fS B w0 fun H' M' v=>H=H'∧∃ qv0:Value,∃ qxs0:List Value,∃ qv1:Value,∃ qxs1:List Value,.row qv0 178 (aE.sz bW) r.1.length qxs0::.row qv1 3 (aE.sz Int) r.2.length qxs1::M=M'∧.tuple #[qv0,qv1]=v∧nf qv0 qxs0 r.1∧nf qv1 qxs1 r.2):=by
 unfold mu at hm;refine enter func138 G G G ht (gs ?_);refine dY (cs:=[v0,v1,v2,v3,v4,v5]) G G G G (fun a6=>?_);refine gs ?_;refine gs ?_;refine gs ?_;refine gs ?_;refine fi 1 Hy G sizeOf23 G ?_;refine lo isAgg23 G (.head _) G ?_;refine bD G G Kz G h1 (go ?_);refine aG (iU 178 (aE.sz bW) (iU 3 (aE.sz Int) ?_));obtain ⟨ar,az,b0,hm⟩:=dO hm;refine Fq (.swap _ _ _) (fun n H' M' L'=>∃ (a0:Nat) (ab:List cE),∃ a8:List bW,∃ a9:List Int,∃ a7:Value,∃ ac:List Value,∃ aa:Value,∃ ad:List Value,(p0_n.bF).drop a0=ab∧ab.length=n∧ar a0 ab (a8,a9)=some r∧Rw H' a7 ac a8∧Rw H' aa ad a9∧H.le H'∧.row a7 178 (aE.sz bW) a8.length ac::.row aa 3 (aE.sz Int) a9.length ad::.obj a6 (.cells [v0,v1,v2,v3,v4,v5].toArray 29 (0,0))::M=M'∧[(1,.bool (p1_open)),(2,.pointer (some ⟨a6,0,none⟩)),(6,a7),(7,aa),(11,v1),(12,.int .i64 ((p0_n.bF.length:Int))),(13,.int .i64 ((a0:Int)))]=L') _ ⟨0,_,_,_,_,_,_,_,G,G,hm,Rw.nil,Rw.nil,(Hg _),G,G⟩ ?_
 rintro _ b1 _ _ ⟨a0,ab,a8,a9,a7,ac,aa,ad,au,rfl,hm,ai,aj,a4,rfl,rfl⟩;refine gs ?_;refine gs ?_;refine bS G (fun ak=>?_) (fun ak=>?_);obtain ⟨a1,av,rfl,al,b2⟩:=iE au ak;have hm:=(az _ _ _ _).symm.trans hm;generalize b3:ar (a0+1) av=b4 at hm
 try dsimp only at hm
 unfold n7 at hm;refine go ?_;refine bL (fun H' M' L'=>∃ ae:List bW,∃ af:List Int,∃ ag:Value,∃ am:List Value,∃ ah:Value,∃ an:List Value,kW b4 ae af=some r∧Rw H' ag am ae∧Rw H' ah an af∧b1.le H'∧.row ag 178 (aE.sz bW) ae.length am::.row ah 3 (aE.sz Int) af.length an::.obj a6 (.cells [v0,v1,v2,v3,v4,v5].toArray 29 (0,0))::M=M'∧[(1,.bool (p1_open)),(2,.pointer (some ⟨a6,0,none⟩)),(6,ag),(7,ah),(11,v1),(12,.int .i64 ((p0_n.bF.length:Int))),(13,.int .i64 ((a0:Int)))]=L') ?_ (fun aw=>?_);rintro bl _ _ ⟨ae,af,ag,am,ah,an,hm,b5,b6,b7,rfl,rfl⟩;unfold kW at hm;refine gj ?_;exact kj (b_ (Hq _) ⟨a0+1,av,_,_,_,_,_,_,b2,G,((HN b3 _).trans hm),b5,b6,(Hf a4 b7),G,G⟩) ⟨G,G,G,G,G,G,(HH (fun z=>some (Value.int .i64 z)) (cR al ((h1.mono a4)).dT)),Hh⟩;refine aG ?_;refine gs ?_
 obtain ⟨_,⟨rfl⟩,b8⟩:=(h1).elem al;refine aY G G Kz L9 G (h1.mono a4) G (HF _) al (aT G G isAgg80 L9 G (b8.mono a4).at G ?_);refine bO (cs:=[.string (⟨#[]⟩),.string (⟨#[]⟩),.string (⟨#[]⟩),.bool (false),.bool (false)]) G G zeroValue80 G (fun ax=>?_);refine go ?_;refine aM (cs:=[.string (a1.Name),.string (a1.A),.string (a1.B_),.bool (a1.sH),.bool (a1.Open)]) (out:=[.string (a1.Name),.string (a1.A),.string (a1.B_),.bool (a1.sH),.bool (a1.Open)]) G L9 G G G G G (Hb G (Hb G (Hb G (Hb G (Hb G Hr))))) (aQ G) (gs ?_);refine fi 4 KS G IF G ?_;refine lo Ky G (.head _) G (go ?_);refine xV G G runUnderlying4 G G (go ?_);refine cd hm G (fun b9 hm=>?_) (fun b9 hm=>?_);refine gs ?_;obtain ⟨a2,ba,hm⟩:=bind_some hm;obtain ⟨a3,bb,hm⟩:=bind_some hm;refine pw fm 13 [ph a7,ph (.pointer (some ⟨a6,0,none⟩)),ph v0,ph (.pointer (some ⟨ax,1,none⟩)),ph (.string (a1.A)),ph (.int .i64 (a2)),ph (.pointer (some ⟨a6,0,none⟩)),ph v0,ph (.pointer (some ⟨ax,2,none⟩)),ph (.string (a1.B_)),ph (.int .i64 (a3)),ph (.agg [.int .i64 (a2),.int .i64 (a3)].toArray),(fun H rs v=>∃ a5:Value,[]=rs∧a5=v∧aI H a5 ([(bW.mk a2 a3)])∧Value.lQ a5=([(bW.mk a2 a3)]).length)] ⟨om,?_,?_,?_,?_,?_,?_,?_,?_,?_,?_,?_,?_,Hh⟩ ?_
 rintro HX hX X Rest hR hU hUp;refine fi 0 Hy G JP G ?_;exact o0 ⟨G,G⟩;rintro HX hX X Rest hR _ _ ⟨rfl,rfl⟩ hU hUp;refine aJ G G Jy G (bZ (hR _ (.tail _ (.tail _ (.tail _ (.head _))))) G) ?_;exact o0 ⟨G,G⟩;rintro HX hX X Rest hR hU hUp;refine fi 1 KS G Ik G ?_;exact o0 ⟨G,G⟩;rintro HX hX X Rest hR _ _ ⟨rfl,rfl⟩ hU hUp;refine aJ G G IX G (bZ (hR _ (.head _)) G) ?_;exact o0 ⟨G,G⟩;rintro HX hX X Rest hR _ _ ⟨rfl,rfl⟩ _ _ ⟨rfl,rfl⟩ hU hUp;refine aF LJ G G G (fun w ht=>(bY (hm:=ba) ((h0.mono a4).mono hX) ht :)) ?_;rintro _ _ _ ⟨rfl,rfl,rfl⟩;exact o0 ⟨G,G⟩;rintro HX hX X Rest hR hU hUp;refine fi 0 Hy G JP G ?_;exact o0 ⟨G,G⟩;rintro HX hX X Rest hR _ _ ⟨rfl,rfl⟩ hU hUp;refine aJ G G Jy G (bZ (hR _ (.tail _ (.tail _ (.tail _ (.head _))))) G) ?_;exact o0 ⟨G,G⟩;rintro HX hX X Rest hR hU hUp;refine fi 2 KS G Ik G ?_
 exact o0 ⟨G,G⟩;rintro HX hX X Rest hR _ _ ⟨rfl,rfl⟩ hU hUp;refine aJ G G IX G (bZ (hR _ (.head _)) G) ?_;exact o0 ⟨G,G⟩;intro HX hX X Rest hR;refine dr ?_;intro hU hUp;refine aF LJ G G G (fun w ht=>(bY (hm:=bb) ((h0.mono a4).mono hX) ht :)) ?_;rintro _ _ _ ⟨rfl,rfl,rfl⟩;exact o0 ⟨G,G⟩;rintro HX hX X Rest hR _ _ ⟨rfl,rfl⟩ _ _ ⟨rfl,rfl⟩ hU hUp;refine vc (css:=[[.int .i64 (a2)],[.int .i64 (a3)]]) (zs:=[.int .i64 (0),.int .i64 (0)]) (out:=[.int .i64 (a2),.int .i64 (a3)]) (places:=[(0,1),(1,1)]) G G G ⟨G,G,Hh⟩ LQ G JC Hz G G ?_;exact o0 ⟨G,G⟩;rintro HX hX X Rest hR _ _ ⟨rfl,rfl⟩ hU hUp;refine dJ (α:=bW) (css:=[[.int .i64 (a2),.int .i64 (a3)]]) (zs:=[.int .i64 (0),.int .i64 (0)]) (out:=[.int .i64 (a2),.int .i64 (a3)]) (ys:=[(bW.mk a2 a3)]) G G G ⟨G,Hh⟩ KH LN G LQ (by kernel_rfl) G G G G ⟨[.int .i64 (a2),.int .i64 (a3)],[],G,G,G⟩ G ?_
 intro bm a5 bn bc bd ao;have ay:Value.lQ a5=([(bW.mk a2 a3)]).length:=by rw [bc]; rfl
 exact oe [] bd ⟨a5,G,G,(ao),(ay)⟩;intro bo ap;refine dr ?_;rintro _ _ ⟨a5,rfl,rfl,ao,ay⟩;refine rV ?_;obtain ⟨be,hm⟩:=aR hm;refine a_ (.swap _ _ _) (dN (α:=bW) (l:=a8) (ys:=[(bW.mk a2 a3)]) G G underlying177 ⟨_,G,G,G,G⟩ G G G G G (ai.mono ap) ao be ?_);intro bp bq bf;refine go ?_;refine dJ (α:=Int) (css:=[[.int .i64 ((a0:Int))]]) (zs:=[.int .i64 (0)]) (out:=[.int .i64 ((a0:Int))]) (ys:=([((a0:Int))]:List Int)) G G G ⟨G,Hh⟩ Hn Hz G Ko (by kernel_rfl) G G G G ⟨[.int .i64 ((a0:Int))],[],G,G,G⟩ G ?_
 intro br bg bs bh aq bi;have bt:Value.lQ bg=([((a0:Int))]:List Int).length:=by rw [bh]; rfl
 obtain ⟨bj,hm⟩:=aR hm;refine a_ (.trans (.cons _ (.swap _ _ _)) (.swap _ _ _)) (dN (α:=Int) (l:=a9) (ys:=([((a0:Int))]:List Int)) G G JI ⟨_,G,G,G,G⟩ G G G G G ((aj.mono ap).mono aq) bi bj ?_);intro bu bv bk;refine gj ?_;refine aU (.cons_cons _ (.cons_cons _ (.cons _ (.refl _)))) ?_;exact kp (aw _ _ _ ⟨_,_,_,_,_,_,hm,(bf.mono aq),bk,(Hf ap aq),G,G⟩) (.swap _ _ _);refine gj ?_;refine aU (.cons _ (.refl _)) ?_;exact kj (aw _ _ _ ⟨_,_,_,_,_,_,hm,ai,aj,(Hg _),G,G⟩);obtain rfl:=iD au ak;have hm:=(b0 _ _).symm.trans hm
 try dsimp only at hm
 refine gs ?_;refine go ?_;obtain rfl:=Hc hm;refine aU (.cons_cons _ (.cons_cons _ (.cons _ (.refl _)))) (aZ a4 ?_);exact jS G G G ⟨G,a7,ac,aa,ad,G,G,(ai).jF,(aj).jF⟩
theorem uJ {B:Nat}{w0 w:World}[cW B w0] {H:Hp}{M:List bV}{p0_n:Int}{p1_l:(List bW)}{v0:Value}{r:Int} (hm:nH p0_n p1_l=some r) (h0:aI H v0 p1_l) (ht:St B w0 H (M) w):
    Calls prog 139 [.int .i64 (p0_n),v0].toArray w (fS B w0 fun H' M' v=>H=H'∧M=M'∧.int .i64 (r)=v):=by
 unfold nH at hm;refine enter func139 G G G ht (gs ?_);refine gs ?_;refine bL (fun H' M' L'=>H=H'∧M=M'∧[(0,.int .i64 (p0_n)),(1,v0),(17,.bool (((decide (p0_n<0)) || (decide (24<p0_n))) || (decide (64<(p1_l.length:Int)))))]=L') ?_ (fun a6=>?_);rintro _ _ _ ⟨rfl,rfl,rfl⟩;refine cd hm G (fun ah hm=>?_) (fun ah hm=>?_);refine gs ?_;refine go ?_;obtain rfl:=Hc hm;refine aZ (Hg _) ?_;exact cL G G ⟨G,G,G⟩;refine gs ?_;refine gs ?_;refine bD G G KH G h0 (go ?_);refine aG ?_;obtain ⟨aa,ai,aj,hm⟩:=dO hm;refine mA (fun n H' M' L'=>∃ (a4:Nat) (a5:List bW),(p1_l).drop a4=a5∧a5.length=n∧aa a4 a5 ()=some r∧H.le H'∧M=M'∧[(0,.int .i64 (p0_n)),(18,v0),(19,.int .i64 ((p1_l.length:Int))),(20,.int .i64 ((a4:Int)))]=L') _ ⟨0,_,G,G,hm,(Hg _),G,G⟩ ?_;rintro _ ao _ _ ⟨a4,a5,ab,rfl,hm,a2,rfl,rfl⟩
 refine gs ?_;refine gs ?_;refine bS G (fun a7=>?_) (fun a7=>?_);obtain ⟨a3,ac,rfl,a8,ak⟩:=iE ab a7;have hm:=(ai _ _ _ _).symm.trans hm;generalize al:aa (a4+1) ac=ap at hm;unfold oZ at hm;refine gs ?_;refine aG ?_;refine gs ?_;obtain ⟨_,⟨rfl⟩,am⟩:=(h0).elem a8;refine aY G G KH LN G (h0.mono a2) G (HF _) a8 (aT G G isAgg178 LN G (am.mono a2).at G ?_);refine bO (cs:=[.int .i64 (0),.int .i64 (0)]) G G LQ G (fun aq=>?_);refine aM (cs:=[.int .i64 (a3.a0),.int .i64 (a3.a1)]) (out:=[.int .i64 (a3.a0),.int .i64 (a3.a1)]) G LN G G G G G (Hb G (Hb G Hr)) (aQ G) (gs ?_);refine mw G G JC Hz G G (by decide) (by decide) ?_
 refine lo HY G (.head _) G (go ?_);cases ad:(decide (a3.a0<0));have hm:=gV ad hm;refine mw G G JC Hz G G (by decide) (by decide) ?_
 refine lo HY G (.head _) G (go ?_);cases ae:(decide (p0_n≤a3.a0));have hm:=gV ae hm;refine mw G G JC Hz G G (by decide) (by decide) ?_
 refine lo HY G (.head _) G (go ?_);cases af:(decide (a3.a1<0));have hm:=gV af hm;refine mw G G JC Hz G G (by decide) (by decide) ?_
 refine lo HY G (.head _) G (go ?_);refine cd hm G (fun an hm=>?_) (fun an hm=>?_);refine gs ?_;refine go ?_;obtain rfl:=Hc hm;refine aU (.cons _ (.refl _)) (aZ a2 ?_);exact cL G G ⟨G,G,G⟩;refine eP (aH (aP ?_));refine gj ?_;refine aU (.cons _ (.refl _)) ?_;exact kj (b_ (Hq _) ⟨a4+1,ac,ak,G,((HN al _).trans hm),a2,G,G⟩) ⟨G,G,G,(HH (fun z=>some (Value.int .i64 z)) (cR a8 ((h0.mono a2)).dT)),Hh⟩;have hm:=gW af hm;refine go ?_;refine cT G (gs ?_);refine go ?_;obtain rfl:=Hc hm;refine aU (.cons _ (.refl _)) (aZ a2 ?_);exact cL G G ⟨G,G,G⟩;have hm:=gW ae hm;refine go ?_;refine cT G (gs ?_);refine go ?_;obtain rfl:=Hc hm;refine aU (.cons _ (.refl _)) (aZ a2 ?_);exact cL G G ⟨G,G,G⟩;have hm:=gW ad hm;refine go ?_;refine cT G (gs ?_);refine go ?_;obtain rfl:=Hc hm;refine aU (.cons _ (.refl _)) (aZ a2 ?_)
 exact cL G G ⟨G,G,G⟩;obtain rfl:=iD ab a7;have hm:=(aj _ _).symm.trans hm;refine gs ?_;refine go ?_;obtain rfl:=Hc hm;refine aZ a2 ?_;exact cL G G ⟨G,G,G⟩;refine go ?_;cases a9:(decide (p0_n<0));refine go ?_;cases ag:(decide (24<p0_n));refine go ?_;refine bD G G KH G h0 (gj ?_);exact kj (a6 _ _ _ ⟨G,G,G⟩) ⟨G,G,(by exact sb (by first | rfl | simp only [a9,ag,oh])),Hh⟩
 refine gj ?_;exact kj (a6 _ _ _ ⟨G,G,G⟩) ⟨G,G,(by exact sb (by first | rfl | simp only [a9,ag,oh])),Hh⟩
 refine gj ?_;exact kj (a6 _ _ _ ⟨G,G,G⟩) ⟨G,G,(by exact sb (by first | rfl | simp only [a9,oh])),Hh⟩
theorem sT {B:Nat}{w0 w:World}[cW B w0] {H:Hp}{M:List bV}{p0_x p1_y:Int}{r:Int×Int} (hm:kb p0_x p1_y=r) (ht:St B w0 H (M) w):
    Calls prog 181 [.int .u64 (p0_x),.int .u64 (p1_y)].toArray w (fS B w0 fun H' M' v=>H=H'∧M=M'∧.tuple #[.int .u64 (r.1),.int .u64 (r.2)]=v):=by
 unfold kb at hm;refine enter func181 G G G ht (gs ?_);refine gs ?_;refine gs ?_;refine py G G G G (by decide) (gs ?_)
 refine gs ?_;refine py G G G G (by decide) (gs ?_)
 refine gs ?_;refine py G G G G (by decide) (gs ?_)
 refine gs ?_;refine py G G G G (by decide) (gs ?_)
 refine gs ?_;refine py G G G G (by decide) (gs ?_)
 refine go ?_;obtain rfl:=hm;refine aZ (Hg _) ?_;exact jS G G G ⟨G,G,G⟩
theorem qP {B:Nat}{w0 w:World}[cW B w0] {H:Hp}{M:List bV}{p0_x p1_y:Int}{r:Int×Int} (hm:nN p0_x p1_y=r) (ht:St B w0 H (M) w):
    Calls prog 163 [.int .u64 (p0_x),.int .u64 (p1_y)].toArray w (fS B w0 fun H' M' v=>H=H'∧M=M'∧.tuple #[.int .u64 (r.1),.int .u64 (r.2)]=v):=by
 unfold nN at hm;refine enter func163 G G G ht (gs ?_);refine gs ?_;refine cF G (gs ?_);refine aF call181 G G G (fun w ht=>(sT (hm:=(G:kb p0_x p1_y=_))  ht :)) ?_;rintro _ _ _ ⟨rfl,rfl,rfl⟩;refine gs ?_;refine go ?_;obtain rfl:=hm;refine aZ (Hg _) ?_;exact jS G G G ⟨G,G,G⟩
theorem uH (m:Nat) (hm:m<9223372036854775808):nN (u64.wrap (1:Int)) (u64.wrap (m:Int))=(0,(m:Int)):=by
 have hw:u64.wrap (m:Int)=m:=by rw [IntKind.wrap_u64]; omega
 have h1:u64.wrap (1:Int)=1:=rfl;have hand:u64.wrap ((BitVec.ofInt (u64).bits (m:Int) &&& BitVec.ofInt (u64).bits 4294967295).toNat)=((m%4294967296:Nat):Int):=by
  have h:=bits_and_u64_nat m 4294967295 (by omega) (by omega)
  have e:m &&& 4294967295=m%4294967296:=K_ m 32;rw [e] at h;exact h
 have hand2:u64.wrap ((BitVec.ofInt (u64).bits ((m / 4294967296%4294967296:Nat):Int) &&& BitVec.ofInt (u64).bits 4294967295).toNat)=((m / 4294967296%4294967296:Nat):Int):=by
  have h:=bits_and_u64_nat (m / 4294967296%4294967296) 4294967295 (by omega) (by omega)
  have e:(m / 4294967296%4294967296) &&& 4294967295=(m / 4294967296%4294967296)%4294967296:=K_ _ 32;rw [e,Nat.mod_mod] at h;exact h
 have hs0:jW .u64 (1:Int) 32=0:=rfl;have hs00:jW .u64 (0:Int) 32=0:=rfl;have hand1:u64.wrap ((BitVec.ofInt (u64).bits (1:Int) &&& BitVec.ofInt (u64).bits 4294967295).toNat)=1:=rfl;have hand0:u64.wrap ((BitVec.ofInt (u64).bits (0:Int) &&& BitVec.ofInt (u64).bits 4294967295).toNat)=0:=rfl;have hsm:∀ k:Nat,jW .u64 (k:Int) 32=((k / 4294967296:Nat):Int):=fun k=>z_ k;have e0:((m%4294967296:Nat):Int)=((m%4294967296:Nat):Int):=rfl;have w1:u64.wrap ((m%4294967296:Nat):Int)=((m%4294967296:Nat):Int):=by rw [IntKind.wrap_u64]; omega
 have w2:u64.wrap ((m / 4294967296:Nat):Int)=((m / 4294967296:Nat):Int):=by rw [IntKind.wrap_u64]; omega
 have d1:m%4294967296 / 4294967296=0:=by omega
 have d2:m / 4294967296 / 4294967296=0:=by omega
 have z0:u64.wrap (0:Int)=0:=rfl;unfold nN kb;rw [hw,h1]
 simp only [hs0,hs00,hand1,hand,hsm,Int.zero_mul,Int.one_mul,z0,Int.zero_add,w1,d1,Int.ofNat_zero,Int.natCast_zero,Int.add_zero,hand0,w2,d2,hw]
end Go.Sim
