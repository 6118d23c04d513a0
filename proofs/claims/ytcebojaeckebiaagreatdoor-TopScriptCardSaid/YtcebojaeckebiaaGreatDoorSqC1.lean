/-
  The proof, part C1.
-/
import Derived.KernelRfl
import Derived.Shelf.Small.Bits
import Derived.Shelf.Strconv.Atoi
import Derived.Shelf.Strconv.Itoa0
import Derived.Shelf.Strconv.Itoa1
import Derived.Shelf.LaysM
import Derived.Shelf.Strconv.Itoa2
import Derived.Shelf.Strconv.Itoa3
import Derived.Shelf.Strconv.AtoiErrFast
import Derived.Shelf.Strconv.ParseIntEmpty
import Derived.Shelf.Strconv.AtoiFail
import Derived.Shelf.Strconv.Clone
import Derived.Shelf.Strconv.SyntaxError
import Derived.Shelf.LaysC
import Derived.Shelf.Strconv.ToError
import Derived.Shelf.Strconv.Lower
import Derived.Shelf.Strconv.ParseUint10
import Derived.Shelf.Strconv.ParseUint10Empty
import Derived.Shelf.Strconv.ParseUint10Any
import Derived.Shelf.Strconv.ParseInt10
import Derived.Shelf.Strconv.AtoiLong
import Derived.Shelf.Strconv.AtoiInnerAll
import Derived.Shelf.Strconv.RangeError
import Derived.Shelf.Strconv.ToErrorRange
import Derived.Shelf.Strconv.AtoiAll
import Derived.Shelf.Strconv.ErrVarAll
import Derived.Shelf.Strconv.ParseUintEmpty
import Derived.Shelf.Strconv.ParseUint10b64
import Derived.Shelf.Strconv.ParseUint10b32
import Derived.Shelf.Strconv.ParseUint10b16
import Derived.Shelf.Strconv.ParseUint10b8
import Derived.Test.YtcebojaeckebiaaGreatDoorProg
import Derived.Test.YtcebojaeckebiaaGreatDoorRows
import Derived.Test.YtcebojaeckebiaaGreatDoorSqA2
set_option linter.unusedVariables false
set_option linter.unusedSimpArgs false
set_option linter.unusedSectionVars false
set_option linter.unnecessarySimpa false
namespace Go.Sim
abbrev T5 := @Int.natCast_nonneg
abbrev Tx := @List.Perm.refl
abbrev UD := @List.length_eq_one_iff
abbrev SQ := @List.length_nil
abbrev Uy := @Nat.and_two_pow_sub_one_eq_mod
abbrev UW := @Go.Proofs.Tryz.isAgg29
abbrev Sx := @Go.Proofs.Tryz.runUnderlying128
abbrev UR := @Go.Proofs.Tryz.runUnderlying177
abbrev Ul := @Go.Proofs.Tryz.runUnderlying201
abbrev R9 := @Go.Proofs.Tryz.runUnderlying22
abbrev VB := @Go.Proofs.Tryz.runUnderlying25
abbrev UB := @Go.Proofs.Tryz.runUnderlying26
abbrev SZ := @Go.Proofs.Tryz.runUnderlying278
abbrev VC := @Go.Proofs.Tryz.runUnderlying29
abbrev Tz := @Go.Proofs.Tryz.runUnderlying3
abbrev Vh := @Go.Proofs.Tryz.runUnderlying4
abbrev Vi := @Go.Proofs.Tryz.runUnderlying5
abbrev Rk := @Go.Proofs.Tryz.runUnderlying9
abbrev UF := @Go.Proofs.Tryz.sizeOf29
abbrev SR := @Go.Proofs.Tryz.sizeOf3
abbrev S1 := @Go.Proofs.Tryz.sizeOf9
abbrev SG := @Go.Proofs.Tryz.underlying128
abbrev Tt := @Go.Proofs.Tryz.underlying22
abbrev TA := @Go.Proofs.Tryz.zeroValue3
abbrev Tc := @Go.Proofs.Tryz.zeroValue9
end Go.Sim
namespace Go.Sim
open Go
open _root_.Go.IntKind (i64 u64 u32 u8)
theorem G {α : Sort _} {a : α} : a = a := rfl
def A9:Nat->List bQ->Option (bQ×List bQ)
 | _,[]=>none
 | 0,r::l=>some (r,l)
 | n+1,r::l=>match A9 n l with
  | some (s,l')=>some (s,r::l')
  | none=>none
theorem uZ:∀ {n:Nat}{l:List bQ}{r:bQ}{l':List bQ},A9 n l=some (r,l')->l.Perm (r::l')
 | _,[],_,_,h=>by simp [A9] at h
 | 0,s::l,r,l',h=>by simp only [A9,Rp,Tw] at h; rw [h.1,h.2]
 | n+1,s::l,r,l',h=>by
  simp only [A9] at h
  split at h
  ·rename_i q l2 e
   simp only [Rp,Tw] at h;obtain ⟨rfl,rfl⟩:=h;exact ((uZ e).cons s).trans (List.Perm.swap _ _ _)
  ·cases h
def A0:List Nat->List bQ->Option (List bQ)
 | [],l=>some l
 | i::J,l=>match A9 i l with
  | some (r,l')=>(match A0 J l' with
   | some I=>some (r::I)
   | none=>none)
  | none=>none
theorem xt:∀ {ix:List Nat}{l l':List bQ},A0 ix l=some l'->l.Perm l'
 | [],l,l',h=>by simp only [A0,Rp] at h; rw [h]
 | i::I,l,l',h=>by
  simp only [A0] at h
  split at h
  ·rename_i r l1 e
   split at h
   ·rename_i l2 e2
    simp only [Rp] at h;subst h;exact (uZ e).trans ((xt e2).cons r)
   ·cases h
  ·cases h
def Fc:Nat->List bQ->Option (List bQ)
 | 0,l=>some l
 | _+1,[]=>none
 | n+1,_::l=>Fc n l
theorem Dj:∀ {n:Nat}{l l':List bQ},Fc n l=some l'->l'.Sublist l
 | 0,l,l',h=>by simp only [Fc,Rp] at h; rw [h]; exact Tm _
 | n+1,[],l',h=>by simp [Fc] at h
 | n+1,r::l,l',h=>(Dj (n:=n) (l:=l) h).cons r
def yU:List Nat->Nat->List bQ->Option (List bQ)
 | [],d,l=>Fc d l
 | i::J,d,l=>match A9 i l with
  | some (r,l')=>(match yU J d l' with
   | some I=>some (r::I)
   | none=>none)
  | none=>none
theorem AH:∀ {ix:List Nat}{d:Nat}{l l':List bQ},yU ix d l=some l'->∃ k,l.Perm k/\l'.Sublist k
 | [],d,l,l',h=>⟨l,Tx _,Dj h⟩
 | i::J,d,l,l',h=>by
  simp only [yU] at h
  split at h
  ·rename_i r l1 e
   split at h
   ·rename_i l2 e2
    simp only [Rp] at h;subst h;obtain ⟨k,I,hs⟩:=AH e2;exact ⟨r::k,(uZ e).trans (I.cons r),hs.cons_cons r⟩
   ·cases h
  ·cases h
def Lj:List Nat->List bQ->Option (List (List bQ)×List bQ)
 | [],l=>some ([],l)
 | i::J,l=>match A9 i l with
  | some (r,l')=>(match Lj J l' with
   | some (I,m)=>some ([r]::I,m)
   | none=>none)
  | none=>none
theorem DB:∀ {ix:List Nat}{l:List bQ}{I:List (List bQ)}{m:List bQ},Lj ix l=some (I,m)->l.Perm (I.flatten++m)
 | [],l,I,m,h=>by simp only [Lj,Rp,Tw] at h; obtain ⟨rfl,rfl⟩:=h; exact Tx _
 | i::J,l,I,m,h=>by
  simp only [Lj] at h
  split at h
  ·rename_i r l1 e
   split at h
   ·rename_i I2 m2 e2
    simp only [Rp,Tw] at h;obtain ⟨rfl,rfl⟩:=h;simpa using (uZ e).trans ((DB e2).cons r)
   ·cases h
  ·cases h
section
variable {x:Cx}{ops:Array Oper}{Q:lG}{rest:List Oper}{H:Hp}{M M':List bQ}{L L':Env}{e:Exit}{c:Code}
theorem Wp (ix:List Nat) (k:W x ops Q rest H M' L) (h:A0 ix M=some M':=by rfl):W x ops Q rest H M L:=oc (xt h) k
theorem Cp (ix:List Nat) (k:Sim.C x c Q H M' L) (h:A0 ix M=some M':=by rfl):Sim.C x c Q H M L:=Br (xt h) k
theorem Ep (ix:List Nat) (k:E x e Q H M' L) (h:A0 ix M=some M':=by rfl):E x e Q H M L:=F0 (xt h) k
theorem Ek (ix:List Nat) (d:Nat) (k:E x e Q H M' L) (h:yU ix d M=some M':=by rfl):E x e Q H M L:=by
 obtain ⟨n,I,hs⟩:=AH h;exact F0 I (Jp hs k)
theorem Ck (ix:List Nat) (d:Nat) (k:Sim.C x c Q H M' L) (h:yU ix d M=some M':=by rfl):Sim.C x c Q H M L:=by
 obtain ⟨n,I,hs⟩:=AH h;exact Br I (λa w s t=>k a w s (t.sub hs))
theorem kx (ix:List Nat) (d:Nat) (k:E x e Q H M' L') (h:yU ix d M=some M':=by rfl) (hL:Kept L L':=by repeat first | exact Q3 | refine ⟨rfl,?_⟩):E x e Q H M L:=
 Ek ix d (DC hL (Tx _) k) h
theorem PY (ix:List Nat) (d:Nat) (S:De) (n:Nat) (I:S n H M' L') (step:∀ n H M L,S n H M L->Sim.C x c (Exit.then (Jn x S n) Q) H M L) (h:yU ix d M=some M':=by rfl) (hL:Kept L L':=by repeat first | exact Q3 | refine ⟨rfl,?_⟩):Sim.C x (.loop c) Q H M L:=
 Ck ix d (Bo hL (Tx _) (Bp S n I step)) h
end
def I_:Nat->Q2->List Q2->Option (List Q2)
 | _,_,[]=>none
 | 0,v,_::l=>some (v::l)
 | n+1,v,u::l=>match I_ n v l with
  | some l'=>some (u::l')
  | none=>none
def AY:List Q2->Nat->List Q2->Option (List Q2)
 | l,_,[]=>some l
 | l,k,v::vs=>match I_ k v l with
  | some l'=>AY l' (k+1) vs
  | none=>none
theorem HV:∀ {n:Nat}{v:Q2}{l l':List Q2},I_ n v l=some l'->l.set n v=l'/\n<l.length
 | _,_,[],_,h=>by simp [I_] at h
 | 0,v,u::l,l',h=>by simp only [I_,Rp] at h; subst h; exact ⟨rfl,by simp⟩
 | n+1,v,u::l,l',h=>by
  simp only [I_] at h
  split at h
  ·rename_i l2 e
   simp only [Rp] at h;subst h;obtain ⟨I,J⟩:=HV e;exact ⟨by simp [I],by simp; omega⟩
  ·cases h
theorem CE:∀ {vs:List Q2}{l:List Q2}{k:Nat}{l':List Q2},AY l k vs=some l'->over l k vs=l'/\(vs=[]\/k+vs.length<=l.length)
 | [],l,k,l',h=>by simp only [AY,Rp] at h; subst h; exact ⟨rfl,.inl rfl⟩
 | v::vs,l,k,l',h=>by
  simp only [AY] at h
  split at h
  ·rename_i l2 e
   obtain ⟨I,Y⟩:=HV e;obtain ⟨O,J⟩:=CE h;refine ⟨by simp only [over]; rw [I]; exact O,.inr ?_⟩
   have hl:l2.length=l.length:=by rw [<- I]; simp
   rcases J with rfl | J
   ·simp; omega
   ·simp only [Rd]; omega
  ·cases h
section
variable {x:Cx}{ops:Array Oper}{Q:lG}{rest:List Oper}{H:Hp}{M M':List bQ}{L L':Env}{ty:TypeId}{pos:String}{aft:Array Edge}{g:Option (Nat×Bool)}
theorem ws (i:Nat) {T U n b o:Nat}{y z:Operand}{l cs out:List Q2}{v:Q2}{M1:List bQ} (Z:v.cells=cs.toArray)
  (k:W x ops Q rest H (.obj b (.cells out.toArray U (0,0))::M1) L)
  (h1:∀ c ∈ cs,c.oneCell'=true:=by repeat first | exact SN | refine bP rfl ?_)
  (hy:ev L y=some (.pointer (some ⟨b,o,none⟩)):=by rfl) (hz:ev L z=some v:=by rfl) (hM:A9 i M=some (.obj b (.cells l.toArray U (0,0)),M1):=by rfl)
  (Y:gd ops L ⟨none,.store T y z,ty,pos,aft,g⟩=some true:=by rfl) (hn:∀ w,(sizeOf T).run x.P w=.ok n w:=by exact λ_=>rfl) (hl:cs.length=n:=by rfl) (ho:AY l o cs=some out:=by rfl):
  W x ops Q (⟨none,.store T y z,ty,pos,aft,g⟩::rest) H M L:=by
 refine oc (uZ hM) ?_;obtain ⟨I,J⟩:=CE ho;rcases J with rfl | J
 ·have I:l=out:=I
  subst I;exact DN rfl Y (λa w hs ht=>⟨w,by
   have O:n=0:=hl.symm;subst O;simp [execOp,hs.ev hy,hs.ev hz,Instr.storeAt,Instr.sureAddr,storeVar,hn,Z,storeCells],H,_,ht,k⟩)
 ·exact DO Y hn hy hz Z hl (by simpa [TN] using J) h1 I k
end
def N4:Nat->List bQ->Option (List bQ)
 | 0,l=>some l
 | _+1,[]=>none
 | n+1,r::l=>match N4 n l with
  | some l'=>some (r::l')
  | none=>none
theorem Gw:∀ {n:Nat}{l l':List bQ},N4 n l=some l'->l=l'
 | 0,l,l',h=>by simpa [N4] using h
 | n+1,[],l',h=>by simp [N4] at h
 | n+1,r::l,l',h=>by
  simp only [N4] at h
  split at h
  ·rename_i l2 e
   simp only [Rp] at h;subst h;rw [Gw e]
  ·cases h
section
variable {x:Cx}{ops:Array Oper}{Q:lG}{rest:List Oper}{H:Hp}{M M' M1:List bQ}{rs:List bQ}{L L':Env}{e:Exit}{c:Code}
theorem Wu (n:Nat) (k:W x ops Q rest H M' L) (h:M=jT rs::M1:=by rfl) (I:N4 n (rs++M1)=some M':=by rfl):W x ops Q rest H M L:=λa w hs ht=>k a w hs (by rw [<- Gw I]; rw [h] at ht; exact ht.unpack)
theorem Cu (n:Nat) (k:Sim.C x c Q H M' L) (h:M=jT rs::M1:=by rfl) (I:N4 n (rs++M1)=some M':=by rfl):Sim.C x c Q H M L:=λa w hs ht=>k a w hs (by rw [<- Gw I]; rw [h] at ht; exact ht.unpack)
theorem Wk (rs:List bQ) (k:W x ops Q rest H (jT rs::M1) L) (h:rs++M1=M:=by rfl):W x ops Q rest H M L:=λa w hs ht=>k a w hs (by rw [<- h] at ht; exact ht.pack)
theorem yF (rs:List bQ) (k:E x e Q H (jT rs::M1) L) (h:rs++M1=M:=by rfl):E x e Q H M L:=λa w hs ht=>k a w hs (by rw [<- h] at ht; exact ht.pack)
end
section
variable {x:Cx}{ops:Array Oper}{Q:lG}{rest:List Oper}{H:Hp}{M:List bQ}{L:Env}{e:Exit}{c:Code}
theorem vO (k:W x ops Q rest H M L):W x ops Q rest H M L:=k
theorem O6 (k:E x e Q H M L):E x e Q H M L:=k
theorem O5 (k:Go.Sim.C x c Q H M L):Go.Sim.C x c Q H M L:=k
end
section
variable {x:Cx}{ops:Array Oper}{Q:lG}{rest:List Oper}{H:Hp}{M:List bQ}{L:Env}{d:Nat}{ty:TypeId}{pos:String}{aft:Array Edge}{g:Option (Nat×Bool)}
theorem fq {T:TypeId}{y:Operand}{ad:Addr}{f n o J O:Nat}{fs:Array Field}{nm tg pp:String}{em:Bool} (k:W x ops Q rest H M ((d,.pointer (some (ad.add o)))::L))
  (hy:ev L y=some (.pointer (some ad)):=by rfl) (Y:∀ w,(underlying T).run x.P w=.ok (.struct fs) w:=by exact λ_=>rfl) (Z:fs[f]? = some ⟨nm,J,o,em,tg,pp,O⟩:=by rfl) (hn:∀ w,(sizeOf J).run x.P w=.ok n w:=by exact λ_=>rfl)
  (I:Nat.beq n 0=false:=by rfl) (hg:gd ops L ⟨some d,.fieldAddr T y f,ty,pos,aft,g⟩=some true:=by rfl) (hN:Nat.blt d x.N=true:=by rfl):
  W x ops Q (⟨some d,.fieldAddr T y f,ty,pos,aft,g⟩::rest) H M L:=uJ hg hN Y Z hn I rfl hy k
end
section
variable {x:Cx}{ops:Array Oper}{Q:lG}{rest:List Oper}{H:Hp}{M:List bQ}{L:Env}{d:Nat}{ty:TypeId}{pos:String}{aft:Array Edge}{g:Option (Nat×Bool)}{y z c:Operand}{T U:TypeId}{n:Nat}{o:Oper}{op:BinOp}{uo:UnOp}{tys:Array TypeId}{fn:Fn}{ys bs:Array Operand}
theorem O7 (k:W x ops Q (o::rest) H M L):W x ops Q (o::rest) H M L:=k
theorem p1 (k:W x ops Q (⟨some d,.move y,ty,pos,aft,g⟩::rest) H M L):W x ops Q (⟨some d,.move y,ty,pos,aft,g⟩::rest) H M L:=k
theorem p2 (k:W x ops Q (⟨some d,.assign y,ty,pos,aft,g⟩::rest) H M L):W x ops Q (⟨some d,.assign y,ty,pos,aft,g⟩::rest) H M L:=k
theorem p3 (k:W x ops Q (⟨some d,.fieldAddr T y n,ty,pos,aft,g⟩::rest) H M L):W x ops Q (⟨some d,.fieldAddr T y n,ty,pos,aft,g⟩::rest) H M L:=k
theorem p4 (k:W x ops Q (⟨some d,.load T y,ty,pos,aft,g⟩::rest) H M L):W x ops Q (⟨some d,.load T y,ty,pos,aft,g⟩::rest) H M L:=k
theorem p5 (k:W x ops Q (⟨some d,.binOp op T y z U,ty,pos,aft,g⟩::rest) H M L):W x ops Q (⟨some d,.binOp op T y z U,ty,pos,aft,g⟩::rest) H M L:=k
theorem p6 (k:W x ops Q (⟨some d,.pick c y z,ty,pos,aft,g⟩::rest) H M L):W x ops Q (⟨some d,.pick c y z,ty,pos,aft,g⟩::rest) H M L:=k
theorem p7 (k:W x ops Q (⟨some d,.extract y n,ty,pos,aft,g⟩::rest) H M L):W x ops Q (⟨some d,.extract y n,ty,pos,aft,g⟩::rest) H M L:=k
theorem p8 (k:W x ops Q (⟨some d,.nilCheck y,ty,pos,aft,g⟩::rest) H M L):W x ops Q (⟨some d,.nilCheck y,ty,pos,aft,g⟩::rest) H M L:=k
theorem p9 (k:W x ops Q (⟨some d,.unOp uo T y,ty,pos,aft,g⟩::rest) H M L):W x ops Q (⟨some d,.unOp uo T y,ty,pos,aft,g⟩::rest) H M L:=k
theorem pa (k:W x ops Q (⟨some d,.convert T U y,ty,pos,aft,g⟩::rest) H M L):W x ops Q (⟨some d,.convert T U y,ty,pos,aft,g⟩::rest) H M L:=k
theorem pb (k:W x ops Q (⟨some d,.makeFunc fn ys bs,ty,pos,aft,g⟩::rest) H M L):W x ops Q (⟨some d,.makeFunc fn ys bs,ty,pos,aft,g⟩::rest) H M L:=k
theorem pc (k:W x ops Q (⟨some d,.call ⟨.builtin .len,#[y],#[T]⟩,ty,pos,aft,g⟩::rest) H M L):W x ops Q (⟨some d,.call ⟨.builtin .len,#[y],#[T]⟩,ty,pos,aft,g⟩::rest) H M L:=k
theorem pg {j:Nat}{w:Bool}{J:Op}{I:Option Nat} (k:W x ops Q (⟨I,J,ty,pos,aft,some (j,w)⟩::rest) H M L):W x ops Q (⟨I,J,ty,pos,aft,some (j,w)⟩::rest) H M L:=k
end
abbrev ph (a:Q2):Hp->List bQ->Q2->Prop:=λ_ rs v=>[]=rs/\a=v
def nn (n:Nat):List (List Nat):=List.replicate n []
section
variable {x:Cx}{ops:Array Oper}{Q:lG}{H H':Hp}{M:List bQ}{L:Env}{t:Nat}{ps:Option Nat}{v:Q2}{φ:Hp->List bQ->Q2->Prop}
theorem o0 (h:φ H [] v):W x ops (DG x H M L (some t) ps φ) [] H M ((t,v)::L):=aZ (fE [] (R8 _) h)
theorem oe (rs:List bQ) (I:H.le H') (h:φ H' rs v):W x ops (DG x H M L (some t) ps φ) [] H' (rs++M) ((t,v)::L):=aZ (fE rs I h)
end
theorem dr {P Q:Prop} (k:Q) (h:Q->P:=by
  intro k
  repeat (rintro _ _ ⟨rfl,rfl⟩)
  exact k):P:=h k
theorem dz {P Q:Prop} (k:Q) (h:Q->P:=by
  intro k
  repeat (rintro _ _ ⟨rfl,rfl⟩)
  refine vO ?_;exact k):P:=h k
theorem ma {P:Prop} (h:P:=by
    repeat' first
      | exact Q3
      | exact gJ _ _
      | refine ⟨?_,?_⟩
      | (intro J O rs v I
         repeat' first
           | exact λh=>h
           | exact λh=>aO.mono I h
           | exact λh=>Rw.mono I h
           | exact λh=>qq.mono I h
           | exact λh=>iE.mono I h
           | exact λh=>Mx.mono h I
           | refine Exists.imp (λ_=>?_)
           | refine And.imp ?_ ?_)):P:=h
theorem Qb {x:Cx}{l:List Oper}{Q:lG}{H:Hp}{M:List bQ}{L:Env}{id:Nat} (O:x.P.follows .mixedOrders=true) (m:Nat) (F:List (Hp->List bQ->Q2->Prop)) (C U:List (List Nat)) (I:List (List bQ)) (live:List Nat)
  (hop:xU x l (z_ F) C U [] (EI m I) H M L 0 (l.take m))
  (k:∀ H',H.le H'->w7 l (z_ F) H' (List.range m) L (EI m I) (λL' R=>W x l.toArray Q (l.drop m) H' (um live R M) L'))
  (hB:vD l m=true:=by kernel_rfl) (Z:Nat.ble m l.length=true:=by rfl) (hD:y9 l m L=true:=by rfl) (Y:y_ l m=true:=by rfl)
  (hT:G2 l m (m+I.length) C U live=true:=by kernel_rfl) (J:Bv F:=by exact ma):Go.Sim.C x (.region id l.toArray true) Q H (I.flatten++M) L:=
 rW m (z_ F) C U I live O hB Z hD Y hT (u4 J) hop k
def PM:Nat->Nat->List (Nat×List Nat)->List (List Nat)
 | 0,_,_=>[]
 | n+1,i,[]=>[]::PM n (i+1) []
 | n+1,i,(j,c)::l=>bif Nat.beq i j then c::PM n (i+1) l else []::PM n (i+1) ((j,c)::l)
def sp (n:Nat) (l:List (Nat×List Nat)):List (List Nat):=PM n 0 l
theorem A1 {x:Cx}{l:List Oper}{Q:lG}{H:Hp}{M Y:List bQ}{L:Env}{id:Nat}{I:List (List bQ)} (O:x.P.follows .mixedOrders=true) (m:Nat) (F:List (Hp->List bQ->Q2->Prop)) (C U:List (List Nat)) (ix live:List Nat)
  (hI:Lj ix M=some (I,Y))
  (hop:xU x l (z_ F) C U [] (EI m I) H Y L 0 (l.take m))
  (k:∀ H',H.le H'->w7 l (z_ F) H' (List.range m) L (EI m I) (λL' R=>W x l.toArray Q (l.drop m) H' (um live R Y) L'))
  (hB:vD l m=true:=by kernel_rfl) (hml:Nat.ble m l.length=true:=by rfl) (hD:y9 l m L=true:=by rfl) (Z:y_ l m=true:=by rfl)
  (hT:G2 l m (m+I.length) C U live=true:=by kernel_rfl) (J:Bv F:=by exact ma):Go.Sim.C x (.region id l.toArray true) Q H M L:=
 Br (DB hI) (Qb O m F C U I live hop k hB hml hD Z hT J)
theorem oZ {x:Cx}{l:List Oper}{Q:lG}{H:Hp}{M:List bQ}{L:Env}{id:Nat} (J:x.P.follows .mixedOrders=true) (m:Nat) (F:List (Hp->List bQ->Q2->Prop))
  (Z:xU x l (z_ F) (nn m) (nn m) [] (EI m []) H M L 0 (l.take m))
  (k:∀ H',H.le H'->w7 l (z_ F) H' (List.range m) L (EI m []) (λL' R=>W x l.toArray Q (l.drop m) H' (um (List.range m) R M) L'))
  (hB:vD l m=true:=by kernel_rfl) (Y:Nat.ble m l.length=true:=by rfl) (hD:y9 l m L=true:=by rfl) (O:y_ l m=true:=by rfl)
  (hT:G2 l m m (nn m) (nn m) (List.range m)=true:=by kernel_rfl) (I:Bv F:=by exact ma):Go.Sim.C x (.region id l.toArray true) Q H M L:=
 rW m (z_ F) (nn m) (nn m) [] (List.range m) J hB Y hD O hT (u4 I) Z k
theorem cR {α I R:Type}{B:Nat->α->I->(I->Option R)->Option R}{K:I->Option R}{l:List α}{s:I}{r:Option R}{i:Nat} (h:dM B K i l s=r):
  ∃ F:Nat->List α->I->Option R,(∀ i y ys s,F i (y::ys) s=B i y s (F (i+1) ys))/\(∀ i s,F i [] s=K s)/\F i l s=r:=⟨dM B K,λ_ _ _ _=>rfl,λ_ _=>rfl,h⟩
theorem iI {I R:Type}{B:Nat->I->(I->Option R)->Option R}{K:I->Option R}{m:Nat}{s:I}{r:Option R}{i:Nat} (h:jW B K m i s=r):
  ∃ F:Nat->Nat->I->Option R,(∀ m i s,F (m+1) i s=B i s (F m (i+1)))/\(∀ i s,F 0 i s=K s)/\F m i s=r:=⟨jW B K,λ_ _ _=>rfl,λ_ _=>rfl,h⟩
theorem iZ {I R:Type}{B:I->(I->Option R)->Option R}{m:Nat}{s:I}{r:Option R} (h:fX B m s=r):
  ∃ F:Nat->I->Option R,(∀ m s,F (m+1) s=B s (F m))/\(∀ s,F 0 s=none)/\F m s=r:=⟨fX B,λ_ _=>rfl,λ_=>rfl,h⟩
section
variable {x:Cx}{Q:lG}{H:Hp}{M M':List bQ}{L L':Env}{e:Exit}{c:Code}
theorem kj (k:E x e Q H M L') (hL:Kept L L':=by repeat first | exact Q3 | refine ⟨rfl,?_⟩):E x e Q H M L:=DC hL (Tx _) k
theorem kp (k:E x e Q H M' L') (I:M.Perm M') (hL:Kept L L':=by repeat first | exact Q3 | refine ⟨rfl,?_⟩):E x e Q H M L:=DC hL I k
theorem NV (S:De) (n:Nat) (I:S n H M L') (step:∀ n H M L,S n H M L->Go.Sim.C x c (Exit.then (Jn x S n) Q) H M L) (hL:Kept L L':=by repeat first | exact Q3 | refine ⟨rfl,?_⟩):Go.Sim.C x (.loop c) Q H M L:=
 Bo hL (Tx _) (Bp S n I step)
theorem cj {m:List bQ}{d:Code} (u:Env) (ix:List Nat) (e:Nat) (S:Env->List bQ->OO) (rest:∀ H M L,S u m H M L->Go.Sim.C x d Q H M L)
  (k:(∀ H M L,S u m H M L->E x .normal (Exit.then (d.wp x.P Q) Q) H M L)->Go.Sim.C x c (Exit.then (d.wp x.P Q) Q) H M L) (hm:yU ix e M=some m:=by rfl) (I:Kept L u:=by repeat first | exact Q3 | refine ⟨rfl,?_⟩):Go.Sim.C x (.seq c d) Q H M L:=
 sk (S u m) rest k
theorem cl {m:List bQ} (u:Env) (J:List Nat) (e:Nat) (ix:List Nat) (d:Nat) (S:Env->List bQ->De) (n:Nat) (hm:yU J e M=some m) (I:S u m n H M' L') (step:∀ n H M L,S u m n H M L->Go.Sim.C x c (Exit.then (Jn x (S u m) n) Q) H M L)
  (h:yU ix d M=some M':=by rfl) (O:Kept L u:=by repeat first | exact Q3 | refine ⟨rfl,?_⟩) (hL:Kept L L':=by repeat first | exact Q3 | refine ⟨rfl,?_⟩):Go.Sim.C x (.loop c) Q H M L:=
 PY ix d (S u m) n I step h hL
theorem cd {α:Type}{o:Operand}{p q:Code}{b:Bool}{u v r:α} (hm:(if b=true then u else v)=r) (I:ev L o=some (.bool b)) (J:b=true->u=r->Go.Sim.C x p Q H M L) (O:b=false->v=r->Go.Sim.C x q Q H M L):Go.Sim.C x (.cond o p q) Q H M L:=
 bE I (λh=>J h (eG h hm)) (λh=>O h (eF h hm))
theorem cT {o:Operand}{p q:Code} (I:ev L o=some (.bool true)) (k:Go.Sim.C x p Q H M L):Go.Sim.C x (.cond o p q) Q H M L:=bE I (λ_=>k) (λh=>Bool.noConfusion h)
theorem cF {o:Operand}{p q:Code} (I:ev L o=some (.bool false)) (k:Go.Sim.C x q Q H M L):Go.Sim.C x (.cond o p q) Q H M L:=bE I (λh=>Bool.noConfusion h) (λ_=>k)
end
theorem sb {a b:Bool} (h:a=b):some (Value.bool a)=some (Value.bool b):=by rw [h]
theorem Io:(∀ b,(b && true)=b)/\(∀ b,(true && b)=b)/\(∀ b,(false && b)=false)/\(∀ b,(b && false)=false)/\(∀ b,(b || true)=true)/\(∀ b,(true || b)=true)/\(∀ b,(b || false)=b)/\(∀ b,(false || b)=b)/\(!true)=false/\(!false)=true/\(∀ α:Type,(none:Option α).isNone=true)/\(∀ (α:Type) (a:α),(some a).isNone=false):=by
 refine ⟨?_,?_,?_,?_,?_,?_,?_,?_,rfl,rfl,λ_=>rfl,λ_ _=>rfl⟩ <;> intro b <;> cases b <;> rfl
section
variable {x:Cx}{ops:Array Oper}{Q:lG}{rest:List Oper}{H:Hp}{M:List bQ}{L:Env}{d:Nat}{ty:TypeId}{pos:String}{aft:Array Edge}{g:Option (Nat×Bool)}
theorem lo {T b i U:Nat}{fz:Nat×Nat}{y:Operand}{l:List Q2}{v:Q2} (I:∀ w,(isAgg T).run x.P w=.ok false w) (Y:ev L y=some (.pointer (some ⟨b,i,none⟩))) (hm:bQ.obj b (.cells l.toArray U fz) ∈ M) (J:l[i]? = some v)
  (k:W x ops Q rest H M ((d,v)::L)) (O:gd ops L ⟨some d,.load T y,ty,pos,aft,g⟩=some true:=by rfl) (hN:Nat.blt d x.N=true:=by rfl):W x ops Q (⟨some d,.load T y,ty,pos,aft,g⟩::rest) H M L:=
 qJ O hN I Y (wB hm J) k
theorem la {T b U n:Nat}{fz:Nat×Nat}{y:Operand}{l:List Q2} (I:∀ w,(isAgg T).run x.P w=.ok true w) (hn:∀ w,(sizeOf T).run x.P w=.ok n w) (O:ev L y=some (.pointer (some ⟨b,0,none⟩))) (hm:bQ.obj b (.cells l.toArray U fz) ∈ M) (hl:l.length=n)
  (k:W x ops Q rest H M ((d,.agg l.toArray)::L)) (J:gd ops L ⟨some d,.load T y,ty,pos,aft,g⟩=some true:=by rfl) (hN:Nat.blt d x.N=true:=by rfl):W x ops Q (⟨some d,.load T y,ty,pos,aft,g⟩::rest) H M L:=
 jN J hN I hn O (El hm) hl k
theorem fi {T:TypeId}{y:Operand}{ad:Addr}{f n:Nat}{fs:Array Field}{I:Field} (o:Nat) (O:∀ w,(underlying T).run x.P w=.ok (.struct fs) w) (Y:fs[f]? = some I) (hn:∀ w,(sizeOf I.type).run x.P w=.ok n w) (hy:ev L y=some (.pointer (some ad)))
  (k:W x ops Q rest H M ((d,.pointer (some (ad.add o)))::L)) (ho:I.offset=o:=by rfl) (J:Nat.beq n 0=false:=by rfl) (Z:gd ops L ⟨some d,.fieldAddr T y f,ty,pos,aft,g⟩=some true:=by rfl) (hN:Nat.blt d x.N=true:=by rfl):
  W x ops Q (⟨some d,.fieldAddr T y f,ty,pos,aft,g⟩::rest) H M L:=uJ Z hN O Y hn J ho hy k
end
theorem lE {H H':Hp} (h:H.le H':=by first | exact R8 _ | assumption | ((repeat first | assumption | exact R8 _ | refine UT ?_ (by assumption)); done)):H.le H':=h
section
variable {α:Type}[aG α] {H H':Hp}{v:Q2}{xs:List Q2}{l:List α}{ad:Addr}
theorem aO.mm (h:aO H v l) (e:H.le H':=by exact lE):aO H' v l:=aO.mono e h
theorem Rw.mm (h:Rw H v xs l) (e:H.le H':=by exact lE):Rw H' v xs l:=Rw.mono e h
theorem qq.mm (h:qq H xs l) (e:H.le H':=by exact lE):qq H' xs l:=qq.mono e h
theorem iE.mm (h:iE H ad xs) (e:H.le H':=by exact lE):iE H' ad xs:=iE.mono e h
theorem Mx.mm {T1 T2:TypeId}{hs:List Q2}{mx:List bQ}{sg:List Nat}{ls:List (List α)} (h:Mx T1 T2 H v hs mx sg ls) (e:H.le H':=by exact lE):Mx T1 T2 H' v hs mx sg ls:=Mx.mono h e
end
section
variable {x:Cx}{ops:Array Oper}{Q:lG}{rest:List Oper}{H H0:Hp}{M:List bQ}{L:Env}{d:Nat}{ty:TypeId}{pos:String}{aft:Array Edge}{g:Option (Nat×Bool)}{ee:Exit}
theorem Ew (H0:Hp) (k:E x ee Q H0 M L) (h:H0.le H:=by exact lE):E x ee Q H M L:=F1 h k
theorem A2 {α:Type}[aG α] {t e:TypeId}{y z:Operand}{v:Q2}{xs:List α}{el:α}{kk:IntKind}{i:Int}{n:Nat} (hR:aO H0 v xs) (he:xs[n]? = some el)
  (k:W x ops Q rest H M ((d,.pointer (some ((Value.base v).add (i.toNat*aG.sz α))))::L)) (I:H0.le H:=by exact lE) (Z:ev L y=some v:=by rfl) (hz:ev L z=some (.int kk i):=by rfl) (hn:i.toNat=n:=by rfl)
  (J:0<=i:=by first | exact T5 _ | assumption | decide) (O:∀ w,(underlying t).run x.P w=.ok (.slice e) w:=by exact λ_=>rfl) (hs:∀ w,(sizeOf e).run x.P w=.ok (aG.sz α) w:=by exact λ_=>rfl)
  (Y:gd ops L ⟨some d,.indexAddr t y z,ty,pos,aft,g⟩=some true:=by rfl) (hN:Nat.blt d x.N=true:=by rfl):W x ops Q (⟨some d,.indexAddr t y z,ty,pos,aft,g⟩::rest) H M L:=
 ET Y hN O hs Z (aO.mono I hR) hz J (by rw [hn]; exact he) k
theorem lr {α:Type}[aG α] {t e:TypeId}{y:Operand}{v:Q2}{xs:List α} (hR:aO H0 v xs) (k:W x ops Q rest H M ((d,.int .i64 xs.length)::L)) (I:H0.le H:=by exact lE) (Y:ev L y=some v:=by rfl)
  (J:∀ w,(underlying t).run x.P w=.ok (.slice e) w:=by exact λ_=>rfl) (O:gd ops L ⟨some d,.call ⟨.builtin .len,#[y],#[t]⟩,ty,pos,aft,g⟩=some true:=by rfl) (hN:Nat.blt d x.N=true:=by rfl):
  W x ops Q (⟨some d,.call ⟨.builtin .len,#[y],#[t]⟩,ty,pos,aft,g⟩::rest) H M L:=JG O hN J Y (aO.mono I hR) k
theorem te {α:Type}{v:Q2}{T:TypeId}{sz n:Nat}{xs:List Q2}{t e:TypeId}{y z:Operand}{kk:IntKind}{i:Int}{l:List α}{el:α} (he:l[n]? = some el)
  (k:W x ops Q rest H M ((d,.pointer (some ((Value.base v).add (i.toNat*sz))))::L)) (Y:ev L y=some v:=by rfl) (Z:ev L z=some (.int kk i):=by rfl) (hn:i.toNat=n:=by rfl)
  (hm:bQ.row v T sz l.length xs ∈ M:=by first | ((repeat first | exact List.Mem.head _ | refine List.Mem.tail _ ?_); done) | (refine hR _ ?_; (repeat first | exact List.Mem.head _ | refine List.Mem.tail _ ?_); done) | (refine hU _ ?_; (repeat first | exact List.Mem.head _ | refine List.Mem.tail _ ?_); done))
  (I:0<=i:=by first | exact T5 _ | assumption | decide) (J:∀ w,(underlying t).run x.P w=.ok (.slice e) w:=by exact λ_=>rfl) (hs:∀ w,(sizeOf e).run x.P w=.ok sz w:=by exact λ_=>rfl)
  (O:gd ops L ⟨some d,.indexAddr t y z,ty,pos,aft,g⟩=some true:=by rfl) (hN:Nat.blt d x.N=true:=by rfl):W x ops Q (⟨some d,.indexAddr t y z,ty,pos,aft,g⟩::rest) H M L:=
 zz hm O hN J hs Y Z I (by rw [hn]; exact (Q7.1 he).1) k
theorem lh {T:TypeId}{y:Operand}{ad:Addr}{cs:List Q2}{v:Q2} (O:iE H0 ad cs) (o:Nat) (k:W x ops Q rest H M ((d,v)::L)) (I:H0.le H:=by exact lE) (hy:ev L y=some (.pointer (some (ad.add o))):=by rfl) (Z:cs[o]? = some v:=by rfl)
  (J:∀ w,(isAgg T).run x.P w=.ok false w:=by exact λ_=>rfl) (Y:gd ops L ⟨some d,.load T y,ty,pos,aft,g⟩=some true:=by rfl) (hN:Nat.blt d x.N=true:=by rfl):W x ops Q (⟨some d,.load T y,ty,pos,aft,g⟩::rest) H M L:=
 qJ Y hN J hy (iE.one (iE.mono I O) o Z).at k
theorem OI {T:TypeId}{n:Nat}{y:Operand}{ad:Addr}{cs:List Q2} (O:iE H0 ad cs) (k:W x ops Q rest H M ((d,.agg cs.toArray)::L)) (I:H0.le H:=by exact lE) (Z:ev L y=some (.pointer (some ad)):=by rfl)
  (J:∀ w,(isAgg T).run x.P w=.ok true w:=by exact λ_=>rfl) (hn:∀ w,(sizeOf T).run x.P w=.ok n w:=by exact λ_=>rfl) (hl:cs.length=n:=by rfl) (Y:gd ops L ⟨some d,.load T y,ty,pos,aft,g⟩=some true:=by rfl) (hN:Nat.blt d x.N=true:=by rfl):
  W x ops Q (⟨some d,.load T y,ty,pos,aft,g⟩::rest) H M L:=jN Y hN J hn Z (iE.mono I O).at hl k
theorem xH {T U:TypeId}{y:Operand}{v w:Q2}{sz n i:Nat}{xs cs:List Q2} (J:∀ j u,cs[j]? = some u->xs[i+j]? = some u) (k:W x ops Q rest H M ((d,w)::L)) (Z:ev L y=some (.pointer (some ((Value.base v).add i))):=by rfl)
  (hm:bQ.row v U sz n xs ∈ M:=by first | ((repeat first | exact List.Mem.head _ | refine List.Mem.tail _ ?_); done) | (refine hR _ ?_; (repeat first | exact List.Mem.head _ | refine List.Mem.tail _ ?_); done) | (refine hU _ ?_; (repeat first | exact List.Mem.head _ | refine List.Mem.tail _ ?_); done))
  (O:cs[0]? = some w:=by rfl) (I:∀ w,(isAgg T).run x.P w=.ok false w:=by exact λ_=>rfl) (Y:gd ops L ⟨some d,.load T y,ty,pos,aft,g⟩=some true:=by rfl) (hN:Nat.blt d x.N=true:=by rfl):
  W x ops Q (⟨some d,.load T y,ty,pos,aft,g⟩::rest) H M L:=qJ Y hN I Z (CK hm J O) k
theorem P6 {T U:TypeId}{m:Nat}{y:Operand}{v:Q2}{sz n i:Nat}{xs cs:List Q2} (J:∀ j u,cs[j]? = some u->xs[i+j]? = some u) (k:W x ops Q rest H M ((d,.agg cs.toArray)::L)) (Y:ev L y=some (.pointer (some ((Value.base v).add i))):=by rfl)
  (hm:bQ.row v U sz n xs ∈ M:=by first | ((repeat first | exact List.Mem.head _ | refine List.Mem.tail _ ?_); done) | (refine hR _ ?_; (repeat first | exact List.Mem.head _ | refine List.Mem.tail _ ?_); done) | (refine hU _ ?_; (repeat first | exact List.Mem.head _ | refine List.Mem.tail _ ?_); done))
  (I:∀ w,(isAgg T).run x.P w=.ok true w:=by exact λ_=>rfl) (hn:∀ w,(sizeOf T).run x.P w=.ok m w:=by exact λ_=>rfl) (hl:cs.length=m:=by rfl) (O:gd ops L ⟨some d,.load T y,ty,pos,aft,g⟩=some true:=by rfl) (hN:Nat.blt d x.N=true:=by rfl):
  W x ops Q (⟨some d,.load T y,ty,pos,aft,g⟩::rest) H M L:=jN O hN I hn Y (yB hm J) hl k
theorem bx {T:TypeId}{y:Operand}{v:Q2}{cs:List Q2} (k:∀ b,W x ops Q rest H (.obj b (.cells cs.toArray T (0,0))::M) ((d,.pointer (some ⟨b,0,none⟩))::L)) (O:ev L y=some v:=by rfl)
  (I:v.cells=cs.toArray:=by first | exact aO.cells (by assumption) | exact Rw.cells (by assumption) | rfl) (J:gd ops L ⟨some d,.box T y,ty,pos,aft,g⟩=some true:=by rfl) (hN:Nat.blt d x.N=true:=by rfl):
  W x ops Q (⟨some d,.box T y,ty,pos,aft,g⟩::rest) H M L:=OS J hN O I k
theorem al {T:TypeId}{z:Q2}{cs:List Q2} (k:∀ b,W x ops Q rest H (.obj b (.cells cs.toArray T (0,0))::M) ((d,.pointer (some ⟨b,0,none⟩))::L))
  (O:∀ w,(zeroValue T).run x.P w=.ok z w:=by exact λ_=>rfl) (I:z.cells=cs.toArray:=by rfl) (J:gd ops L ⟨some d,.alloc T,ty,pos,aft,g⟩=some true:=by rfl) (hN:Nat.blt d x.N=true:=by rfl):
  W x ops Q (⟨some d,.alloc T,ty,pos,aft,g⟩::rest) H M L:=LG J hN O I k
theorem wt (i:Nat) {T U n b o:Nat}{y z:Operand}{l cs out:List Q2}{v:Q2}{I:List bQ}
  (k:W x ops Q rest H (.obj b (.cells out.toArray U (0,0))::I) L) (hy:ev L y=some (.pointer (some ⟨b,o,none⟩)):=by rfl) (hz:ev L z=some v:=by rfl)
  (hv:v.cells=cs.toArray:=by first | exact aO.cells (by assumption) | exact Rw.cells (by assumption) | rfl)
  (J:∀ c ∈ cs,c.oneCell'=true:=by repeat first | exact SN | refine bP rfl ?_ | refine bP (aO.oW (by assumption)) ?_ | refine bP (Rw.one (by assumption)) ?_)
  (O:A9 i M=some (.obj b (.cells l.toArray U (0,0)),I):=by rfl)
  (Y:gd ops L ⟨none,.store T y z,ty,pos,aft,g⟩=some true:=by rfl) (hn:∀ w,(sizeOf T).run x.P w=.ok n w:=by exact λ_=>rfl) (hl:cs.length=n:=by rfl) (Z:AY l o cs=some out:=by rfl):
  W x ops Q (⟨none,.store T y z,ty,pos,aft,g⟩::rest) H M L:=ws i hv k J hy hz O Y hn hl Z
theorem wr {α:Type}[aG α] (i o:Nat) {T U m:Nat}{y z:Operand}{v u:Q2}{xs c cs out:List Q2}{l:List α}{e:α}{I:Nat}{M1:List bQ}{ad:Addr} (e2:α) (h:Rw H0 v xs l) (he:l[I]? = some e) (Z:∀ j w,c[j]? = some w->xs[I*aG.sz α+j]? = some w)
  (hc:aG.E H c e) (hE:aG.E H out e2)
  (k:∀ tP,Rw H v tP (l.set I e2)->(l.set I e2)[I]? = some e2->(∀ j w,out[j]? = some w->tP[I*aG.sz α+j]? = some w)->W x ops Q rest H (.row v U (aG.sz α) (l.set I e2).length tP::M1) L)
  (hle:H0.le H:=by exact lE) (hy:ev L y=some (.pointer (some ad)):=by rfl) (O:ad=(Value.base v).add (I*aG.sz α+o):=by first | exact HT _ _ | exact K6 _ _ _) (hz:ev L z=some u:=by rfl)
  (hv:u.cells=cs.toArray:=by first | exact aO.cells (by assumption) | exact Rw.cells (by assumption) | rfl)
  (h1:∀ c ∈ cs,c.oneCell'=true:=by repeat first | exact SN | refine bP rfl ?_ | refine bP (aO.oW (by assumption)) ?_ | refine bP (Rw.one (by assumption)) ?_)
  (hM:A9 i M=some (.row v U (aG.sz α) l.length xs,M1):=by rfl) (hg:gd ops L ⟨none,.store T y z,ty,pos,aft,g⟩=some true:=by rfl) (hn:∀ w,(sizeOf T).run x.P w=.ok m w:=by exact λ_=>rfl) (hl:cs.length=m:=by rfl)
  (ho:AY c o cs=some out:=by rfl) (hb:Nat.ble (o+cs.length) c.length=true:=by rfl) (Y:Nat.ble (o+cs.length) (aG.sz α)=true:=by rfl) (J:Nat.blt 0 cs.length=true:=by rfl):
  W x ops Q (⟨none,.store T y z,ty,pos,aft,g⟩::rest) H M L:=by
 have h':=Rw.mono hle h;obtain ⟨ho1,_⟩:=CE ho;obtain ⟨p1,p2,p3⟩:=Rw.put h' he hc Z hb ho1 hE;refine oc (uZ hM) ?_;refine Ig (n':=(l.set I e2).length) hg hn hy O hz hv hl (Rw.room h' he Y) J h1 Sr ?_;exact k _ p1 p2 p3
end
class we (α:Type) [aG α] where
 cs:α->List Q2
 eq:∀ {H c x},aG.E H c x->c=cs x
instance:we Int:=⟨λn=>[.int .i64 n],λh=>h⟩
instance:we Bool:=⟨λb=>[.bool b],λh=>h⟩
instance:we Q1:=⟨λs=>[.string s],λh=>h⟩
instance:we U8:=⟨λn=>[.int .u8 n.n],λh=>h⟩
instance:we PK:=⟨λn=>[.int .u16 n.n],λh=>h⟩
instance:we bT:=⟨λn=>[.int .u32 n.n],λh=>h⟩
instance:we PL:=⟨λn=>[.int .u64 n.n],λh=>h⟩
instance:we PI:=⟨λn=>[.int .i32 n.n],λh=>h⟩
def NY:List Q2->Option (List Q2)
 | []=>some []
 | v::l=>match NY l with
  | some m=>some (v::m)
  | none=>none
theorem DU:∀ {l m:List Q2},NY l=some m->l=m
 | [],m,h=>by simpa [NY] using h
 | v::l,m,h=>by
  simp only [NY] at h
  split at h
  ·rename_i k e
   simp only [Rp] at h;rw [DU e,h]
  ·cases h
theorem mA {P:Prop} (h:P:=by
  first
   | ((repeat first | exact List.Mem.head _ | refine List.Mem.tail _ ?_); done)
   | (refine hR _ ?_; (repeat first | exact List.Mem.head _ | refine List.Mem.tail _ ?_); done)
   | (refine hU _ ?_; (repeat first | exact List.Mem.head _ | refine List.Mem.tail _ ?_); done)):P:=h
section
variable {x:Cx}{ops:Array Oper}{Q:lG}{rest:List Oper}{H H0:Hp}{M:List bQ}{L:Env}{d:Nat}{ty:TypeId}{pos:String}{aft:Array Edge}{g:Option (Nat×Bool)}{y z:Operand}{T U:TypeId}
theorem QJ {t:TypeId} (k:W x ops Q (⟨some d,.indexAddr t y z,ty,pos,aft,g⟩::rest) H M L):W x ops Q (⟨some d,.indexAddr t y z,ty,pos,aft,g⟩::rest) H M L:=k
theorem iA {α:Type}{iR:aG α}{t e:TypeId}{v:Q2}{xs:List α}{el:α}{kk:IntKind}{i:Int} (k:W x ops Q rest H M ((d,.pointer (some ((Value.base v).add (i.toNat*aG.sz α))))::L))
  (Z:ev L y=some v:=by rfl) (hz:ev L z=some (.int kk i):=by rfl) (hR:aO H0 v xs:=by with_reducible assumption) (he:xs[i.toNat]? = some el:=by first | with_reducible assumption | assumption) (I:H0.le H:=by exact lE)
  (J:0<=i:=by first | exact T5 _ | assumption | decide) (O:∀ w,(underlying t).run x.P w=.ok (.slice e) w:=by exact λ_=>rfl) (hs:∀ w,(sizeOf e).run x.P w=.ok (aG.sz α) w:=by exact λ_=>rfl)
  (Y:gd ops L ⟨some d,.indexAddr t y z,ty,pos,aft,g⟩=some true:=by rfl) (hN:Nat.blt d x.N=true:=by rfl):W x ops Q (⟨some d,.indexAddr t y z,ty,pos,aft,g⟩::rest) H M L:=
 ET Y hN O hs Z (aO.mono I hR) hz J he k
theorem iO {α:Type}{v:Q2}{sz:Nat}{xs:List Q2}{t e:TypeId}{kk:IntKind}{i:Int}{l:List α}{el:α}
  (k:W x ops Q rest H M ((d,.pointer (some ((Value.base v).add (i.toNat*sz))))::L)) (Y:ev L y=some v:=by rfl) (Z:ev L z=some (.int kk i):=by rfl)
  (hm:bQ.row v T sz l.length xs ∈ M:=by exact mA) (he:l[i.toNat]? = some el:=by first | with_reducible assumption | assumption)
  (I:0<=i:=by first | exact T5 _ | assumption | decide) (J:∀ w,(underlying t).run x.P w=.ok (.slice e) w:=by exact λ_=>rfl) (hs:∀ w,(sizeOf e).run x.P w=.ok sz w:=by exact λ_=>rfl)
  (O:gd ops L ⟨some d,.indexAddr t y z,ty,pos,aft,g⟩=some true:=by rfl) (hN:Nat.blt d x.N=true:=by rfl):W x ops Q (⟨some d,.indexAddr t y z,ty,pos,aft,g⟩::rest) H M L:=
 zz hm O hN J hs Y Z I (Q7.1 he).1 k
theorem nA {α:Type}{Z:aG α}{e:TypeId}{v:Q2}{xs:List α} (k:W x ops Q rest H M ((d,.int .i64 xs.length)::L)) (Y:ev L y=some v:=by rfl) (hR:aO H0 v xs:=by with_reducible assumption) (I:H0.le H:=by exact lE)
  (J:∀ w,(underlying T).run x.P w=.ok (.slice e) w:=by exact λ_=>rfl) (O:gd ops L ⟨some d,.call ⟨.builtin .len,#[y],#[T]⟩,ty,pos,aft,g⟩=some true:=by rfl) (hN:Nat.blt d x.N=true:=by rfl):
  W x ops Q (⟨some d,.call ⟨.builtin .len,#[y],#[T]⟩,ty,pos,aft,g⟩::rest) H M L:=JG O hN J Y (aO.mono I hR) k
theorem Qv {ad:Addr}{cs:List Q2}{v:Q2}{o:Nat} (k:W x ops Q rest H M ((d,v)::L)) (hy:ev L y=some (.pointer (some (ad.add o))):=by rfl) (O:iE H0 ad cs:=by first | with_reducible assumption | assumption) (Z:cs[o]? = some v:=by rfl)
  (J:∀ w,(isAgg T).run x.P w=.ok false w:=by exact λ_=>rfl) (I:H0.le H:=by exact lE) (Y:gd ops L ⟨some d,.load T y,ty,pos,aft,g⟩=some true:=by rfl) (hN:Nat.blt d x.N=true:=by rfl):
  W x ops Q (⟨some d,.load T y,ty,pos,aft,g⟩::rest) H M L:=qJ Y hN J hy (iE.one (iE.mono I O) o Z).at k
theorem Qu {ad:Addr}{cs:List Q2}{v:Q2} (k:W x ops Q rest H M ((d,v)::L)) (hy:ev L y=some (.pointer (some ad)):=by rfl) (O:iE H0 ad cs:=by first | with_reducible assumption | assumption) (Z:cs[0]? = some v:=by rfl)
  (J:∀ w,(isAgg T).run x.P w=.ok false w:=by exact λ_=>rfl) (I:H0.le H:=by exact lE) (Y:gd ops L ⟨some d,.load T y,ty,pos,aft,g⟩=some true:=by rfl) (hN:Nat.blt d x.N=true:=by rfl):
  W x ops Q (⟨some d,.load T y,ty,pos,aft,g⟩::rest) H M L:=qJ Y hN J hy (iE.one (iE.mono I O) 0 Z).at k
theorem Qw {ad:Addr}{cs:List Q2}{n:Nat} (k:W x ops Q rest H M ((d,.agg cs.toArray)::L)) (Z:ev L y=some (.pointer (some ad)):=by rfl) (O:iE H0 ad cs:=by first | with_reducible assumption | assumption)
  (J:∀ w,(isAgg T).run x.P w=.ok true w:=by exact λ_=>rfl) (hn:∀ w,(sizeOf T).run x.P w=.ok n w:=by exact λ_=>rfl) (hl:cs.length=n:=by rfl) (I:H0.le H:=by exact lE) (Y:gd ops L ⟨some d,.load T y,ty,pos,aft,g⟩=some true:=by rfl) (hN:Nat.blt d x.N=true:=by rfl):
  W x ops Q (⟨some d,.load T y,ty,pos,aft,g⟩::rest) H M L:=jN Y hN J hn Z (iE.mono I O).at hl k
theorem Ar {α:Type}[aG α] [we α] {v0:Q2}{xs:List α}{el:α}{n:Nat} (hR:aO H0 v0 xs) (he:xs[n]? = some el):iE H0 ((Value.base v0).add (n*aG.sz α)) (we.cs el):=by
 obtain ⟨c,I,J⟩:=aO.elem hR he;rw [<- we.eq I]; exact J
theorem Bf {α:Type}[aG α] [we α] {v0:Q2}{xs:List Q2}{l:List α}{el:α}{n:Nat} (hR:Rw H0 v0 xs l) (he:l[n]? = some el):∀ j u,(we.cs el)[j]? = some u->xs[n*aG.sz α+j]? = some u:=by
 obtain ⟨c,I,J⟩:=Rw.elem hR he;rw [<- we.eq I]; exact J
theorem Qy {α:Type}{iR:aG α}{v0 v:Q2}{xs:List α}{el:α}{n o:Nat} (k:W x ops Q rest H M ((d,v)::L)) (Z:ev L y=some (.pointer (some (((Value.base v0).add (n*@aG.sz α iR)).add o))):=by rfl)
  (hR:aO H0 v0 xs:=by with_reducible assumption) (he:xs[n]? = some el:=by first | with_reducible assumption | assumption) (iC:we α:=by infer_instance) (Y:(we.cs el)[o]? = some v:=by rfl) (I:H0.le H:=by exact lE)
  (J:∀ w,(isAgg T).run x.P w=.ok false w:=by exact λ_=>rfl) (O:gd ops L ⟨some d,.load T y,ty,pos,aft,g⟩=some true:=by rfl) (hN:Nat.blt d x.N=true:=by rfl):
  W x ops Q (⟨some d,.load T y,ty,pos,aft,g⟩::rest) H M L:=qJ O hN J Z (iE.one (iE.mono I (Ar hR he)) o Y).at k
theorem Qx {α:Type}{iR:aG α}{v0 v:Q2}{xs:List α}{el:α}{n:Nat} (k:W x ops Q rest H M ((d,v)::L)) (Z:ev L y=some (.pointer (some ((Value.base v0).add (n*@aG.sz α iR)))):=by rfl)
  (hR:aO H0 v0 xs:=by with_reducible assumption) (he:xs[n]? = some el:=by first | with_reducible assumption | assumption) (iC:we α:=by infer_instance) (Y:(we.cs el)[0]? = some v:=by rfl) (I:H0.le H:=by exact lE)
  (J:∀ w,(isAgg T).run x.P w=.ok false w:=by exact λ_=>rfl) (O:gd ops L ⟨some d,.load T y,ty,pos,aft,g⟩=some true:=by rfl) (hN:Nat.blt d x.N=true:=by rfl):
  W x ops Q (⟨some d,.load T y,ty,pos,aft,g⟩::rest) H M L:=qJ O hN J Z (iE.one (iE.mono I (Ar hR he)) 0 Y).at k
theorem Qz {α:Type}{iR:aG α}{v0:Q2}{cs:List Q2}{xs:List α}{el:α}{n m:Nat} (k:W x ops Q rest H M ((d,.agg cs.toArray)::L)) (Z:ev L y=some (.pointer (some ((Value.base v0).add (n*@aG.sz α iR)))):=by rfl)
  (hR:aO H0 v0 xs:=by with_reducible assumption) (he:xs[n]? = some el:=by first | with_reducible assumption | assumption) (iC:we α:=by infer_instance) (Y:NY (we.cs el)=some cs:=by rfl) (I:H0.le H:=by exact lE)
  (J:∀ w,(isAgg T).run x.P w=.ok true w:=by exact λ_=>rfl) (hn:∀ w,(sizeOf T).run x.P w=.ok m w:=by exact λ_=>rfl) (hl:cs.length=m:=by rfl) (O:gd ops L ⟨some d,.load T y,ty,pos,aft,g⟩=some true:=by rfl) (hN:Nat.blt d x.N=true:=by rfl):
  W x ops Q (⟨some d,.load T y,ty,pos,aft,g⟩::rest) H M L:=jN O hN J hn Z (iE.mono I (DU Y▸Ar hR he)).at hl k
theorem QE {α:Type}{Z:aG α}{v0 v:Q2}{sz p:Nat}{xs:List Q2}{l:List α}{el:α}{n o:Nat} (k:W x ops Q rest H M ((d,v)::L)) (Y:ev L y=some (.pointer (some (((Value.base v0).add (n*@aG.sz α Z)).add o))):=by rfl)
  (hm:bQ.row v0 U sz p xs ∈ M:=by exact mA) (hR:Rw H0 v0 xs l:=by with_reducible assumption) (he:l[n]? = some el:=by first | with_reducible assumption | assumption) (iC:we α:=by infer_instance) (O:(we.cs el)[o]? = some v:=by rfl)
  (I:∀ w,(isAgg T).run x.P w=.ok false w:=by exact λ_=>rfl) (J:gd ops L ⟨some d,.load T y,ty,pos,aft,g⟩=some true:=by rfl) (hN:Nat.blt d x.N=true:=by rfl):
  W x ops Q (⟨some d,.load T y,ty,pos,aft,g⟩::rest) H M L:=qJ J hN I Y (row_one hm (Bf hR he) O) k
theorem QD {α:Type}{Z:aG α}{v0 v:Q2}{sz p:Nat}{xs:List Q2}{l:List α}{el:α}{n:Nat} (k:W x ops Q rest H M ((d,v)::L)) (Y:ev L y=some (.pointer (some ((Value.base v0).add (n*@aG.sz α Z)))):=by rfl)
  (hm:bQ.row v0 U sz p xs ∈ M:=by exact mA) (hR:Rw H0 v0 xs l:=by with_reducible assumption) (he:l[n]? = some el:=by first | with_reducible assumption | assumption) (iC:we α:=by infer_instance) (O:(we.cs el)[0]? = some v:=by rfl)
  (I:∀ w,(isAgg T).run x.P w=.ok false w:=by exact λ_=>rfl) (J:gd ops L ⟨some d,.load T y,ty,pos,aft,g⟩=some true:=by rfl) (hN:Nat.blt d x.N=true:=by rfl):
  W x ops Q (⟨some d,.load T y,ty,pos,aft,g⟩::rest) H M L:=qJ J hN I Y (CK hm (Bf hR he) O) k
theorem QF {α:Type}{Z:aG α}{v0:Q2}{sz p m:Nat}{xs cs:List Q2}{l:List α}{el:α}{n:Nat} (k:W x ops Q rest H M ((d,.agg cs.toArray)::L)) (Y:ev L y=some (.pointer (some ((Value.base v0).add (n*@aG.sz α Z)))):=by rfl)
  (hm:bQ.row v0 U sz p xs ∈ M:=by exact mA) (hR:Rw H0 v0 xs l:=by with_reducible assumption) (he:l[n]? = some el:=by first | with_reducible assumption | assumption) (iC:we α:=by infer_instance) (O:NY (we.cs el)=some cs:=by rfl)
  (I:∀ w,(isAgg T).run x.P w=.ok true w:=by exact λ_=>rfl) (hn:∀ w,(sizeOf T).run x.P w=.ok m w:=by exact λ_=>rfl) (hl:cs.length=m:=by rfl) (J:gd ops L ⟨some d,.load T y,ty,pos,aft,g⟩=some true:=by rfl) (hN:Nat.blt d x.N=true:=by rfl):
  W x ops Q (⟨some d,.load T y,ty,pos,aft,g⟩::rest) H M L:=jN J hN I hn Y (yB hm (DU O▸Bf hR he)) hl k
theorem QB {v0 v:Q2}{sz p i o:Nat}{xs cs:List Q2} (k:W x ops Q rest H M ((d,v)::L)) (Z:ev L y=some (.pointer (some (((Value.base v0).add i).add o))):=by rfl)
  (hm:bQ.row v0 U sz p xs ∈ M:=by exact mA) (J:∀ j u,cs[j]? = some u->xs[i+j]? = some u:=by assumption) (Y:cs[o]? = some v:=by rfl)
  (I:∀ w,(isAgg T).run x.P w=.ok false w:=by exact λ_=>rfl) (O:gd ops L ⟨some d,.load T y,ty,pos,aft,g⟩=some true:=by rfl) (hN:Nat.blt d x.N=true:=by rfl):
  W x ops Q (⟨some d,.load T y,ty,pos,aft,g⟩::rest) H M L:=qJ O hN I Z (row_one hm J Y) k
theorem QA {v0 v:Q2}{sz p i:Nat}{xs cs:List Q2} (k:W x ops Q rest H M ((d,v)::L)) (Z:ev L y=some (.pointer (some ((Value.base v0).add i))):=by rfl)
  (hm:bQ.row v0 U sz p xs ∈ M:=by exact mA) (J:∀ j u,cs[j]? = some u->xs[i+j]? = some u:=by assumption) (Y:cs[0]? = some v:=by rfl)
  (I:∀ w,(isAgg T).run x.P w=.ok false w:=by exact λ_=>rfl) (O:gd ops L ⟨some d,.load T y,ty,pos,aft,g⟩=some true:=by rfl) (hN:Nat.blt d x.N=true:=by rfl):
  W x ops Q (⟨some d,.load T y,ty,pos,aft,g⟩::rest) H M L:=qJ O hN I Z (CK hm J Y) k
theorem QC {v0:Q2}{sz p i m:Nat}{xs cs:List Q2} (k:W x ops Q rest H M ((d,.agg cs.toArray)::L)) (Y:ev L y=some (.pointer (some ((Value.base v0).add i))):=by rfl)
  (hm:bQ.row v0 U sz p xs ∈ M:=by exact mA) (J:∀ j u,cs[j]? = some u->xs[i+j]? = some u:=by assumption)
  (I:∀ w,(isAgg T).run x.P w=.ok true w:=by exact λ_=>rfl) (hn:∀ w,(sizeOf T).run x.P w=.ok m w:=by exact λ_=>rfl) (hl:cs.length=m:=by rfl) (O:gd ops L ⟨some d,.load T y,ty,pos,aft,g⟩=some true:=by rfl) (hN:Nat.blt d x.N=true:=by rfl):
  W x ops Q (⟨some d,.load T y,ty,pos,aft,g⟩::rest) H M L:=jN O hN I hn Y (yB hm J) hl k
theorem Qo {b i U:Nat}{fz:Nat×Nat}{l:List Q2}{v:Q2} (k:W x ops Q rest H M ((d,v)::L)) (Y:ev L y=some (.pointer (some ⟨b,i,none⟩)):=by rfl)
  (hm:bQ.obj b (.cells l.toArray U fz) ∈ M:=by exact mA) (J:l[i]? = some v:=by rfl) (I:∀ w,(isAgg T).run x.P w=.ok false w:=by exact λ_=>rfl)
  (O:gd ops L ⟨some d,.load T y,ty,pos,aft,g⟩=some true:=by rfl) (hN:Nat.blt d x.N=true:=by rfl):W x ops Q (⟨some d,.load T y,ty,pos,aft,g⟩::rest) H M L:=
 qJ O hN I Y (wB hm J) k
theorem Qp {b U n:Nat}{fz:Nat×Nat}{l:List Q2} (k:W x ops Q rest H M ((d,.agg l.toArray)::L)) (O:ev L y=some (.pointer (some ⟨b,0,none⟩)):=by rfl)
  (hm:bQ.obj b (.cells l.toArray U fz) ∈ M:=by exact mA) (I:∀ w,(isAgg T).run x.P w=.ok true w:=by exact λ_=>rfl) (hn:∀ w,(sizeOf T).run x.P w=.ok n w:=by exact λ_=>rfl) (hl:l.length=n:=by rfl)
  (J:gd ops L ⟨some d,.load T y,ty,pos,aft,g⟩=some true:=by rfl) (hN:Nat.blt d x.N=true:=by rfl):W x ops Q (⟨some d,.load T y,ty,pos,aft,g⟩::rest) H M L:=
 jN J hN I hn O (El hm) hl k
theorem Qn {v:Q2}{sz n:Nat}{xs:List Q2}{t e:TypeId} (k:W x ops Q rest H M ((d,.int .i64 n)::L)) (O:ev L y=some v:=by rfl) (hm:bQ.row v T sz n xs ∈ M:=by exact mA)
  (I:∀ w,(underlying t).run x.P w=.ok (.slice e) w:=by exact λ_=>rfl) (J:gd ops L ⟨some d,.call ⟨.builtin .len,#[y],#[t]⟩,ty,pos,aft,g⟩=some true:=by rfl) (hN:Nat.blt d x.N=true:=by rfl):
  W x ops Q (⟨some d,.call ⟨.builtin .len,#[y],#[t]⟩,ty,pos,aft,g⟩::rest) H M L:=Am hm J hN I O k
end
structure Kp (Q:Prop):Prop where
 o:Q
theorem M_ {P Q:Prop} (k:Q) (h:Kp Q->P:=by
  intro k;refine O7 ?_; first
   | (with_reducible refine p1 ?_); refine bV rfl rfl rfl ?_
   | (with_reducible refine p2 ?_); refine aJ rfl rfl rfl ?_
   | (with_reducible refine p3 ?_); refine fq ?_
   | (with_reducible refine p4 ?_); first
    | refine Qo ?_
    | refine Qp ?_
    | refine Qv ?_
    | refine Qu ?_
    | refine Qw ?_
    | refine Qy ?_
    | refine Qx ?_
    | refine Qz ?_
    | refine QE ?_
    | refine QD ?_
    | refine QF ?_
    | refine QB ?_
    | refine QA ?_
    | refine QC ?_
   | (with_reducible refine p5 ?_); refine u7 rfl rfl rfl rfl rfl ?_
   | (with_reducible refine p8 ?_); refine pQ rfl rfl rfl ?_
   | (with_reducible refine p7 ?_); refine sE rfl rfl rfl rfl ?_
   | (with_reducible refine p6 ?_); refine DM rfl rfl rfl rfl ?_
   | (with_reducible refine p9 ?_); refine OU rfl rfl rfl rfl ?_
   | (with_reducible refine pa ?_); refine rp rfl rfl (λ_=>rfl) (λ_=>rfl) rfl ?_
   | (with_reducible refine pb ?_); refine BG rfl rfl rfl rfl ?_
   | (with_reducible refine pc ?_); first
    | refine Qn ?_
    | refine nA ?_
   | (with_reducible refine QJ ?_); first
    | refine iO ?_
    | refine iA ?_
   | (with_reducible refine pg ?_); first
    | refine OT rfl rfl rfl ?_
    | refine Nv rfl rfl ?_
  exact k.o):P:=h ⟨k⟩
theorem OG {P Q:Prop} (k:Q) (h:Kp Q->P:=by
  intro k
  first
   | refine aZ ?_
   | (with_reducible refine O6 ?_); first
    | with_reducible refine aQ ?_
    | with_reducible refine gI ?_
    | with_reducible refine mn ?_
    | with_reducible refine iW ?_
    | with_reducible refine tX ?_
    | with_reducible refine nN ?_
    | refine tW rfl ?_
   | (with_reducible refine O5 ?_); first
    | with_reducible refine aL ?_
    | with_reducible refine ml ?_
    | with_reducible refine u5 ?_
    | with_reducible refine mj ?_
    | with_reducible refine uI ?_
  exact k.o):P:=h ⟨k⟩
theorem wo {P Q:Prop} (k:Q) (h:Kp Q->P:=by
  intro k
  repeat first
   | refine M_ ?_
  exact k.o):P:=h ⟨k⟩
theorem go {P Q:Prop} (k:Q) (h:Kp Q->P:=by
  intro k
  repeat first
   | refine M_ ?_
   | refine OG ?_
  exact k.o):P:=h ⟨k⟩
theorem gj {P Q:Prop} (k:Q) (h:Kp Q->P:=by
  intro k
  repeat first
   | refine M_ ?_
   | refine aZ ?_
   | (with_reducible refine O6 ?_); first
    | with_reducible refine gI ?_
    | with_reducible refine mn ?_
    | with_reducible refine iW ?_
    | with_reducible refine tX ?_
    | with_reducible refine nN ?_
    | refine tW rfl ?_
   | (with_reducible refine O5 ?_); first
    | with_reducible refine aL ?_
    | with_reducible refine ml ?_
    | with_reducible refine u5 ?_
    | with_reducible refine mj ?_
    | with_reducible refine uI ?_
  exact k.o):P:=h ⟨k⟩
theorem gt {P Q:Prop} (k:Q) (h:Kp Q->P:=by
  intro k
  repeat first
   | refine M_ ?_
   | refine aZ ?_
   | (with_reducible refine O6 ?_); first
    | with_reducible refine gI ?_
    | with_reducible refine mn ?_
    | with_reducible refine iW ?_
    | with_reducible refine tX ?_
    | with_reducible refine nN ?_
    | refine tW rfl ?_
   | (with_reducible refine O5 ?_); first
    | with_reducible refine aL ?_
    | with_reducible refine ml ?_
    | with_reducible refine u5 ?_
    | with_reducible refine mj ?_
    | with_reducible refine uI ?_
  with_reducible refine aQ ?_
  exact k.o):P:=h ⟨k⟩
theorem gs {P Q:Prop} (k:Q) (h:Kp Q->P:=by
  intro k
  repeat first
   | refine M_ ?_
   | refine OG ?_
  refine bI ?_
  repeat first
   | refine M_ ?_
   | refine OG ?_
  exact k.o):P:=h ⟨k⟩
theorem g2 {P Q:Prop} (k:Q) (h:Kp Q->P:=by
  intro k;refine gs ?_;refine gs ?_;exact k.o):P:=h ⟨k⟩
theorem om {P:Prop} (h:P:=by
  intro J O X Rest hR
  repeat (rintro _ _ ⟨rfl,rfl⟩)
  intro hU I
  repeat refine M_ ?_
  exact o0 ⟨rfl,rfl⟩):P:=h
theorem OJ {P q:Prop} (I:q) (h:q->P:=by
  intro I;intro O Y X Rest hR
  repeat (rintro _ _ ⟨rfl,rfl⟩)
  intro hU J
  repeat refine M_ ?_
  exact o0 ⟨rfl,(by first | rfl | (rw [I]; try rfl))⟩):P:=h I
theorem NI {P Q:Prop} (k:Q) (h:Kp Q->P:=by
  intro k;refine O7 ?_; first
   | (with_reducible refine p1 ?_); refine bV rfl rfl rfl ?_
   | (with_reducible refine p2 ?_); refine aJ rfl rfl rfl ?_
   | (with_reducible refine p3 ?_); refine fq ?_
   | (with_reducible refine p4 ?_); first
    | refine Qo ?_
    | refine Qp ?_
   | (with_reducible refine p5 ?_); refine u7 rfl rfl rfl rfl rfl ?_
   | (with_reducible refine p8 ?_); refine pQ rfl rfl rfl ?_
   | (with_reducible refine p7 ?_); refine sE rfl rfl rfl rfl ?_
   | (with_reducible refine p6 ?_); refine DM rfl rfl rfl rfl ?_
   | (with_reducible refine p9 ?_); refine OU rfl rfl rfl rfl ?_
   | (with_reducible refine pa ?_); refine rp rfl rfl (λ_=>rfl) (λ_=>rfl) rfl ?_
   | (with_reducible refine pb ?_); refine BG rfl rfl rfl rfl ?_
   | (with_reducible refine pc ?_); first
    | refine Qn ?_
   | (with_reducible refine pg ?_); first
    | refine OT rfl rfl rfl ?_
    | refine Nv rfl rfl ?_
  exact k.o):P:=h ⟨k⟩
theorem qo {P Q:Prop} (k:Q) (h:Kp Q->P:=by
  intro k
  repeat first
   | refine NI ?_
  exact k.o):P:=h ⟨k⟩
theorem qg {P Q:Prop} (k:Q) (h:Kp Q->P:=by
  intro k
  repeat first
   | refine NI ?_
   | refine OG ?_
  exact k.o):P:=h ⟨k⟩
theorem qj {P Q:Prop} (k:Q) (h:Kp Q->P:=by
  intro k
  repeat first
   | refine NI ?_
   | refine aZ ?_
   | (with_reducible refine O6 ?_); first
    | with_reducible refine gI ?_
    | with_reducible refine mn ?_
    | with_reducible refine iW ?_
    | with_reducible refine tX ?_
    | with_reducible refine nN ?_
    | refine tW rfl ?_
   | (with_reducible refine O5 ?_); first
    | with_reducible refine aL ?_
    | with_reducible refine ml ?_
    | with_reducible refine u5 ?_
    | with_reducible refine mj ?_
    | with_reducible refine uI ?_
  exact k.o):P:=h ⟨k⟩
theorem qt {P Q:Prop} (k:Q) (h:Kp Q->P:=by
  intro k
  repeat first
   | refine NI ?_
   | refine aZ ?_
   | (with_reducible refine O6 ?_); first
    | with_reducible refine gI ?_
    | with_reducible refine mn ?_
    | with_reducible refine iW ?_
    | with_reducible refine tX ?_
    | with_reducible refine nN ?_
    | refine tW rfl ?_
   | (with_reducible refine O5 ?_); first
    | with_reducible refine aL ?_
    | with_reducible refine ml ?_
    | with_reducible refine u5 ?_
    | with_reducible refine mj ?_
    | with_reducible refine uI ?_
  with_reducible refine aQ ?_
  exact k.o):P:=h ⟨k⟩
theorem qs {P Q:Prop} (k:Q) (h:Kp Q->P:=by
  intro k
  repeat first
   | refine NI ?_
   | refine OG ?_
  refine bI ?_
  repeat first
   | refine NI ?_
   | refine OG ?_
  exact k.o):P:=h ⟨k⟩
theorem q2 {P Q:Prop} (k:Q) (h:Kp Q->P:=by
  intro k;refine qs ?_;refine qs ?_;exact k.o):P:=h ⟨k⟩
theorem qm {P:Prop} (h:P:=by
  intro J O X Rest hR
  repeat (rintro _ _ ⟨rfl,rfl⟩)
  intro hU I
  repeat refine NI ?_
  exact o0 ⟨rfl,rfl⟩):P:=h
theorem qn {P q:Prop} (I:q) (h:q->P:=by
  intro I;intro O Y X Rest hR
  repeat (rintro _ _ ⟨rfl,rfl⟩)
  intro hU J
  repeat refine NI ?_
  exact o0 ⟨rfl,(by first | rfl | (rw [I]; try rfl))⟩):P:=h I
section
variable {x:Cx}{ops:Array Oper}{Q:lG}{rest:List Oper}{H H0:Hp}{M:List bQ}{L:Env}{ty:TypeId}{pos:String}{aft:Array Edge}{g:Option (Nat×Bool)}
theorem wF {α:Type}{iR:aG α} (i o:Nat) {T U m:Nat}{y z:Operand}{v u:Q2}{xs cs out:List Q2}{l:List α}{e:α}{I:Nat}{M1:List bQ}{ad:Addr} (e2:α)
  (k:∀ tP,Rw H v tP (l.set I e2)->(l.set I e2)[I]? = some e2->W x ops Q rest H (.row v U (aG.sz α) (l.set I e2).length tP::M1) L)
  (hy:ev L y=some (.pointer (some ad)):=by rfl) (hM:A9 i M=some (.row v U (aG.sz α) l.length xs,M1):=by rfl) (Y:ad=(Value.base v).add (I*aG.sz α+o):=by first | exact HT _ _ | exact K6 _ _ _)
  (h:Rw H0 v xs l:=by with_reducible assumption) (he:l[I]? = some e:=by first | with_reducible assumption | assumption) (iC:we α:=by infer_instance) (hle:H0.le H:=by exact lE) (hz:ev L z=some u:=by rfl)
  (hv:u.cells=cs.toArray:=by first | exact aO.cells (by assumption) | exact Rw.cells (by assumption) | rfl)
  (h1:∀ c ∈ cs,c.oneCell'=true:=by repeat first | exact SN | refine bP rfl ?_ | refine bP (aO.oW (by assumption)) ?_ | refine bP (Rw.one (by assumption)) ?_)
  (hg:gd ops L ⟨none,.store T y z,ty,pos,aft,g⟩=some true:=by rfl) (hn:∀ w,(sizeOf T).run x.P w=.ok m w:=by exact λ_=>rfl) (hl:cs.length=m:=by rfl)
  (ho:AY (we.cs e) o cs=some out:=by rfl) (hE:aG.E H out e2:=by rfl) (O:aG.E H (we.cs e) e:=by rfl) (hb:Nat.ble (o+cs.length) (we.cs e).length=true:=by rfl) (Z:Nat.ble (o+cs.length) (aG.sz α)=true:=by rfl) (J:Nat.blt 0 cs.length=true:=by rfl):
  W x ops Q (⟨none,.store T y z,ty,pos,aft,g⟩::rest) H M L:=
 wr i o e2 h he (Bf h he) O hE (λtP a b _=>k tP a b) hle hy Y hz hv h1 hM hg hn hl ho hb Z J
end
theorem fc {P:Prop} (h:P:=by
  first
   | with_reducible assumption
   | exact aO.mm (by with_reducible assumption)
   | exact Rw.mm (by with_reducible assumption)
   | exact Rw.pE (by with_reducible assumption)
   | exact aO.nil
   | exact Rw.nil
   | exact (Rw.nil (H:=H)).pE
   | exact lE
   | exact qq.mm (by assumption)
   | exact iE.mm (by assumption)
   | exact Mx.mm (by assumption)
   | exact qq.pE (by assumption)
   | exact cN.mm (by with_reducible assumption)
   | exact aO.mm (by assumption)
   | exact Rw.mm (by assumption)
   | exact Rw.pE (by assumption)
   | assumption
   | rfl):P:=h
theorem pk {P:Prop} (h:P:=by
  repeat apply Exists.intro
  repeat' first
   | refine And.intro ?_ ?_
   | exact rfl
   | exact hm
  all_goals first | exact fc | skip):P:=h
section
variable {x:Cx}{ops:Array Oper}{Q:lG}{rest:List Oper}{H H0:Hp}{M:List bQ}{L:Env}{d:Nat}{ty:TypeId}{pos:String}{aft:Array Edge}{g:Option (Nat×Bool)}
theorem Be {P:Program}{f:FuncId}{J:Array Q2}{B:Nat}{w0 w:World}{O I:Hp->List bQ->Q2->Prop} (h:Calls P f J w (uC B w0 I)) (e:I=O):Calls P f J w (uC B w0 O):=e▸h
theorem ca {C:Prop}{f:FuncId}{args:List Operand}{J:Array TypeId}{vs:List Q2}{A:Prop}{Y:Hp->List bQ->Q2->Prop} (c:C) (a:A)
  (k:∀ v H' M',Y H' M' v->W x ops Q rest H' M' ((d,v)::L)) (I:∀ O w,(callFunc f O).run x.P w=.ok (.enter f O) w:=by exact λ_ _=>rfl) (hv:zc L args=some vs:=by rfl)
  (Z:C->A->∀ w,St x.B x.w0 H M w->Calls x.P f vs.toArray w (uC x.B x.w0 Y):=by
   intro c a w ht;apply Be;apply c a
   all_goals first | exact ht | skip
   all_goals first | exact fc | exact rfl) (hg:gd ops L ⟨some d,.call ⟨.value (.func f),args.toArray,J⟩,ty,pos,aft,g⟩=some true:=by rfl) (hN:Nat.blt d x.N=true:=by rfl):
  W x ops Q (⟨some d,.call ⟨.value (.func f),args.toArray,J⟩,ty,pos,aft,g⟩::rest) H M L:=fQ I hg hN hv (Z c a) k
theorem cy {C:Prop}{f:FuncId}{args:List Operand}{Y:Array TypeId}{vs:List Q2}{A:Prop}{Φ:Hp->List bQ->Q2->Prop} (c:C) (a:A)
  (k:∀ v H' M',Φ H' M' v->W x ops Q rest H' M' ((d,v)::L)) (I:∀ Z w,(callFunc f Z).run x.P w=.ok (.enter f Z) w:=by exact λ_ _=>rfl) (hv:zc L args=some vs:=by rfl)
  (hc:C->A->∀ w,St x.B x.w0 H M w->Calls x.P f vs.toArray w (uC x.B x.w0 Φ):=by
   intro c a w ht;apply Be;obtain ⟨H0_,hl0_,O,hr0_,J⟩:=St.kX ht (by exact fc) rfl
   apply fW J;apply c a
   all_goals first | exact O | skip
   all_goals first | exact fc | exact rfl) (hg:gd ops L ⟨some d,.call ⟨.value (.func f),args.toArray,Y⟩,ty,pos,aft,g⟩=some true:=by rfl) (hN:Nat.blt d x.N=true:=by rfl):
  W x ops Q (⟨some d,.call ⟨.value (.func f),args.toArray,Y⟩,ty,pos,aft,g⟩::rest) H M L:=fQ I hg hN hv (hc c a) k
theorem cY {C:Prop}{f:FuncId}{args:List Operand}{tys:Array TypeId}{vs:List Q2}{A:Prop}{Φ:Hp->List bQ->Q2->Prop} (c:C) (a:A)
  (k:∀ v H' M',Φ H' M' v->W x ops Q rest H' M' ((d,v)::L)) (I:∀ bs w,(callFunc f bs).run x.P w=.ok (.enter f bs) w:=by exact λ_ _=>rfl) (hv:zc L args=some vs:=by rfl)
  (hc:C->A->∀ w,St x.B x.w0 H M w->Calls x.P f vs.toArray w (uC x.B x.w0 Φ):=by
   intro c a w ht;apply Be;obtain ⟨H0_,hl0_,Y,hr0_,J⟩:=St.kX ht (by exact fc) rfl
   apply fW J;obtain ⟨H1_,hl1_,Z,hr1_,O⟩:=St.kX Y (by exact fc) rfl
   apply fW O;apply c a
   all_goals first | exact Z | skip
   all_goals first | exact fc | exact rfl) (hg:gd ops L ⟨some d,.call ⟨.value (.func f),args.toArray,tys⟩,ty,pos,aft,g⟩=some true:=by rfl) (hN:Nat.blt d x.N=true:=by rfl):
  W x ops Q (⟨some d,.call ⟨.value (.func f),args.toArray,tys⟩,ty,pos,aft,g⟩::rest) H M L:=fQ I hg hN hv (hc c a) k
theorem cz {C:Prop}{f:FuncId}{args:List Operand}{J:Array TypeId}{vs:List Q2}{A:Prop}{u:Q2} (c:C) (a:A)
  (k:W x ops Q rest H M ((d,u)::L)) (I:∀ O w,(callFunc f O).run x.P w=.ok (.enter f O) w:=by exact λ_ _=>rfl) (hv:zc L args=some vs:=by rfl)
  (Y:C->A->∀ w,St x.B x.w0 H M w->Calls x.P f vs.toArray w (uC x.B x.w0 λH' M' v=>H=H'/\M=M'/\u=v):=by
   intro c a w ht;apply Be;apply c a
   all_goals first | exact ht | skip
   all_goals first | exact fc | exact rfl) (Z:gd ops L ⟨some d,.call ⟨.value (.func f),args.toArray,J⟩,ty,pos,aft,g⟩=some true:=by rfl) (hN:Nat.blt d x.N=true:=by rfl):
  W x ops Q (⟨some d,.call ⟨.value (.func f),args.toArray,J⟩,ty,pos,aft,g⟩::rest) H M L:=fQ I Z hN hv (Y c a) (by rintro _ _ _ ⟨rfl,rfl,rfl⟩; exact k)
end
theorem ki {a b:Int} (h:a=b):some (Value.int .i64 a)=some (Value.int .i64 b):=by rw [h]
theorem kS {P:Prop} (h:P:=by
  repeat first
   | exact Q3
   | refine ⟨rfl,?_⟩
   | refine ⟨sb (by simp only [Io, *]),?_⟩):P:=h
theorem kK {a b:Int}{P:Prop} (e:a=b) (h:a=b->P:=by
  intro e
  repeat first
   | exact Q3
   | refine ⟨rfl,?_⟩
   | refine ⟨ki e,?_⟩
   | refine ⟨sb (by simp only [Io, *]),?_⟩):P:=h e
theorem eb {A B P:Prop} (a:A) (b:B) (h:A->B->P:=by
  intro a b;apply w8 (S7 _)
  repeat apply Exists.intro
  refine And.intro a ?_;refine And.intro rfl ?_;refine And.intro ((congrFun b _).trans hm) ?_
  repeat' first
   | refine And.intro ?_ ?_
   | exact rfl
  all_goals first | exact fc | skip):P:=h a b
theorem CX {B P:Prop} (b:B) (h:B->P:=by
  intro b;apply w8 (S7 _)
  repeat apply Exists.intro
  refine And.intro ((congrFun b _).trans hm) ?_
  repeat' first
   | refine And.intro ?_ ?_
   | exact rfl
  all_goals first | exact fc | skip):P:=h b
theorem en {P:Prop} (h:P:=by
  obtain rfl:=Q8 hm
  first
   | refine lL rfl rfl ?_
   | refine C4 rfl rfl rfl ?_
   | refine O1 rfl rfl rfl rfl ?_
   | refine IG rfl ?_
  refine And.intro lE ?_
  repeat apply Exists.intro
  refine And.intro rfl ?_
  repeat' first
   | refine And.intro ?_ ?_
   | exact rfl
  all_goals first | exact fc | skip):P:=h
theorem ef {P:Prop} (h:P:=by
  obtain rfl:=Q8 hm;refine Ew H ?_
  first
   | refine lL rfl rfl ?_
   | refine C4 rfl rfl rfl ?_
   | refine O1 rfl rfl rfl rfl ?_
   | refine IG rfl ?_
  refine And.intro rfl ?_
  repeat apply Exists.intro
  refine And.intro rfl ?_
  repeat' first
   | refine And.intro ?_ ?_
   | exact rfl
  all_goals first | exact fc | skip):P:=h
section
variable {x:Cx}{ops:Array Oper}{Q:lG}{rest:List Oper}{H:Hp}{M:List bQ}{L:Env}{d:Nat}{ty:TypeId}{pos:String}{aft:Array Edge}{g:Option (Nat×Bool)}{y:Operand}{T:TypeId}
theorem QG {b i U n:Nat}{fz:Nat×Nat}{l cs:List Q2} (k:W x ops Q rest H M ((d,.agg cs.toArray)::L)) (Y:ev L y=some (.pointer (some ⟨b,i,none⟩)):=by rfl)
  (hm:bQ.obj b (.cells l.toArray U fz) ∈ M:=by exact mA) (I:∀ w,(isAgg T).run x.P w=.ok true w:=by exact λ_=>rfl) (hn:∀ w,(sizeOf T).run x.P w=.ok n w:=by exact λ_=>rfl)
  (J:NY ((l.drop i).take n)=some cs:=by rfl) (hl:cs.length=n:=by rfl) (O:gd ops L ⟨some d,.load T y,ty,pos,aft,g⟩=some true:=by rfl) (hN:Nat.blt d x.N=true:=by rfl):
  W x ops Q (⟨some d,.load T y,ty,pos,aft,g⟩::rest) H M L:=
 jN O hN I hn Y (r8 hm (by rw [hl]; exact DU J)) hl k
end
theorem Qt {F:Q2->List bQ->Prop} (k:∀ v rs,F v rs):∀ v rs,F v rs:=k
structure Ix (l:List Nat):Prop where
 o:True
theorem ix (l:List Nat):Ix l:=⟨Q3⟩
theorem Wi {x:Cx}{ops:Array Oper}{Q:lG}{rest:List Oper}{H:Hp}{M M':List bQ}{L:Env}{l:List Nat} (i:Ix l) (k:W x ops Q rest H M' L) (h:A0 l M=some M':=by rfl):W x ops Q rest H M L:=Wp l k h
theorem rz {P:Prop} (h:P:=by
  first
   | exact o0 ⟨rfl,rfl⟩
   | exact o0 pk
   | exact oe [] lE pk
   | exact oe [_] lE pk
   | exact oe [_,_] lE pk
   | exact oe [_,_,_] lE pk
   | exact oe [_,_,_,_,_,_] lE pk
   | exact oe [_,_,_,_,_,_,_] lE pk
   | exact aZ (Df [_] lE pk)):P:=h
theorem rk {C A I P:Prop} (i:I) (c:C) (a:A) (h:I->C->A->P:=by
  intro i c a Y Z X Rest hR
  repeat (refine Qt ?_; (first | rintro _ _ ⟨rfl,rfl⟩ | rintro _ _ ⟨_,rfl,rfl⟩ | rintro _ _ ⟨_,_,rfl,rfl⟩ | rintro _ _ ⟨_,_,_,rfl,rfl⟩ | rintro _ _ ⟨_,_,_,_,rfl,rfl⟩ | rintro _ _ ⟨_,_,_,_,_,rfl,rfl⟩ | rintro _ _ ⟨_,_,_,_,_,_,rfl,rfl⟩ | rintro _ _ ⟨_,_,_,_,_,_,_,rfl,rfl⟩ | rintro _ _ ⟨_,_,_,_,_,_,_,_,rfl,rfl⟩ | rintro _ _ ⟨_,_,_,_,_,_,_,_,_,_,rfl,rfl⟩ | rintro _ _ ⟨_,_,_,_,_,_,_,_,_,_,_,_,rfl,rfl⟩ | rintro _ _ ⟨_,_,_,_,_,_,_,_,_,_,_,_,_,_,rfl,rfl⟩ | rintro _ _ ⟨rfl,rfl,J⟩ | rintro _ _ ⟨_,rfl,rfl,J⟩ | rintro _ _ ⟨_,_,rfl,rfl,J⟩ | rintro _ _ ⟨_,_,_,rfl,rfl,J⟩ | rintro _ _ ⟨_,_,_,_,rfl,rfl,J⟩ | rintro _ _ ⟨_,_,_,_,_,rfl,rfl,J⟩ | rintro _ _ ⟨_,_,_,_,_,_,rfl,rfl,J⟩ | rintro _ _ ⟨_,_,_,_,_,_,_,rfl,rfl,J⟩ | rintro _ _ ⟨_,_,_,_,_,_,_,_,rfl,rfl,J⟩ | rintro _ _ ⟨_,_,_,_,_,_,_,_,_,_,rfl,rfl,J⟩ | rintro _ _ ⟨_,_,_,_,_,_,_,_,_,_,_,_,rfl,rfl,J⟩ | rintro _ _ ⟨_,_,_,_,_,_,_,_,_,_,_,_,_,_,rfl,rfl,J⟩); repeat (with_reducible refine And.elim (λ_ J=>?_) J))
  intro hU O
  first | refine Wi i ?_ | skip
  repeat first
   | refine M_ ?_
   | refine QG ?_
   | (refine ca c a ?_; (first | rintro _ _ _ ⟨rfl,rfl,rfl⟩ | rintro _ _ _ ⟨rfl,_,rfl,rfl⟩ | rintro _ _ _ ⟨rfl,_,_,rfl,rfl⟩ | rintro _ _ _ ⟨rfl,_,_,_,rfl,rfl⟩ | rintro _ _ _ ⟨rfl,_,_,_,_,rfl,rfl⟩ | rintro _ _ _ ⟨rfl,_,_,_,_,_,rfl,rfl⟩ | rintro _ _ _ ⟨rfl,_,_,_,_,_,_,rfl,rfl⟩ | rintro _ _ _ ⟨rfl,_,_,_,_,_,_,_,rfl,rfl⟩ | rintro _ _ _ ⟨rfl,_,_,_,_,_,_,_,_,rfl,rfl⟩ | rintro _ _ _ ⟨rfl,_,_,_,_,_,_,_,_,_,_,rfl,rfl⟩ | rintro _ _ _ ⟨rfl,_,_,_,_,_,_,_,_,_,_,_,_,rfl,rfl⟩ | rintro _ _ _ ⟨rfl,_,_,_,_,_,_,_,_,_,_,_,_,_,_,rfl,rfl⟩ | rintro _ _ _ ⟨rfl,rfl,rfl,J⟩ | rintro _ _ _ ⟨rfl,_,rfl,rfl,J⟩ | rintro _ _ _ ⟨rfl,_,_,rfl,rfl,J⟩ | rintro _ _ _ ⟨rfl,_,_,_,rfl,rfl,J⟩ | rintro _ _ _ ⟨rfl,_,_,_,_,rfl,rfl,J⟩ | rintro _ _ _ ⟨rfl,_,_,_,_,_,rfl,rfl,J⟩ | rintro _ _ _ ⟨rfl,_,_,_,_,_,_,rfl,rfl,J⟩ | rintro _ _ _ ⟨rfl,_,_,_,_,_,_,_,rfl,rfl,J⟩ | rintro _ _ _ ⟨rfl,_,_,_,_,_,_,_,_,rfl,rfl,J⟩ | rintro _ _ _ ⟨rfl,_,_,_,_,_,_,_,_,_,_,rfl,rfl,J⟩ | rintro _ _ _ ⟨rfl,_,_,_,_,_,_,_,_,_,_,_,_,rfl,rfl,J⟩ | rintro _ _ _ ⟨rfl,_,_,_,_,_,_,_,_,_,_,_,_,_,_,rfl,rfl,J⟩ | rintro _ _ _ ⟨_,rfl,rfl⟩ | rintro _ _ _ ⟨_,_,rfl,rfl⟩ | rintro _ _ _ ⟨_,_,_,rfl,rfl⟩ | rintro _ _ _ ⟨_,_,_,_,rfl,rfl⟩ | rintro _ _ _ ⟨_,_,_,_,_,rfl,rfl⟩ | rintro _ _ _ ⟨_,_,_,_,_,_,rfl,rfl⟩ | rintro _ _ _ ⟨_,_,_,_,_,_,_,rfl,rfl⟩ | rintro _ _ _ ⟨_,_,_,_,_,_,_,_,rfl,rfl⟩ | rintro _ _ _ ⟨_,_,_,_,_,_,_,_,_,rfl,rfl⟩ | rintro _ _ _ ⟨_,_,_,_,_,_,_,_,_,_,_,rfl,rfl⟩ | rintro _ _ _ ⟨_,_,_,_,_,_,_,_,_,_,_,_,_,rfl,rfl⟩ | rintro _ _ _ ⟨_,_,_,_,_,_,_,_,_,_,_,_,_,_,_,rfl,rfl⟩ | rintro _ _ _ ⟨_,rfl,rfl,J⟩ | rintro _ _ _ ⟨_,_,rfl,rfl,J⟩ | rintro _ _ _ ⟨_,_,_,rfl,rfl,J⟩ | rintro _ _ _ ⟨_,_,_,_,rfl,rfl,J⟩ | rintro _ _ _ ⟨_,_,_,_,_,rfl,rfl,J⟩ | rintro _ _ _ ⟨_,_,_,_,_,_,rfl,rfl,J⟩ | rintro _ _ _ ⟨_,_,_,_,_,_,_,rfl,rfl,J⟩ | rintro _ _ _ ⟨_,_,_,_,_,_,_,_,rfl,rfl,J⟩ | rintro _ _ _ ⟨_,_,_,_,_,_,_,_,_,rfl,rfl,J⟩ | rintro _ _ _ ⟨_,_,_,_,_,_,_,_,_,_,_,rfl,rfl,J⟩ | rintro _ _ _ ⟨_,_,_,_,_,_,_,_,_,_,_,_,_,rfl,rfl,J⟩ | rintro _ _ _ ⟨_,_,_,_,_,_,_,_,_,_,_,_,_,_,_,rfl,rfl,J⟩); repeat (with_reducible refine And.elim (λ_ J=>?_) J))
  exact rz):P:=h i c a
theorem tt:True:=Q3
theorem ro {P:Prop} (h:P:=by exact rk tt tt tt):P:=h
end Go.Sim
namespace Go.Proofs
open Go.Shelf
open _root_.Go.IntKind (i64 u64 u32 u8)
def Tryz.Fm:Go.Shelf.Ren:=⟨fun | 283=>128 | n=>n,fun | 3=>3 | 9=>9 | 4=>4 | n=>n,fun | n=>n⟩
theorem Tryz.Mb:Go.Proofs.Lays.n283 Tryz.prog Tryz.Fm:={
 mixed:=by kernel_rfl
 f283:=Tryz.func128.trans (congrArg some (by kernel_rfl))
 t3:=Tryz.underlying3
 a3:=Tryz.isAgg3
 z3:=Tryz.sizeOf3
 v3:=Tryz.zeroValue3
 t4:=Tryz.underlying4
 a4:=Tryz.isAgg4
 z4:=Tryz.sizeOf4
 v4:=Tryz.zeroValue4
 t9:=Tryz.underlying9
 a9:=Tryz.isAgg9
 z9:=Tryz.sizeOf9
 v9:=Tryz.zeroValue9 }
open Go.Lib in
theorem Tryz.internal_strconv_small (i:Nat) (h:i<100) (w:World):
  Calls Tryz.prog 128 #[.int .i64 i] w λe w'=>e=.returned (.string ⟨(Lib.decDigits i).toArray⟩)/\w'=w:=Any.internal_strconv_small Tryz.Mb i h w
def Tryz.D_:Go.Shelf.Ren:=⟨fun | 284=>129 | 129=>169 | 317=>168 | 318=>170 | n=>n,fun | 53=>50 | 3=>3 | 212=>262 | 0=>0 | 4=>4 | 46=>201 | 5=>5 | 9=>9 | n=>n,fun | 17=>0 | n=>n⟩
theorem Tryz.KC:Go.Proofs.LaysM.n284 Tryz.prog Tryz.D_:={
 mixed:=by kernel_rfl
 f129:=Tryz.func169.trans (congrArg some (by kernel_rfl))
 f284:=Tryz.func129.trans (congrArg some (by kernel_rfl))
 f317:=Tryz.func168.trans (congrArg some (by kernel_rfl))
 f318:=Tryz.func170.trans (congrArg some (by kernel_rfl))
 t0:=Tryz.underlying0
 a0:=Tryz.isAgg0
 z0:=Tryz.sizeOf0
 v0:=Tryz.zeroValue0
 t3:=Tryz.underlying3
 a3:=Tryz.isAgg3
 z3:=Tryz.sizeOf3
 v3:=Tryz.zeroValue3
 t4:=Tryz.underlying4
 a4:=Tryz.isAgg4
 z4:=Tryz.sizeOf4
 v4:=Tryz.zeroValue4
 t5:=Tryz.underlying5
 a5:=Tryz.isAgg5
 z5:=Tryz.sizeOf5
 v5:=Tryz.zeroValue5
 t9:=Tryz.underlying9
 a9:=Tryz.isAgg9
 z9:=Tryz.sizeOf9
 v9:=Tryz.zeroValue9
 t46:=Tryz.underlying201
 a46:=Tryz.isAgg201
 z46:=Tryz.sizeOf201
 v46:=Tryz.zeroValue201
 t53:=Tryz.underlying50
 a53:=Tryz.isAgg50
 z53:=Tryz.sizeOf50
 v53:=Tryz.zeroValue50
 t212:=Tryz.underlying262
 a212:=Tryz.isAgg262
 z212:=Tryz.sizeOf262
 v212:=Tryz.zeroValue262
 g17:=by kernel_rfl
 i0:=by kernel_rfl
 i3:=by kernel_rfl
 i4:=by kernel_rfl
 i5:=by kernel_rfl
 i9:=by kernel_rfl
 i46:=by kernel_rfl
 i53:=by kernel_rfl
 i212:=by kernel_rfl
 m17:=by kernel_rfl }
open Go.Lib in
theorem Tryz.internal_strconv_numDigits (u:Nat) (h1:1<=u) (h2:u<18446744073709551616) (w:World) (htab:Lib.TabIs Tryz.prog w "internal/strconv.uint64pow10" .u64 Lib.pow10Tab):
  Calls Tryz.prog 129 #[.int .u64 u] w λe w'=>e=.returned (.int .i64 (Lib.nDigits u))/\w'=w:=Any.internal_strconv_numDigits Tryz.KC u h1 h2 w htab
def Tryz.Fo:Go.Shelf.Ren:=⟨fun | 285=>130 | n=>n,fun | 37=>177 | 53=>50 | 3=>3 | 4=>4 | 51=>224 | 9=>9 | 5=>5 | 0=>0 | n=>n,fun | n=>n⟩
theorem Tryz.Mc:Go.Proofs.Lays.n285 Tryz.prog Tryz.Fo:={
 mixed:=by kernel_rfl
 f285:=Tryz.func130.trans (congrArg some (by kernel_rfl))
 t0:=Tryz.underlying0
 a0:=Tryz.isAgg0
 z0:=Tryz.sizeOf0
 v0:=Tryz.zeroValue0
 t3:=Tryz.underlying3
 a3:=Tryz.isAgg3
 z3:=Tryz.sizeOf3
 v3:=Tryz.zeroValue3
 t4:=Tryz.underlying4
 a4:=Tryz.isAgg4
 z4:=Tryz.sizeOf4
 v4:=Tryz.zeroValue4
 t5:=Tryz.underlying5
 a5:=Tryz.isAgg5
 z5:=Tryz.sizeOf5
 v5:=Tryz.zeroValue5
 t9:=Tryz.underlying9
 a9:=Tryz.isAgg9
 z9:=Tryz.sizeOf9
 v9:=Tryz.zeroValue9
 t37:=Tryz.underlying177
 a37:=Tryz.isAgg177
 z37:=Tryz.sizeOf177
 v37:=Tryz.zeroValue177
 t51:=Tryz.underlying224
 a51:=Tryz.isAgg224
 z51:=Tryz.sizeOf224
 v51:=Tryz.zeroValue224
 t53:=Tryz.underlying50
 a53:=Tryz.isAgg50
 z53:=Tryz.sizeOf50
 v53:=Tryz.zeroValue50 }
open Go.RowKit Go.Sort Go.Lib in
theorem Tryz.internal_strconv_formatBase10 (blk off cap:Nat) (u:Nat) (d:Array UInt8) (w:World) (hH:Holds (λ(b:UInt8)=>Value.int .u8 (b.toNat:Int)) w blk off d) (hu:u<10 ^ d.size) (hu64:u<18446744073709551616) (hsz:d.size<4611686018427387904):
  Calls Tryz.prog 130 #[.slice (some ⟨blk,off,none⟩) d.size cap,.int .u64 u] w λe w'=>
   e=.returned (.tuple #[])/\∃ (n v':Nat) (dk:Array UInt8),w'=(putRow (λ(b:UInt8)=>Value.int .u8 (b.toNat:Int)) w blk off dk).drewN n/\FmtInv d.size u 0 v' dk:=Any.internal_strconv_formatBase10 Tryz.Mc blk off cap u d w hH hu hu64 hsz
def Tryz.D9:Go.Shelf.Ren:=⟨fun | 171=>27 | 243=>58 | 246=>92 | 283=>128 | 284=>129 | 285=>130 | 286=>131 | 129=>169 | 317=>168 | 318=>170 | 319=>171 | 320=>172 | 337=>200 | 338=>201 | n=>n,fun | 3=>3 | 9=>9 | 2=>2 | 4=>4 | 171=>214 | 0=>0 | 53=>50 | 37=>177 | 5=>5 | 173=>217 | 212=>262 | 51=>224 | 20=>20 | 213=>263 | 46=>201 | 232=>317 | 233=>318 | n=>n,fun | 17=>0 | 18=>6 | 19=>7 | n=>n⟩
theorem Tryz.KB:Go.Proofs.LaysM.n171 Tryz.prog Tryz.D9:={
 mixed:=by kernel_rfl
 f129:=Tryz.func169.trans (congrArg some (by kernel_rfl))
 f171:=Tryz.func27.trans (congrArg some (by kernel_rfl))
 f243:=Tryz.func58.trans (congrArg some (by kernel_rfl))
 f246:=Tryz.func92.trans (congrArg some (by kernel_rfl))
 f283:=Tryz.func128.trans (congrArg some (by kernel_rfl))
 f284:=Tryz.func129.trans (congrArg some (by kernel_rfl))
 f285:=Tryz.func130.trans (congrArg some (by kernel_rfl))
 f286:=Tryz.func131.trans (congrArg some (by kernel_rfl))
 f317:=Tryz.func168.trans (congrArg some (by kernel_rfl))
 f318:=Tryz.func170.trans (congrArg some (by kernel_rfl))
 f319:=Tryz.func171.trans (congrArg some (by kernel_rfl))
 f320:=Tryz.func172.trans (congrArg some (by kernel_rfl))
 f337:=Tryz.func200.trans (congrArg some (by kernel_rfl))
 f338:=Tryz.func201.trans (congrArg some (by kernel_rfl))
 t0:=Tryz.underlying0
 a0:=Tryz.isAgg0
 z0:=Tryz.sizeOf0
 v0:=Tryz.zeroValue0
 t2:=Tryz.underlying2
 a2:=Tryz.isAgg2
 z2:=Tryz.sizeOf2
 v2:=Tryz.zeroValue2
 t3:=Tryz.underlying3
 a3:=Tryz.isAgg3
 z3:=Tryz.sizeOf3
 v3:=Tryz.zeroValue3
 t4:=Tryz.underlying4
 a4:=Tryz.isAgg4
 z4:=Tryz.sizeOf4
 v4:=Tryz.zeroValue4
 t5:=Tryz.underlying5
 a5:=Tryz.isAgg5
 z5:=Tryz.sizeOf5
 v5:=Tryz.zeroValue5
 t9:=Tryz.underlying9
 a9:=Tryz.isAgg9
 z9:=Tryz.sizeOf9
 v9:=Tryz.zeroValue9
 t20:=Tryz.underlying20
 a20:=Tryz.isAgg20
 z20:=Tryz.sizeOf20
 v20:=Tryz.zeroValue20
 t37:=Tryz.underlying177
 a37:=Tryz.isAgg177
 z37:=Tryz.sizeOf177
 v37:=Tryz.zeroValue177
 t46:=Tryz.underlying201
 a46:=Tryz.isAgg201
 z46:=Tryz.sizeOf201
 v46:=Tryz.zeroValue201
 t51:=Tryz.underlying224
 a51:=Tryz.isAgg224
 z51:=Tryz.sizeOf224
 v51:=Tryz.zeroValue224
 t53:=Tryz.underlying50
 a53:=Tryz.isAgg50
 z53:=Tryz.sizeOf50
 v53:=Tryz.zeroValue50
 t171:=Tryz.underlying214
 a171:=Tryz.isAgg214
 z171:=Tryz.sizeOf214
 v171:=Tryz.zeroValue214
 t173:=Tryz.underlying217
 a173:=Tryz.isAgg217
 z173:=Tryz.sizeOf217
 v173:=Tryz.zeroValue217
 t212:=Tryz.underlying262
 a212:=Tryz.isAgg262
 z212:=Tryz.sizeOf262
 v212:=Tryz.zeroValue262
 t213:=Tryz.underlying263
 a213:=Tryz.isAgg263
 z213:=Tryz.sizeOf263
 t232:=Tryz.underlying317
 a232:=Tryz.isAgg317
 z232:=Tryz.sizeOf317
 v232:=Tryz.zeroValue317
 t233:=Tryz.underlying318
 a233:=Tryz.isAgg318
 z233:=Tryz.sizeOf318
 v233:=Tryz.zeroValue318
 g17:=by kernel_rfl
 g18:=by kernel_rfl
 g19:=by kernel_rfl
 i0:=by kernel_rfl
 i2:=by kernel_rfl
 i3:=by kernel_rfl
 i4:=by kernel_rfl
 i5:=by kernel_rfl
 i9:=by kernel_rfl
 i20:=by kernel_rfl
 i37:=by kernel_rfl
 i46:=by kernel_rfl
 i51:=by kernel_rfl
 i53:=by kernel_rfl
 i171:=by kernel_rfl
 i173:=by kernel_rfl
 i212:=by kernel_rfl
 i232:=by kernel_rfl
 i233:=by kernel_rfl
 m17:=by kernel_rfl
 m18:=by kernel_rfl
 m19:=by kernel_rfl }
open Go.RowKit Go.Sort Go.Lib in
theorem Tryz.strconv_Itoa (n:Int) (h0:-9223372036854775808<=n) (h1:n<=9223372036854775807) (w:World) (htab:Lib.TabIs Tryz.prog w "internal/strconv.uint64pow10" .u64 Lib.pow10Tab):
  Calls Tryz.prog 27 #[.int .i64 n] w λe w'=>e=.returned (.string ⟨(Lib.itoa n).toArray⟩)/\∃ k os,w'=grow (w.drewN k) os:=Any.strconv_Itoa Tryz.KB n h0 h1 w htab
def Tryz.Fp:Go.Shelf.Ren:=⟨fun | 287=>180 | 321=>207 | 322=>208 | n=>n,fun | 9=>9 | 3=>3 | 53=>50 | 75=>158 | 4=>4 | 167=>230 | 5=>5 | 46=>201 | 37=>177 | 0=>0 | 21=>21 | 80=>331 | n=>n,fun | n=>n⟩
theorem Tryz.Me:Go.Proofs.Lays.n287 Tryz.prog Tryz.Fp:={
 mixed:=by kernel_rfl
 f287:=Tryz.func180.trans (congrArg some (by kernel_rfl))
 f321:=Tryz.func207.trans (congrArg some (by kernel_rfl))
 f322:=Tryz.func208.trans (congrArg some (by kernel_rfl))
 t0:=Tryz.underlying0
 a0:=Tryz.isAgg0
 z0:=Tryz.sizeOf0
 v0:=Tryz.zeroValue0
 t3:=Tryz.underlying3
 a3:=Tryz.isAgg3
 z3:=Tryz.sizeOf3
 v3:=Tryz.zeroValue3
 t4:=Tryz.underlying4
 a4:=Tryz.isAgg4
 z4:=Tryz.sizeOf4
 v4:=Tryz.zeroValue4
 t5:=Tryz.underlying5
 a5:=Tryz.isAgg5
 z5:=Tryz.sizeOf5
 v5:=Tryz.zeroValue5
 t9:=Tryz.underlying9
 a9:=Tryz.isAgg9
 z9:=Tryz.sizeOf9
 v9:=Tryz.zeroValue9
 t21:=Tryz.underlying21
 a21:=Tryz.isAgg21
 z21:=Tryz.sizeOf21
 v21:=Tryz.zeroValue21
 t37:=Tryz.underlying177
 a37:=Tryz.isAgg177
 z37:=Tryz.sizeOf177
 v37:=Tryz.zeroValue177
 t46:=Tryz.underlying201
 a46:=Tryz.isAgg201
 z46:=Tryz.sizeOf201
 v46:=Tryz.zeroValue201
 t53:=Tryz.underlying50
 a53:=Tryz.isAgg50
 z53:=Tryz.sizeOf50
 v53:=Tryz.zeroValue50
 t75:=Tryz.underlying158
 a75:=Tryz.isAgg158
 z75:=Tryz.sizeOf158
 v75:=Tryz.zeroValue158
 t167:=Tryz.underlying230
 a167:=Tryz.isAgg230
 z167:=Tryz.sizeOf230
 v167:=Tryz.zeroValue230 }
def Tryz.D8:Go.Shelf.Ren:=⟨fun | 172=>79 | 244=>111 | 245=>112 | 247=>147 | 279=>148 | 280=>149 | 281=>150 | 282=>151 | 287=>180 | 316=>189 | 171=>27 | 205=>190 | 321=>207 | 322=>208 | 243=>58 | 246=>92 | 283=>128 | 284=>129 | 285=>130 | 286=>131 | 129=>169 | 317=>168 | 318=>170 | 319=>171 | 320=>172 | 337=>200 | 338=>201 | n=>n,fun | 9=>9 | 3=>3 | 75=>158 | 76=>159 | 4=>4 | 5=>5 | 167=>230 | 37=>177 | 0=>0 | 85=>231 | 2=>2 | 168=>233 | 53=>50 | 175=>221 | 46=>201 | 210=>274 | 127=>302 | 145=>305 | 143=>303 | 21=>21 | 171=>214 | 173=>217 | 212=>262 | 51=>224 | 20=>20 | 213=>263 | 232=>317 | 233=>318 | 80=>331 | n=>n,fun | 15=>2 | 16=>3 | 17=>0 | 18=>6 | 19=>7 | n=>n⟩
theorem Tryz.Ce:Go.Proofs.LaysC.n172 Tryz.prog Tryz.D8:={
 mixed:=by kernel_rfl
 f129:=Tryz.func169.trans (congrArg some (by kernel_rfl))
 f171:=Tryz.func27.trans (congrArg some (by kernel_rfl))
 f172:=Tryz.func79.trans (congrArg some (by kernel_rfl))
 f205:=Tryz.func190.trans (congrArg some (by kernel_rfl))
 f243:=Tryz.func58.trans (congrArg some (by kernel_rfl))
 f244:=Tryz.func111.trans (congrArg some (by kernel_rfl))
 f245:=Tryz.func112.trans (congrArg some (by kernel_rfl))
 f246:=Tryz.func92.trans (congrArg some (by kernel_rfl))
 f247:=Tryz.func147.trans (congrArg some (by kernel_rfl))
 f279:=Tryz.func148.trans (congrArg some (by kernel_rfl))
 f280:=Tryz.func149.trans (congrArg some (by kernel_rfl))
 f281:=Tryz.func150.trans (congrArg some (by kernel_rfl))
 f282:=Tryz.func151.trans (congrArg some (by kernel_rfl))
 f283:=Tryz.func128.trans (congrArg some (by kernel_rfl))
 f284:=Tryz.func129.trans (congrArg some (by kernel_rfl))
 f285:=Tryz.func130.trans (congrArg some (by kernel_rfl))
 f286:=Tryz.func131.trans (congrArg some (by kernel_rfl))
 f287:=Tryz.func180.trans (congrArg some (by kernel_rfl))
 f316:=Tryz.func189.trans (congrArg some (by kernel_rfl))
 f317:=Tryz.func168.trans (congrArg some (by kernel_rfl))
 f318:=Tryz.func170.trans (congrArg some (by kernel_rfl))
 f319:=Tryz.func171.trans (congrArg some (by kernel_rfl))
 f320:=Tryz.func172.trans (congrArg some (by kernel_rfl))
 f321:=Tryz.func207.trans (congrArg some (by kernel_rfl))
 f322:=Tryz.func208.trans (congrArg some (by kernel_rfl))
 f337:=Tryz.func200.trans (congrArg some (by kernel_rfl))
 f338:=Tryz.func201.trans (congrArg some (by kernel_rfl))
 t0:=Tryz.underlying0
 a0:=Tryz.isAgg0
 z0:=Tryz.sizeOf0
 v0:=Tryz.zeroValue0
 t2:=Tryz.underlying2
 a2:=Tryz.isAgg2
 z2:=Tryz.sizeOf2
 v2:=Tryz.zeroValue2
 t3:=Tryz.underlying3
 a3:=Tryz.isAgg3
 z3:=Tryz.sizeOf3
 v3:=Tryz.zeroValue3
 t4:=Tryz.underlying4
 a4:=Tryz.isAgg4
 z4:=Tryz.sizeOf4
 v4:=Tryz.zeroValue4
 t5:=Tryz.underlying5
 a5:=Tryz.isAgg5
 z5:=Tryz.sizeOf5
 v5:=Tryz.zeroValue5
 t9:=Tryz.underlying9
 a9:=Tryz.isAgg9
 z9:=Tryz.sizeOf9
 v9:=Tryz.zeroValue9
 t20:=Tryz.underlying20
 a20:=Tryz.isAgg20
 z20:=Tryz.sizeOf20
 v20:=Tryz.zeroValue20
 t21:=Tryz.underlying21
 a21:=Tryz.isAgg21
 z21:=Tryz.sizeOf21
 v21:=Tryz.zeroValue21
 t37:=Tryz.underlying177
 a37:=Tryz.isAgg177
 z37:=Tryz.sizeOf177
 v37:=Tryz.zeroValue177
 t46:=Tryz.underlying201
 a46:=Tryz.isAgg201
 z46:=Tryz.sizeOf201
 v46:=Tryz.zeroValue201
 t51:=Tryz.underlying224
 a51:=Tryz.isAgg224
 z51:=Tryz.sizeOf224
 v51:=Tryz.zeroValue224
 t53:=Tryz.underlying50
 a53:=Tryz.isAgg50
 z53:=Tryz.sizeOf50
 v53:=Tryz.zeroValue50
 t75:=Tryz.underlying158
 a75:=Tryz.isAgg158
 z75:=Tryz.sizeOf158
 v75:=Tryz.zeroValue158
 t76:=Tryz.underlying159
 a76:=Tryz.isAgg159
 z76:=Tryz.sizeOf159
 v76:=Tryz.zeroValue159
 t85:=Tryz.underlying231
 a85:=Tryz.isAgg231
 z85:=Tryz.sizeOf231
 v85:=Tryz.zeroValue231
 t127:=Tryz.underlying302
 a127:=Tryz.isAgg302
 z127:=Tryz.sizeOf302
 v127:=Tryz.zeroValue302
 t143:=Tryz.underlying303
 a143:=Tryz.isAgg303
 z143:=Tryz.sizeOf303
 v143:=Tryz.zeroValue303
 t145:=Tryz.underlying305
 a145:=Tryz.isAgg305
 z145:=Tryz.sizeOf305
 v145:=Tryz.zeroValue305
 t167:=Tryz.underlying230
 a167:=Tryz.isAgg230
 z167:=Tryz.sizeOf230
 v167:=Tryz.zeroValue230
 t168:=Tryz.underlying233
 a168:=Tryz.isAgg233
 z168:=Tryz.sizeOf233
 v168:=Tryz.zeroValue233
 t171:=Tryz.underlying214
 a171:=Tryz.isAgg214
 z171:=Tryz.sizeOf214
 v171:=Tryz.zeroValue214
 t173:=Tryz.underlying217
 a173:=Tryz.isAgg217
 z173:=Tryz.sizeOf217
 v173:=Tryz.zeroValue217
 t175:=Tryz.underlying221
 a175:=Tryz.isAgg221
 z175:=Tryz.sizeOf221
 v175:=Tryz.zeroValue221
 t210:=Tryz.underlying274
 a210:=Tryz.isAgg274
 z210:=Tryz.sizeOf274
 v210:=Tryz.zeroValue274
 t212:=Tryz.underlying262
 a212:=Tryz.isAgg262
 z212:=Tryz.sizeOf262
 v212:=Tryz.zeroValue262
 t213:=Tryz.underlying263
 a213:=Tryz.isAgg263
 z213:=Tryz.sizeOf263
 t232:=Tryz.underlying317
 a232:=Tryz.isAgg317
 z232:=Tryz.sizeOf317
 v232:=Tryz.zeroValue317
 t233:=Tryz.underlying318
 a233:=Tryz.isAgg318
 z233:=Tryz.sizeOf318
 v233:=Tryz.zeroValue318
 g15:=by kernel_rfl
 g16:=by kernel_rfl
 g17:=by kernel_rfl
 g18:=by kernel_rfl
 g19:=by kernel_rfl
 t80:=Tryz.underlying331
 a80:=Tryz.isAgg331
 z80:=Tryz.sizeOf331
 v80:=Tryz.zeroValue331
 i0:=by kernel_rfl
 i2:=by kernel_rfl
 i3:=by kernel_rfl
 i4:=by kernel_rfl
 i5:=by kernel_rfl
 i9:=by kernel_rfl
 i20:=by kernel_rfl
 i21:=by kernel_rfl
 i37:=by kernel_rfl
 i46:=by kernel_rfl
 i51:=by kernel_rfl
 i53:=by kernel_rfl
 i75:=by kernel_rfl
 i76:=by kernel_rfl
 i80:=by kernel_rfl
 i85:=by kernel_rfl
 i127:=by kernel_rfl
 i143:=by kernel_rfl
 i145:=by kernel_rfl
 i167:=by kernel_rfl
 i168:=by kernel_rfl
 i171:=by kernel_rfl
 i173:=by kernel_rfl
 i175:=by kernel_rfl
 i210:=by kernel_rfl
 i212:=by kernel_rfl
 i232:=by kernel_rfl
 i233:=by kernel_rfl
 m15:=by kernel_rfl
 m16:=by kernel_rfl
 m17:=by kernel_rfl
 m18:=by kernel_rfl
 m19:=by kernel_rfl
 c0:=by kernel_rfl
 c2:=by kernel_rfl
 c3:=by kernel_rfl
 c4:=by kernel_rfl
 c5:=by kernel_rfl
 c9:=by kernel_rfl
 c20:=by kernel_rfl
 c21:=by kernel_rfl
 c37:=by kernel_rfl
 c46:=by kernel_rfl
 c51:=by kernel_rfl
 c53:=by kernel_rfl
 c75:=by kernel_rfl
 c76:=by kernel_rfl
 c80:=by kernel_rfl
 c85:=by kernel_rfl
 c127:=by kernel_rfl
 c143:=by kernel_rfl
 c145:=by kernel_rfl
 c167:=by kernel_rfl
 c168:=by kernel_rfl
 c171:=by kernel_rfl
 c173:=by kernel_rfl
 c175:=by kernel_rfl
 c210:=by kernel_rfl
 c212:=by kernel_rfl
 c213:=by kernel_rfl
 c232:=by kernel_rfl
 c233:=by kernel_rfl }
open Go.RowKit in
theorem Tryz.strconv_Atoi_ok (s:ByteArray) (hmax:s.size<=9223372036854775806) (v:Int) (h:Lib.atoiAll s.data.toList=.ok v) (w:World):
  Calls Tryz.prog 79 #[.string s] w λe w'=>e=.returned (.tuple #[.int .i64 v,.nilIface])/\(w'=w\/∃ t,w'=Lib.bytesWorld w 5 t):=Any.strconv_Atoi_ok Tryz.Ce s hmax v h w
open Go.RowKit in
theorem Tryz.strconv_Atoi_syntax_var (s:ByteArray) (hlim:s.size<=281474976710656) (h:Lib.atoiAll s.data.toList=.syntax) (tp:TypeId) (p:Value) (w:World) (hvar:w.var? Tryz.prog "strconv.ErrSyntax" = some #[.iface tp p]):
  Calls Tryz.prog 79 #[.string s] w λe w'=>∃ N,e=.returned (.tuple #[.int .i64 0,.iface 233 (.pointer (some ⟨N,0,none⟩))])/\w.heap.size<=N/\w'.heap[N]? = some (.cells #[.string ⟨#[65,116,111,105]⟩,.string s,.iface tp p] 274 (0,0))/\Below w.heap.size w w':=Any.strconv_Atoi_syntax_var Tryz.Ce s hlim h tp p w hvar
open Go.RowKit in
theorem Tryz.strconv_Atoi_range_var (s:ByteArray) (hlim:s.size<=281474976710656) (h:Lib.atoiAll s.data.toList=.range) (tp:TypeId) (p:Value) (w:World) (hvar:w.var? Tryz.prog "strconv.ErrRange" = some #[.iface tp p]):
  Calls Tryz.prog 79 #[.string s] w λe w'=>∃ N,e=.returned (.tuple #[.int .i64 (Lib.atoiSat s.data.toList),.iface 233 (.pointer (some ⟨N,0,none⟩))])/\w.heap.size<=N/\w'.heap[N]? = some (.cells #[.string ⟨#[65,116,111,105]⟩,.string s,.iface tp p] 274 (0,0))/\Below w.heap.size w w':=Any.strconv_Atoi_range_var Tryz.Ce s hlim h tp p w hvar
open Go.RowKit in
theorem Tryz.internal_strconv_ParseUint_10_b32 (t:ByteArray) (hne:t.size≠0) (hmax:t.size<=9223372036854775806) (w:World):
  Calls Tryz.prog 180 #[.string t,.int .i64 10,.int .i64 32] w λe w'=>e=.returned (Lib.uintTupleM 230 4294967295 (Lib.parseUintM 4294967295 0 t.data.toList))/\w'=Lib.bytesWorld w 5 t:=Any.internal_strconv_ParseUint_10_b32 Tryz.Me t hne hmax w
end Go.Proofs
namespace Go.Sim
open Go Go.Proofs.Tryz
open _root_.Go.IntKind (i64 u64 u32 u8)
set_option maxRecDepth 100000
set_option maxHeartbeats 4000000
instance:we a_:=⟨λx=>[.string (x.Name),.string (x.A),.string (x.B_),.bool (x.wZ),.bool (x.Open)],λh=>h⟩
instance:we aR:=⟨λx=>[.string (x.Name),.string (x.pO),.string (x.To),.int .i64 (x.X),.int .i64 (x.CW),.int .i64 (x.Shift),.int .i64 (x.tY),.int .i64 (x.xV),.int .i64 (x.DE)],λh=>h⟩
instance:we bK:=⟨λx=>[.string (x.Name),.string (x.Node),.int .i64 (x.iX),.int .i64 (x.q9),.int .i64 (x.C1)],λh=>h⟩
instance:we aH:=⟨λx=>[.string (x.Name),.string (x.Node),.int .i64 (x.dA)],λh=>h⟩
instance:we cL:=⟨λx=>[.string (x.Name),.string (x.Node),.int .i64 (x.sK),.int .i64 (x.Discharge),.int .i64 (x.u6)],λh=>h⟩
instance:we aV:=⟨λx=>[.string (x.iB),.string (x.Name),.int .i64 (x.N)],λh=>h⟩
instance:we bO:=⟨λx=>[.int .i64 (x.Kind),.string (x.Name),.int .i64 (x.A),.int .i64 (x.B_)],λh=>h⟩
instance:we b_:=⟨λx=>[.int .i64 (x.a0),.int .i64 (x.a1)],λh=>h⟩
instance:we bN:=⟨λx=>[.int .i64 (x.iX),.int .i64 (x.q9),.int .i64 (x.dA)],λh=>h⟩
instance:we aE:=⟨λx=>[.int .i64 (x.Time),.string (x.Kind),.string (x.Name),.int .i64 (x.Value)],λh=>h⟩
instance:we aM:=⟨λx=>[.string (x.Name),.bool (x.yZ)],λh=>h⟩
instance:we bB:=⟨λx=>[.string (x.verb),.bool (x.name),.bool (x.n),.int .i64 (x.fG),.int .i64 (x.dK)],λh=>h⟩
instance:we lv:=⟨λx=>[.string (x.a0.verb),.bool (x.a0.name),.bool (x.a0.n),.int .i64 (x.a0.fG),.int .i64 (x.a0.dK),.string (x.a1.verb),.bool (x.a1.name),.bool (x.a1.n),.int .i64 (x.a1.fG),.int .i64 (x.a1.dK),.string (x.a2.verb),.bool (x.a2.name),.bool (x.a2.n),.int .i64 (x.a2.fG),.int .i64 (x.a2.dK),.string (x.a3.verb),.bool (x.a3.name),.bool (x.a3.n),.int .i64 (x.a3.fG),.int .i64 (x.a3.dK),.string (x.a4.verb),.bool (x.a4.name),.bool (x.a4.n),.int .i64 (x.a4.fG),.int .i64 (x.a4.dK),.string (x.a5.verb),.bool (x.a5.name),.bool (x.a5.n),.int .i64 (x.a5.fG),.int .i64 (x.a5.dK),.string (x.a6.verb),.bool (x.a6.name),.bool (x.a6.n),.int .i64 (x.a6.fG),.int .i64 (x.a6.dK),.string (x.a7.verb),.bool (x.a7.name),.bool (x.a7.n),.int .i64 (x.a7.fG),.int .i64 (x.a7.dK)],λh=>h⟩
structure dX where
 v0:Q2
 v1:Q2
 v2:Q2
 v3:Q2
 v4:Q2
 v5:Q2
 v6:Q2
 v7:Q2
 tn:List Q2
 v8:Q2
 v9:Q2
 v10:Q2
 yX:List Q2
 v11:Q2
 tP:List Q2
 v12:Q2
 CU:List Q2
 Pk:Q2
 Pl:Q2
 OK:Q2
 AN:List Q2
 Pm:Q2
def aU (b I J:Nat):dX->aP->List bQ
 | ⟨v0,v1,v2,v3,v4,v5,v6,v7,tn,v8,v9,v10,yX,v11,tP,v12,CU,Pk,Pl,OK,AN,Pm⟩,x=>[.obj b (.cells [v0,v1,v2,v3,v4,v5,v6,v7,v8,.pointer (some ⟨I,0,none⟩),Pk,Pl,.int .i64 (x.time),.pointer (some ⟨J,0,none⟩),Pm].toArray 70 (0,0)),.row v7 9 (aG.sz Q1) x.on.length tn,.obj I (.cells [v9,v10,v11,v12,.int .i64 (x.watch.time)].toArray 131 (0,0)),.row v10 148 (aG.sz aA) x.watch.mh.length yX,.row v11 3 (aG.sz Int) x.watch.sF.length tP,.row v12 4 (aG.sz Bool) x.watch.over.length CU,.obj J (.cells [OK].toArray 125 (0,0)),.row OK 46 (aG.sz aE) x.log.jL.length AN]
def cN (H:Hp):dX->aP->Prop
 | ⟨v0,v1,v2,v3,v4,v5,v6,v7,tn,v8,v9,v10,yX,v11,tP,v12,CU,Pk,Pl,OK,AN,Pm⟩,x=>aO H v0 x.cH.bH/\aO H v1 x.cH.aN/\aO H v2 x.cH.aK/\aO H v3 x.cH.dS/\aO H v4 x.cH.bF/\aO H v5 x.cH.bY/\aO H v6 x.rules/\Rw H v7 tn x.on/\aO H v8 x.held/\aO H v9 x.watch.kV/\Rw H v10 yX x.watch.mh/\Rw H v11 tP x.watch.sF/\Rw H v12 CU x.watch.over/\aO H Pk x.state.fU/\aO H Pl x.state.iP/\Rw H OK AN x.log.jL/\aO H Pm x.over
theorem cN.mono {H H2:Hp}{g:dX}{x:aP} (h:cN H g x) (I:H.le H2):cN H2 g x:=by
 obtain ⟨v0,v1,v2,v3,v4,v5,v6,v7,tn,v8,v9,v10,yX,v11,tP,v12,CU,Pk,Pl,OK,AN,Pm⟩:=g;obtain ⟨z0,z1,z2,z3,z4,z5,z6,z7,z8,z9,J,O,Y,Z,z14,z15,z16⟩:=h;exact ⟨z0.mono I,z1.mono I,z2.mono I,z3.mono I,z4.mono I,z5.mono I,z6.mono I,z7.mono I,z8.mono I,z9.mono I,J.mono I,O.mono I,Y.mono I,Z.mono I,z14.mono I,z15.mono I,z16.mono I⟩
theorem cN.mm {H I:Hp}{g:dX}{x:aP} (h:cN H g x) (e:H.le I:=by exact lE):cN I g x:=h.mono e
theorem fm:Proofs.Tryz.prog.follows .mixedOrders=true:=by kernel_rfl
theorem G8.mixed:Proofs.Tryz.prog.follows .mixedOrders=true:=fm
class wg (B:Nat) (w0:World):Prop where
 lt:8<=B
 t0:Lib.TabIs Proofs.Tryz.prog w0 "internal/strconv.uint64pow10" .u64 O3
 e2:∃ T p,w0.var? Proofs.Tryz.prog "strconv.ErrSyntax" = some #[.iface T p]
 e3:∃ T p,w0.var? Proofs.Tryz.prog "strconv.ErrRange" = some #[.iface T p]
 t6:Lib.TabIs Proofs.Tryz.prog w0 "math/bits.deBruijn32tab" .u8 P3
 t7:Lib.TabIs Proofs.Tryz.prog w0 "math/bits.deBruijn64tab" .u8 P4
theorem wg.below {B:Nat}{w0:World}[h:wg B w0] {g:Nat} (I:Nat.blt g 8=true):g<B:=by
 have:=h.lt;have:g<8:=by simpa [Sh] using I
 omega
theorem P2:Proofs.Tryz.prog.globalNamed "internal/strconv.uint64pow10" = some 0:=by kernel_rfl
theorem Qk:Proofs.Tryz.prog.globalNamed "strconv.ErrSyntax" = some 2:=by kernel_rfl
theorem Ql:Proofs.Tryz.prog.globalNamed "strconv.ErrRange" = some 3:=by kernel_rfl
theorem Qs:Proofs.Tryz.prog.globalNamed "math/bits.deBruijn32tab" = some 6:=by kernel_rfl
theorem Qm:Proofs.Tryz.prog.globalNamed "math/bits.deBruijn64tab" = some 7:=by kernel_rfl
abbrev G4 (d:Bool) (a:Hp) (c:List bQ):Hp->List bQ->Q2->Prop:=λf g h=>a=f/\c=g/\.bool (d)=h
abbrev Qe {I:Type} (a:List U8) (c:Nat->List U8->Unit->Option I) (d:I) (e:Hp) (l:Nat):Env->List bQ->Nat->Hp->List bQ->Env->Prop:=λf g h i j k=>∃ b0:Nat,∃ b1:List U8,(a).drop b0=b1/\b1.length=h/\c b0 b1 ()=some d/\e.le i/\g=j/\(l,.int .i64 (b0:Int))::f=k
abbrev wc (a:Hp) (c:Nat) (d:Bool):Env->List bQ->Hp->List bQ->Env->Prop:=λf g h i j=>a=h/\g=i/\(c,.bool (d))::f=j
abbrev yQ (d:Int) (a:Hp) (c:List bQ):Hp->List bQ->Q2->Prop:=λf g h=>a=f/\c=g/\.int .i64 (d)=h
abbrev FW {I:Type} (a:Nat) (c:Nat->Nat->Unit->Option I) (d:I) (e:Hp) (l:Nat):Env->List bQ->Nat->Hp->List bQ->Env->Prop:=λf g h i j k=>∃ b0 b1:Nat,b0+b1=a/\b1=h/\c b1 b0 ()=some d/\e.le i/\g=j/\(l,.int .i64 (b0:Int))::f=k
abbrev Qf {I:Type} (a:List Q1) (c:Nat->List Q1->Unit->Option I) (d:I) (e:Hp) (l:Nat):Env->List bQ->Nat->Hp->List bQ->Env->Prop:=λf g h i j k=>∃ b0:Nat,∃ b1:List Q1,(a).drop b0=b1/\b1.length=h/\c b0 b1 ()=some d/\e.le i/\g=j/\(l,.int .i64 (b0:Int))::f=k
abbrev PC {α:Type}[aG α] (d:List α) (a:Hp) (c:List bQ):Hp->List bQ->Q2->Prop:=λf g h=>a=f/\∃ b0:Q2,∃ b1:List Q2,.row b0 9 (aG.sz Q1) d.length b1::c=g/\b0=h/\uq b0 b1 d
abbrev PN (d:Nat) (e:Q1) (l:Bool) (a:Hp) (c:List bQ):Hp->List bQ->Q2->Prop:=λf g h=>a=f/\.obj d (.cells ([.string (e)]:List Q2).toArray 9 (0,0))::c=g/\.bool (l)=h
abbrev Qg (d:Nat) (e:Q1) (l:Int) (a:Hp) (c:List bQ):Hp->List bQ->Q2->Prop:=λf g h=>a=f/\.obj d (.cells ([.string (e)]:List Q2).toArray 9 (0,0))::c=g/\.int .i64 (l)=h
abbrev Ou (d:aF) (a:Hp) (c:List bQ):Hp->List bQ->Q2->Prop:=λf g h=>a=f/\∃ b0:Q2,∃ b1:List Q2,∃ O:Q2,∃ b3:List Q2,∃ Y:Q2,∃ b5:List Q2,∃ Z:Q2,∃ b7:List Q2,∃ b8:Q2,∃ b9:List Q2,∃ I:Q2,∃ J:List Q2,.row b0 9 (aG.sz Q1) d.bH.length b1::.row O 111 (aG.sz a_) d.aN.length b3::.row Y 114 (aG.sz aR) d.aK.length b5::.row Z 117 (aG.sz bK) d.dS.length b7::.row b8 120 (aG.sz aH) d.bF.length b9::.row I 123 (aG.sz cL) d.bY.length J::c=g/\.agg [b0,O,Y,Z,b8,I].toArray=h/\uq b0 b1 d.bH/\uq O b3 d.aN/\uq Y b5 d.aK/\uq Z b7 d.dS/\uq b8 b9 d.bF/\uq I J d.bY
abbrev Na {α:Type}[aG α] (a:List α):Hp->List bQ->Q2->Prop:=λf g h=>∃ b0:Q2,∃ b1:List Q2,[.row b0 9 (aG.sz Q1) a.length b1]=g/\b0=h/\Rw f b0 b1 a
abbrev Nc (d:Nat) (e:Q2) (l:Bool) (a:Hp) (c:List bQ):Hp->List bQ->Q2->Prop:=λf g h=>a=f/\.obj d (.cells ([e]:List Q2).toArray 22 (0,0))::c=g/\.bool (l)=h
abbrev Nd (d:Nat) (e:Q2) (l:Int) (a:Hp) (c:List bQ):Hp->List bQ->Q2->Prop:=λf g h=>a=f/\.obj d (.cells ([e]:List Q2).toArray 22 (0,0))::c=g/\.int .i64 (l)=h
abbrev Ov {α:Type}[aG α] (d:List α) (a:Hp) (c:List bQ):Hp->List bQ->Q2->Prop:=λf g h=>a=f/\∃ b0:Q2,∃ b1:List Q2,.row b0 3 (aG.sz Int) d.length b1::c=g/\b0=h/\uq b0 b1 d
abbrev G5 (a:Int):Hp->List bQ->Q2->Prop:=λf g h=>[]=g/\.int .i64 (a)=h
abbrev Lw {α:Type}[aG α] (d:List α) (e:Int) (a:Hp) (c:List bQ):Hp->List bQ->Q2->Prop:=λf g h=>a=f/\∃ b0:Q2,∃ b1:List Q2,.row b0 3 (aG.sz Int) d.length b1::c=g/\.tuple #[b0,.int .i64 (e)]=h/\uq b0 b1 d
abbrev Nf {α:Type}[aG α] (a:List α):Hp->List bQ->Q2->Prop:=λf g h=>∃ b0:Q2,∃ b1:List Q2,[.row b0 3 (aG.sz Int) a.length b1]=g/\b0=h/\Rw f b0 b1 a
abbrev FU (d:aD) (a:Hp) (c:List bQ):Hp->List bQ->Q2->Prop:=λf g h=>a.le f/\∃ b0:Q2,c=g/\.agg [.bool (d.minus),b0].toArray=h/\aO f b0 d.words
abbrev Ng {I:Type} (a:Nat->Int->Option I) (c:I) (d:Hp) (e:Nat):Env->List bQ->Nat->Hp->List bQ->Env->Prop:=λf g h i j k=>∃ b0:Int,a h b0=some c/\d.le i/\g=j/\(e,.int .i64 (b0))::f=k
abbrev Nh {α:Type}[aG α] (d:List α) (a:Hp) (c:List bQ):Hp->List bQ->Q2->Prop:=λf g h=>a=f/\∃ b0:Q2,∃ b1:List Q2,.row b0 224 (aG.sz bT) d.length b1::c=g/\b0=h/\uq b0 b1 d
abbrev Pn {Y:Type} (a:List bT) (c:Nat->List bT->((List bT)×Int)->Option Y) (d:Y) (e:Q2) (l:Hp) (m:Nat) (n:Nat):Env->List bQ->Nat->Hp->List bQ->Env->Prop:=λf g h i j k=>∃ b0:Nat,∃ b1 I:List bT,∃ J:Int,∃ O:List Q2,(a).drop b0=b1/\b1.length=h/\c b0 b1 (I,J)=some d/\Rw i e O I/\l.le i/\.row e 224 (aG.sz bT) I.length O::g=j/\(m,.int .u64 (J))::(n,.int .i64 (b0:Int))::f=k
abbrev Da {α:Type}[aG α] (a:List α):Hp->List bQ->Q2->Prop:=λf g h=>∃ b0:Q2,∃ b1:List Q2,[.row b0 224 (aG.sz bT) a.length b1]=g/\b0=h/\Rw f b0 b1 a
abbrev Po {Y:Type} (a:Nat) (c:Nat->Nat->((List bT)×Int)->Option Y) (d:Y) (e:Q2) (l:Hp) (m:Nat) (n:Nat):Env->List bQ->Nat->Hp->List bQ->Env->Prop:=λf g h i j k=>∃ b0 b1:Nat,∃ I:List bT,∃ J:Int,∃ O:List Q2,b0+b1=a/\b1=h/\c b1 b0 (I,J)=some d/\Rw i e O I/\l.le i/\.row e 224 (aG.sz bT) I.length O::g=j/\(m,.int .u64 (J))::(n,.int .i64 (b0:Int))::f=k
abbrev Ow {α:Type}[aG α] (a:aD) (c:List α):Hp->List bQ->Q2->Prop:=λf g h=>∃ b0:Q2,∃ b1:List Q2,∃ I:Q2,[]=g/\.agg [.bool (a.minus),I].toArray=h/\Rw f b0 b1 c/\aO f b0 c/\aO f I a.words
abbrev Lx {I:Type} (a:Int->Option I) (c:I) (d:Hp) (e:Nat):Env->List bQ->Hp->List bQ->Env->Prop:=λf g h i j=>∃ b0:Int,a b0=some c/\d=h/\g=i/\(e,.int .i64 (b0))::f=j
abbrev AO (a:aD):Hp->List bQ->Q2->Prop:=λf g h=>∃ b0:Q2,[]=g/\.agg [.bool (a.minus),b0].toArray=h/\aO f b0 a.words
abbrev Pp:Hp->List bQ->Q2->Prop:=λf g h=>∃ b0:Nat,[.obj b0 (.cells ([.bool (false),.slice none 0 0]:List Q2).toArray 146 (0,0))]=g/\.pointer (some ⟨b0,0,none⟩)=h
abbrev Pq {Z:Type} (a:Bool->(List bT)->Bool->(List bT)->Option Z) (c:Z) (d:Hp) (e:Nat) (l:Nat):Env->List bQ->Hp->List bQ->Env->Prop:=λf g h i j=>∃ b0:Bool,∃ b1:(List bT),∃ I:Bool,∃ J:(List bT),∃ O Y:Q2,a b0 b1 I J=some c/\aO h O b1/\aO h Y J/\d.le h/\.obj e (.cells ([.bool (b0),O]:List Q2).toArray 146 (0,0))::.obj l (.cells ([.bool (I),Y]:List Q2).toArray 146 (0,0))::g=i/\f=j
abbrev CV (d:aA) (a:Hp) (c:List bQ):Hp->List bQ->Q2->Prop:=λf g h=>a.le f/\∃ b0 b1:Q2,c=g/\.agg [.bool (d.N.minus),b0,.bool (d.D.minus),b1].toArray=h/\aO f b0 d.N.words/\aO f b1 d.D.words
abbrev tf (a:aA):Hp->List bQ->Q2->Prop:=λf g h=>∃ b0 b1:Q2,[]=g/\.agg [.bool (a.N.minus),b0,.bool (a.D.minus),b1].toArray=h/\aO f b0 a.N.words/\aO f b1 a.D.words
abbrev Ox {α:Type}[aG α] (a:List α):Hp->List bQ->Q2->Prop:=λf g h=>∃ b0:Q2,∃ b1:List Q2,[.row b0 148 (aG.sz aA) a.length b1]=g/\b0=h/\Rw f b0 b1 a
abbrev Ni {α:Type}[aG α] (d:List α) (e:Nat) (l:Q2) (m:Q2) (n:Q2) (o:Q2) (p:Q2) (q:Q2) (r:Q2) (s:Q2) (a:Hp) (c:List bQ):Hp->List bQ->Q2->Prop:=λf g h=>a.le f/\∃ b0:Q2,∃ b1:List Q2,.row b0 148 (aG.sz aA) d.length b1::.obj e (.cells ([l,m,n,o,p,q,r,s]:List Q2).toArray 254 (0,0))::c=g/\b0=h/\Rw f b0 b1 d
abbrev Pr {O:Type} (a:List Int) (c:Nat->List Int->List aA->Option O) (d:O) (e:Q2) (l:Hp) (m:Nat):Env->List bQ->Nat->Hp->List bQ->Env->Prop:=λf g h i j k=>∃ b0:Nat,∃ b1:List Int,∃ I:List aA,∃ J:List Q2,(a).drop b0=b1/\b1.length=h/\c b0 b1 I=some d/\Rw i e J I/\l.le i/\.row e 148 (aG.sz aA) I.length J::g=j/\(m,.int .i64 (b0:Int))::f=k
abbrev FV (d:Q1) (a:Hp) (c:List bQ):Hp->List bQ->Q2->Prop:=λf g h=>a=f/\c=g/\.string (d)=h
abbrev Nj (a:Nat):Hp->List bQ->Q2->Prop:=λf g h=>[]=g/\.pointer (some ⟨a,0,none⟩)=h
abbrev Ps {Y:Type} (a:List aR) (c:Nat->List aR->List Q1->Option Y) (d:Y) (e:Hp) (l:Nat) (m:Nat):Env->List bQ->Nat->Hp->List bQ->Env->Prop:=λf g h i j k=>∃ b0:Nat,∃ b1:List aR,∃ I:List Q1,∃ J:Q2,∃ O:List Q2,(a).drop b0=b1/\b1.length=h/\c b0 b1 I=some d/\Rw i J O I/\e.le i/\.row J 9 (aG.sz Q1) I.length O::g=j/\(l,J)::(m,.int .i64 (b0:Int))::f=k
abbrev Pt {J:Type} (a:List Q1->Option J) (c:J) (d:Hp) (e:Nat):Env->List bQ->Hp->List bQ->Env->Prop:=λf g h i j=>∃ b0:List Q1,∃ b1:Q2,∃ I:List Q2,a b0=some c/\Rw h b1 I b0/\d.le h/\.row b1 9 (aG.sz Q1) b0.length I::g=i/\(e,b1)::f=j
abbrev Pu {α:Type}[aG α] (d:cI) (e:List α) (l:Int) (a:Hp) (c:List bQ):Hp->List bQ->Q2->Prop:=λf g h=>a=f/\∃ b0:Q2,∃ b1:List Q2,∃ I:Q2,∃ O:List Q2,∃ J:Q2,∃ Y:List Q2,.row b0 82 (aG.sz Q1) d.fU.length b1::.row I 82 (aG.sz Q1) d.iP.length O::.row J 9 (aG.sz Q1) e.length Y::c=g/\.tuple #[.agg [b0,I].toArray,J,.int .i64 (l)]=h/\uq b0 b1 d.fU/\uq I O d.iP/\uq J Y e
abbrev Ly (a:cI):Hp->List bQ->Q2->Prop:=λf g h=>∃ b0 b1:Q2,∃ I J:List Q2,[]=g/\.agg [b0,b1].toArray=h/\Rw f b0 I a.fU/\Rw f b1 J a.iP/\aO f b0 a.fU/\aO f b1 a.iP
abbrev Pv {α:Type}[aG α] {O:Type}[aG O] (a:List α) (c:List O):Hp->List bQ->Q2->Prop:=λf g h=>∃ b0:Q2,∃ b1:List Q2,∃ I:Q2,∃ J:List Q2,[.row b0 9 (aG.sz Q1) a.length b1,.row I 9 (aG.sz Q1) c.length J]=g/\I=h/\Rw f b0 b1 a/\Rw f I J c
abbrev Pw:Hp->List bQ->Q2->Prop:=λf g h=>∃ b0:Nat,[.obj b0 (.cells ([.slice none 0 0,.slice none 0 0]:List Q2).toArray 68 (0,0))]=g/\.pointer (some ⟨b0,0,none⟩)=h
abbrev Px (a:cI):Hp->List bQ->Q2->Prop:=λf g h=>∃ b0 b1:Q2,∃ I:Nat,∃ J O:List Q2,[.obj I (.cells ([b0,b1]:List Q2).toArray 68 (0,0))]=g/\.pointer (some ⟨I,0,none⟩)=h/\Rw f b0 J a.fU/\Rw f b1 O a.iP/\aO f b0 a.fU/\aO f b1 a.iP
abbrev Oy (a:aF):Hp->List bQ->Q2->Prop:=λf g h=>∃ b0:Q2,∃ b1:List Q2,∃ O:Q2,∃ b3:List Q2,∃ Y:Q2,∃ b5:List Q2,∃ Z:Q2,∃ b7:List Q2,∃ b8:Q2,∃ b9:List Q2,∃ I:Q2,∃ J:List Q2,[.row b0 9 (aG.sz Q1) a.bH.length b1,.row O 111 (aG.sz a_) a.aN.length b3,.row Y 114 (aG.sz aR) a.aK.length b5,.row Z 117 (aG.sz bK) a.dS.length b7,.row b8 120 (aG.sz aH) a.bF.length b9,.row I 123 (aG.sz cL) a.bY.length J]=g/\.agg [b0,O,Y,Z,b8,I].toArray=h/\Rw f b0 b1 a.bH/\Rw f O b3 a.aN/\Rw f Y b5 a.aK/\Rw f Z b7 a.dS/\Rw f b8 b9 a.bF/\Rw f I J a.bY
abbrev Oz {α:Type}[aG α] {Y:Type}[aG Y] (a:Q2) (c:List α) (d:List Q2) (e:List Y) (l:Int) (m:cI):Hp->List bQ->Q2->Prop:=λf g h=>∃ b0:Q2,∃ b1:List Q2,∃ I:Q2,∃ Z:List Q2,∃ J:Q2,∃ O:List Q2,[.row a 9 (aG.sz Q1) c.length d,.row J 9 (aG.sz Q1) e.length O]=g/\.tuple #[.agg [b0,I].toArray,J,.int .i64 (l)]=h/\Rw f b0 b1 m.fU/\Rw f I Z m.iP/\Rw f J O e/\aO f b0 m.fU/\aO f I m.iP
abbrev OA {α:Type}[aG α] {O:Type}[aG O] (a:Q2) (c:List α) (d:List Q2) (e:List O) (l:Int) (m:cI):Hp->List bQ->Q2->Prop:=λf g h=>∃ b0 b1 I:Q2,∃ J Y Z:List Q2,[.row a 9 (aG.sz Q1) c.length d,.row I 9 (aG.sz Q1) e.length J]=g/\.tuple #[.agg [b0,b1].toArray,I,.int .i64 (l)]=h/\Rw f b0 Y m.fU/\Rw f b1 Z m.iP/\Rw f I J e/\aO f b0 m.fU/\aO f b1 m.iP
abbrev OB {α:Type}[aG α] {I:Type}[aG I] (a:Q2) (c:List α) (d:List Q2) (e:List I):Hp->List bQ->Q2->Prop:=λf g h=>∃ b0:Q2,∃ b1:List Q2,[.row a 9 (aG.sz Q1) c.length d,.row b0 9 (aG.sz Q1) e.length b1]=g/\b0=h/\Rw f b0 b1 e
abbrev OC (d:Nat) (e:aE) (l:Bool) (a:Hp) (c:List bQ):Hp->List bQ->Q2->Prop:=λf g h=>a=f/\.obj d (.cells ([.int .i64 (e.Time),.string (e.Kind),.string (e.Name),.int .i64 (e.Value)]:List Q2).toArray 46 (0,0))::c=g/\.bool (l)=h
abbrev OD (d:Nat) (e:aE) (l:Int) (a:Hp) (c:List bQ):Hp->List bQ->Q2->Prop:=λf g h=>a=f/\.obj d (.cells ([.int .i64 (e.Time),.string (e.Kind),.string (e.Name),.int .i64 (e.Value)]:List Q2).toArray 46 (0,0))::c=g/\.int .i64 (l)=h
abbrev Py (d:Nat) (e:Nat) (l:Nat) (m:dX) (n:aP) (o:Nat) (p:cS) (q:Int) (a:Hp) (c:List bQ):Hp->List bQ->Q2->Prop:=λf g h=>a.le f/\∃ b0 b1:Q2,∃ Z:List Q2,∃ b3 J:Q2,∃ b5:List Q2,∃ O:Q2,∃ b7:List Q2,∃ b8 Y:Q2,∃ I:List Q2,jT (aU d e l m n)::.obj o (.cells ([b0,b1,b3,J,O,b8,Y]:List Q2).toArray 92 (0,0))::.row b1 111 (aG.sz a_) p.n.aN.length Z::.row J 117 (aG.sz bK) p.n.dS.length b5::.row O 120 (aG.sz aH) p.n.bF.length b7::.row Y 9 (aG.sz Q1) p.on.length I::c=g/\.int .i64 (q)=h/\aO f b0 p.n.bH/\Rw f b1 Z p.n.aN/\aO f b3 p.n.aK/\Rw f J b5 p.n.dS/\Rw f O b7 p.n.bF/\aO f b8 p.n.bY/\Rw f Y I p.on
abbrev Pz {α:Type}[aG α] (a:List α):Hp->List bQ->Q2->Prop:=λf g h=>∃ b0:Q2,∃ b1:List Q2,[.row b0 46 (aG.sz aE) a.length b1]=g/\b0=h/\Rw f b0 b1 a
abbrev OE {α:Type}[aG α] (d:List α) (e:Nat) (l:Q2) (a:Hp) (c:List bQ):Hp->List bQ->Q2->Prop:=λf g h=>a=f/\∃ b0:Q2,∃ b1:List Q2,.row b0 9 (aG.sz Q1) d.length b1::.obj e (.cells ([l]:List Q2).toArray 22 (0,0))::c=g/\b0=h/\uq b0 b1 d
abbrev Nk {O:Type} (a:Nat->((List Q1)×Int×Int)->Option O) (c:O) (d:Q2) (e:Hp) (l:Nat) (m:Nat):Env->List bQ->Nat->Hp->List bQ->Env->Prop:=λf g h i j k=>∃ b0:List Q1,∃ b1 I:Int,∃ J:List Q2,a h (b0,b1,I)=some c/\Rw i d J b0/\e.le i/\.row d 9 (aG.sz Q1) b0.length J::g=j/\(l,.int .i64 (b1))::(m,.int .i64 (I))::f=k
abbrev Nl {J:Type} (a:List Q1->Int->Option J) (c:J) (d:Q2) (e:Hp) (l:Nat):Env->List bQ->Hp->List bQ->Env->Prop:=λf g h i j=>∃ b0:List Q1,∃ b1:Int,∃ I:List Q2,a b0 b1=some c/\Rw h d I b0/\e=h/\.row d 9 (aG.sz Q1) b0.length I::g=i/\(l,.int .i64 (b1))::f=j
abbrev Nn {α:Type}[aG α] (d:List α) (e:Nat) (l:Q2) (m:Nat) (n:Q2) (o:Q2) (p:Q2) (q:Q2) (r:Q2) (s:Q2) (t:Bool) (a:Hp) (c:List bQ):Hp->List bQ->Q2->Prop:=λf g h=>a=f/\∃ b0:Q2,∃ b1:List Q2,.row b0 9 (aG.sz Q1) d.length b1::.obj e (.cells ([l]:List Q2).toArray 22 (0,0))::.obj m (.cells ([n,o,p,q,r,s]:List Q2).toArray 29 (0,0))::c=g/\.tuple #[b0,.bool (t)]=h/\uq b0 b1 d
abbrev PA {Y:Type} (a:List Q1) (c:Nat->List Q1->List aE->Option Y) (d:Y) (e:Hp) (l:Nat) (m:Nat):Env->List bQ->Nat->Hp->List bQ->Env->Prop:=λf g h i j k=>∃ b0:Nat,∃ b1:List Q1,∃ I:List aE,∃ J:Q2,∃ O:List Q2,(a).drop b0=b1/\b1.length=h/\c b0 b1 I=some d/\Rw i J O I/\e.le i/\.row J 46 (aG.sz aE) I.length O::.obj l (.cells ([J]:List Q2).toArray 125 (0,0))::g=j/\(m,.int .i64 (b0:Int))::f=k
abbrev PB {α:Type}[aG α] (a:Q2) (c:cS) (d:List Q2) (e:Q2) (l:List Q2) (m:Q2) (n:List Q2) (o:Q2) (p:List Q2) (q:List α):Hp->List bQ->Q2->Prop:=λf g h=>∃ b0:Q2,∃ b1:List Q2,[.row a 111 (aG.sz a_) c.n.aN.length d,.row e 117 (aG.sz bK) c.n.dS.length l,.row m 120 (aG.sz aH) c.n.bF.length n,.row o 9 (aG.sz Q1) c.on.length p,.row b0 9 (aG.sz Q1) q.length b1]=g/\b0=h/\Rw f b0 b1 q
abbrev No (a:Hp) (c:Nat):Env->List bQ->Hp->List bQ->Env->Prop:=λf g h i j=>a=h/\g=i/\(c,.bool (true))::f=j
abbrev Cq (B:Nat) (w0:World) (n:FuncId) (a:List Q2) (H:Hp) (M:List bQ) (F:Hp->List bQ->Hp->List bQ->Q2->Prop):Prop:=∀ ⦃w⦄,St B w0 H M w->Calls Proofs.Tryz.prog n a.toArray w (uC B w0 (F H M))
theorem fF {n:FuncId}{I:Func}{c:Code}{vs:List Q2}{N B:Nat}{w0:World}{H:Hp}{M:List bQ}{F:Hp->List bQ->Hp->List bQ->Q2->Prop} (Y:Proofs.Tryz.prog.funcs[n]? = some I)
  (k:C ⟨Proofs.Tryz.prog,N,B,w0⟩ c (bodyPost Proofs.Tryz.prog I (uC B w0 (F H M))) H M (Dl 0 vs)) (O:I.body=some c:=by rfl) (hN:I.ntmps=N:=by rfl) (J:Nat.ble vs.length N=true:=by rfl):Cq B w0 n vs H M F:=λ_ ht=>enter Y O hN J ht k
variable {B:Nat}{w0 w:World}[wg B w0] {H:Hp}{M:List bQ}
theorem yg {a0:cM}{v0 v1 v2 v3 v4 v5 v6:Q2}{r:cM} (hm:nR a0=some r) (h0:aO H v0 a0.bX.bH) (h1:aO H v1 a0.bX.aN) (h2:aO H v2 a0.bX.aK) (h3:aO H v3 a0.bX.dS) (h4:aO H v4 a0.bX.bF) (h5:aO H v5 a0.bX.bY) (h6:aO H v6 a0.pG):
  Cq B w0 4 [.agg [v0,v1,v2,v3,v4,v5,v6].toArray] H M (λH M H' M' v=>H.le H'/\∃ J O Y Z qv4 qv5 qv6:Q2,M=M'/\.agg [J,O,Y,Z,qv4,qv5,qv6].toArray=v/\aO H' J r.bX.bH/\aO H' O r.bX.aN/\aO H' Y r.bX.aK/\aO H' Z r.bX.dS/\aO H' qv4 r.bX.bF/\aO H' qv5 r.bX.bY/\aO H' qv6 r.pG):=by
 unfold nR at hm;refine fF func4 ?_;refine gs ?_;refine bx (λa5=>?_);refine al (λa6=>?_);refine gs ?_;refine EU G G G G ?_;obtain ⟨a7,hm⟩:=aI hm;refine u9 (α:=aH) (l:=0) (h:=(min (a0.bX.bF.length:Int) 3:Int).toNat) (xs:=a0.bX.bF) G G UB sizeOf120 G h4 (by omega) (by omega) (.inl G) (λcap I=>by rw [Rb G]; exact (.inl ⟨G,G⟩)) (λm hmm=>(.inr ⟨_,_,_,G,G,by omega,by omega,G⟩)) (.inl ⟨G,G⟩) ?_
 intro a1 a2 a8;refine go ?_;refine wt 1 ?_;refine gs ?_;refine EU G G G G ?_;obtain ⟨a9,hm⟩:=aI hm;refine u9 (α:=bK) (l:=0) (h:=(min (a0.bX.dS.length:Int) 4:Int).toNat) (xs:=a0.bX.dS) G G VB sizeOf117 G h3 (by omega) (by omega) (.inl G) (λcap I=>by rw [Rb G]; exact (.inl ⟨G,G⟩)) (λm hmm=>(.inr ⟨_,_,_,G,G,by omega,by omega,G⟩)) (.inl ⟨G,G⟩) ?_
 intro a3 a4 aa;refine go ?_;refine wt 0 ?_;refine gs ?_;refine wt 1 ?_;refine go ?_;obtain rfl:=Q8 hm;exact kD lE G (eM.agg G isAgg32 sizeOf32 (.head _) G) (.cons _ (.cons _ (.refl _))) (.refl _) ⟨lE,v0,v1,v2,a3,a1,v5,v6,G,G,h0,h1,h2,a4,a2,h5,h6⟩
theorem mK {a3:Q1}{r:Bool} (hm:bC a3=some r):
  Cq B w0 56 [.string (a3)] H M (G4 r):=by
 unfold bC at hm;refine fF func56 ?_;refine g2 ?_;refine gs ?_;obtain ⟨O,hm⟩:=aI hm;refine vK G G Rk UR Vi G O ?_;intro ak ab am Y;refine go ?_;obtain ⟨a6,ad,Z,hm⟩:=cR hm;refine cl [(0,_),(6,_),(7,_)] [] 0 [] 0 (Qe (iY a3) a6 r ab 8) _ G ⟨0,_,G,G,hm,lE,G,G⟩ ?_;rintro _ a7 _ _ ⟨a0,a4,I,rfl,hm,an,rfl,rfl⟩;refine g2 ?_;refine bE G (λa5=>?_) (λa5=>?_);obtain ⟨a1,af,rfl,ag,ah⟩:=fK I a5;have hm:=(ad _ _ _ _).symm.trans hm;generalize ai:a6 (a0+1) af=ao at hm;unfold l_ at hm;refine g2 ?_;refine cj [(0,_),(6,_),(7,_),(8,_)] [] 0 (wc a7 31 (!(((decide (65<=a1.n)) && (decide (a1.n<=90))) || (((decide (0<(a0:Int))) && (decide (48<=a1.n))) && (decide (a1.n<=57)))))) ?_ (λa2=>?_);rintro _ _ _ ⟨rfl,rfl,rfl⟩;refine cd hm G (λaj hm=>?_) (λaj hm=>?_);refine gs ?_;exact ef;refine gt ?_
 refine gj ?_;exact kj (eb ah ai) (kK (cA ag Y.mm.cZ));refine go ?_;cases ap:(decide (65<=a1.n));refine go ?_;cases aq:(decide (0<(a0:Int)));refine gj ?_;exact kj (a2 _ _ _ pk) kS;refine go ?_;cases ar:(decide (48<=a1.n));refine gj ?_;exact kj (a2 _ _ _ pk) kS;refine gj ?_;exact kj (a2 _ _ _ pk) kS;refine go ?_;cases au:(decide (a1.n<=90));refine go ?_;cases av:(decide (0<(a0:Int)));refine gj ?_;exact kj (a2 _ _ _ pk) kS;refine go ?_;cases aw:(decide (48<=a1.n));refine gj ?_;exact kj (a2 _ _ _ pk) kS;refine gj ?_;exact kj (a2 _ _ _ pk) kS;refine gj ?_;exact kj (a2 _ _ _ pk) kS;obtain rfl:=fJ I a5;have hm:=(Z _ _).symm.trans hm;refine go ?_;refine cj [] [] 0 (wc a7 2 ((decide (1<=(a3.size:Int))) && (decide ((a3.size:Int)<=8)))) ?_ (λJ=>?_);rintro _ _ _ ⟨rfl,rfl,rfl⟩;refine go ?_;exact ef;refine go ?_;refine eH G G Rk G (go ?_);cases ax:(decide (1<=(a3.size:Int)))
 refine gj ?_;exact kj (J _ _ _ pk) kS;refine go ?_;refine eH G G Rk G (gj ?_);exact kj (J _ _ _ pk) kS
theorem cC {a2:(List Q1)}{a4:Q1}{v0:Q2}{r:Int} (hm:bD a2 a4=some r) (Z:aO H v0 a2):
  Cq B w0 72 [v0,.string (a4)] H M (yQ r):=by
 unfold bD at hm;refine fF func72 ?_;refine g2 ?_;refine gs ?_;obtain ⟨a5,a7,I,hm⟩:=iI hm;refine cl [(0,_),(1,_),(7,_)] [] 0 [] 0 (FW (((a2.length:Int):Int).toNat) a5 r H 8) _ G ⟨0,_,Rv _,G,hm,lE,G,G⟩ ?_;rintro _ ae _ _ ⟨a0,a1,a6,rfl,hm,af,rfl,rfl⟩;refine g2 ?_;refine bE G (λa3=>?_) (λa3=>?_);obtain ⟨J,rfl,O,ab⟩:=lu a6 a3;have hm:=(a7 _ _ _).symm.trans hm;generalize Y:a5 J (a0+1)=ag at hm;unfold lN at hm;refine g2 ?_;refine gs ?_;obtain ⟨ah,ai,aj,hm⟩:=aC hm;refine go ?_;refine cd hm G (λad hm=>?_) (λad hm=>?_);refine gs ?_;exact ef;refine gt ?_;refine gj ?_;exact kj (eb O Y) (kK (eI ab (eL (kW (Z).cZ))));obtain rfl:=lq a6 a3;have hm:=(I _ _).symm.trans hm;refine gs ?_;exact ef
theorem cG {a0:(List Q1)}{a1:Q1}{v0:Q2}{r:Bool} (hm:bM a0 a1=some r) (I:aO H v0 a0):
  Cq B w0 37 [v0,.string (a1)] H M (G4 r):=by
 unfold bM at hm;refine fF func37 ?_;refine g2 ?_;obtain ⟨a3,a2,hm⟩:=aT hm;refine cz @cC a2 ?_;refine go ?_;exact ef
theorem fO {a3:aS}{name:Q1}{nodes:(List Q1)}{b0:Nat}{J:Array MapEntry}{Z:Nat}{v0 v1:Q2}{r:Int×aS} (hm:cE a3 name nodes=some r) (h0:sM J Z a3.seen) (h1:aO H v0 a3.nodes) (h2:aO H v1 nodes):
  Cq B w0 82 [.agg [.map (some b0),v0].toArray,.string (name),v1] H (.obj b0 (.map J Z)::M) (λH _ H' M' v=>H.le H'/\∃ I:Array MapEntry,∃ O:Nat,∃ Y:Q2,.obj b0 (.map I O)::M=M'/\.int .i64 (r.1)=v/\sM I O r.2.seen/\aO H' Y r.2.nodes):=by
 unfold cE at hm;refine fF func82 ?_;refine gs ?_;refine bx (λaj=>?_);refine g2 ?_;obtain ⟨ak,a7,hm⟩:=aT hm;refine cz @mK a7 ?_;refine go ?_;refine cd hm G (λa8 hm=>?_) (λa8 hm=>?_);refine gs ?_;refine Ek [1] 1 ?_;exact en;refine gs ?_;refine BF (z:=false) (k:=name) (.tail _ (.head _)) h0 G G runUnderlying163 Rk zeroValue4 G G G G (go ?_);refine cd hm G (λa9 hm=>?_) (λa9 hm=>?_);refine gs ?_;refine Ek [1] 1 ?_;exact en;refine gs ?_;refine Wp [1] ?_;refine xX (k:=name) (v:=true) h0 G runUnderlying163 Rk G G G G G ?_;intro am an ao;refine g2 ?_;obtain ⟨a5,aa,ab,hm⟩:=cR hm;refine cl [(2,_),(3,_),(21,_),(22,_)] [] 0 [] 0 (Qf nodes a5 r H 23) _ G ⟨0,_,G,G,hm,lE,G,G⟩ ?_;rintro _ ap _ _ ⟨a0,a1,a6,rfl,hm,aq,rfl,rfl⟩;refine g2 ?_;refine bE G (λa4=>?_) (λa4=>?_);obtain ⟨ar,ac,rfl,ad,ae⟩:=fK a6 a4;have hm:=(aa _ _ _ _).symm.trans hm
 generalize af:a5 (a0+1) ac=au at hm;unfold gX at hm;refine g2 ?_;refine gs ?_;obtain ⟨av,ag,hm⟩:=aT hm;refine cz @cG ag ?_;refine go ?_;refine cd hm G (λah hm=>?_) (λah hm=>?_);refine gs ?_;refine Ek [0] 1 ?_;exact en;refine gt ?_;refine gj ?_;exact kj (eb ae af) (kK (cA ad h2.mm.cZ));obtain rfl:=fJ a6 a4;have hm:=(ab _ _).symm.trans hm;refine g2 ?_;cases a2:(decide ((nodes.length:Int)=2));have hm:=eF a2 hm;refine oZ fm 10 [ph _,ph _,ph (.bool (false)),ph _,ph _,ph _,ph _,ph _,ph _,ph _] ⟨om,om,OJ a2,om,om,om,om,om,om,om,Q3⟩ ?_;intro aw ax;refine dz ?_;refine go ?_;refine cF G ?_;refine gs ?_;refine Ek [0] 1 ?_;exact en;have hm:=eG a2 hm;obtain ⟨ay,az,b1,hm⟩:=aC hm;obtain ⟨b2,b3,b4,hm⟩:=aC hm;refine oZ fm 10 [ph _,ph _,ph (.bool (true)),ph _,ph _,ph _,ph _,ph _,ph _,ph _] ⟨om,om,OJ a2,om,om,om,om,om,om,om,Q3⟩ ?_
 intro b5 b6;refine dz ?_;refine go ?_;refine cd hm G (λai hm=>?_) (λai hm=>?_);refine gs ?_;refine Ek [0] 1 ?_;exact en;refine gs ?_;refine Ek [0] 1 ?_;exact en
theorem kP {a0 a1 a2:Int}{r:Bool} (hm:bL a0 a1 a2=r):
  Cq B w0 113 [.int .i64 (a0),.int .i64 (a1),.int .i64 (a2)] H M (G4 r):=by
 unfold bL at hm;refine fF func113 ?_;refine gs ?_;refine cj [] [] 0 (wc H 6 ((decide (a0<a1)) || (decide (a2<a0)))) ?_ (λa3=>?_);rintro _ _ _ ⟨rfl,rfl,rfl⟩;refine go ?_;obtain rfl:=hm;refine Ew H ?_;exact lL G G ⟨G,G,G⟩;refine go ?_;cases a4:(decide (a0<a1));refine gj ?_;exact kj (a3 _ _ _ pk) kS;refine gj ?_;exact kj (a3 _ _ _ pk) kS
theorem yM {a0:aR}{r:Int} (hm:iK a0=r):
  Cq B w0 83 [.agg [.string (a0.Name),.string (a0.pO),.string (a0.To),.int .i64 (a0.X),.int .i64 (a0.CW),.int .i64 (a0.Shift),.int .i64 (a0.tY),.int .i64 (a0.xV),.int .i64 (a0.DE)].toArray] H M (yQ r):=by
 unfold iK at hm;refine fF func83 ?_;refine gs ?_;refine bx (λa3=>?_);refine gs ?_;refine cj [] [] 1 (wc H 32 ((((((bL a0.X 1 10000) || (bL a0.CW 500 1500)) || (bL a0.Shift (-1000) 1000)) || (bL a0.tY 0 100000)) || (bL a0.xV a0.tY 100000)) || (bL a0.DE 0 200000))) ?_ (λa1=>?_);rintro _ _ _ ⟨rfl,rfl,rfl⟩;refine cd hm G (λa2 hm=>?_) (λa2 hm=>?_);refine gs ?_;obtain rfl:=hm;refine Ew H ?_;exact lL G G ⟨G,G,G⟩;refine gs ?_;obtain rfl:=hm;refine Ew H ?_;exact lL G G ⟨G,G,G⟩;refine go ?_;refine cz @kP (G:bL a0.X 1 10000=_) ?_;refine go ?_;cases a4:((bL a0.X 1 10000));refine go ?_;refine cz @kP (G:bL a0.CW 500 1500=_) ?_;refine go ?_;cases a5:((bL a0.CW 500 1500));refine go ?_;refine cz @kP (G:bL a0.Shift (-1000) 1000=_) ?_;refine go ?_;cases a6:((bL a0.Shift (-1000) 1000));refine go ?_;refine cz @kP (G:bL a0.tY 0 100000=_) ?_;refine go ?_;cases a7:((bL a0.tY 0 100000))
 refine go ?_;refine cz @kP (G:bL a0.xV a0.tY 100000=_) ?_;refine go ?_;cases I:((bL a0.xV a0.tY 100000));refine go ?_;refine cz @kP (G:bL a0.DE 0 200000=_) ?_;refine gj ?_;exact kx [] 1 (a1 _ _ _ pk) G kS;refine gj ?_;exact kx [] 1 (a1 _ _ _ pk) G kS;refine gj ?_;exact kx [] 1 (a1 _ _ _ pk) G kS;refine gj ?_;exact kx [] 1 (a1 _ _ _ pk) G kS;refine gj ?_;exact kx [] 1 (a1 _ _ _ pk) G kS;refine gj ?_;exact kx [] 1 (a1 _ _ _ pk) G kS
theorem jO {a0:Int}{r:Bool} (hm:aW a0=r):
  Cq B w0 114 [.int .i64 (a0)] H M (G4 r):=by
 unfold aW at hm;refine fF func114 ?_;refine g2 ?_;refine cz @kP (G:bL a0 0 100000=_) ?_;refine go ?_;obtain rfl:=hm;refine Ew H ?_;exact lL G G ⟨G,G,G⟩
theorem vI {aa:aS}{a2:aF}{b0:Nat}{J:Array MapEntry}{c0:Nat}{v0 v1 v2 v3 v4 v5 v6:Q2}{r:Int×aS} (hm:gA aa a2=some r) (h0:sM J c0 aa.seen) (h1:aO H v0 aa.nodes) (h2:aO H v1 a2.bH) (h3:aO H v2 a2.aN) (h4:aO H v3 a2.aK) (h5:aO H v4 a2.dS) (h6:aO H v5 a2.bF) (h7:aO H v6 a2.bY):
  Cq B w0 84 [.agg [.map (some b0),v0].toArray,.agg [v1,v2,v3,v4,v5,v6].toArray] H (.obj b0 (.map J c0)::M) (λH _ H' M' v=>H.le H'/\∃ I:Array MapEntry,∃ O:Nat,∃ qv0:Q2,.obj b0 (.map I O)::M=M'/\.int .i64 (r.1)=v/\sM I O r.2.seen/\aO H' qv0 r.2.nodes):=by
 unfold gA at hm;refine fF func84 ?_;refine gs ?_;refine bx (λc2=>?_);refine bx (λc3=>?_);refine g2 ?_;obtain ⟨aq,ay,az,hm⟩:=cR hm;refine cl [(2,_),(3,_),(15,_),(16,_)] [0,0] 1 [2] 0 (λu m n H' M' L'=>∃ (a3:Nat) (a7:List bK),∃ ab:(List (Q1×Bool)),∃ ac:Array MapEntry,∃ ad:Nat,(a2.dS).drop a3=a7/\a7.length=n/\aq a3 a7 ab=some r/\sM ac ad ab/\H.le H'/\.obj b0 (.map ac ad)::m=M'/\(17,.int .i64 ((a3:Int)))::u=L') _ G ⟨0,_,_,_,_,G,G,hm,h0,lE,G,G⟩ ?_;rintro _ b1 _ _ ⟨a3,a7,ab,ac,ad,ar,rfl,hm,b2,c4,rfl,rfl⟩;refine g2 ?_;refine bE G (λae=>?_) (λae=>?_);obtain ⟨a0,b3,rfl,b4,b5⟩:=fK ar ae;have hm:=(ay _ _ _ _).symm.trans hm;generalize b6:aq (a3+1) b3=c5 at hm;unfold jF at hm;refine g2 ?_;refine al (λc6=>?_);refine wt 0 ?_;refine g2 ?_;refine gC (α:=Q1) (css:=[[.string (a0.Node)]]) (zs:=[.string (⟨#[]⟩)]) (out:=[.string (a0.Node)]) (ys:=[a0.Node]) G G G ⟨G,Q3⟩ R9 S1 G Tc (by kernel_rfl) G G G G ⟨[.string (a0.Node)],[],G,G,G⟩ G ?_
 intro c7 c8 b7;refine cD (b7).rd G (λc9 cb cc=>?_);refine Wp [1] ?_;obtain ⟨ce,b8,hm⟩:=aT hm;refine ca @fO b8 ?_;rintro _ b9 _ ⟨cf,cg,ch,ci,rfl,rfl,ck,cm⟩;refine gs ?_;refine cd hm G (λba hm=>?_) (λba hm=>?_);refine gs ?_;refine Ek [0] 3 ?_;exact en;refine go ?_;refine cj [(2,_),(3,_),(15,_),(16,_),(17,_)] [0,1,1] 1 (wc b9 47 (((!(aW a0.iX)) || (bL a0.q9 a0.iX 100000)) || (!(aW a0.C1)))) ?_ (λaf=>?_);rintro _ _ _ ⟨rfl,rfl,rfl⟩;refine cd hm G (λbb hm=>?_) (λbb hm=>?_);refine gs ?_;refine Ek [0] 2 ?_;exact en;refine gt ?_;refine gj ?_;exact kj (eb b5 b6) (kK (cA b4 h5.mm.cZ));refine go ?_;refine cz @jO (G:aW a0.iX=_) ?_;refine go ?_;cases cn:(aW a0.iX);refine gj ?_;exact kx [0,1,1] 1 (af _ _ _ pk) G kS;refine go ?_;refine cz @kP (G:bL a0.q9 a0.iX 100000=_) ?_;refine go ?_;cases co:((bL a0.q9 a0.iX 100000));refine go ?_;refine cz @jO (G:aW a0.C1=_) ?_
 refine gj ?_;exact kx [0,1,1] 1 (af _ _ _ pk) G kS;refine gj ?_;exact kx [0,1,1] 1 (af _ _ _ pk) G kS;obtain rfl:=fJ ar ae;have hm:=(az _ _).symm.trans hm;refine g2 ?_;obtain ⟨au,bc,bd,hm⟩:=cR hm;refine cl [(2,_),(3,_),(50,_),(51,_)] [1,1] 1 [] 0 (λu m n H' M' L'=>∃ (a4:Nat) (Y:List aH),∃ ag:(List (Q1×Bool)),∃ ah:Array MapEntry,∃ ai:Nat,(a2.bF).drop a4=Y/\Y.length=n/\au a4 Y ag=some r/\sM ah ai ag/\b1.le H'/\.obj b0 (.map ah ai)::m=M'/\(52,.int .i64 ((a4:Int)))::u=L') _ G ⟨0,_,_,_,_,G,G,hm,b2,lE,G,G⟩ ?_;rintro _ be _ _ ⟨a4,Y,ag,ah,ai,av,rfl,hm,bf,cp,rfl,rfl⟩;refine g2 ?_;refine bE G (λaj=>?_) (λaj=>?_);obtain ⟨a5,bg,rfl,bh,bi⟩:=fK av aj;have hm:=(bc _ _ _ _).symm.trans hm;generalize bj:au (a4+1) bg=cq at hm;unfold jG at hm;refine g2 ?_;refine al (λcr=>?_);refine wt 0 ?_
 refine g2 ?_;refine gC (α:=Q1) (css:=[[.string (a5.Node)]]) (zs:=[.string (⟨#[]⟩)]) (out:=[.string (a5.Node)]) (ys:=[a5.Node]) G G G ⟨G,Q3⟩ R9 S1 G Tc (by kernel_rfl) G G G G ⟨[.string (a5.Node)],[],G,G,G⟩ G ?_
 intro cs ct bk;refine cD (bk).rd G (λcu cv cw=>?_);refine Wp [1] ?_;obtain ⟨cx,bl,hm⟩:=aT hm;refine ca @fO bl ?_;rintro _ d0 _ ⟨d1,d2,d3,d4,rfl,rfl,d5,d6⟩;refine gs ?_;refine cd hm G (λbm hm=>?_) (λbm hm=>?_);refine gs ?_;refine Ek [0] 3 ?_;exact en;refine gs ?_;refine cz @jO (G:aW a5.dA=_) ?_;refine go ?_;refine cd hm G (λbn hm=>?_) (λbn hm=>?_);refine gs ?_;refine Ek [0] 3 ?_;exact en;refine gt ?_;refine gj ?_;exact kx [0,1,1] 1 (eb bi bj) G (kK (cA bh h6.mm.cZ));obtain rfl:=fJ av aj;have hm:=(bd _ _).symm.trans hm;refine g2 ?_;obtain ⟨aw,bo,bp,hm⟩:=cR hm;refine cl [(2,_),(72,_),(73,_)] [2] 2 [0,1] 1 (λu m n H' M' L'=>∃ (a6:Nat) (Z:List cL),∃ ak:(List (Q1×Bool)),∃ am:Array MapEntry,∃ an:Nat,(a2.bY).drop a6=Z/\Z.length=n/\aw a6 Z ak=some r/\sM am an ak/\be.le H'/\.obj b0 (.map am an)::m=M'/\(74,.int .i64 ((a6:Int)))::u=L') _ G ⟨0,_,_,_,_,G,G,hm,bf,lE,G,G⟩ ?_
 rintro _ d7 _ _ ⟨a6,Z,ak,am,an,ax,rfl,hm,d8,d9,rfl,rfl⟩;refine g2 ?_;refine bE G (λao=>?_) (λao=>?_);obtain ⟨a1,bq,rfl,br,bs⟩:=fK ax ao;have hm:=(bo _ _ _ _).symm.trans hm;generalize bt:aw (a6+1) bq=da at hm;unfold jH at hm;refine g2 ?_;refine al (λdb=>?_);refine wt 0 ?_;refine g2 ?_;refine gC (α:=Q1) (css:=[[.string (a1.Node)]]) (zs:=[.string (⟨#[]⟩)]) (out:=[.string (a1.Node)]) (ys:=[a1.Node]) G G G ⟨G,Q3⟩ R9 S1 G Tc (by kernel_rfl) G G G G ⟨[.string (a1.Node)],[],G,G,G⟩ G ?_
 intro dc dd bu;refine cD (bu).rd G (λde df dg=>?_);refine Wp [1] ?_;obtain ⟨dh,bv,hm⟩:=aT hm;refine ca @fO bv ?_;rintro _ bw _ ⟨di,dj,dk,dl,rfl,rfl,dm,dn⟩;refine gs ?_;refine cd hm G (λbz hm=>?_) (λbz hm=>?_);refine gs ?_;refine Ek [0] 2 ?_;exact en;refine go ?_;refine cj [(2,_),(72,_),(73,_),(74,_)] [0,1] 1 (wc bw 103 (((!(aW a1.sK)) || (!(aW a1.Discharge))) || (!(aW a1.u6)))) ?_ (λap=>?_);rintro _ _ _ ⟨rfl,rfl,rfl⟩;refine cd hm G (λc1 hm=>?_) (λc1 hm=>?_);refine gs ?_;refine Ek [0] 1 ?_;exact en;refine gt ?_;refine gj ?_;exact kj (eb bs bt) (kK (cA br h7.mm.cZ));refine go ?_;refine cz @jO (G:aW a1.sK=_) ?_;refine go ?_;cases dp:(aW a1.sK);refine gj ?_;exact kx [0,1] 1 (ap _ _ _ pk) G kS;refine go ?_;refine cz @jO (G:aW a1.Discharge=_) ?_;refine go ?_;cases dq:(aW a1.Discharge);refine gj ?_;exact kx [0,1] 1 (ap _ _ _ pk) G kS
 refine go ?_;refine cz @jO (G:aW a1.u6=_) ?_;refine gj ?_;exact kx [0,1] 1 (ap _ _ _ pk) G kS;obtain rfl:=fJ ax ao;have hm:=(bp _ _).symm.trans hm;refine gs ?_;refine Ek [0] 1 ?_;exact en
theorem l9 {a0:aF}{v0 v1 v2 v3 v4 v5:Q2}{r:Int} (hm:bZ a0=some r) (h0:aO H v0 a0.bH) (h1:aO H v1 a0.aN) (h2:aO H v2 a0.aK) (h3:aO H v3 a0.dS) (h4:aO H v4 a0.bF) (h5:aO H v5 a0.bY):
  Cq B w0 45 [.agg [v0,v1,v2,v3,v4,v5].toArray] H M (yQ r):=by
 unfold bZ at hm;refine fF func45 ?_;refine gs ?_;refine bx (λbt=>?_);refine gs ?_;refine cj [(1,_)] [] 0 (wc H 47 ((((((decide (24<(a0.bH.length:Int))) || (decide (32<(a0.aN.length:Int)))) || (decide (24<(a0.aK.length:Int)))) || (decide (10<(a0.dS.length:Int)))) || (decide (12<(a0.bF.length:Int)))) || (decide (4<(a0.bY.length:Int))))) ?_ (λa3=>?_);rintro _ _ _ ⟨rfl,rfl,rfl⟩;refine cd hm G (λaw hm=>?_) (λaw hm=>?_);refine gs ?_;refine Ek [] 1 ?_;exact ef;refine gs ?_;refine Ao G G (λa4=>?_);refine go ?_;refine cU (css:=[[.map (some a4)],[v0]]) (zs:=[.map none,.slice none 0 0]) (out:=[.map (some a4),v0]) (places:=[(0,1),(1,1)]) G G G ⟨G,(aO.cells h0),Q3⟩ zeroValue165 G runUnderlying165 (λw=>by kernel_rfl) G ?_
 refine al (λbu=>?_);refine wt 0 ?_;refine g2 ?_;obtain ⟨ao,ax,ay,hm⟩:=cR hm;refine cl [(1,_),(3,_),(53,_),(54,_)] [0,1] 1 [1] 0 (λu m n H' M' L'=>∃ (a5:Nat) (I:List Q1),∃ ab:(List (Q1×Bool)),∃ Y:Array MapEntry,∃ ad:Nat,(a0.bH).drop a5=I/\I.length=n/\ao a5 I ab=some r/\sM Y ad ab/\H.le H'/\.obj a4 (.map Y ad)::m=M'/\(55,.int .i64 ((a5:Int)))::u=L') _ G ⟨0,_,_,_,_,G,G,hm,(sM.nil (κ:=Q1) (ν:=Bool)),lE,G,G⟩ ?_;rintro _ az _ _ ⟨a5,I,ab,Y,ad,ap,rfl,hm,b0,bv,rfl,rfl⟩;refine g2 ?_;refine bE G (λZ=>?_) (λZ=>?_);obtain ⟨bw,b1,rfl,b2,b3⟩:=fK ap Z;have hm:=(ax _ _ _ _).symm.trans hm;generalize b4:ao (a5+1) b1=bz at hm;unfold m_ at hm;refine g2 ?_;refine gs ?_;obtain ⟨c0,b5,hm⟩:=aT hm;refine ca @fO b5 ?_;rintro _ c1 _ ⟨c2,c3,c4,c5,rfl,rfl,c6,c7⟩;refine gs ?_
 refine cd hm G (λb6 hm=>?_) (λb6 hm=>?_);refine gs ?_;refine Ek [] 3 ?_;exact ef;refine gt ?_;refine gj ?_;exact kj (eb b3 b4) (kK (cA b2 h0.mm.cZ));obtain rfl:=fJ ap Z;have hm:=(ay _ _).symm.trans hm;refine g2 ?_;obtain ⟨aq,b7,b8,hm⟩:=cR hm;refine cl [(1,_),(3,_),(67,_),(68,_)] [1,1] 1 [] 0 (λu m n H' M' L'=>∃ (a6:Nat) (J:List a_),∃ af:(List (Q1×Bool)),∃ ag:Array MapEntry,∃ ah:Nat,(a0.aN).drop a6=J/\J.length=n/\aq a6 J af=some r/\sM ag ah af/\az.le H'/\.obj a4 (.map ag ah)::m=M'/\(69,.int .i64 ((a6:Int)))::u=L') _ G ⟨0,_,_,_,_,G,G,hm,b0,lE,G,G⟩ ?_;rintro _ b9 _ _ ⟨a6,J,af,ag,ah,ar,rfl,hm,ba,c8,rfl,rfl⟩;refine g2 ?_;refine bE G (λai=>?_) (λai=>?_);obtain ⟨a2,bb,rfl,bc,bd⟩:=fK ar ai;have hm:=(b7 _ _ _ _).symm.trans hm;generalize be:aq (a6+1) bb=c9 at hm;unfold na at hm
 refine g2 ?_;refine al (λcb=>?_);refine wt 0 ?_;refine gs ?_;refine gC (α:=Q1) (css:=[[.string (a2.A)],[.string (a2.B_)]]) (zs:=[.string (⟨#[]⟩),.string (⟨#[]⟩)]) (out:=[.string (a2.A),.string (a2.B_)]) (ys:=[a2.A,a2.B_]) G G G ⟨G,G,Q3⟩ R9 S1 G Tc (by kernel_rfl) G G G G ⟨[.string (a2.A)],[.string (a2.B_)],G,G,⟨[.string (a2.B_)],[],G,G,G⟩⟩ G ?_
 intro cc ce bf;refine cD (bf).rd G (λcf cg ch=>?_);refine Wp [1] ?_;obtain ⟨ci,bg,hm⟩:=aT hm;refine ca @fO bg ?_;rintro _ ck _ ⟨cm,cn,co,cp,rfl,rfl,cq,cr⟩;refine gs ?_;refine cd hm G (λbh hm=>?_) (λbh hm=>?_);refine gs ?_;refine Ek [] 4 ?_;exact ef;refine gt ?_;refine gj ?_;exact kx [0,1,1] 1 (eb bd be) G (kK (cA bc h1.mm.cZ));obtain rfl:=fJ ar ai;have hm:=(b8 _ _).symm.trans hm;refine g2 ?_;obtain ⟨au,bi,bj,hm⟩:=cR hm;refine cl [(1,_),(3,_),(87,_),(88,_)] [1,1] 1 [] 0 (λu m n H' M' L'=>∃ (a7:Nat) (O:List aR),∃ aj:(List (Q1×Bool)),∃ ak:Array MapEntry,∃ am:Nat,(a0.aK).drop a7=O/\O.length=n/\au a7 O aj=some r/\sM ak am aj/\b9.le H'/\.obj a4 (.map ak am)::m=M'/\(89,.int .i64 ((a7:Int)))::u=L') _ G ⟨0,_,_,_,_,G,G,hm,ba,lE,G,G⟩ ?_;rintro _ cs _ _ ⟨a7,O,aj,ak,am,av,rfl,hm,ct,cu,rfl,rfl⟩
 refine g2 ?_;refine bE G (λan=>?_) (λan=>?_);obtain ⟨a1,bk,rfl,bl,bm⟩:=fK av an;have hm:=(bi _ _ _ _).symm.trans hm;generalize bn:au (a7+1) bk=cv at hm;unfold nc at hm;refine g2 ?_;refine al (λcw=>?_);refine wt 0 ?_;refine g2 ?_;refine gC (α:=Q1) (css:=[[.string (a1.pO)],[.string (a1.To)]]) (zs:=[.string (⟨#[]⟩),.string (⟨#[]⟩)]) (out:=[.string (a1.pO),.string (a1.To)]) (ys:=[a1.pO,a1.To]) G G G ⟨G,G,Q3⟩ R9 S1 G Tc (by kernel_rfl) G G G G ⟨[.string (a1.pO)],[.string (a1.To)],G,G,⟨[.string (a1.To)],[],G,G,G⟩⟩ G ?_
 intro cx d0 bo;refine cD (bo).rd G (λd1 d2 d3=>?_);refine Wp [1] ?_;obtain ⟨d4,bp,hm⟩:=aT hm;refine ca @fO bp ?_;rintro _ d5 _ ⟨d6,d7,d8,d9,rfl,rfl,da,db⟩;refine gs ?_;refine cd hm G (λbq hm=>?_) (λbq hm=>?_);refine gs ?_;refine Ek [] 4 ?_;exact ef;refine gs ?_;refine cz @yM (G:iK a1=_) ?_;refine gs ?_;refine cd hm G (λbr hm=>?_) (λbr hm=>?_);refine gs ?_;refine Ek [] 4 ?_;exact ef;refine gt ?_;refine gj ?_;exact kx [0,1,1] 1 (eb bm bn) G (kK (cA bl h2.mm.cZ));obtain rfl:=fJ av an;have hm:=(bj _ _).symm.trans hm;refine gs ?_;obtain ⟨dc,bs,hm⟩:=aT hm;refine ca @vI bs ?_;rintro _ dd _ ⟨de,df,dg,dh,rfl,rfl,di,dj⟩;refine go ?_;refine Ek [] 3 ?_;exact ef;refine go ?_;cases dk:(decide (24<(a0.bH.length:Int)));refine go ?_;cases dl:(decide (32<(a0.aN.length:Int)));refine go ?_;cases dm:(decide (24<(a0.aK.length:Int)));refine go ?_
 cases dn:(decide (10<(a0.dS.length:Int)));refine go ?_;cases dp:(decide (12<(a0.bF.length:Int)));refine gj ?_;exact kj (a3 _ _ _ pk) kS;refine gj ?_;exact kj (a3 _ _ _ pk) kS;refine gj ?_;exact kj (a3 _ _ _ pk) kS;refine gj ?_;exact kj (a3 _ _ _ pk) kS;refine gj ?_;exact kj (a3 _ _ _ pk) kS;refine gj ?_;exact kj (a3 _ _ _ pk) kS
theorem wM {ah:(List bO)}{v0:Q2}{r:Int} (hm:jX ah=some r) (Y:aO H v0 ah):
  Cq B w0 85 [v0] H M (yQ r):=by
 unfold jX at hm;refine fF func85 ?_;refine q2 ?_;refine qs ?_;refine lr Y ?_;refine qg ?_;refine cd hm G (λbn hm=>?_) (λbn hm=>?_);refine qs ?_;exact ef;refine qs ?_;refine lr Y ?_;refine qg ?_;refine cd hm G (λbo hm=>?_) (λbo hm=>?_);refine qs ?_;exact ef;refine qs ?_;refine lr Y ?_;obtain ⟨b4,hm⟩:=aI hm;refine eT (α:=Int) (zs:=[.int .i64 (0)]) (ze:=0) G G SG ⟨_,G,G,G,G⟩ G G G G G G b4.1 b4.2 ?_;intro a3 d6 bp;refine q2 ?_;refine lr Y ?_;refine qg ?_;obtain ⟨b5,bq,br,hm⟩:=cR hm;refine cl [(0,_),(3,_),(18,_),(19,_)] [] 1 [] 0 (λu m n H' M' L'=>∃ (a0:Nat) (ad:List bO),∃ a6:List Int,∃ ai:List Q2,(ah).drop a0=ad/\ad.length=n/\b5 a0 ad a6=some r/\Rw H' a3 ai a6/\H.le H'/\.row a3 3 (aG.sz Int) a6.length ai::m=M'/\(20,.int .i64 ((a0:Int)))::u=L') _ G ⟨0,_,_,_,G,G,hm,bp,lE,G,G⟩ ?_;rintro _ a2 _ _ ⟨a0,ad,a6,ai,b6,rfl,hm,aa,d7,rfl,rfl⟩
 refine q2 ?_;refine bE G (λaj=>?_) (λaj=>?_);obtain ⟨a1,bs,rfl,ak,bt⟩:=fK b6 aj;have hm:=(bq _ _ _ _).symm.trans hm;generalize bu:b5 (a0+1) bs=am at hm;unfold od at hm;refine qg ?_;refine cj [(0,_),(3,_),(18,_),(19,_),(20,_)] [] 1 (λu m H' M' L'=>∃ ae:List Int,∃ an:List Q2,dT am ae=some r/\Rw H' a3 an ae/\a2.le H'/\.row a3 3 (aG.sz Int) ae.length an::m=M'/\u=L') ?_ (λa7=>?_);rintro d8 _ _ ⟨ae,an,hm,d9,da,rfl,rfl⟩;unfold dT at hm;refine qj ?_;exact kj (eb bt bu) (kK (cA ak Y.mm.cZ));refine qs ?_;obtain ⟨_,⟨rfl⟩,bv⟩:=(Y).elem ak;refine A2 Y ak ?_;refine OI bv ?_;refine al (λdb=>?_);refine qg ?_;refine wt 0 ?_;refine qg ?_;refine cj [(0,_),(3,_),(4,_),(5,_),(18,_),(19,_),(20,_)] [] 0 (wc a2 6 ((decide (a1.Kind=2)) || (decide (a1.Kind=3)))) ?_ (λb7=>?_);rintro _ _ _ ⟨rfl,rfl,rfl⟩;refine qs ?_
 refine cj [(0,_),(3,_),(4,_),(5,_),(6,_),(18,_),(19,_),(20,_)] [] 0 (wc a2 33 ((decide (a1.Kind<0)) || (decide (6<a1.Kind)))) ?_ (λb8=>?_);rintro _ _ _ ⟨rfl,rfl,rfl⟩;refine cd hm G (λbw hm=>?_) (λbw hm=>?_);refine qs ?_;refine Ek [] 2 ?_;exact ef;refine qs ?_;cases b9:((decide (a1.Kind=2)) || (decide (a1.Kind=3)));have hm:=eF b9 hm;refine qg ?_;refine cF G ?_;refine cj [(0,_),(3,_),(4,_),(5,_),(18,_),(19,_),(20,_)] [] 0 (wc a2 50 (!decide (a1.Name=(⟨#[]⟩)))) ?_ (λbz=>?_);rintro _ _ _ ⟨rfl,rfl,rfl⟩;refine cd hm G (λc0 hm=>?_) (λc0 hm=>?_);refine qs ?_;refine Ek [] 2 ?_;exact ef;refine qs ?_;obtain ⟨dc,dd,ao,hm⟩:=aC hm;refine te ao ?_;obtain ⟨_,rfl,c1⟩:=(aa).elem ao;refine wr 1 0 ((a0:Int)) aa ao c1 G G ?_;intro de a4 df dg;refine q2 ?_;refine cd hm G (λc2 hm=>?_) (λc2 hm=>?_);refine qs ?_;refine cj [(0,_),(3,_),(4,_),(5,_),(18,_),(19,_),(20,_)] [] 0 (wc a2 87 (((decide ((a0:Int)=0)) || (!decide (a1.A=(i64.wrap ((a0:Int)-1))))) || (!decide (a1.B_=0)))) ?_ (λap=>?_)
 rintro _ _ _ ⟨rfl,rfl,rfl⟩;refine cd hm G (λc3 hm=>?_) (λc3 hm=>?_);refine qs ?_;refine Ek [] 2 ?_;exact ef;refine qg ?_;obtain ⟨c4,dh,ba,hm⟩:=aC hm;refine te ba ?_;obtain ⟨_,rfl,c5⟩:=(a4).elem ba;refine xH c5 ?_;obtain ⟨di,dj,aq,hm⟩:=aC hm;refine te aq ?_;obtain ⟨_,rfl,c6⟩:=(a4).elem aq;refine wr 0 0 c4 a4 aq c6 G G ?_;intro dk dl dm dn;refine qj ?_;exact kx [0] 1 (a7 _ _ _ pk);refine qg ?_;cases dp:(decide ((a0:Int)=0));refine qg ?_;cases dq:(decide (a1.A=(i64.wrap ((a0:Int)-1))));refine qj ?_;exact kj (ap _ _ _ pk) kS;refine qj ?_;exact kj (ap _ _ _ pk) kS;refine qj ?_;exact kj (ap _ _ _ pk) kS;refine cj [(0,_),(3,_),(4,_),(5,_),(18,_),(19,_),(20,_)] [] 0 (λu m H' M' L'=>∃ ar:Bool,eB a6 am a1 a0 ar=some r/\a2=H'/\m=M'/\(96,.bool (ar))::u=L') ?_ (λbb=>?_);rintro _ _ _ ⟨ar,hm,rfl,rfl,rfl⟩;unfold eB at hm
 refine cd hm G (λc7 hm=>?_) (λc7 hm=>?_);refine q2 ?_;cases Z:(decide ((a0:Int)=0));have hm:=eF Z hm;cases ab:(decide (a1.B_=(i64.wrap ((a0:Int)-1))));have hm:=eF ab hm;refine oZ fm 26 [ph _,ph (.bool (false)),ph _,ph _,ph _,ph _,ph _,ph (.bool (true)),ph _,ph _,ph _,ph _,ph _,ph _,ph _,ph _,ph _,ph _,ph _,ph _,ph _,ph _,ph _,ph _,ph _,ph _] ⟨qm,qn Z,qm,qm,qm,qm,qm,qn ab,qm,qm,qm,qm,qm,qm,qm,qm,qm,qm,qm,qm,qm,qm,qm,qm,qm,qm,Q3⟩ ?_;intro ds dt;refine dz ?_;refine qg ?_;refine cT G ?_;refine qs ?_;refine Ek [] 2 ?_;exact ef;have hm:=eG ab hm;obtain ⟨au,du,av,hm⟩:=aC hm;obtain ⟨_,rfl,bc⟩:=(a4).elem av;cases af:(decide (au=0));have hm:=eF af hm;obtain ⟨c8,dv,bd,hm⟩:=aC hm;obtain ⟨_,rfl,c9⟩:=(a4).elem bd;refine oZ fm 26 [ph _,ph (.bool (false)),ph _,ph _,ph _,ph _,ph _,ph (.bool (false)),ph _,ph _,ph _,ph _,ph _,ph (.pointer (some ((Value.base (a3)).add ((i64.wrap ((a0:Int)-1):Int).toNat*aG.sz Int)))),ph (.int .i64 (au)),ph (.bool (false)),ph _,ph _,ph _,ph _,ph _,ph _,ph _,ph (.pointer (some ((Value.base (a3)).add ((i64.wrap ((a0:Int)-1):Int).toNat*aG.sz Int)))),ph (.int .i64 (c8)),ph _] ⟨qm,qn Z,qm,qm,qm,qm,qm,qn ab,qm,qm,qm,qm,qm,?_,?_,qn af,qm,qm,qm,qm,qm,qm,qm,?_,?_,qm,Q3⟩ ?_
 intro J O X Rest hR;refine dr ?_;intro hU I;refine te av ?_;exact o0 ⟨G,G⟩;rintro J O X Rest hR _ _ ⟨rfl,rfl⟩ _ _ ⟨rfl,rfl⟩ hU I;refine xH bc ?_;exact o0 ⟨G,G⟩;intro J O X Rest hR;refine dr ?_;intro hU I;refine te bd ?_;exact o0 ⟨G,G⟩;rintro J O X Rest hR _ _ ⟨rfl,rfl⟩ _ _ ⟨rfl,rfl⟩ hU I;refine xH c9 ?_;exact o0 ⟨G,G⟩;intro dw dx;refine dz ?_;refine qg ?_;refine cd hm G (λcb hm=>?_) (λcb hm=>?_);refine qs ?_;refine Ek [] 2 ?_;exact ef;refine qg ?_;obtain ⟨cc,dy,be,hm⟩:=aC hm;refine te be ?_;obtain ⟨_,rfl,ce⟩:=(a4).elem be;refine xH ce ?_;obtain ⟨e0,e1,aw,hm⟩:=aC hm;refine te aw ?_;obtain ⟨_,rfl,cf⟩:=(a4).elem aw;refine wr 0 0 cc a4 aw cf G G ?_;intro e2 e3 e4 e5;refine qj ?_;exact kx [0] 1 (a7 _ _ _ pk);have hm:=eG af hm;refine oZ fm 26 [ph _,ph (.bool (false)),ph _,ph _,ph _,ph _,ph _,ph (.bool (false)),ph _,ph _,ph _,ph _,ph _,ph (.pointer (some ((Value.base (a3)).add ((i64.wrap ((a0:Int)-1):Int).toNat*aG.sz Int)))),ph (.int .i64 (au)),ph (.bool (true)),ph _,ph _,ph _,ph _,ph _,ph _,ph _,ph _,ph _,ph _] ⟨qm,qn Z,qm,qm,qm,qm,qm,qn ab,qm,qm,qm,qm,qm,?_,?_,qn af,qm,qm,qm,qm,qm,qm,qm,qm,qm,qm,Q3⟩ ?_
 intro J O X Rest hR;refine dr ?_;intro hU I;refine te av ?_;exact o0 ⟨G,G⟩;rintro J O X Rest hR _ _ ⟨rfl,rfl⟩ _ _ ⟨rfl,rfl⟩ hU I;refine xH bc ?_;exact o0 ⟨G,G⟩;intro e6 e7;refine dz ?_;refine qg ?_;refine cT G ?_;refine qs ?_;refine Ek [] 2 ?_;exact ef;have hm:=eG Z hm;refine oZ fm 26 [ph _,ph (.bool (true)),ph _,ph _,ph _,ph _,ph _,ph _,ph _,ph _,ph _,ph _,ph _,ph _,ph _,ph _,ph _,ph _,ph _,ph _,ph _,ph _,ph _,ph _,ph _,ph _] ⟨qm,qn Z,qm,qm,qm,qm,qm,qm,qm,qm,qm,qm,qm,qm,qm,qm,qm,qm,qm,qm,qm,qm,qm,qm,qm,qm,Q3⟩ ?_;intro e8 e9;refine dz ?_;refine qg ?_;refine cT G ?_;refine qs ?_;refine Ek [] 2 ?_;exact ef;refine cj [(0,_),(3,_),(18,_),(19,_),(20,_)] [0] 1 (wc a2 71 ((!decide (a1.A=0)) || (!decide (a1.B_=0)))) ?_ (λbf=>?_);rintro _ _ _ ⟨rfl,rfl,rfl⟩;refine cd hm G (λcg hm=>?_) (λcg hm=>?_)
 refine qs ?_;refine Ek [] 1 ?_;exact ef;refine qj ?_;exact kj (a7 _ _ _ pk);refine qg ?_;cases ea:(decide (a1.A=0));refine qj ?_;exact kx [0] 1 (bf _ _ _ pk) G kS;refine qj ?_;exact kx [0] 1 (bf _ _ _ pk) G kS;refine qs ?_;refine cd hm G (λch hm=>?_) (λch hm=>?_);refine qj ?_;exact kj (bb _ _ _ pk);refine qj ?_;exact kj (bb _ _ _ pk);refine qj ?_;exact kj (bz _ _ _ pk);have hm:=eG b9 hm;refine qg ?_;obtain ⟨ec,ci,hm⟩:=aT hm;refine cz @mK ci ?_;refine qg ?_;refine cd hm G (λck hm=>?_) (λck hm=>?_);refine qs ?_;refine Ek [] 2 ?_;exact ef;refine cj [(0,_),(3,_),(4,_),(5,_),(18,_),(19,_),(20,_)] [] 0 (λu m H' M' L'=>a2=H'/\m=M'/\(50,.bool (false))::u=L') ?_ (λcm=>?_);rintro _ _ _ ⟨rfl,rfl,rfl⟩;refine cF G ?_;refine qs ?_;obtain ⟨ed,ee,ax,hm⟩:=aC hm;refine te ax ?_;obtain ⟨_,rfl,cn⟩:=(aa).elem ax;refine wr 1 0 ((a0:Int)) aa ax cn G G ?_
 intro eg a5 eh ei;refine q2 ?_;refine cd hm G (λco hm=>?_) (λco hm=>?_);refine qs ?_;refine cj [(0,_),(3,_),(4,_),(5,_),(18,_),(19,_),(20,_)] [] 0 (wc a2 87 (((decide ((a0:Int)=0)) || (!decide (a1.A=(i64.wrap ((a0:Int)-1))))) || (!decide (a1.B_=0)))) ?_ (λay=>?_);rintro _ _ _ ⟨rfl,rfl,rfl⟩;refine cd hm G (λcp hm=>?_) (λcp hm=>?_);refine qs ?_;refine Ek [] 2 ?_;exact ef;refine qg ?_;obtain ⟨cq,ej,bg,hm⟩:=aC hm;refine te bg ?_;obtain ⟨_,rfl,cr⟩:=(a5).elem bg;refine xH cr ?_;obtain ⟨ek,el,az,hm⟩:=aC hm;refine te az ?_;obtain ⟨_,rfl,cs⟩:=(a5).elem az;refine wr 0 0 cq a5 az cs G G ?_;intro em eo ep er;refine qj ?_;exact kx [0] 1 (a7 _ _ _ pk);refine qg ?_;cases es:(decide ((a0:Int)=0));refine qg ?_;cases et:(decide (a1.A=(i64.wrap ((a0:Int)-1))));refine qj ?_;exact kj (ay _ _ _ pk) kS;refine qj ?_;exact kj (ay _ _ _ pk) kS
 refine qj ?_;exact kj (ay _ _ _ pk) kS;refine cj [(0,_),(3,_),(4,_),(5,_),(18,_),(19,_),(20,_)] [] 0 (λu m H' M' L'=>∃ b0:Bool,jQ a6 am a1 a0 b0=some r/\a2=H'/\m=M'/\(96,.bool (b0))::u=L') ?_ (λbh=>?_);rintro _ _ _ ⟨b0,hm,rfl,rfl,rfl⟩;unfold jQ at hm;refine cd hm G (λct hm=>?_) (λct hm=>?_);refine q2 ?_;cases a9:(decide ((a0:Int)=0));have hm:=eF a9 hm;cases ac:(decide (a1.B_=(i64.wrap ((a0:Int)-1))));have hm:=eF ac hm;refine oZ fm 26 [ph _,ph (.bool (false)),ph _,ph _,ph _,ph _,ph _,ph (.bool (true)),ph _,ph _,ph _,ph _,ph _,ph _,ph _,ph _,ph _,ph _,ph _,ph _,ph _,ph _,ph _,ph _,ph _,ph _] ⟨qm,qn a9,qm,qm,qm,qm,qm,qn ac,qm,qm,qm,qm,qm,qm,qm,qm,qm,qm,qm,qm,qm,qm,qm,qm,qm,qm,Q3⟩ ?_;intro eu ev;refine dz ?_;refine qg ?_;refine cT G ?_;refine qs ?_;refine Ek [] 2 ?_
 exact ef;have hm:=eG ac hm;obtain ⟨b1,ew,b2,hm⟩:=aC hm;obtain ⟨_,rfl,bi⟩:=(a5).elem b2;cases ag:(decide (b1=0));have hm:=eF ag hm;obtain ⟨cu,ex,bj,hm⟩:=aC hm;obtain ⟨_,rfl,cv⟩:=(a5).elem bj;refine oZ fm 26 [ph _,ph (.bool (false)),ph _,ph _,ph _,ph _,ph _,ph (.bool (false)),ph _,ph _,ph _,ph _,ph _,ph (.pointer (some ((Value.base (a3)).add ((i64.wrap ((a0:Int)-1):Int).toNat*aG.sz Int)))),ph (.int .i64 (b1)),ph (.bool (false)),ph _,ph _,ph _,ph _,ph _,ph _,ph _,ph (.pointer (some ((Value.base (a3)).add ((i64.wrap ((a0:Int)-1):Int).toNat*aG.sz Int)))),ph (.int .i64 (cu)),ph _] ⟨qm,qn a9,qm,qm,qm,qm,qm,qn ac,qm,qm,qm,qm,qm,?_,?_,qn ag,qm,qm,qm,qm,qm,qm,qm,?_,?_,qm,Q3⟩ ?_;intro J O X Rest hR;refine dr ?_;intro hU I;refine te b2 ?_;exact o0 ⟨G,G⟩;rintro J O X Rest hR _ _ ⟨rfl,rfl⟩ _ _ ⟨rfl,rfl⟩ hU I
 refine xH bi ?_;exact o0 ⟨G,G⟩;intro J O X Rest hR;refine dr ?_;intro hU I;refine te bj ?_;exact o0 ⟨G,G⟩;rintro J O X Rest hR _ _ ⟨rfl,rfl⟩ _ _ ⟨rfl,rfl⟩ hU I;refine xH cv ?_;exact o0 ⟨G,G⟩;intro ey ez;refine dz ?_;refine qg ?_;refine cd hm G (λcw hm=>?_) (λcw hm=>?_);refine qs ?_;refine Ek [] 2 ?_;exact ef;refine qg ?_;obtain ⟨cx,fa,bk,hm⟩:=aC hm;refine te bk ?_;obtain ⟨_,rfl,d0⟩:=(a5).elem bk;refine xH d0 ?_;obtain ⟨fb,fd,b3,hm⟩:=aC hm;refine te b3 ?_;obtain ⟨_,rfl,d1⟩:=(a5).elem b3;refine wr 0 0 cx a5 b3 d1 G G ?_;intro fe ff fg fh;refine qj ?_;exact kx [0] 1 (a7 _ _ _ pk);have hm:=eG ag hm;refine oZ fm 26 [ph _,ph (.bool (false)),ph _,ph _,ph _,ph _,ph _,ph (.bool (false)),ph _,ph _,ph _,ph _,ph _,ph (.pointer (some ((Value.base (a3)).add ((i64.wrap ((a0:Int)-1):Int).toNat*aG.sz Int)))),ph (.int .i64 (b1)),ph (.bool (true)),ph _,ph _,ph _,ph _,ph _,ph _,ph _,ph _,ph _,ph _] ⟨qm,qn a9,qm,qm,qm,qm,qm,qn ac,qm,qm,qm,qm,qm,?_,?_,qn ag,qm,qm,qm,qm,qm,qm,qm,qm,qm,qm,Q3⟩ ?_
 intro J O X Rest hR;refine dr ?_;intro hU I;refine te b2 ?_;exact o0 ⟨G,G⟩;rintro J O X Rest hR _ _ ⟨rfl,rfl⟩ _ _ ⟨rfl,rfl⟩ hU I;refine xH bi ?_;exact o0 ⟨G,G⟩;intro fi fj;refine dz ?_;refine qg ?_;refine cT G ?_;refine qs ?_;refine Ek [] 2 ?_;exact ef;have hm:=eG a9 hm;refine oZ fm 26 [ph _,ph (.bool (true)),ph _,ph _,ph _,ph _,ph _,ph _,ph _,ph _,ph _,ph _,ph _,ph _,ph _,ph _,ph _,ph _,ph _,ph _,ph _,ph _,ph _,ph _,ph _,ph _] ⟨qm,qn a9,qm,qm,qm,qm,qm,qm,qm,qm,qm,qm,qm,qm,qm,qm,qm,qm,qm,qm,qm,qm,qm,qm,qm,qm,Q3⟩ ?_;intro fk fl;refine dz ?_;refine qg ?_;refine cT G ?_;refine qs ?_;refine Ek [] 2 ?_;exact ef;refine cj [(0,_),(3,_),(18,_),(19,_),(20,_)] [0] 1 (wc a2 71 ((!decide (a1.A=0)) || (!decide (a1.B_=0)))) ?_ (λbl=>?_);rintro _ _ _ ⟨rfl,rfl,rfl⟩;refine cd hm G (λd2 hm=>?_) (λd2 hm=>?_)
 refine qs ?_;refine Ek [] 1 ?_;exact ef;refine qj ?_;exact kj (a7 _ _ _ pk);refine qg ?_;cases fn:(decide (a1.A=0));refine qj ?_;exact kx [0] 1 (bl _ _ _ pk) G kS;refine qj ?_;exact kx [0] 1 (bl _ _ _ pk) G kS;refine qs ?_;refine cd hm G (λd3 hm=>?_) (λd3 hm=>?_);refine qj ?_;exact kj (bh _ _ _ pk);refine qj ?_;exact kj (bh _ _ _ pk);refine qj ?_;exact kj (cm _ _ _ pk);refine qg ?_;cases fo:(decide (a1.Kind<0));refine qj ?_;exact kj (b8 _ _ _ pk) kS;refine qj ?_;exact kj (b8 _ _ _ pk) kS;refine qg ?_;cases fp:(decide (a1.Kind=2));refine qj ?_;exact kj (b7 _ _ _ pk) kS;refine qj ?_;exact kj (b7 _ _ _ pk) kS;obtain rfl:=fJ b6 aj;have hm:=(br _ _).symm.trans hm;refine q2 ?_;refine lr Y ?_;refine qg ?_;obtain ⟨fr,fs,bm,hm⟩:=aC hm;refine te bm ?_;obtain ⟨_,rfl,d4⟩:=(aa).elem bm;refine xH d4 ?_;refine qg ?_;refine cd hm G (λd5 hm=>?_) (λd5 hm=>?_);refine qs ?_
 refine Ek [] 1 ?_;exact ef;refine qs ?_;refine Ek [] 1 ?_;exact ef
theorem uF {a2:(List bA)}{v0:Q2}{r:Int} (hm:mE a2=some r) (I:aO H v0 a2):
  Cq B w0 46 [v0] H M (yQ r):=by
 unfold mE at hm;refine fF func46 ?_;refine g2 ?_;refine gs ?_;refine cd hm G (λa7 hm=>?_) (λa7 hm=>?_);refine gs ?_;exact ef;refine g2 ?_;obtain ⟨a4,J,O,hm⟩:=cR hm;refine cl [(9,_),(10,_)] [] 0 [] 0 (λu m n H' M' L'=>∃ (a0:Nat) (a1:List bA),(a2).drop a0=a1/\a1.length=n/\a4 a0 a1 ()=some r/\H.le H'/\m=M'/\(11,.int .i64 ((a0:Int)))::u=L') _ G ⟨0,_,G,G,hm,lE,G,G⟩ ?_;rintro _ ah _ _ ⟨a0,a1,a5,rfl,hm,ai,rfl,rfl⟩;refine g2 ?_;refine bE G (λa3=>?_) (λa3=>?_);obtain ⟨aj,Y,rfl,a6,ab⟩:=fK a5 a3;have hm:=(J _ _ _ _).symm.trans hm;generalize Z:a4 (a0+1) Y=ak at hm;unfold rf at hm;refine g2 ?_;obtain ⟨_,⟨am,rfl,an⟩,ao⟩:=(I).elem a6;refine go ?_;refine al (λap=>?_);refine wt 0 ?_;refine g2 ?_;obtain ⟨aq,ad,hm⟩:=aT hm;refine cz @mK ad ?_;refine go ?_;refine cd hm G (λae hm=>?_) (λae hm=>?_)
 refine gs ?_;refine Ek [] 1 ?_;exact ef;refine gs ?_;obtain ⟨ar,af,hm⟩:=aT hm;refine cz @wM af ?_;refine gs ?_;refine cd hm G (λag hm=>?_) (λag hm=>?_);refine gs ?_;refine Ek [] 1 ?_;exact ef;refine gt ?_;refine gj ?_;exact kx [] 1 (eb ab Z) G (kK (cA a6 I.mm.cZ));obtain rfl:=fJ a5 a3;have hm:=(O _ _).symm.trans hm;refine gs ?_;exact ef
theorem vy {a0:aF}{v0 v1 v2 v3 v4 v5:Q2}{r:(List Q1)} (hm:qi a0=some r) (h0:aO H v0 a0.bH) (h1:aO H v1 a0.aN) (h2:aO H v2 a0.aK) (h3:aO H v3 a0.dS) (h4:aO H v4 a0.bF) (h5:aO H v5 a0.bY):
  Cq B w0 16 [.agg [v0,v1,v2,v3,v4,v5].toArray] H M (PC r):=by
 unfold qi at hm;refine fF func16 ?_;refine gs ?_;refine bx (λam=>?_);refine g2 ?_;refine gs ?_;refine jP 9 (aG.sz Q1) ?_;obtain ⟨I,O,ab,hm⟩:=cR hm;refine cl [(7,_),(8,_)] [] 2 [0] 1 (λu m n H' M' L'=>∃ (a2:Nat) (a4:List aH),∃ a3:List Q1,∃ a5:Q2,∃ a6:List Q2,(a0.bF).drop a2=a4/\a4.length=n/\I a2 a4 a3=some r/\Rw H' a5 a6 a3/\H.le H'/\.row a5 9 (aG.sz Q1) a3.length a6::m=M'/\(3,a5)::(9,.int .i64 ((a2:Int)))::u=L') _ G ⟨0,_,_,_,_,G,G,hm,Rw.nil,lE,G,G⟩ ?_;rintro _ an _ _ ⟨a2,a4,a3,a5,a6,J,rfl,hm,Y,ao,rfl,rfl⟩;refine g2 ?_;refine bE G (λa7=>?_) (λa7=>?_);obtain ⟨a1,ad,rfl,Z,af⟩:=fK J a7;have hm:=(O _ _ _ _).symm.trans hm;generalize ag:I (a2+1) ad=ap at hm;unfold uz at hm;refine g2 ?_;refine al (λaq=>?_);refine wt 0 ?_;refine go ?_;refine c_ (α:=Q1) (css:=[[.string (a1.Name)]]) (zs:=[.string (⟨#[]⟩)]) (out:=[.string (a1.Name)]) (ys:=[a1.Name]) G G G ⟨G,Q3⟩ R9 S1 G Tc (by kernel_rfl) G G G G ⟨[.string (a1.Name)],[],G,G,G⟩ G ?_
 intro ar ah au ai av aj;have aw:Value.ob ah=([a1.Name]).length:=by rw [ai]; rfl
 obtain ⟨ak,hm⟩:=aI hm;refine Wp [1] ?_;refine cW (α:=Q1) (l:=a3) (ys:=[a1.Name]) G G Tt ⟨_,G,G,G,G⟩ G G G G G Y.mm aj ak ?_;intro ax ay az;refine gt ?_;refine gj ?_;exact kx [0] 1 (eb af ag) G (kK (cA Z h4.mm.cZ));obtain rfl:=fJ J a7;have hm:=(ab _ _).symm.trans hm;refine gs ?_;exact ef
theorem yN {a0:aH}{a1:Q1}{b0:Nat}{r:Bool} (hm:oS a0 a1=r):
  Cq B w0 117 [.agg [.string (a0.Name),.string (a0.Node),.int .i64 (a0.dA)].toArray,.pointer (some ⟨b0,0,none⟩)] H (.obj b0 (.cells ([.string (a1)]:List Q2).toArray 9 (0,0))::M) (λH _=>PN b0 a1 r H M):=by
 unfold oS at hm;refine fF func117 ?_;refine gs ?_;refine bx (λa2=>?_);refine gs ?_;obtain rfl:=hm;refine Ek [1] 1 ?_;refine Ew H ?_;exact lL G G ⟨G,G,G⟩
theorem mC {a3:(List aH)}{a1:Q1}{v0:Q2}{b0:Nat}{r:Int} (hm:cO a3 a1=some r) (h0:aO H v0 a3):
  Cq B w0 61 [v0,.func (.func 117) [].toArray [.pointer (some ⟨b0,0,none⟩)].toArray] H (.obj b0 (.cells ([.string (a1)]:List Q2).toArray 9 (0,0))::M) (λH _=>Qg b0 a1 r H M):=by
 unfold cO at hm;refine fF func61 ?_;refine g2 ?_;refine gs ?_;obtain ⟨a5,a7,I,hm⟩:=iI hm;refine cl [(0,_),(1,_),(7,_)] [] 0 [] 0 (FW (((a3.length:Int):Int).toNat) a5 r H 8) _ G ⟨0,_,Rv _,G,hm,lE,G,G⟩ ?_;rintro _ af _ _ ⟨a0,a2,a6,rfl,hm,ag,rfl,rfl⟩;refine g2 ?_;refine bE G (λa4=>?_) (λa4=>?_);obtain ⟨J,rfl,O,ab⟩:=lu a6 a4;have hm:=(a7 _ _ _).symm.trans hm;generalize Y:a5 J (a0+1)=ah at hm;unfold dH at hm;refine g2 ?_;refine gs ?_;obtain ⟨ad,ai,aj,hm⟩:=aC hm;refine go ?_;refine n7 call117 G G G G (λw ht=>(yN (hm:=(G:oS ad a1=_))  ht :)) ?_;rintro _ _ _ ⟨rfl,rfl,rfl⟩;refine go ?_;refine cd hm G (λZ hm=>?_) (λZ hm=>?_);refine gs ?_;exact ef;refine gt ?_;refine gj ?_;exact kj (eb O Y) (kK (eI ab (eL (kW (h0).cZ))));obtain rfl:=lq a6 a4;have hm:=(I _ _).symm.trans hm;refine gs ?_;exact ef
theorem mf {a1:(List aH)}{a0:Q1}{v0:Q2}{b0:Nat}{r:Bool} (hm:cJ a1 a0=some r) (I:aO H v0 a1):
  Cq B w0 116 [v0,.func (.func 117) [].toArray [.pointer (some ⟨b0,0,none⟩)].toArray] H (.obj b0 (.cells ([.string (a0)]:List Q2).toArray 9 (0,0))::M) (λH _=>PN b0 a0 r H M):=by
 unfold cJ at hm;refine fF func116 ?_;refine g2 ?_;obtain ⟨a3,a2,hm⟩:=aT hm;refine cz @mC a2 ?_;refine go ?_;exact ef
theorem vW {a0:aF}{on:(List Q1)}{v0 v1 v2 v3 v4 v5 v6:Q2}{r:Int} (hm:d_ a0 on=some r) (h0:aO H v0 a0.bH) (h1:aO H v1 a0.aN) (h2:aO H v2 a0.aK) (h3:aO H v3 a0.dS) (h4:aO H v4 a0.bF) (h5:aO H v5 a0.bY) (I:aO H v6 on):
  Cq B w0 87 [.agg [v0,v1,v2,v3,v4,v5].toArray,v6] H M (yQ r):=by
 unfold d_ at hm;refine fF func87 ?_;refine gs ?_;refine bx (λak=>?_);refine g2 ?_;obtain ⟨am,O,hm⟩:=aT hm;refine cz @l9 O ?_;refine gs ?_;refine cd hm G (λY hm=>?_) (λY hm=>?_);refine gs ?_;refine Ek [] 1 ?_;exact ef;refine g2 ?_;obtain ⟨a5,Z,ab,hm⟩:=cR hm;refine cl [(1,_),(2,_),(13,_),(14,_)] [] 0 [] 0 (Qf on a5 r H 15) _ G ⟨0,_,G,G,hm,lE,G,G⟩ ?_;rintro _ an _ _ ⟨a1,a3,a6,rfl,hm,ao,rfl,rfl⟩;refine g2 ?_;refine bE G (λa4=>?_) (λa4=>?_);obtain ⟨ap,ac,rfl,ad,ae⟩:=fK a6 a4;have hm:=(Z _ _ _ _).symm.trans hm;generalize af:a5 (a1+1) ac=aq at hm;unfold qb at hm;refine g2 ?_;refine al (λar=>?_);refine go ?_;refine wt 0 ?_;refine gs ?_;obtain ⟨au,ag,hm⟩:=aT hm;refine cz @mf ag ?_;refine go ?_;refine cd hm G (λah hm=>?_) (λah hm=>?_);refine gs ?_;refine Ek [] 2 ?_;exact ef;refine gs ?_;obtain ⟨av,hm⟩:=aI hm
 refine oZ fm 4 [ph _,ph _,(λH rs v=>∃ a2:Q2,[]=rs/\a2=v/\aO H a2 (sJ on 0 (((a1:Int):Int).toNat))),ph _] ⟨om,om,?_,om,Q3⟩ ?_;rintro HX hX X Rest hR _ _ ⟨rfl,rfl⟩ _ _ ⟨rfl,rfl⟩ hU hUp;refine u9 (α:=Q1) (l:=0) (h:=((a1:Int):Int).toNat) (xs:=on) G G R9 S1 G I.mm (by omega) (by omega) (.inl G) (λcap J=>by rw [Rb G]; exact (.inl ⟨G,G⟩)) (λm hmm=>(.inr ⟨_,_,_,G,G,by omega,by omega,G⟩)) (.inl ⟨G,G⟩) ?_
 intro a2 a7 aw;exact o0 ⟨a2,G,G,(a7)⟩;intro ax ay;refine dr ?_;rintro _ _ ⟨a2,rfl,rfl,a7⟩;refine dz ?_;obtain ⟨az,ai,hm⟩:=aT hm;refine cz @cG ai ?_;refine go ?_;refine cd hm G (λaj hm=>?_) (λaj hm=>?_);refine gs ?_;refine Ek [] 2 ?_;exact ef;refine gt ?_;refine gj ?_;exact kx [1] 1 (eb ae af) G (kK (cA ad I.mm.cZ));obtain rfl:=fJ a6 a4;have hm:=(ab _ _).symm.trans hm;refine gs ?_;refine Ek [] 1 ?_;exact ef
theorem As {B:Nat}{w0 w:World}{H:Hp}{M:List bQ}{s:List Q1}{v0:Q2} (I:aO H v0 s) (Z:s.length*16<=140737488355328) (ht:St B w0 H M w):
  Calls prog 30 [v0].toArray w (uC B w0 (PC s H M)):=by
 refine enter func30 G G G ht ?_;obtain ⟨o,n,c,rfl⟩:=I.shape;refine bI ?_;refine aL (aJ G G G ?_);refine aZ (aQ ?_);refine bI ?_;refine bI ?_;refine aL (bV G G G (sd G G R9 G G ?_));refine aZ (aQ ?_);cases o with
 | none=>
  refine bE (b:=true) G (λ_=>?_) (λJ=>Bool.noConfusion J);obtain rfl:=I.isNil;refine bI ?_;refine aL (aJ G G G ?_);refine aZ (aQ ?_);refine mj (iW ?_);refine bW 9 (aG.sz Q1) ?_;exact lL G G ⟨G,.slice none 0 0,[],G,G,(Rw.nil (H:=H)).pE⟩
 | some a=>
  refine bE (b:=false) G (λJ=>Bool.noConfusion J) (λ_=>?_);refine ml (aQ ?_);refine bI ?_;refine aL (qu Q1 G G R9 S1 ?_);intro v1 yX O;refine bV G G G (cW (α:=Q1) (l:=[]) (ys:=s) (bytes:=16) G G Tt ⟨_,G,G,G,G⟩ G G G G G O I (by simpa using Z) ?_)
  intro v2 tP Y;refine aJ G G G ?_;refine aZ (aQ ?_);refine mj ?_;exact lL G G ⟨G,v2,tP,G,G,Y.pE⟩
theorem Iv {B:Nat}{w0 w:World}{H:Hp}{M:List bQ}{s:List a_}{v0:Q2} (J:aO H v0 s) (hz:s.length*56<=140737488355328) (ht:St B w0 H M w):
  Calls prog 47 [v0].toArray w (uC B w0 λH' M' v=>H=H'/\∃ (v':Q2) (I:List Q2),.row v' 111 (aG.sz a_) s.length I::M=M'/\v'=v/\uq v' I s):=by
 refine enter func47 G G G ht ?_;obtain ⟨o,n,c,rfl⟩:=J.shape;refine bI ?_;refine aL (aJ G G G ?_);refine aZ (aQ ?_);refine bI ?_;refine bI ?_;refine aL (bV G G G (sd G G runUnderlying23 G G ?_));refine aZ (aQ ?_);cases o with
 | none=>
  refine bE (b:=true) G (λ_=>?_) (λO=>Bool.noConfusion O);obtain rfl:=J.isNil;refine bI ?_;refine aL (aJ G G G ?_);refine aZ (aQ ?_);refine mj (iW ?_);refine bW 111 (aG.sz a_) ?_;exact lL G G ⟨G,.slice none 0 0,[],G,G,(Rw.nil (H:=H)).pE⟩
 | some a=>
  refine bE (b:=false) G (λO=>Bool.noConfusion O) (λ_=>?_);refine ml (aQ ?_);refine bI ?_;refine aL (qu a_ G G runUnderlying23 sizeOf111 ?_);intro v1 yX Y;refine bV G G G (cW (α:=a_) (l:=[]) (ys:=s) (bytes:=56) G G underlying23 ⟨_,G,G,G,G⟩ G G G G G Y J (by simpa using hz) ?_)
  intro v2 tP Z;refine aJ G G G ?_;refine aZ (aQ ?_);refine mj ?_;exact lL G G ⟨G,v2,tP,G,G,Z.pE⟩
theorem Iw {B:Nat}{w0 w:World}{H:Hp}{M:List bQ}{s:List aR}{v0:Q2} (J:aO H v0 s) (hz:s.length*96<=140737488355328) (ht:St B w0 H M w):
  Calls prog 48 [v0].toArray w (uC B w0 λH' M' v=>H=H'/\∃ (v':Q2) (I:List Q2),.row v' 114 (aG.sz aR) s.length I::M=M'/\v'=v/\uq v' I s):=by
 refine enter func48 G G G ht ?_;obtain ⟨o,n,c,rfl⟩:=J.shape;refine bI ?_;refine aL (aJ G G G ?_);refine aZ (aQ ?_);refine bI ?_;refine bI ?_;refine aL (bV G G G (sd G G runUnderlying24 G G ?_));refine aZ (aQ ?_);cases o with
 | none=>
  refine bE (b:=true) G (λ_=>?_) (λO=>Bool.noConfusion O);obtain rfl:=J.isNil;refine bI ?_;refine aL (aJ G G G ?_);refine aZ (aQ ?_);refine mj (iW ?_);refine bW 114 (aG.sz aR) ?_;exact lL G G ⟨G,.slice none 0 0,[],G,G,(Rw.nil (H:=H)).pE⟩
 | some a=>
  refine bE (b:=false) G (λO=>Bool.noConfusion O) (λ_=>?_);refine ml (aQ ?_);refine bI ?_;refine aL (qu aR G G runUnderlying24 sizeOf114 ?_);intro v1 yX Y;refine bV G G G (cW (α:=aR) (l:=[]) (ys:=s) (bytes:=96) G G underlying24 ⟨_,G,G,G,G⟩ G G G G G Y J (by simpa using hz) ?_)
  intro v2 tP Z;refine aJ G G G ?_;refine aZ (aQ ?_);refine mj ?_;exact lL G G ⟨G,v2,tP,G,G,Z.pE⟩
theorem Iy {B:Nat}{w0 w:World}{H:Hp}{M:List bQ}{s:List bK}{v0:Q2} (J:aO H v0 s) (hz:s.length*56<=140737488355328) (ht:St B w0 H M w):
  Calls prog 49 [v0].toArray w (uC B w0 λH' M' v=>H=H'/\∃ (v':Q2) (I:List Q2),.row v' 117 (aG.sz bK) s.length I::M=M'/\v'=v/\uq v' I s):=by
 refine enter func49 G G G ht ?_;obtain ⟨o,n,c,rfl⟩:=J.shape;refine bI ?_;refine aL (aJ G G G ?_);refine aZ (aQ ?_);refine bI ?_;refine bI ?_;refine aL (bV G G G (sd G G VB G G ?_));refine aZ (aQ ?_);cases o with
 | none=>
  refine bE (b:=true) G (λ_=>?_) (λO=>Bool.noConfusion O);obtain rfl:=J.isNil;refine bI ?_;refine aL (aJ G G G ?_);refine aZ (aQ ?_);refine mj (iW ?_);refine bW 117 (aG.sz bK) ?_;exact lL G G ⟨G,.slice none 0 0,[],G,G,(Rw.nil (H:=H)).pE⟩
 | some a=>
  refine bE (b:=false) G (λO=>Bool.noConfusion O) (λ_=>?_);refine ml (aQ ?_);refine bI ?_;refine aL (qu bK G G VB sizeOf117 ?_);intro v1 yX Y;refine bV G G G (cW (α:=bK) (l:=[]) (ys:=s) (bytes:=56) G G underlying25 ⟨_,G,G,G,G⟩ G G G G G Y J (by simpa using hz) ?_)
  intro v2 tP Z;refine aJ G G G ?_;refine aZ (aQ ?_);refine mj ?_;exact lL G G ⟨G,v2,tP,G,G,Z.pE⟩
theorem Iz {B:Nat}{w0 w:World}{H:Hp}{M:List bQ}{s:List aH}{v0:Q2} (J:aO H v0 s) (hz:s.length*40<=140737488355328) (ht:St B w0 H M w):
  Calls prog 50 [v0].toArray w (uC B w0 λH' M' v=>H=H'/\∃ (v':Q2) (I:List Q2),.row v' 120 (aG.sz aH) s.length I::M=M'/\v'=v/\uq v' I s):=by
 refine enter func50 G G G ht ?_;obtain ⟨o,n,c,rfl⟩:=J.shape;refine bI ?_;refine aL (aJ G G G ?_);refine aZ (aQ ?_);refine bI ?_;refine bI ?_;refine aL (bV G G G (sd G G UB G G ?_));refine aZ (aQ ?_);cases o with
 | none=>
  refine bE (b:=true) G (λ_=>?_) (λO=>Bool.noConfusion O);obtain rfl:=J.isNil;refine bI ?_;refine aL (aJ G G G ?_);refine aZ (aQ ?_);refine mj (iW ?_);refine bW 120 (aG.sz aH) ?_;exact lL G G ⟨G,.slice none 0 0,[],G,G,(Rw.nil (H:=H)).pE⟩
 | some a=>
  refine bE (b:=false) G (λO=>Bool.noConfusion O) (λ_=>?_);refine ml (aQ ?_);refine bI ?_;refine aL (qu aH G G UB sizeOf120 ?_);intro v1 yX Y;refine bV G G G (cW (α:=aH) (l:=[]) (ys:=s) (bytes:=40) G G underlying26 ⟨_,G,G,G,G⟩ G G G G G Y J (by simpa using hz) ?_)
  intro v2 tP Z;refine aJ G G G ?_;refine aZ (aQ ?_);refine mj ?_;exact lL G G ⟨G,v2,tP,G,G,Z.pE⟩
theorem IA {B:Nat}{w0 w:World}{H:Hp}{M:List bQ}{s:List cL}{v0:Q2} (J:aO H v0 s) (hz:s.length*56<=140737488355328) (ht:St B w0 H M w):
  Calls prog 51 [v0].toArray w (uC B w0 λH' M' v=>H=H'/\∃ (v':Q2) (I:List Q2),.row v' 123 (aG.sz cL) s.length I::M=M'/\v'=v/\uq v' I s):=by
 refine enter func51 G G G ht ?_;obtain ⟨o,n,c,rfl⟩:=J.shape;refine bI ?_;refine aL (aJ G G G ?_);refine aZ (aQ ?_);refine bI ?_;refine bI ?_;refine aL (bV G G G (sd G G runUnderlying27 G G ?_));refine aZ (aQ ?_);cases o with
 | none=>
  refine bE (b:=true) G (λ_=>?_) (λO=>Bool.noConfusion O);obtain rfl:=J.isNil;refine bI ?_;refine aL (aJ G G G ?_);refine aZ (aQ ?_);refine mj (iW ?_);refine bW 123 (aG.sz cL) ?_;exact lL G G ⟨G,.slice none 0 0,[],G,G,(Rw.nil (H:=H)).pE⟩
 | some a=>
  refine bE (b:=false) G (λO=>Bool.noConfusion O) (λ_=>?_);refine ml (aQ ?_);refine bI ?_;refine aL (qu cL G G runUnderlying27 sizeOf123 ?_);intro v1 yX Y;refine bV G G G (cW (α:=cL) (l:=[]) (ys:=s) (bytes:=56) G G underlying27 ⟨_,G,G,G,G⟩ G G G G G Y J (by simpa using hz) ?_)
  intro v2 tP Z;refine aJ G G G ?_;refine aZ (aQ ?_);refine mj ?_;exact lL G G ⟨G,v2,tP,G,G,Z.pE⟩
theorem qX {a0:aF}{v0 v1 v2 v3 v4 v5:Q2}{r:aF} (hm:kC a0=some r) (h0:aO H v0 a0.bH) (h1:aO H v1 a0.aN) (h2:aO H v2 a0.aK) (h3:aO H v3 a0.dS) (h4:aO H v4 a0.bF) (h5:aO H v5 a0.bY):
  Cq B w0 14 [.agg [v0,v1,v2,v3,v4,v5].toArray] H M (Ou r):=by
 unfold kC at hm;refine fF func14 ?_;refine gs ?_;refine bx (λau=>?_);refine al (λav=>?_);refine gs ?_;obtain ⟨ai,hm⟩:=aI hm;obtain ⟨aj,hm⟩:=aI hm;obtain ⟨ak,hm⟩:=aI hm;obtain ⟨am,hm⟩:=aI hm;obtain ⟨an,hm⟩:=aI hm;refine oZ fm 17 [ph _,ph _,(Na a0.bH),ph _,ph _,(λH rs v=>∃ a2:Q2,∃ a7:List Q2,[.row a2 111 (aG.sz a_) a0.aN.length a7]=rs/\a2=v/\Rw H a2 a7 a0.aN),ph _,ph _,(λH rs v=>∃ a3:Q2,∃ O:List Q2,[.row a3 114 (aG.sz aR) a0.aK.length O]=rs/\a3=v/\Rw H a3 O a0.aK),ph _,ph _,(λH rs v=>∃ a4:Q2,∃ Y:List Q2,[.row a4 117 (aG.sz bK) a0.dS.length Y]=rs/\a4=v/\Rw H a4 Y a0.dS),ph _,ph _,(λH rs v=>∃ a5:Q2,∃ Z:List Q2,[.row a5 120 (aG.sz aH) a0.bF.length Z]=rs/\a5=v/\Rw H a5 Z a0.bF),ph _,ph _] ⟨om,om,?_,om,om,?_,om,om,?_,om,om,?_,om,om,?_,om,om,Q3⟩ ?_
 rintro I hX X Rest hR _ _ ⟨rfl,rfl⟩ hU J;refine fQ call30 G G G (λw ht=>(As (s:=a0.bH) h0.mm ai ht :)) ?_;rintro _ _ _ ⟨rfl,a1,a6,rfl,rfl,ab⟩;have ab:=ab I;exact oe [.row a1 9 (aG.sz Q1) a0.bH.length a6] lE ⟨a1,a6,G,G,(ab)⟩;rintro I hX X Rest hR _ _ ⟨rfl,rfl⟩ _ _ ⟨a1,a6,rfl,rfl,ab⟩ hU J;refine fQ call47 G G G (λw ht=>(Iv (s:=a0.aN) h1.mm aj ht :)) ?_;rintro _ _ _ ⟨rfl,a2,a7,rfl,rfl,ac⟩;have ac:=ac I;exact oe [.row a2 111 (aG.sz a_) a0.aN.length a7] lE ⟨a2,a7,G,G,(ac)⟩;rintro I hX X Rest hR _ _ ⟨rfl,rfl⟩ _ _ ⟨a2,a7,rfl,rfl,ac⟩ hU J;refine fQ call48 G G G (λw ht=>(Iw (s:=a0.aK) h2.mm ak ht :)) ?_;rintro _ _ _ ⟨rfl,a3,O,rfl,rfl,ad⟩;have ad:=ad I;exact oe [.row a3 114 (aG.sz aR) a0.aK.length O] lE ⟨a3,O,G,G,(ad)⟩;rintro I hX X Rest hR _ _ ⟨rfl,rfl⟩ _ _ ⟨a3,O,rfl,rfl,ad⟩ hU J;refine fQ call49 G G G (λw ht=>(Iy (s:=a0.dS) h3.mm am ht :)) ?_
 rintro _ _ _ ⟨rfl,a4,Y,rfl,rfl,ae⟩;have ae:=ae I;exact oe [.row a4 117 (aG.sz bK) a0.dS.length Y] lE ⟨a4,Y,G,G,(ae)⟩;rintro I hX X Rest hR _ _ ⟨rfl,rfl⟩ _ _ ⟨a4,Y,rfl,rfl,ae⟩ hU J;refine fQ call50 G G G (λw ht=>(Iz (s:=a0.bF) h4.mm an ht :)) ?_;rintro _ _ _ ⟨rfl,a5,Z,rfl,rfl,af⟩;have af:=af I;exact oe [.row a5 120 (aG.sz aH) a0.bF.length Z] lE ⟨a5,Z,G,G,(af)⟩;intro ao ap;refine dr ?_;rintro _ _ ⟨a1,a6,rfl,rfl,ab⟩;refine dr ?_;rintro _ _ ⟨a2,a7,rfl,rfl,ac⟩;refine dr ?_;rintro _ _ ⟨a3,O,rfl,rfl,ad⟩;refine dr ?_;rintro _ _ ⟨a4,Y,rfl,rfl,ae⟩;refine dr ?_;rintro _ _ ⟨a5,Z,rfl,rfl,af⟩;refine dz ?_;refine Wp [0,0,0,0,0,0,0] ?_;obtain ⟨aq,hm⟩:=aI hm;refine fQ call51 G G G (λw ht=>(IA (s:=a0.bY) h5.mm aq ht :)) ?_;rintro _ _ _ ⟨rfl,ah,ar,rfl,rfl,ag⟩;have ag:=ag ao;refine cU (css:=[[a1],[a2],[a3],[a4],[a5],[ah]]) (zs:=[.slice none 0 0,.slice none 0 0,.slice none 0 0,.slice none 0 0,.slice none 0 0,.slice none 0 0]) (out:=[a1,a2,a3,a4,a5,ah]) (places:=[(0,1),(1,1),(2,1),(3,1),(4,1),(5,1)]) G G G ⟨(Rw.cells ab),(Rw.cells ac),(Rw.cells ad),(Rw.cells ae),(Rw.cells af),(Rw.cells ag),Q3⟩ zeroValue29 G VC (λw=>by kernel_rfl) G ?_
 refine wt 6 ?_;refine go ?_;obtain rfl:=Q8 hm;exact kD ap G (eM.agg G UW UF (.head _) G) (.cons _ (.cons_cons _ (.cons_cons _ (.cons_cons _ (.cons_cons _ (.cons_cons _ (.cons_cons _ (.cons _ (.refl _))))))))) (.trans (.swap _ _ _) (.trans (.cons _ (.swap _ _ _)) (.trans (.cons _ (.cons _ (.swap _ _ _))) (.trans (.cons _ (.cons _ (.cons _ (.swap _ _ _)))) (.cons _ (.cons _ (.cons _ (.cons _ (.swap _ _ _))))))))) ⟨G,a1,a6,a2,a7,a3,O,a4,Y,a5,Z,ah,ar,G,G,(ab).pE,(ac).pE,(ad).pE,(ae).pE,(af).pE,(ag).pE⟩
theorem vw {a0:aH}{a1:(List Q1)}{b0:Nat}{v0:Q2}{r:Bool} (hm:mc a0 a1=some r) (I:aO H v0 a1):
  Cq B w0 119 [.agg [.string (a0.Name),.string (a0.Node),.int .i64 (a0.dA)].toArray,.pointer (some ⟨b0,0,none⟩)] H (.obj b0 (.cells [v0].toArray 22 (0,0))::M) (λH _=>Nc b0 v0 r H M):=by
 unfold mc at hm;refine fF func119 ?_;refine gs ?_;refine bx (λa3=>?_);refine gs ?_;obtain ⟨a4,a2,hm⟩:=aT hm;refine cz @cG a2 ?_;refine go ?_;refine Ek [1] 1 ?_;exact ef
theorem mT {a2:(List aH)}{a4:(List Q1)}{v0:Q2}{b0:Nat}{v1:Q2}{r:Int} (hm:eR a2 a4=some r) (h0:aO H v0 a2) (h1:aO H v1 a4):
  Cq B w0 61 [v0,.func (.func 119) [].toArray [.pointer (some ⟨b0,0,none⟩)].toArray] H (.obj b0 (.cells [v1].toArray 22 (0,0))::M) (λH _=>Nd b0 v1 r H M):=by
 unfold eR at hm;refine fF func61 ?_;refine g2 ?_;refine gs ?_;obtain ⟨a5,a7,I,hm⟩:=iI hm;refine cl [(0,_),(1,_),(7,_)] [] 0 [] 0 (FW (((a2.length:Int):Int).toNat) a5 r H 8) _ G ⟨0,_,Rv _,G,hm,lE,G,G⟩ ?_;rintro _ af _ _ ⟨a0,a1,a6,rfl,hm,ag,rfl,rfl⟩;refine g2 ?_;refine bE G (λa3=>?_) (λa3=>?_);obtain ⟨J,rfl,O,ab⟩:=lu a6 a3;have hm:=(a7 _ _ _).symm.trans hm;generalize Y:a5 J (a0+1)=ah at hm;unfold gT at hm;refine g2 ?_;refine gs ?_;obtain ⟨ai,aj,ak,hm⟩:=aC hm;refine go ?_;obtain ⟨am,ad,hm⟩:=aT hm;refine n7 call119 G G G G (λw ht=>(vw (hm:=ad) h1.mm ht :)) ?_;rintro _ _ _ ⟨rfl,rfl,rfl⟩;refine go ?_;refine cd hm G (λZ hm=>?_) (λZ hm=>?_);refine gs ?_;exact ef;refine gt ?_;refine gj ?_;exact kj (eb O Y) (kK (eI ab (eL (kW (h0).cZ))));obtain rfl:=lq a6 a3;have hm:=(I _ _).symm.trans hm;refine gs ?_
 exact ef
theorem mz {a4:(List aH)}{I:(List Q1)}{v0:Q2}{tn:List Q2}{b0:Nat}{v1:Q2}{r:(List aH)} (hm:dQ a4 I=some r) (h0:Rw H v0 tn a4) (h1:aO H v1 I):
  Cq B w0 118 [v0,.func (.func 119) [].toArray [.pointer (some ⟨b0,0,none⟩)].toArray] H (.row v0 120 (aG.sz aH) a4.length tn::.obj b0 (.cells [v1].toArray 22 (0,0))::M) (λH _ H' M' v=>H=H'/\∃ O:Q2,∃ J:List Q2,.row O 120 (aG.sz aH) r.length J::.obj b0 (.cells [v1].toArray 22 (0,0))::M=M'/\O=v/\uq O J r):=by
 unfold dQ at hm;refine fF func118 ?_;refine g2 ?_;obtain ⟨aq,ab,hm⟩:=aT hm;refine cy @mT ab ?_;rintro _ _ _ ⟨rfl,⟨_,rfl,rfl,rfl⟩⟩;refine g2 ?_;refine cd hm G (λac hm=>?_) (λac hm=>?_);refine gs ?_;exact ef;refine g2 ?_;obtain ⟨Z,ad,ae,hm⟩:=iZ hm;refine cl [(0,_),(1,_)] [1] 1 [] 0 (λu m n H' M' L'=>∃ a0:List aH,∃ a1 a2:Int,∃ a5:List Q2,Z n (a0,a1,a2)=some r/\Rw H' v0 a5 a0/\H.le H'/\.row v0 120 (aG.sz aH) a0.length a5::m=M'/\(5,.int .i64 (a1))::(6,.int .i64 (a2))::u=L') eY G ⟨_,_,_,_,hm,h0,lE,G,G⟩ ?_;rintro a6 af _ _ ⟨a0,a1,a2,a5,hm,ag,ar,rfl,rfl⟩
 rcases a6 with _ | a6
 exact nomatch (ae _).symm.trans hm;have hm:=(ad _ _).symm.trans hm;generalize ah:Z a6=ai at hm
 try dsimp only at hm
 unfold gM at hm;refine g2 ?_;refine cd hm G (λaj hm=>?_) (λaj hm=>?_);refine go ?_;refine cj [(0,_),(1,_),(6,_)] [1] 1 (λu m H' M' L'=>∃ a3:List aH,∃ a7:Int,∃ Y:List Q2,dF a2 ai a3 a7=some r/\Rw H' v0 Y a3/\af=H'/\.row v0 120 (aG.sz aH) a3.length Y::m=M'/\(5,.int .i64 (a7))::u=L') ?_ (λaa=>?_);rintro _ _ _ ⟨a3,a7,Y,hm,au,rfl,rfl,rfl⟩;unfold dF at hm;refine gj ?_;exact kj (CX ah);refine gs ?_;obtain ⟨ak,av,aw,hm⟩:=aC hm;refine go ?_;refine al (λax=>?_);refine wt 0 ?_;refine gs ?_;refine Wp [2] ?_;obtain ⟨ay,am,hm⟩:=aT hm;refine n7 call119 G G G G (λw ht=>(vw (hm:=am) h1.mm ht :)) ?_;rintro _ _ _ ⟨rfl,rfl,rfl⟩;refine go ?_;refine cd hm G (λan hm=>?_) (λan hm=>?_);refine gs ?_;obtain ⟨az,b1,b2,hm⟩:=aC hm;refine go ?_;refine wF 2 0 ak ?_;intro b3 b4 b5;refine aZ (aQ ?_);refine gj ?_;exact kx [0,0] 1 (aa _ _ _ pk)
 refine gj ?_;exact kx [2,0] 1 (aa _ _ _ pk);refine gs ?_;obtain ⟨ao,hm⟩:=aI hm;refine tZ (α:=aH) (zs:=[.string (⟨#[]⟩),.string (⟨#[]⟩),.int .i64 (0)]) (ze:=(aH.mk (⟨#[]⟩) (⟨#[]⟩) 0)) G G (λ_=>G) underlying26 UB sizeOf120 zeroValue120 G G G G G G ag ao ?_;intro b6 b7 ap;refine gs ?_;obtain ⟨b8,hm⟩:=aI hm;refine t_ (α:=aH) (l:=0) (h:=(a1:Int).toNat) G G UB sizeOf120 G G ap (by omega) (by omega) (λm hmm=>(.inr ⟨_,_,_,G,G,by omega,by omega,G⟩)) (.inl ⟨G,G⟩) ?_
 intro b9 ba bb;refine go ?_;exact ef
theorem wQ {a0:aF}{on:(List Q1)}{v0 v1 v2 v3 v4 v5 v6:Q2}{r:aF} (hm:pA a0 on=some r) (h0:aO H v0 a0.bH) (h1:aO H v1 a0.aN) (h2:aO H v2 a0.aK) (h3:aO H v3 a0.dS) (h4:aO H v4 a0.bF) (h5:aO H v5 a0.bY) (h6:aO H v6 on):
  Cq B w0 88 [.agg [v0,v1,v2,v3,v4,v5].toArray,v6] H M (Ou r):=by
 unfold pA at hm;refine fF func88 ?_;refine gs ?_;refine bx (λan=>?_);refine bx (λao=>?_);refine al (λap=>?_);refine gs ?_;obtain ⟨aq,I,hm⟩:=aT hm;refine ca @qX I ?_;rintro _ _ _ ⟨rfl,J,O,ab,Y,ad,Z,af,ag,ar,au,ah,ai,rfl,rfl,a1,a2,a3,a4,a7,a5⟩;have a1:=a1 H;have a2:=a2 H;have a3:=a3 H;have a4:=a4 H;have a7:=a7 H;have a5:=a5 H;refine al (λav=>?_);refine wt 0 ?_;refine gs ?_;refine Wp [5,7] ?_;obtain ⟨aw,aj,hm⟩:=aT hm;refine ca @mz aj ?_;rintro _ _ _ ⟨rfl,ak,am,rfl,rfl,a6⟩;have a6:=a6 H;refine go ?_;refine wt 2 ?_;refine gs ?_;refine wt 8 ?_;refine go ?_;obtain rfl:=Q8 hm;exact kD lE G (eM.agg G UW UF (.head _) G) (.cons _ (.cons _ (.cons_cons _ (.cons _ (.cons_cons _ (.cons_cons _ (.cons_cons _ (.cons_cons _ (.cons_cons _ (.cons _ (.refl _))))))))))) (.trans (.swap _ _ _) (.trans (.cons _ (.swap _ _ _)) (.trans (.cons _ (.cons _ (.swap _ _ _))) (.cons _ (.cons _ (.cons _ (.swap _ _ _))))))) ⟨G,J,O,ab,Y,ad,Z,af,ag,ak,am,ah,ai,G,G,(a1).pE,(a2).pE,(a3).pE,(a4).pE,(a6).pE,(a5).pE⟩
theorem AB {a0:aF}{on:(List Q1)}{v0 v1 v2 v3 v4 v5 v6:Q2}{r:aF×Int} (hm:nW a0 on=some r) (h0:aO H v0 a0.bH) (h1:aO H v1 a0.aN) (h2:aO H v2 a0.aK) (h3:aO H v3 a0.dS) (h4:aO H v4 a0.bF) (h5:aO H v5 a0.bY) (h6:aO H v6 on):
  Cq B w0 53 [.agg [v0,v1,v2,v3,v4,v5].toArray,v6] H M (λH M H' M' v=>H=H'/\∃ qv0:Q2,∃ I:List Q2,∃ qv1:Q2,∃ J:List Q2,∃ qv2:Q2,∃ O:List Q2,∃ qv3:Q2,∃ Y:List Q2,∃ qv4:Q2,∃ Z:List Q2,∃ qv5:Q2,∃ qxs5:List Q2,.row qv0 9 (aG.sz Q1) r.1.bH.length I::.row qv1 111 (aG.sz a_) r.1.aN.length J::.row qv2 114 (aG.sz aR) r.1.aK.length O::.row qv3 117 (aG.sz bK) r.1.dS.length Y::.row qv4 120 (aG.sz aH) r.1.bF.length Z::.row qv5 123 (aG.sz cL) r.1.bY.length qxs5::M=M'/\.tuple #[.agg [qv0,qv1,qv2,qv3,qv4,qv5].toArray,.int .i64 (r.2)]=v/\uq qv0 I r.1.bH/\uq qv1 J r.1.aN/\uq qv2 O r.1.aK/\uq qv3 Y r.1.dS/\uq qv4 Z r.1.bF/\uq qv5 qxs5 r.1.bY):=by
 unfold nW at hm;refine fF func53 ?_;refine gs ?_;refine bx (λan=>?_);refine al (λao=>?_);refine g2 ?_;obtain ⟨ap,a7,hm⟩:=aT hm;refine cz @vW a7 ?_;refine gs ?_;refine cd hm G (λa8 hm=>?_) (λa8 hm=>?_);refine gs ?_;refine cU (css:=[]) (zs:=[.slice none 0 0,.slice none 0 0,.slice none 0 0,.slice none 0 0,.slice none 0 0,.slice none 0 0]) (out:=[.slice none 0 0,.slice none 0 0,.slice none 0 0,.slice none 0 0,.slice none 0 0,.slice none 0 0]) (places:=[(0,1),(1,1),(2,1),(3,1),(4,1),(5,1)]) G G G Q3 zeroValue29 G VC (λw=>by kernel_rfl) G ?_
 refine go ?_;refine wt 0 ?_;refine gt ?_;refine gj ?_;refine bW 9 (aG.sz Q1) (bW 111 (aG.sz a_) (bW 114 (aG.sz aR) (bW 117 (aG.sz bK) (bW 120 (aG.sz aH) (bW 123 (aG.sz cL) ?_)))));obtain rfl:=Q8 hm;exact vM lE G (eM.agg G UW UF (.tail _ (.tail _ (.tail _ (.tail _ (.tail _ (.tail _ (.head _))))))) G) (eM.tmp G) (.cons_cons _ (.cons_cons _ (.cons_cons _ (.cons_cons _ (.cons_cons _ (.cons_cons _ (.cons _ (.cons _ (.refl _))))))))) (.trans (.cons _ (.cons _ (.cons _ (.cons _ (.swap _ _ _))))) (.trans (.cons _ (.cons _ (.cons _ (.swap _ _ _)))) (.trans (.cons _ (.cons _ (.swap _ _ _))) (.trans (.cons _ (.swap _ _ _)) (.trans (.swap _ _ _) (.trans (.cons _ (.cons _ (.cons _ (.cons _ (.swap _ _ _))))) (.trans (.cons _ (.cons _ (.cons _ (.swap _ _ _)))) (.trans (.cons _ (.cons _ (.swap _ _ _))) (.trans (.cons _ (.swap _ _ _)) (.trans (.cons _ (.cons _ (.cons _ (.cons _ (.swap _ _ _))))) (.trans (.cons _ (.cons _ (.cons _ (.swap _ _ _)))) (.trans (.cons _ (.cons _ (.swap _ _ _))) (.trans (.cons _ (.cons _ (.cons _ (.cons _ (.swap _ _ _))))) (.trans (.cons _ (.cons _ (.cons _ (.swap _ _ _)))) (.cons _ (.cons _ (.cons _ (.cons _ (.swap _ _ _))))))))))))))))))) ⟨G,(.slice none 0 0),[],(.slice none 0 0),[],(.slice none 0 0),[],(.slice none 0 0),[],(.slice none 0 0),[],(.slice none 0 0),[],G,G,(Rw.nil (H:=H)).pE,(Rw.nil (H:=H)).pE,(Rw.nil (H:=H)).pE,(Rw.nil (H:=H)).pE,(Rw.nil (H:=H)).pE,(Rw.nil (H:=H)).pE⟩
 refine gs ?_;obtain ⟨aq,a9,hm⟩:=aT hm;refine ca @wQ a9 ?_;rintro _ _ _ ⟨rfl,aa,ab,ac,ad,ae,af,ag,ah,ai,aj,ak,am,rfl,rfl,a1,a2,a3,a4,a5,a6⟩;have a1:=a1 H;have a2:=a2 H;have a3:=a3 H;have a4:=a4 H;have a5:=a5 H;have a6:=a6 H;refine wt 6 ?_;refine go ?_;obtain rfl:=Q8 hm;exact vM lE G (eM.agg G UW UF (.head _) G) (eM.tmp G) (.cons _ (.cons_cons _ (.cons_cons _ (.cons_cons _ (.cons_cons _ (.cons_cons _ (.cons_cons _ (.cons _ (.refl _))))))))) (.refl _) ⟨G,aa,ab,ac,ad,ae,af,ag,ah,ai,aj,ak,am,G,G,(a1).pE,(a2).pE,(a3).pE,(a4).pE,(a5).pE,(a6).pE⟩
theorem zV {a3:aF}{ak:Bool}{v0 v1 v2 v3 v4 v5:Q2}{r:(List b_)×(List Int)} (hm:qC a3 ak=some r) (h0:aO H v0 a3.bH) (h1:aO H v1 a3.aN) (h2:aO H v2 a3.aK) (h3:aO H v3 a3.dS) (h4:aO H v4 a3.bF) (h5:aO H v5 a3.bY):
  Cq B w0 211 [.agg [v0,v1,v2,v3,v4,v5].toArray,.bool (ak)] H M (λH M H' M' v=>H=H'/\∃ O:Q2,∃ I:List Q2,∃ Y:Q2,∃ J:List Q2,.row O 278 (aG.sz b_) r.1.length I::.row Y 3 (aG.sz Int) r.2.length J::M=M'/\.tuple #[O,Y]=v/\uq O I r.1/\uq Y J r.2):=by
 unfold qC at hm;refine fF func211 ?_;refine gs ?_;refine bx (λbc=>?_);refine g2 ?_;refine g2 ?_;refine jP 278 (aG.sz b_) (jP 3 (aG.sz Int) ?_);obtain ⟨am,aq,ar,hm⟩:=cR hm;refine cl [(1,_),(2,_),(11,_),(12,_)] [2] 2 [1] 0 (λu m n H' M' L'=>∃ (a2:Nat) (a7:List a_),∃ a5:List b_,∃ a6:List Int,∃ Z:Q2,∃ ae:List Q2,∃ a9:Q2,∃ af:List Q2,(a3.aN).drop a2=a7/\a7.length=n/\am a2 a7 (a5,a6)=some r/\Rw H' Z ae a5/\Rw H' a9 af a6/\H.le H'/\.row Z 278 (aG.sz b_) a5.length ae::.row a9 3 (aG.sz Int) a6.length af::m=M'/\(6,Z)::(7,a9)::(13,.int .i64 ((a2:Int)))::u=L') _ G ⟨0,_,_,_,_,_,_,_,G,G,hm,Rw.nil,Rw.nil,lE,G,G⟩ ?_;rintro _ au _ _ ⟨a2,a7,a5,a6,Z,ae,a9,af,an,rfl,hm,av,aw,bd,rfl,rfl⟩;refine g2 ?_;refine bE G (λag=>?_) (λag=>?_);obtain ⟨be,ax,rfl,ay,az⟩:=fK an ag;have hm:=(aq _ _ _ _).symm.trans hm
 generalize b0:am (a2+1) ax=b1 at hm
 try dsimp only at hm
 unfold sC at hm;refine go ?_;refine cj [(1,_),(2,_),(11,_),(12,_),(13,_)] [2] 2 (λu m H' M' L'=>∃ aa:List b_,∃ ab:List Int,∃ ac:Q2,∃ ah:List Q2,∃ ad:Q2,∃ ai:List Q2,n6 b1 aa ab=some r/\Rw H' ac ah aa/\Rw H' ad ai ab/\au.le H'/\.row ac 278 (aG.sz b_) aa.length ah::.row ad 3 (aG.sz Int) ab.length ai::m=M'/\(6,ac)::(7,ad)::u=L') ?_ (λao=>?_);rintro bf _ _ ⟨aa,ab,ac,ah,ad,ai,hm,bg,bh,bi,rfl,rfl⟩;unfold n6 at hm;refine gj ?_;exact kj (eb az b0) (kK (cA ay h1.mm.cZ));refine gs ?_;refine al (λbj=>?_);refine go ?_;refine wt 0 ?_;refine gs ?_;refine BD G G Vh G G (go ?_);refine cd hm G (λb2 hm=>?_) (λb2 hm=>?_);refine gs ?_;obtain ⟨a0,b3,hm⟩:=aT hm;obtain ⟨a1,b4,hm⟩:=aT hm;refine oZ fm 13 [ph _,ph _,ph _,ph _,ph _,ph (.int .i64 (a0)),ph _,ph _,ph _,ph _,ph (.int .i64 (a1)),ph (.agg [.int .i64 (a0),.int .i64 (a1)].toArray),(λH rs v=>∃ a4:Q2,[]=rs/\a4=v/\aO H a4 ([(b_.mk a0 a1)])/\Value.ob a4=([(b_.mk a0 a1)]).length)] ⟨om,om,om,om,om,?_,om,om,om,om,?_,?_,?_,Q3⟩ ?_
 exact rk tt @cC b3;exact rk tt @cC b4;rintro HX hX X Rest hR _ _ ⟨rfl,rfl⟩ _ _ ⟨rfl,rfl⟩ hU hUp;refine w9 (css:=[[.int .i64 (a0)],[.int .i64 (a1)]]) (zs:=[.int .i64 (0),.int .i64 (0)]) (out:=[.int .i64 (a0),.int .i64 (a1)]) (places:=[(0,1),(1,1)]) G G G ⟨G,G,Q3⟩ zeroValue278 G SZ SR G G ?_;exact o0 ⟨G,G⟩;rintro HX hX X Rest hR _ _ ⟨rfl,rfl⟩ hU hUp;refine c_ (α:=b_) (css:=[[.int .i64 (a0),.int .i64 (a1)]]) (zs:=[.int .i64 (0),.int .i64 (0)]) (out:=[.int .i64 (a0),.int .i64 (a1)]) (ys:=[(b_.mk a0 a1)]) G G G ⟨G,Q3⟩ runUnderlying277 sizeOf278 G zeroValue278 (by kernel_rfl) G G G G ⟨[.int .i64 (a0),.int .i64 (a1)],[],G,G,G⟩ G ?_
 intro bk a4 bl b5 b6 aj;have ap:Value.ob a4=([(b_.mk a0 a1)]).length:=by rw [b5]; rfl
 exact oe [] b6 ⟨a4,G,G,(aj),(ap)⟩;intro bm bn;refine dr ?_;rintro _ _ ⟨a4,rfl,rfl,aj,ap⟩;refine vO ?_;obtain ⟨b7,hm⟩:=aI hm;refine Wp [1] ?_;refine cW (α:=b_) (l:=a5) (ys:=[(b_.mk a0 a1)]) G G underlying277 ⟨_,G,G,G,G⟩ G G G G G av.mm aj b7 ?_;intro bo bp bq;refine go ?_;refine c_ (α:=Int) (css:=[[.int .i64 ((a2:Int))]]) (zs:=[.int .i64 (0)]) (out:=[.int .i64 ((a2:Int))]) (ys:=([((a2:Int))]:List Int)) G G G ⟨G,Q3⟩ Sx SR G TA (by kernel_rfl) G G G G ⟨[.int .i64 ((a2:Int))],[],G,G,G⟩ G ?_
 intro br b8 bs b9 bt ba;have bu:Value.ob b8=([((a2:Int))]:List Int).length:=by rw [b9]; rfl
 obtain ⟨bb,hm⟩:=aI hm;refine Wp [2] ?_;refine cW (α:=Int) (l:=a6) (ys:=([((a2:Int))]:List Int)) G G SG ⟨_,G,G,G,G⟩ G G G G G aw.mm ba bb ?_;intro bv bw bz;refine gj ?_;exact kx [1,0,1] 1 (ao _ _ _ pk);refine gj ?_;exact kx [1,1,1] 1 (ao _ _ _ pk);obtain rfl:=fJ an ag;have hm:=(ar _ _).symm.trans hm
 try dsimp only at hm
 refine gs ?_;refine Ek [0,0] 1 ?_;exact ef
theorem A5 {a2:Int}{a4:(List b_)}{v0:Q2}{r:Int} (hm:rY a2 a4=some r) (h0:aO H v0 a4):
  Cq B w0 212 [.int .i64 (a2),v0] H M (yQ r):=by
 unfold rY at hm;refine fF func212 ?_;refine g2 ?_;refine cj [(0,_),(1,_)] [] 0 (wc H 17 (((decide (a2<0)) || (decide (24<a2))) || (decide (64<(a4.length:Int))))) ?_ (λa6=>?_);rintro _ _ _ ⟨rfl,rfl,rfl⟩;refine cd hm G (λZ hm=>?_) (λZ hm=>?_);refine gs ?_;exact ef;refine g2 ?_;obtain ⟨J,af,ag,hm⟩:=cR hm;refine cl [(0,_),(18,_),(19,_)] [] 0 [] 0 (λu m n H' M' L'=>∃ (a3:Nat) (a5:List b_),(a4).drop a3=a5/\a5.length=n/\J a3 a5 ()=some r/\H.le H'/\m=M'/\(20,.int .i64 ((a3:Int)))::u=L') _ G ⟨0,_,G,G,hm,lE,G,G⟩ ?_;rintro _ an _ _ ⟨a3,a5,O,rfl,hm,ao,rfl,rfl⟩;refine g2 ?_;refine bE G (λa7=>?_) (λa7=>?_);obtain ⟨I,ah,rfl,ai,aj⟩:=fK O a7;have hm:=(af _ _ _ _).symm.trans hm;generalize ak:J (a3+1) ah=ap at hm;unfold tH at hm;refine g2 ?_;refine al (λaq=>?_);refine wt 0 ?_;refine gs ?_;refine qE G G SZ SR G G (by decide) (by decide) (go ?_)
 cases ab:(decide (I.a0<0));have hm:=eF ab hm;refine qE G G SZ SR G G (by decide) (by decide) (go ?_)
 cases Y:(decide (a2<=I.a0));have hm:=eF Y hm;refine qE G G SZ SR G G (by decide) (by decide) (go ?_)
 cases ad:(decide (I.a1<0));have hm:=eF ad hm;refine qE G G SZ SR G G (by decide) (by decide) (go ?_)
 refine cd hm G (λam hm=>?_) (λam hm=>?_);refine gs ?_;refine Ek [] 1 ?_;exact ef;refine gt ?_;refine gj ?_;exact kx [] 1 (eb aj ak) G (kK (cA ai h0.mm.cZ));have hm:=eG ad hm;refine go ?_;refine cT G ?_;refine gs ?_;refine Ek [] 1 ?_;exact ef;have hm:=eG Y hm;refine go ?_;refine cT G ?_;refine gs ?_;refine Ek [] 1 ?_;exact ef;have hm:=eG ab hm;refine go ?_;refine cT G ?_;refine gs ?_;refine Ek [] 1 ?_;exact ef;obtain rfl:=fJ O a7;have hm:=(ag _ _).symm.trans hm;refine gs ?_;exact ef;refine go ?_;cases ar:(decide (a2<0));refine go ?_;cases au:(decide (24<a2));refine gj ?_;exact kj (a6 _ _ _ pk) kS;refine gj ?_;exact kj (a6 _ _ _ pk) kS;refine gj ?_;exact kj (a6 _ _ _ pk) kS
theorem yK {a0 a1:Int}{r:Int×Int} (hm:mJ a0 a1=r):
  Cq B w0 153 [.int .u64 (a0),.int .u64 (a1)] H M (λH M H' M' v=>H=H'/\M=M'/\.tuple #[.int .u64 (r.1),.int .u64 (r.2)]=v):=by
 unfold mJ at hm;refine fF func153 ?_;refine g2 ?_;refine gs ?_;refine uD G G G G (by decide) (g2 ?_)
 refine uD G G G G (by decide) (g2 ?_)
 refine uD G G G G (by decide) (g2 ?_)
 refine uD G G G G (by decide) (g2 ?_)
 refine uD G G G G (by decide) (gs ?_)
 obtain rfl:=hm;refine Ew H ?_;exact C4 G G G ⟨G,G,G⟩
theorem vV {a0 a1:Int}{r:Int×Int} (hm:sj a0 a1=r):
  Cq B w0 115 [.int .u64 (a0),.int .u64 (a1)] H M (λH M H' M' v=>H=H'/\M=M'/\.tuple #[.int .u64 (r.1),.int .u64 (r.2)]=v):=by
 unfold sj at hm;refine fF func115 ?_;refine g2 ?_;refine cF G ?_;refine gs ?_;refine cz @yK (G:mJ a0 a1=_) ?_;refine gs ?_;obtain rfl:=hm;refine Ew H ?_;exact C4 G G G ⟨G,G,G⟩
theorem AX (m:Nat) (hm:m<9223372036854775808):sj (u64.wrap (1:Int)) (u64.wrap (m:Int))=(0,(m:Int)):=by
 have hw:u64.wrap (m:Int)=m:=by rw [IntKind.wrap_u64]; omega
 have h1:u64.wrap (1:Int)=1:=rfl;have O:u64.wrap ((BitVec.ofInt (u64).bits (m:Int) &&& BitVec.ofInt (u64).bits 4294967295).toNat)=((m%4294967296:Nat):Int):=by
  have h:=bits_and_u64_nat m 4294967295 (by omega) (by omega)
  have e:m &&& 4294967295=m%4294967296:=Uy m 32;rw [e] at h;exact h
 have Z:u64.wrap ((BitVec.ofInt (u64).bits ((m / 4294967296%4294967296:Nat):Int) &&& BitVec.ofInt (u64).bits 4294967295).toNat)=((m / 4294967296%4294967296:Nat):Int):=by
  have h:=bits_and_u64_nat (m / 4294967296%4294967296) 4294967295 (by omega) (by omega)
  have e:(m / 4294967296%4294967296) &&& 4294967295=(m / 4294967296%4294967296)%4294967296:=Uy _ 32;rw [e,Nat.mod_mod] at h;exact h
 have hs0:ot .u64 (1:Int) 32=0:=rfl;have Y:ot .u64 (0:Int) 32=0:=rfl;have J:u64.wrap ((BitVec.ofInt (u64).bits (1:Int) &&& BitVec.ofInt (u64).bits 4294967295).toNat)=1:=rfl;have I:u64.wrap ((BitVec.ofInt (u64).bits (0:Int) &&& BitVec.ofInt (u64).bits 4294967295).toNat)=0:=rfl;have hsm:∀ k:Nat,ot .u64 (k:Int) 32=((k / 4294967296:Nat):Int):=λk=>G0 k;have e0:((m%4294967296:Nat):Int)=((m%4294967296:Nat):Int):=rfl;have w1:u64.wrap ((m%4294967296:Nat):Int)=((m%4294967296:Nat):Int):=by rw [IntKind.wrap_u64]; omega
 have w2:u64.wrap ((m / 4294967296:Nat):Int)=((m / 4294967296:Nat):Int):=by rw [IntKind.wrap_u64]; omega
 have d1:m%4294967296 / 4294967296=0:=by omega
 have d2:m / 4294967296 / 4294967296=0:=by omega
 have z0:u64.wrap (0:Int)=0:=rfl;unfold sj mJ;rw [hw,h1]
 simp only [hs0,Y,J,O,hsm,Int.zero_mul,Int.one_mul,z0,Int.zero_add,w1,d1,Int.ofNat_zero,Int.natCast_zero,Int.add_zero,I,w2,d2,hw]
theorem FG {s:List Int}{v0:Q2}{n:Int} (h0:aO H v0 s) (hz:s.length=1/\0<=n/\n*8<=140737488355328) (ht:St B w0 H M w):
  Calls prog 220 [v0,.int .i64 n].toArray w (uC B w0 (Ov (GU s n) H M)):=by
 obtain ⟨hs1,hn0,O⟩:=hz;obtain ⟨a,rfl⟩:=UD.1 hs1;obtain ⟨m,rfl⟩:∃ m:Nat,n=m:=⟨n.toNat,by omega⟩
 have hrep:=yp a m;rw [hrep];have hlr:(List.replicate m a).length=m:=So;have hmb:m<9223372036854775808:=by omega
 obtain ⟨o,c,hv0,_⟩:=h0.len
 simp only [Rd,SQ,Rv] at hv0
 subst hv0;refine enter func220 G G G ht ?_;refine bI ?_;refine aL (aJ G G G ?_);refine aZ (aQ ?_);refine bI ?_;refine bI ?_;refine aL (bV G G G (u7 G G G G G ?_));refine aZ (aQ ?_);refine bE (b:=decide ((m:Int)<0)) G (λO=>absurd (Q_ O) (by omega)) (λ_=>?_)
 refine ml (aQ ?_);refine bI ?_;refine aL (bV G G G (DL G G Sx G (rp G G Tz Ul G (bV G G G (rp G G Tz Ul G ?_)))));refine fQ call115 G G G (λw ht=>by have h:=vV (hm:=AX m hmb) ht; exact h) ?_
 rintro _ _ _ ⟨rfl,rfl,rfl⟩;refine bV G G G (sE G G G G (sE G G G G (aJ G G G (aJ G G G ?_))));refine aZ (aQ ?_);refine bI ?_;refine bI ?_;refine aL (bV G G G (u7 G G G G G (bV G G G (bV G G G (u7 G G G G G (DM (b:=false) G G G G ?_))))));refine aZ (aQ ?_);refine bE (b:=decide (9223372036854775807<(m:Int))) G (λO=>absurd (Q_ O) (by omega)) (λ_=>?_)
 refine ml (aQ ?_);have hw:i64.wrap (m:Int)=m:=yd (by omega) (by omega)
 refine bI ?_;refine aL (bV G G G (rp G G Ul Tz G ?_));rw [hw];refine eT (α:=Int) (ze:=0) (bytes:=8) G G SG ⟨_,G,G,G,G⟩ G G G G G G (by omega) O ?_
 intro v1 yX hx1;rw [Q5] at hx1 ⊢;refine aJ G G G ?_;refine aZ (aQ ?_);generalize hl1:List.replicate m (0:Int)=l1 at hx1 ⊢;have hll:l1.length=m:=by rw [<- hl1]; exact So
 refine bI ?_;refine aL (bV G G G (bV G G G (Ha (α:=Int) (l:=l1) (ys:=[a]) G G SG SR G G G hx1 h0 (by simp) ?_)))
 rw [Sa,hll];generalize hl2:[a].take (min 1 m)++l1.drop (min 1 m)=l2;have hl2l:l2.length=m:=by rw [<- hl2,Ro,RC,SL,Sa]; omega
 have hl2t:l2.take (min 1 m)=List.replicate (min 1 m) a:=by
  rw [<- hl2];cases m with
  | zero=>rfl
  | succ q=>rw [show min 1 (q+1)=1 by omega]; rfl
 intro tP hx2;refine aJ G G G ?_;refine aZ (aQ ?_);obtain ⟨o1,m1,c1,hv1⟩:=hx2.sl;refine bI ?_;refine uI (Bo (L':=[(7,v1),(8,.int .i64 ((min 1 m:Nat):Int))]) ⟨G,G,Q3⟩ (Tx _) ?_);refine Bp (λn H' M' L'=>∃ (q:Nat) (l:List Int) (xs:List Q2),m-q=n/\(1<=q\/m=0)/\q<=m/\l.length=m/\l.take q=List.replicate q a/\Rw H' v1 xs l/\H.le H'/\.row v1 3 (aG.sz Int) m xs::M=M'/\[(7,v1),(8,.int .i64 (q:Int))]=L') (m-min 1 m) ⟨min 1 m,l2,tP,G,by omega,by omega,hl2l,hl2t,hx2,R8 _,G,G⟩ ?_
 rintro n3 H3 _ _ ⟨q,l3,CU,hn3,hq1,hqm,hl3,ht3,hx3,Z,rfl,rfl⟩;refine bI ?_;refine bI ?_;refine aL (bV G G G (bV G G G (q6 (M':=.row v1 3 (aG.sz Int) l3.length CU::M) (by rw [hl3]) (Am (Q9 ..) G G Sx G (u7 G G G G G ?_)))))
 refine aZ (aQ ?_);refine bE (b:=decide ((q:Int)<(l3.length:Int))) G (λO=>?_) (λO=>?_)
 ·have hlt:q<l3.length:=by have:=Q_ O; omega
  refine ml (aQ ?_);refine Aj (by omega) (λJ off cap hv hcap=>?_)
  subst hv;refine uI (Jo (M':=[[.row (.slice (some ⟨J,off,none⟩) l3.length cap) 3 (aG.sz Int) l3.length CU]].flatten++M) G ?_);refine rW 8 (z_ [(G5 (q:Int)),(λH rs v=>[]=rs/\.slice (some ⟨J,off,none⟩) l3.length cap=v),(G5 (q:Int)),(λH rs v=>[]=rs/\.slice (some ⟨J,off+q*aG.sz Int,none⟩) (l3.length-q) (cap-q)=v),(λH rs v=>[]=rs/\.slice (some ⟨J,off,none⟩) l3.length cap=v),(G5 (q:Int)),(λH rs v=>[]=rs/\.slice (some ⟨J,off,none⟩) q cap=v),(λH rs v=>∃ AN:List Q2,[.row (.slice (some ⟨J,off,none⟩) l3.length cap) 3 (aG.sz Int) l3.length AN]=rs/\.int .i64 ((min q (l3.length-q):Nat):Int)=v/\Rw H (.slice (some ⟨J,off,none⟩) l3.length cap) AN (l3.take q++l3.take (min q (l3.length-q))++l3.drop (q+min q (l3.length-q))))]) [[],[],[],[],[],[],[],[8]] [[],[],[],[],[],[],[],[]] [[.row (.slice (some ⟨J,off,none⟩) l3.length cap) 3 (aG.sz Int) l3.length CU]] [0,1,2,3,4,5,6,7] G8.mixed (by kernel_rfl) G G G (by kernel_rfl) (u4 ⟨gJ _ _,gJ _ _,gJ _ _,gJ _ _,gJ _ _,gJ _ _,gJ _ _,(by rintro H1 H2 rs v hle ⟨AN,rfl,rfl,h⟩; exact ⟨AN,G,G,h.mono hle⟩),Q3⟩) ⟨?_,?_,?_,?_,?_,?_,?_,?_,Q3⟩ ?_
  ·intro HX Y X Rest hR
   intro hU I;refine bV G G G ?_;exact aZ (fE [] (R8 _) ⟨G,G⟩)
  ·intro HX Y X Rest hR
   intro hU I;refine bV G G G ?_;exact aZ (fE [] (R8 _) ⟨G,G⟩)
  ·intro HX Y X Rest hR
   intro hU I;refine bV G G G ?_;exact aZ (fE [] (R8 _) ⟨G,G⟩)
  ·intro HX Y X Rest hR
   rintro _ _ ⟨rfl,rfl⟩;rintro _ _ ⟨rfl,rfl⟩;intro hU I;refine ua (m:=cap) (h:=l3.length) (l:=q) G G Sx SR G (.inl G) (.inl ⟨G,G⟩) (.inl ⟨G,G⟩) (.inr ⟨_,_,_,G,G,by omega,by omega,by omega⟩) (by rw [Ra (by omega),SC,Sf]) ?_
   exact aZ (fE [] (R8 _) ⟨G,G⟩)
  ·intro HX Y X Rest hR
   intro hU I;refine bV G G G ?_;exact aZ (fE [] (R8 _) ⟨G,G⟩)
  ·intro HX Y X Rest hR
   intro hU I;refine bV G G G ?_;exact aZ (fE [] (R8 _) ⟨G,G⟩)
  ·intro HX Y X Rest hR
   rintro _ _ ⟨rfl,rfl⟩;rintro _ _ ⟨rfl,rfl⟩;intro hU I;refine ua (m:=cap) (h:=q) (l:=0) G G Sx SR G (.inl G) (.inl ⟨G,G⟩) (.inr ⟨_,_,_,G,G,by omega,by omega,by omega⟩) (.inl ⟨G,G⟩) (by rw [Ra (by omega),T7,T7,SC,Sf,SI,SH]) ?_
   exact aZ (fE [] (R8 _) ⟨G,G⟩)
  ·intro HX Y X Rest hR
   rintro _ _ ⟨rfl,rfl⟩;rintro _ _ ⟨rfl,rfl⟩;intro hU I;refine q6 (M':=.row (.slice (some ⟨J,off,none⟩) l3.length cap) 3 (aG.sz Int) l3.length CU::Rest) G (BC (α:=Int) (l:=l3) (q:=q) G G SG SR G (hx3.mono Y) (by omega) G G ?_)
   intro AN hx4;exact aZ (fE [.row (.slice (some ⟨J,off,none⟩) l3.length cap) 3 (aG.sz Int) l3.length AN] (R8 _) ⟨AN,G,G,hx4⟩)
  intro H5 hle5;rintro _ _ ⟨rfl,rfl⟩;rintro _ _ ⟨rfl,rfl⟩;rintro _ _ ⟨rfl,rfl⟩;rintro _ _ ⟨rfl,rfl⟩;rintro _ _ ⟨rfl,rfl⟩;rintro _ _ ⟨rfl,rfl⟩;rintro _ _ ⟨rfl,rfl⟩;rintro _ _ ⟨AN,rfl,rfl,hx4⟩;refine q6 (M':=.row (.slice (some ⟨J,off,none⟩) l3.length cap) 3 (aG.sz Int) l3.length AN::M) G ?_;have hrs:=FF ht3 (by omega)
  refine u7 G G G G G (aJ G G G (aZ (mn ?_)));have hwr:i64.wrap ((q:Int)+((min q (l3.length-q):Nat):Int))=((q+min q (l3.length-q):Nat):Int):=by
   rw [yd (by omega) (by omega)]; omega
  exact DD (w8 (by omega:m-(q+min q (l3.length-q))<n3) ⟨q+min q (l3.length-q),_,AN,G,by omega,by omega,by simp only [Ro,RC,SL]; omega,hrs,hx4,UT Z hle5,by rw [hl3],G⟩) (Tx _) ⟨G,Rn (λz=>some (Value.int .i64 z)) hwr,Q3⟩
 ·have hge:q=m:=by have:=Rf O; omega
  refine u5 (gI (gI (nN (aQ ?_))));have hfin:l3=List.replicate m a:=by
   have h:=ht3;rw [hge,Ri (by omega)] at h
   exact h
  refine bI ?_;refine aL (bV G G G (aJ G G G ?_));refine aZ (aQ ?_);refine mj (F1 Z ?_);rw [<- hfin];exact lL G G ⟨G,v1,CU,G,G,hx3.pE⟩
theorem A6 {an:Int}{ao:(List b_)}{I:Int}{v0:Q2}{r:(List Int)} (hm:o_ an ao I=some r) (h0:aO H v0 ao):
  Cq B w0 213 [.int .i64 (an),v0,.int .i64 (I)] H M (Ov r):=by
 unfold o_ at hm;refine fF func213 ?_;refine g2 ?_;refine gC (α:=Int) (css:=[[.int .i64 ((-1))]]) (zs:=[.int .i64 (0)]) (out:=[.int .i64 ((-1))]) (ys:=([((-1))]:List Int)) G G G ⟨G,Q3⟩ Sx SR G TA (by kernel_rfl) G G G G ⟨[.int .i64 ((-1))],[],G,G,G⟩ G ?_
 intro co cp be;refine go ?_;obtain ⟨bf,hm⟩:=aI hm;refine fQ call220 G G G (λw ht=>by obtain ⟨H0_,hl0_,ht0_,hr0_,Z⟩:=ht.kX be G; have h:=FG hr0_ bf ht0_; exact fW Z h) ?_
 rintro _ _ _ ⟨rfl,_,rfl,a4,cq,rfl,rfl,ap⟩;have ap:=ap H;refine g2 ?_;refine gs ?_;obtain ⟨bg,hm⟩:=aI hm;obtain ⟨b4,bh,bi,hm⟩:=iI hm;refine cl [(1,_),(2,_),(7,_),(18,_)] [] 2 [1] 1 (λu m n H' M' L'=>∃ (a5:Nat) (ab:Nat),∃ ac:List Int,∃ a6:Int,∃ aq:List Q2,a5+ab=(an:Int).toNat/\ab=n/\b4 ab a5 (ac,a6)=some r/\Rw H' a4 aq ac/\H.le H'/\.row a4 3 (aG.sz Int) ac.length aq::m=M'/\(8,.int .i64 (a6))::(19,.int .i64 ((a5:Int)))::u=L') _ G ⟨0,_,_,_,_,Rv _,G,hm,ap,lE,G,G⟩ ?_;rintro _ b5 _ _ ⟨a5,ab,ac,a6,aq,b6,rfl,hm,cr,cs,rfl,rfl⟩;refine g2 ?_;refine bE G (λar=>?_) (λar=>?_);obtain ⟨bj,rfl,bk,bl⟩:=lu b6 ar;have hm:=(bh _ _ _).symm.trans hm;generalize bm:b4 bj (a5+1)=bn at hm
 try dsimp only at hm
 unfold qO at hm;refine go ?_;refine cj [(1,_),(2,_),(7,_),(18,_),(19,_)] [] 1 (λu m H' M' L'=>∃ ad:List Int,∃ au:Int,∃ av:List Q2,jU bn ad au=some r/\Rw H' a4 av ad/\b5.le H'/\.row a4 3 (aG.sz Int) ad.length av::m=M'/\(8,.int .i64 (au))::u=L') ?_ (λb7=>?_);rintro ct _ _ ⟨ad,au,av,hm,cu,cv,rfl,rfl⟩;unfold jU at hm;refine gj ?_;exact kj (eb bk bm) (kK (eI bl (eL bg)));refine g2 ?_;refine gs ?_;obtain ⟨cw,cx,d0,hm⟩:=aC hm;refine go ?_;refine cd hm G (λbo hm=>?_) (λbo hm=>?_);refine gj ?_;exact kj (b7 _ _ _ pk);refine gs ?_;obtain ⟨d1,d2,d3,hm⟩:=aC hm;refine go ?_;refine wF 0 0 a6 ?_;intro d4 bp d5;refine g2 ?_;refine gC (α:=Int) (css:=[[.int .i64 ((a5:Int))]]) (zs:=[.int .i64 (0)]) (out:=[.int .i64 ((a5:Int))]) (ys:=([((a5:Int))]:List Int)) G G G ⟨G,Q3⟩ Sx SR G TA (by kernel_rfl) G G G G ⟨[.int .i64 ((a5:Int))],[],G,G,G⟩ G ?_
 intro d6 d7 bq;refine go ?_;obtain ⟨b8,br,bs,hm⟩:=iZ hm;refine cl [(1,_),(2,_),(7,_),(8,_),(18,_),(19,_)] [] 2 [1] 0 (λu m n H' M' L'=>∃ ae Y:List Int,∃ aw:List Q2,∃ af:Q2,∃ ax:List Q2,b8 n (ae,Y)=some r/\Rw H' a4 aw ae/\Rw H' af ax Y/\b5.le H'/\.row a4 3 (aG.sz Int) ae.length aw::.row af 3 (aG.sz Int) Y.length ax::m=M'/\(10,af)::u=L') eY G ⟨_,_,_,_,_,hm,bp,bq,lE,G,G⟩ ?_;rintro ay bt _ _ ⟨ae,Y,aw,af,ax,hm,bu,bv,d8,rfl,rfl⟩
 rcases ay with _ | ay
 exact nomatch (bs _).symm.trans hm;have hm:=(br _ _).symm.trans hm;generalize bw:b8 ay=d9 at hm
 try dsimp only at hm
 unfold qP at hm;refine g2 ?_;refine cd hm G (λbz hm=>?_) (λbz hm=>?_);refine gs ?_;obtain ⟨a3,da,db,hm⟩:=aC hm;refine gs ?_;obtain ⟨dc,hm⟩:=aI hm;refine Wp [1] ?_;refine t_ (α:=Int) (l:=(1:Int).toNat) (h:=Y.length) G G Sx SR G G bv (by omega) (by omega) (λm hmm=>(.inl ⟨G,G⟩)) (.inr ⟨_,_,_,G,G,by omega,by omega,G⟩) ?_
 intro dd de c0;refine gs ?_;obtain ⟨b9,c1,c2,hm⟩:=cR hm;refine cl [(1,_),(2,_),(7,_),(8,_),(11,_),(18,_),(19,_),(41,_),(42,_)] [] 2 [1] 0 (λu m n H' M' L'=>∃ (a7:Nat) (ag:List b_),∃ ah J:List Int,∃ az:List Q2,∃ ai:Q2,∃ b0:List Q2,(ao).drop a7=ag/\ag.length=n/\b9 a7 ag (ah,J)=some r/\Rw H' a4 az ah/\Rw H' ai b0 J/\bt.le H'/\.row a4 3 (aG.sz Int) ah.length az::.row ai 3 (aG.sz Int) J.length b0::m=M'/\(10,ai)::(43,.int .i64 ((a7:Int)))::u=L') _ G ⟨0,_,_,_,_,_,_,G,G,hm,bu,c0,lE,G,G⟩ ?_;rintro _ c3 _ _ ⟨a7,ag,ah,J,az,ai,b0,ba,rfl,hm,df,bb,dg,rfl,rfl⟩;refine g2 ?_;refine bE G (λb1=>?_) (λb1=>?_);obtain ⟨a2,c4,rfl,c5,c6⟩:=fK ba b1;have hm:=(c1 _ _ _ _).symm.trans hm;generalize c7:b9 (a7+1) c4=c8 at hm
 try dsimp only at hm
 unfold qQ at hm;refine go ?_;refine cj [(1,_),(2,_),(7,_),(8,_),(11,_),(18,_),(19,_),(41,_),(42,_),(43,_)] [] 2 (λu m H' M' L'=>∃ aj ak:List Int,∃ b2:List Q2,∃ am:Q2,∃ b3:List Q2,eD c8 aj ak=some r/\Rw H' a4 b2 aj/\Rw H' am b3 ak/\c3.le H'/\.row a4 3 (aG.sz Int) aj.length b2::.row am 3 (aG.sz Int) ak.length b3::m=M'/\(10,am)::u=L') ?_ (λO=>?_);rintro dh _ _ ⟨aj,ak,b2,am,b3,hm,di,dj,dk,rfl,rfl⟩;unfold eD at hm;refine gj ?_;exact kj (eb c6 c7) (kK (cA c5 h0.mm.cZ));refine gs ?_;refine al (λdl=>?_);refine go ?_;refine wt 0 ?_;refine g2 ?_;cases bc:(decide ((a7:Int)=I));have hm:=eF bc hm;refine qE G G SZ SR G G (by decide) (by decide) (go ?_)
 cases bd:(decide (a2.a0=a3));have hm:=eF bd hm;refine qE G G SZ SR G G (by decide) (by decide) (go ?_)
 refine cd hm G (λc9 hm=>?_) (λc9 hm=>?_);refine gj ?_;exact kx [1,1] 1 (O _ _ _ pk);refine gs ?_;refine qE G G SZ SR G G (by decide) (by decide) (go ?_)
 refine qE G G SZ SR G G (by decide) (by decide) (gs ?_)
 obtain ⟨dm,dn,dp,hm⟩:=aC hm;refine go ?_;refine cd hm G (λcb hm=>?_) (λcb hm=>?_);refine gs ?_;obtain ⟨dq,ds,dt,hm⟩:=aC hm;refine go ?_;refine wF 1 0 a6 ?_;intro du dv dw;refine go ?_;refine c_ (α:=Int) (css:=[[.int .i64 (i64.wrap ((i64.wrap (a2.a0+a2.a1))-a3))]]) (zs:=[.int .i64 (0)]) (out:=[.int .i64 (i64.wrap ((i64.wrap (a2.a0+a2.a1))-a3))]) (ys:=([(i64.wrap ((i64.wrap (a2.a0+a2.a1))-a3))]:List Int)) G G G ⟨G,Q3⟩ Sx SR G TA (by kernel_rfl) G G G G ⟨[.int .i64 (i64.wrap ((i64.wrap (a2.a0+a2.a1))-a3))],[],G,G,G⟩ G ?_
 intro dx cc dy ce e0 cf;have e1:Value.ob cc=([(i64.wrap ((i64.wrap (a2.a0+a2.a1))-a3))]:List Int).length:=by rw [ce]; rfl
 obtain ⟨cg,hm⟩:=aI hm;refine Wp [2] ?_;refine cW (α:=Int) (l:=J) (ys:=([(i64.wrap ((i64.wrap (a2.a0+a2.a1))-a3))]:List Int)) G G SG ⟨_,G,G,G,G⟩ G G G G G bb.mm cf cg ?_;intro e2 e3 e4;refine gj ?_;exact kx [1,0] 1 (O _ _ _ pk);refine gj ?_;exact kx [1,1] 1 (O _ _ _ pk);have hm:=eG bd hm;refine go ?_;refine cF G ?_;refine gs ?_;refine qE G G SZ SR G G (by decide) (by decide) (go ?_)
 refine qE G G SZ SR G G (by decide) (by decide) (gs ?_)
 obtain ⟨e5,e6,e7,hm⟩:=aC hm;refine go ?_;refine cd hm G (λch hm=>?_) (λch hm=>?_);refine gs ?_;obtain ⟨e8,e9,ea,hm⟩:=aC hm;refine go ?_;refine wF 1 0 a6 ?_;intro ec ed ee;refine go ?_;refine c_ (α:=Int) (css:=[[.int .i64 (i64.wrap ((i64.wrap (a2.a0+a2.a1))-a3))]]) (zs:=[.int .i64 (0)]) (out:=[.int .i64 (i64.wrap ((i64.wrap (a2.a0+a2.a1))-a3))]) (ys:=([(i64.wrap ((i64.wrap (a2.a0+a2.a1))-a3))]:List Int)) G G G ⟨G,Q3⟩ Sx SR G TA (by kernel_rfl) G G G G ⟨[.int .i64 (i64.wrap ((i64.wrap (a2.a0+a2.a1))-a3))],[],G,G,G⟩ G ?_
 intro eg ci eh ck ei cm;have ej:Value.ob ci=([(i64.wrap ((i64.wrap (a2.a0+a2.a1))-a3))]:List Int).length:=by rw [ck]; rfl
 obtain ⟨cn,hm⟩:=aI hm;refine Wp [2] ?_;refine cW (α:=Int) (l:=J) (ys:=([(i64.wrap ((i64.wrap (a2.a0+a2.a1))-a3))]:List Int)) G G SG ⟨_,G,G,G,G⟩ G G G G G bb.mm cm cn ?_;intro ek el em;refine gj ?_;exact kx [1,0] 1 (O _ _ _ pk);refine gj ?_;exact kx [1,1] 1 (O _ _ _ pk);have hm:=eG bc hm;refine go ?_;refine cT G ?_;refine gj ?_;exact kx [1,1] 1 (O _ _ _ pk);obtain rfl:=fJ ba b1;have hm:=(c2 _ _).symm.trans hm
 try dsimp only at hm
 refine gj ?_;exact kj (CX bw);refine gt ?_;refine gj ?_;exact kx [0] 1 (b7 _ _ _ pk);obtain rfl:=lq b6 ar;have hm:=(bi _ _).symm.trans hm
 try dsimp only at hm
 refine gs ?_;exact ef
theorem ue {a0:Int}{a1:(List b_)}{v0:Q2}{r:(List Int)×Int} (hm:jB a0 a1=some r) (O:aO H v0 a1):
  Cq B w0 192 [.int .i64 (a0),v0] H M (Lw r.1 r.2):=by
 unfold jB at hm;refine fF func192 ?_;refine g2 ?_;refine gs ?_;obtain ⟨a6,a3,hm⟩:=aT hm;refine cz @A5 a3 ?_;refine gs ?_;refine cd hm G (λa4 hm=>?_) (λa4 hm=>?_);refine bI (aL (bV G G G (aJ G G G (aJ G G G (aZ (aQ ?_))))));refine gj ?_;refine bW 3 (aG.sz Int) ?_;exact ef;refine gs ?_;obtain ⟨a7,a5,hm⟩:=aT hm;refine ca @A6 a5 ?_;rintro _ _ _ ⟨rfl,I,J,rfl,rfl,a2⟩;have a2:=a2 H;refine go ?_;exact ef
theorem zU {a0:aF}{v0 v1 v2 v3 v4 v5:Q2}{r:(List Int)} (hm:oB a0=some r) (h0:aO H v0 a0.bH) (h1:aO H v1 a0.aN) (h2:aO H v2 a0.aK) (h3:aO H v3 a0.dS) (h4:aO H v4 a0.bF) (h5:aO H v5 a0.bY):
  Cq B w0 191 [.agg [v0,v1,v2,v3,v4,v5].toArray] H M (Ov r):=by
 unfold oB at hm;refine fF func191 ?_;refine gs ?_;refine bx (λa6=>?_);refine gs ?_;obtain ⟨a7,a4,hm⟩:=aT hm;refine ca @zV a4 ?_;rintro _ _ _ ⟨rfl,I,J,O,ab,rfl,rfl,a1,a2⟩;have a1:=a1 H;have a2:=a2 H;refine gs ?_;obtain ⟨Y,a5,hm⟩:=aT hm;refine cy @ue a5 ?_;rintro _ _ _ ⟨rfl,⟨_,rfl,ad,Z,rfl,rfl,a3⟩⟩;have a3:=a3 H;refine gs ?_;refine Ek [1] 3 ?_;exact ef
theorem pD {a2:aF}{v0 v1 v2 v3 v4 v5:Q2}{r:aY} (hm:dY a2=some r) (h0:aO H v0 a2.bH) (h1:aO H v1 a2.aN) (h2:aO H v2 a2.aK) (h3:aO H v3 a2.dS) (h4:aO H v4 a2.bF) (h5:aO H v5 a2.bY):
  Cq B w0 154 [.agg [v0,v1,v2,v3,v4,v5].toArray] H M (λH M H' M' v=>H=H'/\∃ O:Q2,∃ I:List Q2,∃ Y:Q2,∃ J:List Q2,.row O 3 (aG.sz Int) r.ql.length I::.row Y 3 (aG.sz Int) r.bR.length J::M=M'/\.agg [O,Y].toArray=v/\uq O I r.ql/\uq Y J r.bR):=by
 unfold dY at hm;refine fF func154 ?_;refine gs ?_;refine bx (λbj=>?_);refine al (λbk=>?_);refine gs ?_;obtain ⟨ao,ap,hm⟩:=aT hm;refine ca @zU ap ?_;rintro _ _ _ ⟨rfl,ab,aq,rfl,rfl,a7⟩;have a7:=a7 H;refine cU (css:=[[ab]]) (zs:=[.slice none 0 0,.slice none 0 0]) (out:=[ab,.slice none 0 0]) (places:=[(0,1),(1,1)]) G G G ⟨(Rw.cells a7),Q3⟩ zeroValue241 G runUnderlying241 (λw=>by kernel_rfl) G ?_
 refine al (λbl=>?_);refine wt 0 ?_;refine g2 ?_;refine gs ?_;refine q8 (.tail _ (.head _)) (λar=>?_);obtain ⟨ai,au,av,hm⟩:=cR hm;refine cl [(1,_),(2,_),(3,_),(14,_),(15,_)] [] 0 [] 0 (λu m n H' M' L'=>∃ (a4:Nat) (Z:List Int),∃ ac:Int,(ao).drop a4=Z/\Z.length=n/\ai a4 Z ac=some r/\H.le H'/\m=M'/\(4,.int .i64 (ac))::(16,.int .i64 ((a4:Int)))::u=L') _ G ⟨0,_,_,G,G,hm,lE,G,G⟩ ?_;rintro _ aw _ _ ⟨a4,Z,ac,aj,rfl,hm,bm,rfl,rfl⟩;refine g2 ?_;refine bE G (λad=>?_) (λad=>?_);obtain ⟨bn,ax,rfl,ay,az⟩:=fK aj ad;have hm:=(au _ _ _ _).symm.trans hm;generalize b0:ai (a4+1) ax=bo at hm;unfold s6 at hm;refine g2 ?_;refine Nu G G G G (gt ?_);refine gj ?_;exact kj (eb az b0) (kK (cA ay ar));obtain rfl:=fJ aj ad;have hm:=(av _ _).symm.trans hm;refine g2 ?_;refine gs ?_;refine jP 278 (aG.sz b_) ?_;obtain ⟨ak,b1,b2,hm⟩:=cR hm
 refine cl [(1,_),(2,_),(3,_),(4,_),(26,_),(27,_)] [1,1,1,1] 1 [] 0 (λu m n H' M' L'=>∃ (a5:Nat) (a9:List aR),∃ a6:List b_,∃ aa:Q2,∃ ae:List Q2,(a2.aK).drop a5=a9/\a9.length=n/\ak a5 a9 a6=some r/\Rw H' aa ae a6/\aw.le H'/\.row aa 278 (aG.sz b_) a6.length ae::m=M'/\(7,aa)::(28,.int .i64 ((a5:Int)))::u=L') _ G ⟨0,_,_,_,_,G,G,hm,Rw.nil,lE,G,G⟩ ?_;rintro _ b3 _ _ ⟨a5,a9,a6,aa,ae,am,rfl,hm,b4,bp,rfl,rfl⟩;refine g2 ?_;refine bE G (λaf=>?_) (λaf=>?_);obtain ⟨bq,b5,rfl,b6,b7⟩:=fK am af;have hm:=(b1 _ _ _ _).symm.trans hm;generalize b8:ak (a5+1) b5=br at hm;unfold s7 at hm;refine g2 ?_;refine al (λbs=>?_);refine wt 0 ?_;refine go ?_;obtain ⟨b9,ba,hm⟩:=aT hm;obtain ⟨a0,bt,bu,hm⟩:=aC hm;obtain ⟨bb,bc,hm⟩:=aT hm;obtain ⟨a1,bv,bw,hm⟩:=aC hm;refine oZ fm 21 [ph _,ph _,ph _,ph _,ph _,ph _,ph _,ph (.int .i64 (b9)),ph _,ph _,ph _,ph _,ph _,ph _,ph _,ph _,ph (.int .i64 (bb)),ph _,ph _,ph (.agg [.int .i64 (a0),.int .i64 (a1)].toArray),(λH rs v=>∃ a3:Q2,[]=rs/\a3=v/\aO H a3 ([(b_.mk a0 a1)])/\Value.ob a3=([(b_.mk a0 a1)]).length)] ⟨om,om,om,om,om,om,om,?_,om,om,om,om,om,om,om,om,?_,om,om,?_,?_,Q3⟩ ?_
 exact rk tt @cC ba;exact rk tt @cC bc;rintro HX hX X Rest hR _ _ ⟨rfl,rfl⟩ _ _ ⟨rfl,rfl⟩ hU hUp;refine w9 (css:=[[.int .i64 (a0)],[.int .i64 (a1)]]) (zs:=[.int .i64 (0),.int .i64 (0)]) (out:=[.int .i64 (a0),.int .i64 (a1)]) (places:=[(0,1),(1,1)]) G G G ⟨G,G,Q3⟩ zeroValue278 G SZ SR G G ?_;exact o0 ⟨G,G⟩;rintro HX hX X Rest hR _ _ ⟨rfl,rfl⟩ hU hUp;refine c_ (α:=b_) (css:=[[.int .i64 (a0),.int .i64 (a1)]]) (zs:=[.int .i64 (0),.int .i64 (0)]) (out:=[.int .i64 (a0),.int .i64 (a1)]) (ys:=[(b_.mk a0 a1)]) G G G ⟨G,Q3⟩ runUnderlying277 sizeOf278 G zeroValue278 (by kernel_rfl) G G G G ⟨[.int .i64 (a0),.int .i64 (a1)],[],G,G,G⟩ G ?_
 intro bz a3 c0 bd be ag;have an:Value.ob a3=([(b_.mk a0 a1)]).length:=by rw [bd]; rfl
 exact oe [] be ⟨a3,G,G,(ag),(an)⟩;intro c1 c2;refine dr ?_;rintro _ _ ⟨a3,rfl,rfl,ag,an⟩;refine vO ?_;obtain ⟨bf,hm⟩:=aI hm;refine Wp [1] ?_;refine cW (α:=b_) (l:=a6) (ys:=[(b_.mk a0 a1)]) G G underlying277 ⟨_,G,G,G,G⟩ G G G G G b4.mm ag bf ?_;intro c3 c4 c5;refine gt ?_;refine gj ?_;exact kx [0,1,1,1,1] 1 (eb b7 b8) G (kK (cA b6 h2.mm.cZ));obtain rfl:=fJ am af;have hm:=(b2 _ _).symm.trans hm;refine gs ?_;obtain ⟨c6,bg,hm⟩:=aT hm;refine cy @ue bg ?_;rintro _ _ _ ⟨rfl,⟨_,rfl,bh,bi,rfl,rfl,ah⟩⟩;have ah:=ah b3;refine go ?_;refine wt 2 ?_;refine gs ?_;refine wt 4 ?_;refine go ?_;obtain rfl:=Q8 hm;exact kD lE G (eM.agg G isAgg241 sizeOf241 (.head _) G) (.cons _ (.cons _ (.cons _ (.cons_cons _ (.cons_cons _ (.cons _ (.refl _))))))) (.swap _ _ _) ⟨G,ab,aq,bh,bi,G,G,a7.mm.pE,(ah).pE⟩
theorem zh {a0:aF}{v0 v1 v2 v3 v4 v5:Q2}{r:Int} (hm:lZ a0=some r) (h0:aO H v0 a0.bH) (h1:aO H v1 a0.aN) (h2:aO H v2 a0.aK) (h3:aO H v3 a0.dS) (h4:aO H v4 a0.bF) (h5:aO H v5 a0.bY):
  Cq B w0 193 [.agg [v0,v1,v2,v3,v4,v5].toArray] H M (yQ r):=by
 unfold lZ at hm;refine fF func193 ?_;refine gs ?_;refine bx (λai=>?_);refine g2 ?_;refine gs ?_;obtain ⟨J,O,hm⟩:=aT hm;refine ca @pD O ?_;rintro _ _ _ ⟨rfl,aj,ak,am,an,rfl,rfl,a5,a6⟩;have a5:=a5 H;have a6:=a6 H;refine xW G G runUnderlying241 G isAgg128 G G (go ?_);refine q8 (.tail _ (.head _)) (λab=>?_);obtain ⟨a7,Y,ad,hm⟩:=cR hm;refine cl [(8,_),(9,_)] [1] 2 [1] 2 (λu m n H' M' L'=>∃ (a1:Nat) (a2:List Int),∃ a3:Int,(J.bR).drop a1=a2/\a2.length=n/\a7 a1 a2 a3=some r/\H.le H'/\m=M'/\(3,.int .i64 (a3))::(10,.int .i64 ((a1:Int)))::u=L') _ G ⟨0,_,_,G,G,hm,lE,G,G⟩ ?_;rintro _ ao _ _ ⟨a1,a2,a3,I,rfl,hm,ap,rfl,rfl⟩;refine g2 ?_;refine bE G (λa4=>?_) (λa4=>?_);obtain ⟨aq,Z,rfl,af,ag⟩:=fK I a4;have hm:=(Y _ _ _ _).symm.trans hm;generalize ah:a7 (a1+1) Z=ar at hm;unfold rK at hm;refine g2 ?_
 refine Nu G G G G (gt ?_);refine gj ?_;exact kj (eb ag ah) (kK (cA af ab));obtain rfl:=fJ I a4;have hm:=(ad _ _).symm.trans hm;refine gs ?_;refine Ek [] 1 ?_;exact ef
theorem sQ {a0:aF}{a1:aY}{I:Q1}{v0 v1 v2 v3 v4 v5 v6 v7:Q2}{r:Int} (hm:mP a0 a1 I=some r) (h0:aO H v0 a0.bH) (h1:aO H v1 a0.aN) (h2:aO H v2 a0.aK) (h3:aO H v3 a0.dS) (h4:aO H v4 a0.bF) (h5:aO H v5 a0.bY) (h6:aO H v6 a1.ql) (h7:aO H v7 a1.bR):
  Cq B w0 156 [.agg [v0,v1,v2,v3,v4,v5].toArray,.agg [v6,v7].toArray,.string (I)] H M (yQ r):=by
 unfold mP at hm;refine fF func156 ?_;refine gs ?_;refine bx (λa4=>?_);refine bx (λa5=>?_);refine gs ?_;obtain ⟨a2,a3,hm⟩:=aT hm;obtain ⟨a6,a7,J,hm⟩:=aC hm;refine oZ fm 10 [ph _,ph _,ph _,ph _,ph _,ph _,ph _,ph (.int .i64 (a2)),ph _,ph _] ⟨om,om,om,om,om,om,om,?_,om,om,Q3⟩ ?_;exact rk tt @cC a3;intro O Y;refine dz ?_;obtain ⟨ab,Z,ad,hm⟩:=aC hm;refine go ?_;refine Ek [] 2 ?_;exact ef
theorem Az {a0:aF}{v0 v1 v2 v3 v4 v5:Q2}{r:(List bN)} (hm:ri a0=some r) (h0:aO H v0 a0.bH) (h1:aO H v1 a0.aN) (h2:aO H v2 a0.aK) (h3:aO H v3 a0.dS) (h4:aO H v4 a0.bF) (h5:aO H v5 a0.bY):
  Cq B w0 155 [.agg [v0,v1,v2,v3,v4,v5].toArray] H M (λH M H' M' v=>H=H'/\∃ J:Q2,∃ I:List Q2,.row J 246 (aG.sz bN) r.length I::M=M'/\J=v/\uq J I r):=by
 unfold ri at hm;refine fF func155 ?_;refine gs ?_;refine bx (λbg=>?_);refine gs ?_;obtain ⟨a4,au,hm⟩:=aT hm;refine ca @pD au ?_;rintro _ _ _ ⟨rfl,af,ag,ah,ai,rfl,rfl,aj,ak⟩;have aj:=aj H;have ak:=ak H;refine al (λbh=>?_);refine wt 0 ?_;refine gs ?_;obtain ⟨bi,av,hm⟩:=aT hm;refine cz @zh av ?_;obtain ⟨am,hm⟩:=aI hm;refine eT (α:=bN) (zs:=[.int .i64 (0),.int .i64 (0),.int .i64 (0)]) (ze:=(bN.mk 0 0 0)) G G underlying243 ⟨_,G,G,G,G⟩ G G G G G G am.1 am.2 ?_;intro a5 bj aw;refine g2 ?_;obtain ⟨an,ax,ay,hm⟩:=cR hm;refine cl [(1,_),(3,_),(4,_),(16,_),(17,_)] [1,1,1,1] 1 [] 0 (λu m n H' M' L'=>∃ (a2:Nat) (a6:List bK),∃ a7:List bN,∃ Z:List Q2,(a0.dS).drop a2=a6/\a6.length=n/\an a2 a6 a7=some r/\Rw H' a5 Z a7/\H.le H'/\.row a5 246 (aG.sz bN) a7.length Z::m=M'/\(18,.int .i64 ((a2:Int)))::u=L') _ G ⟨0,_,_,_,G,G,hm,aw,lE,G,G⟩ ?_
 rintro _ az _ _ ⟨a2,a6,a7,Z,ao,rfl,hm,b0,bk,rfl,rfl⟩;refine g2 ?_;refine bE G (λab=>?_) (λab=>?_);obtain ⟨ac,b1,rfl,b2,b3⟩:=fK ao ab;have hm:=(ax _ _ _ _).symm.trans hm;generalize b4:an (a2+1) b1=bl at hm;unfold sR at hm;refine g2 ?_;refine al (λbm=>?_);refine wt 0 ?_;refine gs ?_;refine Wp [3,3] ?_;obtain ⟨bn,b5,hm⟩:=aT hm;refine cY @sQ b5 ?_;rintro _ _ _ ⟨rfl,⟨_,rfl,⟨_,rfl,rfl,rfl⟩⟩⟩;obtain ⟨a1,bo,bp,hm⟩:=aC hm;refine gs ?_;refine oZ fm 6 [ph _,ph _,ph _,ph _,ph _,ph _] ⟨om,om,om,om,om,om,Q3⟩ ?_;intro bq br;refine dz ?_;refine go ?_;refine wF 3 0 (bN.mk (i64.wrap (a1.iX+ac.iX)) a1.q9 a1.dA) ?_;intro bs bt bu;refine go ?_;refine oZ fm 6 [ph _,ph _,ph _,ph _,ph _,ph _] ⟨om,om,om,om,om,om,Q3⟩ ?_;intro bv bw;refine dz ?_;refine go ?_;refine wF 0 1 (bN.mk (i64.wrap (a1.iX+ac.iX)) (i64.wrap (a1.q9+ac.q9)) a1.dA) ?_
 intro bz c0 c1;refine gt ?_;refine gj ?_;exact kx [0,3,0,0,1] 1 (eb b3 b4) G (kK (cA b2 h3.mm.cZ));obtain rfl:=fJ ao ab;have hm:=(ay _ _).symm.trans hm;refine g2 ?_;obtain ⟨ap,b6,b7,hm⟩:=cR hm;refine cl [(1,_),(3,_),(4,_),(49,_),(50,_)] [1,1,1,1] 1 [] 0 (λu m n H' M' L'=>∃ (a3:Nat) (O:List aH),∃ Y:List bN,∃ ad:List Q2,(a0.bF).drop a3=O/\O.length=n/\ap a3 O Y=some r/\Rw H' a5 ad Y/\az.le H'/\.row a5 246 (aG.sz bN) Y.length ad::m=M'/\(51,.int .i64 ((a3:Int)))::u=L') _ G ⟨0,_,_,_,G,G,hm,b0,lE,G,G⟩ ?_;rintro _ c2 _ _ ⟨a3,O,Y,ad,aq,rfl,hm,c3,c4,rfl,rfl⟩;refine g2 ?_;refine bE G (λae=>?_) (λae=>?_);obtain ⟨b8,b9,rfl,ba,bb⟩:=fK aq ae;have hm:=(b6 _ _ _ _).symm.trans hm;generalize bc:ap (a3+1) b9=c5 at hm;unfold sS at hm;refine g2 ?_;refine al (λc6=>?_);refine wt 0 ?_;refine go ?_
 obtain ⟨bd,be,hm⟩:=aT hm;obtain ⟨bf,c7,c8,hm⟩:=aC hm;refine A1 fm 11 [ph _,ph _,ph _,ph _,ph _,(λH rs v=>[.row af 3 (aG.sz Int) a4.ql.length ag,.row ah 3 (aG.sz Int) a4.bR.length ai]=rs/\.int .i64 (bd)=v),ph _,ph _,ph _,ph _,ph _] (sp 11 [(5,[11,12])]) (nn 11) [3,3] [0,1,2,3,4,5,6,7,8,9,10] G ⟨om,om,om,om,om,?_,om,om,om,om,om,Q3⟩ ?_;intro HX hX X Rest hR;refine dr ?_;intro hU hUp;refine Wp [0,0] ?_;refine cY @sQ be ?_;rintro _ _ _ ⟨rfl,⟨_,rfl,⟨_,rfl,rfl,rfl⟩⟩⟩;exact oe [.row af 3 (aG.sz Int) a4.ql.length ag,.row ah 3 (aG.sz Int) a4.bR.length ai] lE ⟨G,G⟩;intro c9 cb;refine dz ?_;refine Wp [0,0,0,0,0,0] ?_;refine go ?_;obtain ⟨ar,cc,ce,hm⟩:=aC hm;refine go ?_;refine wF 3 2 (bN.mk ar.iX ar.q9 (i64.wrap (bf.dA+b8.dA))) ?_;intro cf cg ch;refine gt ?_;refine gj ?_;exact kx [0,3,0,0,1] 1 (eb bb bc) G (kK (cA ba h4.mm.cZ))
 obtain rfl:=fJ aq ae;have hm:=(b7 _ _).symm.trans hm;refine gs ?_;refine Ek [0] 4 ?_;exact ef
theorem yI {a0:Int}{r:Bool} (hm:oG a0=r):
  Cq B w0 158 [.int .i64 (a0)] H M (G4 r):=by
 unfold oG at hm;refine fF func158 ?_;refine g2 ?_;obtain rfl:=hm;refine Ew H ?_;exact lL G G ⟨G,G,G⟩
end Go.Sim
