/-
  The proof, part C1.
-/
import Derived.KernelRfl
import Derived.Shelf.Small.Bits
import Derived.Shelf.Strconv.Itoa0
import Derived.Shelf.Strconv.Itoa1
import Derived.Shelf.LaysM
import Derived.Shelf.Strconv.Itoa2
import Derived.Shelf.Strconv.Itoa3
import Derived.Shelf.Strconv.Clone
import Derived.Shelf.Strconv.SyntaxError
import Derived.Shelf.LaysC
import Derived.Shelf.Strconv.ToError
import Derived.Shelf.Strconv.Lower
import Derived.Shelf.Strconv.ParseUint10
import Derived.Shelf.Strconv.ParseUint10Empty
import Derived.Shelf.Strconv.ParseUint10Any
import Derived.Shelf.Strconv.RangeError
import Derived.Shelf.Strconv.ToErrorRange
import Derived.Shelf.Strconv.ParseUintEmpty
import Derived.Shelf.Strconv.ParseUint10b64
import Derived.Shelf.Strconv.ParseUint10b32
import Derived.Shelf.Strconv.ParseUint10b16
import Derived.Shelf.Strconv.ParseUint10b8
import Derived.Test.YthomhaphclgbcaaGreatDoorProg
import Derived.Test.YthomhaphclgbcaaGreatDoorRows
import Derived.Test.YthomhaphclgbcaaGreatDoorSqA2
set_option linter.unusedVariables false
set_option linter.unusedSimpArgs false
set_option linter.unusedSectionVars false
set_option linter.unnecessarySimpa false
namespace Go.Sim
abbrev RR := @Int.natCast_nonneg
abbrev Rd := @List.Perm.refl
abbrev Sq := @List.length_eq_one_iff
abbrev QI := @List.length_nil
abbrev Si := @Nat.and_two_pow_sub_one_eq_mod
abbrev Se := @Go.Proofs.Tryz.isAgg29
abbrev QN := @Go.Proofs.Tryz.runUnderlying158
abbrev S7 := @Go.Proofs.Tryz.runUnderlying168
abbrev R8 := @Go.Proofs.Tryz.runUnderlying198
abbrev P3 := @Go.Proofs.Tryz.runUnderlying22
abbrev Tj := @Go.Proofs.Tryz.runUnderlying25
abbrev Sm := @Go.Proofs.Tryz.runUnderlying26
abbrev Tk := @Go.Proofs.Tryz.runUnderlying29
abbrev Rf := @Go.Proofs.Tryz.runUnderlying3
abbrev S1 := @Go.Proofs.Tryz.runUnderlying4
abbrev Qm := @Go.Proofs.Tryz.runUnderlying48
abbrev PI := @Go.Proofs.Tryz.runUnderlying9
abbrev RW := @Go.Proofs.Tryz.sizeOf29
abbrev QA := @Go.Proofs.Tryz.sizeOf3
abbrev QP := @Go.Proofs.Tryz.sizeOf9
abbrev Ra := @Go.Proofs.Tryz.underlying22
abbrev Qx := @Go.Proofs.Tryz.underlying48
abbrev Rg := @Go.Proofs.Tryz.zeroValue3
abbrev QT := @Go.Proofs.Tryz.zeroValue9
end Go.Sim
namespace Go.Sim
open Go
open _root_.Go.IntKind (i64 u64 u32 u8)
theorem G {α : Sort _} {a : α} : a = a := rfl
def zt:Nat->List bL->Option (bL×List bL)
 | _,[]=>none
 | 0,r::l=>some (r,l)
 | n+1,r::l=>match zt n l with
  | some (s,l')=>some (s,r::l')
  | none=>none
theorem tM:∀ {n:Nat}{l:List bL}{r:bL}{l':List bL},zt n l=some (r,l')->l.Perm (r::l')
 | _,[],_,_,h=>by simp [zt] at h
 | 0,s::l,r,l',h=>by simp only [zt,Pk,Rc] at h; rw [h.1,h.2]
 | n+1,s::l,r,l',h=>by
  simp only [zt] at h
  split at h
  ·rename_i q l2 e
   simp only [Pk,Rc] at h;obtain ⟨rfl,rfl⟩:=h;exact ((tM e).cons s).trans (List.Perm.swap _ _ _)
  ·cases h
def zi:List Nat->List bL->Option (List bL)
 | [],l=>some l
 | i::J,l=>match zt i l with
  | some (r,l')=>(match zi J l' with
   | some I=>some (r::I)
   | none=>none)
  | none=>none
theorem vK:∀ {ix:List Nat}{l l':List bL},zi ix l=some l'->l.Perm l'
 | [],l,l',h=>by simp only [zi,Pk] at h; rw [h]
 | i::I,l,l',h=>by
  simp only [zi] at h
  split at h
  ·rename_i r l1 e
   split at h
   ·rename_i l2 e2
    simp only [Pk] at h;subst h;exact (tM e).trans ((vK e2).cons r)
   ·cases h
  ·cases h
def Dj:Nat->List bL->Option (List bL)
 | 0,l=>some l
 | _+1,[]=>none
 | n+1,_::l=>Dj n l
theorem Bt:∀ {n:Nat}{l l':List bL},Dj n l=some l'->l'.Sublist l
 | 0,l,l',h=>by simp only [Dj,Pk] at h; rw [h]; exact QQ _
 | n+1,[],l',h=>by simp [Dj] at h
 | n+1,r::l,l',h=>(Bt (n:=n) (l:=l) h).cons r
def xx:List Nat->Nat->List bL->Option (List bL)
 | [],d,l=>Dj d l
 | i::J,d,l=>match zt i l with
  | some (r,l')=>(match xx J d l' with
   | some I=>some (r::I)
   | none=>none)
  | none=>none
theorem yU:∀ {ix:List Nat}{d:Nat}{l l':List bL},xx ix d l=some l'->∃ k,l.Perm k/\l'.Sublist k
 | [],d,l,l',h=>⟨l,Rd _,Bt h⟩
 | i::J,d,l,l',h=>by
  simp only [xx] at h
  split at h
  ·rename_i r l1 e
   split at h
   ·rename_i l2 e2
    simp only [Pk] at h;subst h;obtain ⟨k,I,hs⟩:=yU e2;exact ⟨r::k,(tM e).trans (I.cons r),hs.cons_cons r⟩
   ·cases h
  ·cases h
def Jq:List Nat->List bL->Option (List (List bL)×List bL)
 | [],l=>some ([],l)
 | i::J,l=>match zt i l with
  | some (r,l')=>(match Jq J l' with
   | some (I,m)=>some ([r]::I,m)
   | none=>none)
  | none=>none
theorem BL:∀ {ix:List Nat}{l:List bL}{I:List (List bL)}{m:List bL},Jq ix l=some (I,m)->l.Perm (I.flatten++m)
 | [],l,I,m,h=>by simp only [Jq,Pk,Rc] at h; obtain ⟨rfl,rfl⟩:=h; exact Rd _
 | i::J,l,I,m,h=>by
  simp only [Jq] at h
  split at h
  ·rename_i r l1 e
   split at h
   ·rename_i I2 m2 e2
    simp only [Pk,Rc] at h;obtain ⟨rfl,rfl⟩:=h;simpa using (tM e).trans ((BL e2).cons r)
   ·cases h
  ·cases h
section
variable {x:Cx}{ops:Array Oper}{Q:k_}{rest:List Oper}{H:Hp}{M M':List bL}{L L':Env}{e:Exit}{c:Code}
theorem Wp (ix:List Nat) (k:W x ops Q rest H M' L) (h:zi ix M=some M':=by rfl):W x ops Q rest H M L:=nt (vK h) k
theorem Cp (ix:List Nat) (k:Sim.C x c Q H M' L) (h:zi ix M=some M':=by rfl):Sim.C x c Q H M L:=zL (vK h) k
theorem Ep (ix:List Nat) (k:E x e Q H M' L) (h:zi ix M=some M':=by rfl):E x e Q H M L:=D7 (vK h) k
theorem Ek (ix:List Nat) (d:Nat) (k:E x e Q H M' L) (h:xx ix d M=some M':=by rfl):E x e Q H M L:=by
 obtain ⟨n,I,hs⟩:=yU h;exact D7 I (Ho hs k)
theorem Ck (ix:List Nat) (d:Nat) (k:Sim.C x c Q H M' L) (h:xx ix d M=some M':=by rfl):Sim.C x c Q H M L:=by
 obtain ⟨n,I,hs⟩:=yU h;exact zL I (λa w s t=>k a w s (t.sub hs))
theorem kx (ix:List Nat) (d:Nat) (k:E x e Q H M' L') (h:xx ix d M=some M':=by rfl) (hL:Kept L L':=by repeat first | exact O0 | refine ⟨rfl,?_⟩):E x e Q H M L:=
 Ek ix d (BM hL (Rd _) k) h
theorem NP (ix:List Nat) (d:Nat) (S:Bm) (n:Nat) (I:S n H M' L') (step:∀ n H M L,S n H M L->Sim.C x c (Exit.then (Hm x S n) Q) H M L) (h:xx ix d M=some M':=by rfl) (hL:Kept L L':=by repeat first | exact O0 | refine ⟨rfl,?_⟩):Sim.C x (.loop c) Q H M L:=
 Ck ix d (zJ hL (Rd _) (zK S n I step)) h
end
def G7:Nat->OY->List OY->Option (List OY)
 | _,_,[]=>none
 | 0,v,_::l=>some (v::l)
 | n+1,v,u::l=>match G7 n v l with
  | some l'=>some (u::l')
  | none=>none
def zh:List OY->Nat->List OY->Option (List OY)
 | l,_,[]=>some l
 | l,k,v::vs=>match G7 k v l with
  | some l'=>zh l' (k+1) vs
  | none=>none
theorem F8:∀ {n:Nat}{v:OY}{l l':List OY},G7 n v l=some l'->l.set n v=l'/\n<l.length
 | _,_,[],_,h=>by simp [G7] at h
 | 0,v,u::l,l',h=>by simp only [G7,Pk] at h; subst h; exact ⟨rfl,by simp⟩
 | n+1,v,u::l,l',h=>by
  simp only [G7] at h
  split at h
  ·rename_i l2 e
   simp only [Pk] at h;subst h;obtain ⟨I,J⟩:=F8 e;exact ⟨by simp [I],by simp; omega⟩
  ·cases h
theorem AU:∀ {vs:List OY}{l:List OY}{k:Nat}{l':List OY},zh l k vs=some l'->over l k vs=l'/\(vs=[]\/k+vs.length<=l.length)
 | [],l,k,l',h=>by simp only [zh,Pk] at h; subst h; exact ⟨rfl,.inl rfl⟩
 | v::vs,l,k,l',h=>by
  simp only [zh] at h
  split at h
  ·rename_i l2 e
   obtain ⟨I,Y⟩:=F8 e;obtain ⟨O,J⟩:=AU h;refine ⟨by simp only [over]; rw [I]; exact O,.inr ?_⟩
   have hl:l2.length=l.length:=by rw [<- I]; simp
   rcases J with rfl | J
   ·simp; omega
   ·simp only [Pa]; omega
  ·cases h
section
variable {x:Cx}{ops:Array Oper}{Q:k_}{rest:List Oper}{H:Hp}{M M':List bL}{L L':Env}{ty:TypeId}{pos:String}{aft:Array Edge}{g:Option (Nat×Bool)}
theorem ws (i:Nat) {T U n b o:Nat}{y z:Operand}{l cs out:List OY}{v:OY}{M1:List bL} (Z:v.cells=cs.toArray)
  (k:W x ops Q rest H (.obj b (.cells out.toArray U (0,0))::M1) L)
  (h1:∀ c ∈ cs,c.oneCell'=true:=by repeat first | exact QH | refine cK rfl ?_)
  (hy:ev L y=some (.pointer (some ⟨b,o,none⟩)):=by rfl) (hz:ev L z=some v:=by rfl) (hM:zt i M=some (.obj b (.cells l.toArray U (0,0)),M1):=by rfl)
  (Y:gd ops L ⟨none,.store T y z,ty,pos,aft,g⟩=some true:=by rfl) (hn:∀ w,(sizeOf T).run x.P w=.ok n w:=by exact λ_=>rfl) (hl:cs.length=n:=by rfl) (ho:zh l o cs=some out:=by rfl):
  W x ops Q (⟨none,.store T y z,ty,pos,aft,g⟩::rest) H M L:=by
 refine nt (tM hM) ?_;obtain ⟨I,J⟩:=AU ho;rcases J with rfl | J
 ·have I:l=out:=I
  subst I;exact BY rfl Y (λa w hs ht=>⟨w,by
   have O:n=0:=hl.symm;subst O;simp [execOp,hs.ev hy,hs.ev hz,Instr.storeAt,Instr.sureAddr,storeVar,hn,Z,storeCells],H,_,ht,k⟩)
 ·exact BZ Y hn hy hz Z hl (by simpa [Rx] using J) h1 I k
end
def LU:Nat->List bL->Option (List bL)
 | 0,l=>some l
 | _+1,[]=>none
 | n+1,r::l=>match LU n l with
  | some l'=>some (r::l')
  | none=>none
theorem EI:∀ {n:Nat}{l l':List bL},LU n l=some l'->l=l'
 | 0,l,l',h=>by simpa [LU] using h
 | n+1,[],l',h=>by simp [LU] at h
 | n+1,r::l,l',h=>by
  simp only [LU] at h
  split at h
  ·rename_i l2 e
   simp only [Pk] at h;subst h;rw [EI e]
  ·cases h
section
variable {x:Cx}{ops:Array Oper}{Q:k_}{rest:List Oper}{H:Hp}{M M' M1:List bL}{rs:List bL}{L L':Env}{e:Exit}{c:Code}
theorem Wu (n:Nat) (k:W x ops Q rest H M' L) (h:M=iY rs::M1:=by rfl) (I:LU n (rs++M1)=some M':=by rfl):W x ops Q rest H M L:=λa w hs ht=>k a w hs (by rw [<- EI I]; rw [h] at ht; exact ht.unpack)
theorem Cu (n:Nat) (k:Sim.C x c Q H M' L) (h:M=iY rs::M1:=by rfl) (I:LU n (rs++M1)=some M':=by rfl):Sim.C x c Q H M L:=λa w hs ht=>k a w hs (by rw [<- EI I]; rw [h] at ht; exact ht.unpack)
theorem Wk (rs:List bL) (k:W x ops Q rest H (iY rs::M1) L) (h:rs++M1=M:=by rfl):W x ops Q rest H M L:=λa w hs ht=>k a w hs (by rw [<- h] at ht; exact ht.pack)
theorem w7 (rs:List bL) (k:E x e Q H (iY rs::M1) L) (h:rs++M1=M:=by rfl):E x e Q H M L:=λa w hs ht=>k a w hs (by rw [<- h] at ht; exact ht.pack)
end
section
variable {x:Cx}{ops:Array Oper}{Q:k_}{rest:List Oper}{H:Hp}{M:List bL}{L:Env}{e:Exit}{c:Code}
theorem ux (k:W x ops Q rest H M L):W x ops Q rest H M L:=k
theorem MU (k:E x e Q H M L):E x e Q H M L:=k
theorem MT (k:Go.Sim.C x c Q H M L):Go.Sim.C x c Q H M L:=k
end
section
variable {x:Cx}{ops:Array Oper}{Q:k_}{rest:List Oper}{H:Hp}{M:List bL}{L:Env}{d:Nat}{ty:TypeId}{pos:String}{aft:Array Edge}{g:Option (Nat×Bool)}
theorem fq {T:TypeId}{y:Operand}{ad:Addr}{f n o J O:Nat}{fs:Array Field}{nm tg pp:String}{em:Bool} (k:W x ops Q rest H M ((d,.pointer (some (ad.add o)))::L))
  (hy:ev L y=some (.pointer (some ad)):=by rfl) (Y:∀ w,(underlying T).run x.P w=.ok (.struct fs) w:=by exact λ_=>rfl) (Z:fs[f]? = some ⟨nm,J,o,em,tg,pp,O⟩:=by rfl) (hn:∀ w,(sizeOf J).run x.P w=.ok n w:=by exact λ_=>rfl)
  (I:Nat.beq n 0=false:=by rfl) (hg:gd ops L ⟨some d,.fieldAddr T y f,ty,pos,aft,g⟩=some true:=by rfl) (hN:Nat.blt d x.N=true:=by rfl):
  W x ops Q (⟨some d,.fieldAddr T y f,ty,pos,aft,g⟩::rest) H M L:=tw hg hN Y Z hn I rfl hy k
end
section
variable {x:Cx}{ops:Array Oper}{Q:k_}{rest:List Oper}{H:Hp}{M:List bL}{L:Env}{d:Nat}{ty:TypeId}{pos:String}{aft:Array Edge}{g:Option (Nat×Bool)}{y z c:Operand}{T U:TypeId}{n:Nat}{o:Oper}{op:BinOp}{uo:UnOp}{tys:Array TypeId}{fn:Fn}{ys bs:Array Operand}
theorem MW (k:W x ops Q (o::rest) H M L):W x ops Q (o::rest) H M L:=k
theorem p1 (k:W x ops Q (⟨some d,.move y,ty,pos,aft,g⟩::rest) H M L):W x ops Q (⟨some d,.move y,ty,pos,aft,g⟩::rest) H M L:=k
theorem p2 (k:W x ops Q (⟨some d,.assign y,ty,pos,aft,g⟩::rest) H M L):W x ops Q (⟨some d,.assign y,ty,pos,aft,g⟩::rest) H M L:=k
theorem p3 (k:W x ops Q (⟨some d,.fieldAddr T y n,ty,pos,aft,g⟩::rest) H M L):W x ops Q (⟨some d,.fieldAddr T y n,ty,pos,aft,g⟩::rest) H M L:=k
theorem p4 (k:W x ops Q (⟨some d,.load T y,ty,pos,aft,g⟩::rest) H M L):W x ops Q (⟨some d,.load T y,ty,pos,aft,g⟩::rest) H M L:=k
theorem p5 (k:W x ops Q (⟨some d,.binOp op T y z U,ty,pos,aft,g⟩::rest) H M L):W x ops Q (⟨some d,.binOp op T y z U,ty,pos,aft,g⟩::rest) H M L:=k
theorem p6 (k:W x ops Q (⟨some d,.pick c y z,ty,pos,aft,g⟩::rest) H M L):W x ops Q (⟨some d,.pick c y z,ty,pos,aft,g⟩::rest) H M L:=k
theorem p7 (k:W x ops Q (⟨some d,.extract y n,ty,pos,aft,g⟩::rest) H M L):W x ops Q (⟨some d,.extract y n,ty,pos,aft,g⟩::rest) H M L:=k
theorem p8 (k:W x ops Q (⟨some d,.nilCheck y,ty,pos,aft,g⟩::rest) H M L):W x ops Q (⟨some d,.nilCheck y,ty,pos,aft,g⟩::rest) H M L:=k
theorem p9 (k:W x ops Q (⟨some d,.unOp uo T y,ty,pos,aft,g⟩::rest) H M L):W x ops Q (⟨some d,.unOp uo T y,ty,pos,aft,g⟩::rest) H M L:=k
theorem pa (k:W x ops Q (⟨some d,.convert T U y,ty,pos,aft,g⟩::rest) H M L):W x ops Q (⟨some d,.convert T U y,ty,pos,aft,g⟩::rest) H M L:=k
theorem pb (k:W x ops Q (⟨some d,.makeFunc fn ys bs,ty,pos,aft,g⟩::rest) H M L):W x ops Q (⟨some d,.makeFunc fn ys bs,ty,pos,aft,g⟩::rest) H M L:=k
theorem pc (k:W x ops Q (⟨some d,.call ⟨.builtin .len,#[y],#[T]⟩,ty,pos,aft,g⟩::rest) H M L):W x ops Q (⟨some d,.call ⟨.builtin .len,#[y],#[T]⟩,ty,pos,aft,g⟩::rest) H M L:=k
theorem pg {j:Nat}{w:Bool}{J:Op}{I:Option Nat} (k:W x ops Q (⟨I,J,ty,pos,aft,some (j,w)⟩::rest) H M L):W x ops Q (⟨I,J,ty,pos,aft,some (j,w)⟩::rest) H M L:=k
end
abbrev ph (a:OY):Hp->List bL->OY->Prop:=λ_ rs v=>[]=rs/\a=v
def nn (n:Nat):List (List Nat):=List.replicate n []
section
variable {x:Cx}{ops:Array Oper}{Q:k_}{H H':Hp}{M:List bL}{L:Env}{t:Nat}{ps:Option Nat}{v:OY}{φ:Hp->List bL->OY->Prop}
theorem o0 (h:φ H [] v):W x ops (BP x H M L (some t) ps φ) [] H M ((t,v)::L):=aY (eX [] (PX _) h)
theorem oe (rs:List bL) (I:H.le H') (h:φ H' rs v):W x ops (BP x H M L (some t) ps φ) [] H' (rs++M) ((t,v)::L):=aY (eX rs I h)
end
theorem dr {P Q:Prop} (k:Q) (h:Q->P:=by
  intro k
  repeat (rintro _ _ ⟨rfl,rfl⟩)
  exact k):P:=h k
theorem dz {P Q:Prop} (k:Q) (h:Q->P:=by
  intro k
  repeat (rintro _ _ ⟨rfl,rfl⟩)
  refine ux ?_;exact k):P:=h k
theorem ma {P:Prop} (h:P:=by
    repeat' first
      | exact O0
      | exact fW _ _
      | refine ⟨?_,?_⟩
      | (intro J O rs v I
         repeat' first
           | exact λh=>h
           | exact λh=>aN.mono I h
           | exact λh=>Rw.mono I h
           | exact λh=>pF.mono I h
           | exact λh=>gR.mono I h
           | exact λh=>Mx.mono h I
           | refine Exists.imp (λ_=>?_)
           | refine And.imp ?_ ?_)):P:=h
theorem N2 {x:Cx}{l:List Oper}{Q:k_}{H:Hp}{M:List bL}{L:Env}{id:Nat} (O:x.P.follows .mixedOrders=true) (m:Nat) (F:List (Hp->List bL->OY->Prop)) (C U:List (List Nat)) (I:List (List bL)) (live:List Nat)
  (hop:wy x l (yz F) C U [] (CS m I) H M L 0 (l.take m))
  (k:∀ H',H.le H'->vw l (yz F) H' (List.range m) L (CS m I) (λL' R=>W x l.toArray Q (l.drop m) H' (sY live R M) L'))
  (hB:uk l m=true:=by kernel_rfl) (Z:Nat.ble m l.length=true:=by rfl) (hD:xJ l m L=true:=by rfl) (Y:xK l m=true:=by rfl)
  (hT:Fb l m (m+I.length) C U live=true:=by kernel_rfl) (J:zO F:=by exact ma):Go.Sim.C x (.region id l.toArray true) Q H (I.flatten++M) L:=
 qO m (yz F) C U I live O hB Z hD Y hT (tN J) hop k
def ND:Nat->Nat->List (Nat×List Nat)->List (List Nat)
 | 0,_,_=>[]
 | n+1,i,[]=>[]::ND n (i+1) []
 | n+1,i,(j,c)::l=>bif Nat.beq i j then c::ND n (i+1) l else []::ND n (i+1) ((j,c)::l)
def sp (n:Nat) (l:List (Nat×List Nat)):List (List Nat):=ND n 0 l
theorem zj {x:Cx}{l:List Oper}{Q:k_}{H:Hp}{M Y:List bL}{L:Env}{id:Nat}{I:List (List bL)} (O:x.P.follows .mixedOrders=true) (m:Nat) (F:List (Hp->List bL->OY->Prop)) (C U:List (List Nat)) (ix live:List Nat)
  (hI:Jq ix M=some (I,Y))
  (hop:wy x l (yz F) C U [] (CS m I) H Y L 0 (l.take m))
  (k:∀ H',H.le H'->vw l (yz F) H' (List.range m) L (CS m I) (λL' R=>W x l.toArray Q (l.drop m) H' (sY live R Y) L'))
  (hB:uk l m=true:=by kernel_rfl) (hml:Nat.ble m l.length=true:=by rfl) (hD:xJ l m L=true:=by rfl) (Z:xK l m=true:=by rfl)
  (hT:Fb l m (m+I.length) C U live=true:=by kernel_rfl) (J:zO F:=by exact ma):Go.Sim.C x (.region id l.toArray true) Q H M L:=
 zL (BL hI) (N2 O m F C U I live hop k hB hml hD Z hT J)
theorem oz {x:Cx}{l:List Oper}{Q:k_}{H:Hp}{M:List bL}{L:Env}{id:Nat} (J:x.P.follows .mixedOrders=true) (m:Nat) (F:List (Hp->List bL->OY->Prop))
  (Z:wy x l (yz F) (nn m) (nn m) [] (CS m []) H M L 0 (l.take m))
  (k:∀ H',H.le H'->vw l (yz F) H' (List.range m) L (CS m []) (λL' R=>W x l.toArray Q (l.drop m) H' (sY (List.range m) R M) L'))
  (hB:uk l m=true:=by kernel_rfl) (Y:Nat.ble m l.length=true:=by rfl) (hD:xJ l m L=true:=by rfl) (O:xK l m=true:=by rfl)
  (hT:Fb l m m (nn m) (nn m) (List.range m)=true:=by kernel_rfl) (I:zO F:=by exact ma):Go.Sim.C x (.region id l.toArray true) Q H M L:=
 qO m (yz F) (nn m) (nn m) [] (List.range m) J hB Y hD O hT (tN I) Z k
theorem cS {α I R:Type}{B:Nat->α->I->(I->Option R)->Option R}{K:I->Option R}{l:List α}{s:I}{r:Option R}{i:Nat} (h:dR B K i l s=r):
  ∃ F:Nat->List α->I->Option R,(∀ i y ys s,F i (y::ys) s=B i y s (F (i+1) ys))/\(∀ i s,F i [] s=K s)/\F i l s=r:=⟨dR B K,λ_ _ _ _=>rfl,λ_ _=>rfl,h⟩
theorem iH {I R:Type}{B:Nat->I->(I->Option R)->Option R}{K:I->Option R}{m:Nat}{s:I}{r:Option R}{i:Nat} (h:jQ B K m i s=r):
  ∃ F:Nat->Nat->I->Option R,(∀ m i s,F (m+1) i s=B i s (F m (i+1)))/\(∀ i s,F 0 i s=K s)/\F m i s=r:=⟨jQ B K,λ_ _ _=>rfl,λ_ _=>rfl,h⟩
theorem jM {I R:Type}{B:I->(I->Option R)->Option R}{m:Nat}{s:I}{r:Option R} (h:gG B m s=r):
  ∃ F:Nat->I->Option R,(∀ m s,F (m+1) s=B s (F m))/\(∀ s,F 0 s=none)/\F m s=r:=⟨gG B,λ_ _=>rfl,λ_=>rfl,h⟩
section
variable {x:Cx}{Q:k_}{H:Hp}{M M':List bL}{L L':Env}{e:Exit}{c:Code}
theorem kj (k:E x e Q H M L') (hL:Kept L L':=by repeat first | exact O0 | refine ⟨rfl,?_⟩):E x e Q H M L:=BM hL (Rd _) k
theorem kp (k:E x e Q H M' L') (I:M.Perm M') (hL:Kept L L':=by repeat first | exact O0 | refine ⟨rfl,?_⟩):E x e Q H M L:=BM hL I k
theorem LK (S:Bm) (n:Nat) (I:S n H M L') (step:∀ n H M L,S n H M L->Go.Sim.C x c (Exit.then (Hm x S n) Q) H M L) (hL:Kept L L':=by repeat first | exact O0 | refine ⟨rfl,?_⟩):Go.Sim.C x (.loop c) Q H M L:=
 zJ hL (Rd _) (zK S n I step)
theorem cj {m:List bL}{d:Code} (u:Env) (ix:List Nat) (e:Nat) (S:Env->List bL->MG) (rest:∀ H M L,S u m H M L->Go.Sim.C x d Q H M L)
  (k:(∀ H M L,S u m H M L->E x .normal (Exit.then (d.wp x.P Q) Q) H M L)->Go.Sim.C x c (Exit.then (d.wp x.P Q) Q) H M L) (hm:xx ix e M=some m:=by rfl) (I:Kept L u:=by repeat first | exact O0 | refine ⟨rfl,?_⟩):Go.Sim.C x (.seq c d) Q H M L:=
 qZ (S u m) rest k
theorem cl {m:List bL} (u:Env) (J:List Nat) (e:Nat) (ix:List Nat) (d:Nat) (S:Env->List bL->Bm) (n:Nat) (hm:xx J e M=some m) (I:S u m n H M' L') (step:∀ n H M L,S u m n H M L->Go.Sim.C x c (Exit.then (Hm x (S u m) n) Q) H M L)
  (h:xx ix d M=some M':=by rfl) (O:Kept L u:=by repeat first | exact O0 | refine ⟨rfl,?_⟩) (hL:Kept L L':=by repeat first | exact O0 | refine ⟨rfl,?_⟩):Go.Sim.C x (.loop c) Q H M L:=
 NP ix d (S u m) n I step h hL
theorem cd {α:Type}{o:Operand}{p q:Code}{b:Bool}{u v r:α} (hm:(if b=true then u else v)=r) (I:ev L o=some (.bool b)) (J:b=true->u=r->Go.Sim.C x p Q H M L) (O:b=false->v=r->Go.Sim.C x q Q H M L):Go.Sim.C x (.cond o p q) Q H M L:=
 bB I (λh=>J h (eN h hm)) (λh=>O h (eM h hm))
theorem cT {o:Operand}{p q:Code} (I:ev L o=some (.bool true)) (k:Go.Sim.C x p Q H M L):Go.Sim.C x (.cond o p q) Q H M L:=bB I (λ_=>k) (λh=>Bool.noConfusion h)
theorem cF {o:Operand}{p q:Code} (I:ev L o=some (.bool false)) (k:Go.Sim.C x q Q H M L):Go.Sim.C x (.cond o p q) Q H M L:=bB I (λh=>Bool.noConfusion h) (λ_=>k)
end
theorem sb {a b:Bool} (h:a=b):some (Value.bool a)=some (Value.bool b):=by rw [h]
theorem Ln:(∀ b,(b && true)=b)/\(∀ b,(true && b)=b)/\(∀ b,(false && b)=false)/\(∀ b,(b && false)=false)/\(∀ b,(b || true)=true)/\(∀ b,(true || b)=true)/\(∀ b,(b || false)=b)/\(∀ b,(false || b)=b)/\(!true)=false/\(!false)=true/\(∀ α:Type,(none:Option α).isNone=true)/\(∀ (α:Type) (a:α),(some a).isNone=false):=by
 refine ⟨?_,?_,?_,?_,?_,?_,?_,?_,rfl,rfl,λ_=>rfl,λ_ _=>rfl⟩ <;> intro b <;> cases b <;> rfl
section
variable {x:Cx}{ops:Array Oper}{Q:k_}{rest:List Oper}{H:Hp}{M:List bL}{L:Env}{d:Nat}{ty:TypeId}{pos:String}{aft:Array Edge}{g:Option (Nat×Bool)}
theorem lo {T b i U:Nat}{fz:Nat×Nat}{y:Operand}{l:List OY}{v:OY} (I:∀ w,(isAgg T).run x.P w=.ok false w) (Y:ev L y=some (.pointer (some ⟨b,i,none⟩))) (hm:bL.obj b (.cells l.toArray U fz) ∈ M) (J:l[i]? = some v)
  (k:W x ops Q rest H M ((d,v)::L)) (O:gd ops L ⟨some d,.load T y,ty,pos,aft,g⟩=some true:=by rfl) (hN:Nat.blt d x.N=true:=by rfl):W x ops Q (⟨some d,.load T y,ty,pos,aft,g⟩::rest) H M L:=
 pL O hN I Y (uT hm J) k
theorem la {T b U n:Nat}{fz:Nat×Nat}{y:Operand}{l:List OY} (I:∀ w,(isAgg T).run x.P w=.ok true w) (hn:∀ w,(sizeOf T).run x.P w=.ok n w) (O:ev L y=some (.pointer (some ⟨b,0,none⟩))) (hm:bL.obj b (.cells l.toArray U fz) ∈ M) (hl:l.length=n)
  (k:W x ops Q rest H M ((d,.agg l.toArray)::L)) (J:gd ops L ⟨some d,.load T y,ty,pos,aft,g⟩=some true:=by rfl) (hN:Nat.blt d x.N=true:=by rfl):W x ops Q (⟨some d,.load T y,ty,pos,aft,g⟩::rest) H M L:=
 iD J hN I hn O (CA hm) hl k
theorem fi {T:TypeId}{y:Operand}{ad:Addr}{f n:Nat}{fs:Array Field}{I:Field} (o:Nat) (O:∀ w,(underlying T).run x.P w=.ok (.struct fs) w) (Y:fs[f]? = some I) (hn:∀ w,(sizeOf I.type).run x.P w=.ok n w) (hy:ev L y=some (.pointer (some ad)))
  (k:W x ops Q rest H M ((d,.pointer (some (ad.add o)))::L)) (ho:I.offset=o:=by rfl) (J:Nat.beq n 0=false:=by rfl) (Z:gd ops L ⟨some d,.fieldAddr T y f,ty,pos,aft,g⟩=some true:=by rfl) (hN:Nat.blt d x.N=true:=by rfl):
  W x ops Q (⟨some d,.fieldAddr T y f,ty,pos,aft,g⟩::rest) H M L:=tw Z hN O Y hn J ho hy k
end
theorem lE {H H':Hp} (h:H.le H':=by first | exact PX _ | assumption | ((repeat first | assumption | exact PX _ | refine SF ?_ (by assumption)); done)):H.le H':=h
section
variable {α:Type}[aE α] {H H':Hp}{v:OY}{xs:List OY}{l:List α}{ad:Addr}
theorem aN.mm (h:aN H v l) (e:H.le H':=by exact lE):aN H' v l:=aN.mono e h
theorem Rw.mm (h:Rw H v xs l) (e:H.le H':=by exact lE):Rw H' v xs l:=Rw.mono e h
theorem pF.mm (h:pF H xs l) (e:H.le H':=by exact lE):pF H' xs l:=pF.mono e h
theorem gR.mm (h:gR H ad xs) (e:H.le H':=by exact lE):gR H' ad xs:=gR.mono e h
theorem Mx.mm {T1 T2:TypeId}{hs:List OY}{mx:List bL}{sg:List Nat}{ls:List (List α)} (h:Mx T1 T2 H v hs mx sg ls) (e:H.le H':=by exact lE):Mx T1 T2 H' v hs mx sg ls:=Mx.mono h e
end
section
variable {x:Cx}{ops:Array Oper}{Q:k_}{rest:List Oper}{H H0:Hp}{M:List bL}{L:Env}{d:Nat}{ty:TypeId}{pos:String}{aft:Array Edge}{g:Option (Nat×Bool)}{ee:Exit}
theorem Ew (H0:Hp) (k:E x ee Q H0 M L) (h:H0.le H:=by exact lE):E x ee Q H M L:=D8 h k
theorem Az {α:Type}[aE α] {t e:TypeId}{y z:Operand}{v:OY}{xs:List α}{el:α}{kk:IntKind}{i:Int}{n:Nat} (hR:aN H0 v xs) (he:xs[n]? = some el)
  (k:W x ops Q rest H M ((d,.pointer (some ((Value.base v).add (i.toNat*aE.sz α))))::L)) (I:H0.le H:=by exact lE) (Z:ev L y=some v:=by rfl) (hz:ev L z=some (.int kk i):=by rfl) (hn:i.toNat=n:=by rfl)
  (J:0<=i:=by first | exact RR _ | assumption | decide) (O:∀ w,(underlying t).run x.P w=.ok (.slice e) w:=by exact λ_=>rfl) (hs:∀ w,(sizeOf e).run x.P w=.ok (aE.sz α) w:=by exact λ_=>rfl)
  (Y:gd ops L ⟨some d,.indexAddr t y z,ty,pos,aft,g⟩=some true:=by rfl) (hN:Nat.blt d x.N=true:=by rfl):W x ops Q (⟨some d,.indexAddr t y z,ty,pos,aft,g⟩::rest) H M L:=
 C5 Y hN O hs Z (aN.mono I hR) hz J (by rw [hn]; exact he) k
theorem lr {α:Type}[aE α] {t e:TypeId}{y:Operand}{v:OY}{xs:List α} (hR:aN H0 v xs) (k:W x ops Q rest H M ((d,.int .i64 xs.length)::L)) (I:H0.le H:=by exact lE) (Y:ev L y=some v:=by rfl)
  (J:∀ w,(underlying t).run x.P w=.ok (.slice e) w:=by exact λ_=>rfl) (O:gd ops L ⟨some d,.call ⟨.builtin .len,#[y],#[t]⟩,ty,pos,aft,g⟩=some true:=by rfl) (hN:Nat.blt d x.N=true:=by rfl):
  W x ops Q (⟨some d,.call ⟨.builtin .len,#[y],#[t]⟩,ty,pos,aft,g⟩::rest) H M L:=HE O hN J Y (aN.mono I hR) k
theorem sZ {α:Type}{v:OY}{T:TypeId}{sz n:Nat}{xs:List OY}{t e:TypeId}{y z:Operand}{kk:IntKind}{i:Int}{l:List α}{el:α} (he:l[n]? = some el)
  (k:W x ops Q rest H M ((d,.pointer (some ((Value.base v).add (i.toNat*sz))))::L)) (Y:ev L y=some v:=by rfl) (Z:ev L z=some (.int kk i):=by rfl) (hn:i.toNat=n:=by rfl)
  (hm:bL.row v T sz l.length xs ∈ M:=by first | ((repeat first | exact List.Mem.head _ | refine List.Mem.tail _ ?_); done) | (refine hR _ ?_; (repeat first | exact List.Mem.head _ | refine List.Mem.tail _ ?_); done) | (refine hU _ ?_; (repeat first | exact List.Mem.head _ | refine List.Mem.tail _ ?_); done))
  (I:0<=i:=by first | exact RR _ | assumption | decide) (J:∀ w,(underlying t).run x.P w=.ok (.slice e) w:=by exact λ_=>rfl) (hs:∀ w,(sizeOf e).run x.P w=.ok sz w:=by exact λ_=>rfl)
  (O:gd ops L ⟨some d,.indexAddr t y z,ty,pos,aft,g⟩=some true:=by rfl) (hN:Nat.blt d x.N=true:=by rfl):W x ops Q (⟨some d,.indexAddr t y z,ty,pos,aft,g⟩::rest) H M L:=
 yb hm O hN J hs Y Z I (by rw [hn]; exact (O3.1 he).1) k
theorem lh {T:TypeId}{y:Operand}{ad:Addr}{cs:List OY}{v:OY} (O:gR H0 ad cs) (o:Nat) (k:W x ops Q rest H M ((d,v)::L)) (I:H0.le H:=by exact lE) (hy:ev L y=some (.pointer (some (ad.add o))):=by rfl) (Z:cs[o]? = some v:=by rfl)
  (J:∀ w,(isAgg T).run x.P w=.ok false w:=by exact λ_=>rfl) (Y:gd ops L ⟨some d,.load T y,ty,pos,aft,g⟩=some true:=by rfl) (hN:Nat.blt d x.N=true:=by rfl):W x ops Q (⟨some d,.load T y,ty,pos,aft,g⟩::rest) H M L:=
 pL Y hN J hy (gR.one (gR.mono I O) o Z).at k
theorem MY {T:TypeId}{n:Nat}{y:Operand}{ad:Addr}{cs:List OY} (O:gR H0 ad cs) (k:W x ops Q rest H M ((d,.agg cs.toArray)::L)) (I:H0.le H:=by exact lE) (Z:ev L y=some (.pointer (some ad)):=by rfl)
  (J:∀ w,(isAgg T).run x.P w=.ok true w:=by exact λ_=>rfl) (hn:∀ w,(sizeOf T).run x.P w=.ok n w:=by exact λ_=>rfl) (hl:cs.length=n:=by rfl) (Y:gd ops L ⟨some d,.load T y,ty,pos,aft,g⟩=some true:=by rfl) (hN:Nat.blt d x.N=true:=by rfl):
  W x ops Q (⟨some d,.load T y,ty,pos,aft,g⟩::rest) H M L:=iD Y hN J hn Z (gR.mono I O).at hl k
theorem xv {T U:TypeId}{y:Operand}{v w:OY}{sz n i:Nat}{xs cs:List OY} (J:∀ j u,cs[j]? = some u->xs[i+j]? = some u) (k:W x ops Q rest H M ((d,w)::L)) (Z:ev L y=some (.pointer (some ((Value.base v).add i))):=by rfl)
  (hm:bL.row v U sz n xs ∈ M:=by first | ((repeat first | exact List.Mem.head _ | refine List.Mem.tail _ ?_); done) | (refine hR _ ?_; (repeat first | exact List.Mem.head _ | refine List.Mem.tail _ ?_); done) | (refine hU _ ?_; (repeat first | exact List.Mem.head _ | refine List.Mem.tail _ ?_); done))
  (O:cs[0]? = some w:=by rfl) (I:∀ w,(isAgg T).run x.P w=.ok false w:=by exact λ_=>rfl) (Y:gd ops L ⟨some d,.load T y,ty,pos,aft,g⟩=some true:=by rfl) (hN:Nat.blt d x.N=true:=by rfl):
  W x ops Q (⟨some d,.load T y,ty,pos,aft,g⟩::rest) H M L:=pL Y hN I Z (AZ hm J O) k
theorem Of {T U:TypeId}{m:Nat}{y:Operand}{v:OY}{sz n i:Nat}{xs cs:List OY} (J:∀ j u,cs[j]? = some u->xs[i+j]? = some u) (k:W x ops Q rest H M ((d,.agg cs.toArray)::L)) (Y:ev L y=some (.pointer (some ((Value.base v).add i))):=by rfl)
  (hm:bL.row v U sz n xs ∈ M:=by first | ((repeat first | exact List.Mem.head _ | refine List.Mem.tail _ ?_); done) | (refine hR _ ?_; (repeat first | exact List.Mem.head _ | refine List.Mem.tail _ ?_); done) | (refine hU _ ?_; (repeat first | exact List.Mem.head _ | refine List.Mem.tail _ ?_); done))
  (I:∀ w,(isAgg T).run x.P w=.ok true w:=by exact λ_=>rfl) (hn:∀ w,(sizeOf T).run x.P w=.ok m w:=by exact λ_=>rfl) (hl:cs.length=m:=by rfl) (O:gd ops L ⟨some d,.load T y,ty,pos,aft,g⟩=some true:=by rfl) (hN:Nat.blt d x.N=true:=by rfl):
  W x ops Q (⟨some d,.load T y,ty,pos,aft,g⟩::rest) H M L:=iD O hN I hn Y (xe hm J) hl k
theorem bx {T:TypeId}{y:Operand}{v:OY}{cs:List OY} (k:∀ b,W x ops Q rest H (.obj b (.cells cs.toArray T (0,0))::M) ((d,.pointer (some ⟨b,0,none⟩))::L)) (O:ev L y=some v:=by rfl)
  (I:v.cells=cs.toArray:=by first | exact aN.cells (by assumption) | exact Rw.cells (by assumption) | rfl) (J:gd ops L ⟨some d,.box T y,ty,pos,aft,g⟩=some true:=by rfl) (hN:Nat.blt d x.N=true:=by rfl):
  W x ops Q (⟨some d,.box T y,ty,pos,aft,g⟩::rest) H M L:=MK J hN O I k
theorem al {T:TypeId}{z:OY}{cs:List OY} (k:∀ b,W x ops Q rest H (.obj b (.cells cs.toArray T (0,0))::M) ((d,.pointer (some ⟨b,0,none⟩))::L))
  (O:∀ w,(zeroValue T).run x.P w=.ok z w:=by exact λ_=>rfl) (I:z.cells=cs.toArray:=by rfl) (J:gd ops L ⟨some d,.alloc T,ty,pos,aft,g⟩=some true:=by rfl) (hN:Nat.blt d x.N=true:=by rfl):
  W x ops Q (⟨some d,.alloc T,ty,pos,aft,g⟩::rest) H M L:=JL J hN O I k
theorem wt (i:Nat) {T U n b o:Nat}{y z:Operand}{l cs out:List OY}{v:OY}{I:List bL}
  (k:W x ops Q rest H (.obj b (.cells out.toArray U (0,0))::I) L) (hy:ev L y=some (.pointer (some ⟨b,o,none⟩)):=by rfl) (hz:ev L z=some v:=by rfl)
  (hv:v.cells=cs.toArray:=by first | exact aN.cells (by assumption) | exact Rw.cells (by assumption) | rfl)
  (J:∀ c ∈ cs,c.oneCell'=true:=by repeat first | exact QH | refine cK rfl ?_ | refine cK (aN.n9 (by assumption)) ?_ | refine cK (Rw.one (by assumption)) ?_)
  (O:zt i M=some (.obj b (.cells l.toArray U (0,0)),I):=by rfl)
  (Y:gd ops L ⟨none,.store T y z,ty,pos,aft,g⟩=some true:=by rfl) (hn:∀ w,(sizeOf T).run x.P w=.ok n w:=by exact λ_=>rfl) (hl:cs.length=n:=by rfl) (Z:zh l o cs=some out:=by rfl):
  W x ops Q (⟨none,.store T y z,ty,pos,aft,g⟩::rest) H M L:=ws i hv k J hy hz O Y hn hl Z
theorem wr {α:Type}[aE α] (i o:Nat) {T U m:Nat}{y z:Operand}{v u:OY}{xs c cs out:List OY}{l:List α}{e:α}{I:Nat}{M1:List bL}{ad:Addr} (e2:α) (h:Rw H0 v xs l) (he:l[I]? = some e) (Z:∀ j w,c[j]? = some w->xs[I*aE.sz α+j]? = some w)
  (hc:aE.E H c e) (hE:aE.E H out e2)
  (k:∀ sG,Rw H v sG (l.set I e2)->(l.set I e2)[I]? = some e2->(∀ j w,out[j]? = some w->sG[I*aE.sz α+j]? = some w)->W x ops Q rest H (.row v U (aE.sz α) (l.set I e2).length sG::M1) L)
  (hle:H0.le H:=by exact lE) (hy:ev L y=some (.pointer (some ad)):=by rfl) (O:ad=(Value.base v).add (I*aE.sz α+o):=by first | exact F6 _ _ | exact Jb _ _ _) (hz:ev L z=some u:=by rfl)
  (hv:u.cells=cs.toArray:=by first | exact aN.cells (by assumption) | exact Rw.cells (by assumption) | rfl)
  (h1:∀ c ∈ cs,c.oneCell'=true:=by repeat first | exact QH | refine cK rfl ?_ | refine cK (aN.n9 (by assumption)) ?_ | refine cK (Rw.one (by assumption)) ?_)
  (hM:zt i M=some (.row v U (aE.sz α) l.length xs,M1):=by rfl) (hg:gd ops L ⟨none,.store T y z,ty,pos,aft,g⟩=some true:=by rfl) (hn:∀ w,(sizeOf T).run x.P w=.ok m w:=by exact λ_=>rfl) (hl:cs.length=m:=by rfl)
  (ho:zh c o cs=some out:=by rfl) (hb:Nat.ble (o+cs.length) c.length=true:=by rfl) (Y:Nat.ble (o+cs.length) (aE.sz α)=true:=by rfl) (J:Nat.blt 0 cs.length=true:=by rfl):
  W x ops Q (⟨none,.store T y z,ty,pos,aft,g⟩::rest) H M L:=by
 have h':=Rw.mono hle h;obtain ⟨ho1,_⟩:=AU ho;obtain ⟨p1,p2,p3⟩:=Rw.put h' he hc Z hb ho1 hE;refine nt (tM hM) ?_;refine Gk (n':=(l.set I e2).length) hg hn hy O hz hv hl (Rw.room h' he Y) J h1 Qh ?_;exact k _ p1 p2 p3
end
class vp (α:Type) [aE α] where
 cs:α->List OY
 eq:∀ {H c x},aE.E H c x->c=cs x
instance:vp Int:=⟨λn=>[.int .i64 n],λh=>h⟩
instance:vp Bool:=⟨λb=>[.bool b],λh=>h⟩
instance:vp OX:=⟨λs=>[.string s],λh=>h⟩
instance:vp U8:=⟨λn=>[.int .u8 n.n],λh=>h⟩
instance:vp NA:=⟨λn=>[.int .u16 n.n],λh=>h⟩
instance:vp bO:=⟨λn=>[.int .u32 n.n],λh=>h⟩
instance:vp NB:=⟨λn=>[.int .u64 n.n],λh=>h⟩
instance:vp Ny:=⟨λn=>[.int .i32 n.n],λh=>h⟩
def LM:List OY->Option (List OY)
 | []=>some []
 | v::l=>match LM l with
  | some m=>some (v::m)
  | none=>none
theorem B5:∀ {l m:List OY},LM l=some m->l=m
 | [],m,h=>by simpa [LM] using h
 | v::l,m,h=>by
  simp only [LM] at h
  split at h
  ·rename_i k e
   simp only [Pk] at h;rw [B5 e,h]
  ·cases h
theorem mA {P:Prop} (h:P:=by
  first
   | ((repeat first | exact List.Mem.head _ | refine List.Mem.tail _ ?_); done)
   | (refine hR _ ?_; (repeat first | exact List.Mem.head _ | refine List.Mem.tail _ ?_); done)
   | (refine hU _ ?_; (repeat first | exact List.Mem.head _ | refine List.Mem.tail _ ?_); done)):P:=h
section
variable {x:Cx}{ops:Array Oper}{Q:k_}{rest:List Oper}{H H0:Hp}{M:List bL}{L:Env}{d:Nat}{ty:TypeId}{pos:String}{aft:Array Edge}{g:Option (Nat×Bool)}{y z:Operand}{T U:TypeId}
theorem OD {t:TypeId} (k:W x ops Q (⟨some d,.indexAddr t y z,ty,pos,aft,g⟩::rest) H M L):W x ops Q (⟨some d,.indexAddr t y z,ty,pos,aft,g⟩::rest) H M L:=k
theorem iA {α:Type}{iR:aE α}{t e:TypeId}{v:OY}{xs:List α}{el:α}{kk:IntKind}{i:Int} (k:W x ops Q rest H M ((d,.pointer (some ((Value.base v).add (i.toNat*aE.sz α))))::L))
  (Z:ev L y=some v:=by rfl) (hz:ev L z=some (.int kk i):=by rfl) (hR:aN H0 v xs:=by with_reducible assumption) (he:xs[i.toNat]? = some el:=by first | with_reducible assumption | assumption) (I:H0.le H:=by exact lE)
  (J:0<=i:=by first | exact RR _ | assumption | decide) (O:∀ w,(underlying t).run x.P w=.ok (.slice e) w:=by exact λ_=>rfl) (hs:∀ w,(sizeOf e).run x.P w=.ok (aE.sz α) w:=by exact λ_=>rfl)
  (Y:gd ops L ⟨some d,.indexAddr t y z,ty,pos,aft,g⟩=some true:=by rfl) (hN:Nat.blt d x.N=true:=by rfl):W x ops Q (⟨some d,.indexAddr t y z,ty,pos,aft,g⟩::rest) H M L:=
 C5 Y hN O hs Z (aN.mono I hR) hz J he k
theorem iO {α:Type}{v:OY}{sz:Nat}{xs:List OY}{t e:TypeId}{kk:IntKind}{i:Int}{l:List α}{el:α}
  (k:W x ops Q rest H M ((d,.pointer (some ((Value.base v).add (i.toNat*sz))))::L)) (Y:ev L y=some v:=by rfl) (Z:ev L z=some (.int kk i):=by rfl)
  (hm:bL.row v T sz l.length xs ∈ M:=by exact mA) (he:l[i.toNat]? = some el:=by first | with_reducible assumption | assumption)
  (I:0<=i:=by first | exact RR _ | assumption | decide) (J:∀ w,(underlying t).run x.P w=.ok (.slice e) w:=by exact λ_=>rfl) (hs:∀ w,(sizeOf e).run x.P w=.ok sz w:=by exact λ_=>rfl)
  (O:gd ops L ⟨some d,.indexAddr t y z,ty,pos,aft,g⟩=some true:=by rfl) (hN:Nat.blt d x.N=true:=by rfl):W x ops Q (⟨some d,.indexAddr t y z,ty,pos,aft,g⟩::rest) H M L:=
 yb hm O hN J hs Y Z I (O3.1 he).1 k
theorem nA {α:Type}{Z:aE α}{e:TypeId}{v:OY}{xs:List α} (k:W x ops Q rest H M ((d,.int .i64 xs.length)::L)) (Y:ev L y=some v:=by rfl) (hR:aN H0 v xs:=by with_reducible assumption) (I:H0.le H:=by exact lE)
  (J:∀ w,(underlying T).run x.P w=.ok (.slice e) w:=by exact λ_=>rfl) (O:gd ops L ⟨some d,.call ⟨.builtin .len,#[y],#[T]⟩,ty,pos,aft,g⟩=some true:=by rfl) (hN:Nat.blt d x.N=true:=by rfl):
  W x ops Q (⟨some d,.call ⟨.builtin .len,#[y],#[T]⟩,ty,pos,aft,g⟩::rest) H M L:=HE O hN J Y (aN.mono I hR) k
theorem On {ad:Addr}{cs:List OY}{v:OY}{o:Nat} (k:W x ops Q rest H M ((d,v)::L)) (hy:ev L y=some (.pointer (some (ad.add o))):=by rfl) (O:gR H0 ad cs:=by first | with_reducible assumption | assumption) (Z:cs[o]? = some v:=by rfl)
  (J:∀ w,(isAgg T).run x.P w=.ok false w:=by exact λ_=>rfl) (I:H0.le H:=by exact lE) (Y:gd ops L ⟨some d,.load T y,ty,pos,aft,g⟩=some true:=by rfl) (hN:Nat.blt d x.N=true:=by rfl):
  W x ops Q (⟨some d,.load T y,ty,pos,aft,g⟩::rest) H M L:=pL Y hN J hy (gR.one (gR.mono I O) o Z).at k
theorem Om {ad:Addr}{cs:List OY}{v:OY} (k:W x ops Q rest H M ((d,v)::L)) (hy:ev L y=some (.pointer (some ad)):=by rfl) (O:gR H0 ad cs:=by first | with_reducible assumption | assumption) (Z:cs[0]? = some v:=by rfl)
  (J:∀ w,(isAgg T).run x.P w=.ok false w:=by exact λ_=>rfl) (I:H0.le H:=by exact lE) (Y:gd ops L ⟨some d,.load T y,ty,pos,aft,g⟩=some true:=by rfl) (hN:Nat.blt d x.N=true:=by rfl):
  W x ops Q (⟨some d,.load T y,ty,pos,aft,g⟩::rest) H M L:=pL Y hN J hy (gR.one (gR.mono I O) 0 Z).at k
theorem Oo {ad:Addr}{cs:List OY}{n:Nat} (k:W x ops Q rest H M ((d,.agg cs.toArray)::L)) (Z:ev L y=some (.pointer (some ad)):=by rfl) (O:gR H0 ad cs:=by first | with_reducible assumption | assumption)
  (J:∀ w,(isAgg T).run x.P w=.ok true w:=by exact λ_=>rfl) (hn:∀ w,(sizeOf T).run x.P w=.ok n w:=by exact λ_=>rfl) (hl:cs.length=n:=by rfl) (I:H0.le H:=by exact lE) (Y:gd ops L ⟨some d,.load T y,ty,pos,aft,g⟩=some true:=by rfl) (hN:Nat.blt d x.N=true:=by rfl):
  W x ops Q (⟨some d,.load T y,ty,pos,aft,g⟩::rest) H M L:=iD Y hN J hn Z (gR.mono I O).at hl k
theorem yM {α:Type}[aE α] [vp α] {v0:OY}{xs:List α}{el:α}{n:Nat} (hR:aN H0 v0 xs) (he:xs[n]? = some el):gR H0 ((Value.base v0).add (n*aE.sz α)) (vp.cs el):=by
 obtain ⟨c,I,J⟩:=aN.elem hR he;rw [<- vp.eq I]; exact J
theorem zA {α:Type}[aE α] [vp α] {v0:OY}{xs:List OY}{l:List α}{el:α}{n:Nat} (hR:Rw H0 v0 xs l) (he:l[n]? = some el):∀ j u,(vp.cs el)[j]? = some u->xs[n*aE.sz α+j]? = some u:=by
 obtain ⟨c,I,J⟩:=Rw.elem hR he;rw [<- vp.eq I]; exact J
theorem Ot {α:Type}{iR:aE α}{v0 v:OY}{xs:List α}{el:α}{n o:Nat} (k:W x ops Q rest H M ((d,v)::L)) (Z:ev L y=some (.pointer (some (((Value.base v0).add (n*@aE.sz α iR)).add o))):=by rfl)
  (hR:aN H0 v0 xs:=by with_reducible assumption) (he:xs[n]? = some el:=by first | with_reducible assumption | assumption) (iC:vp α:=by infer_instance) (Y:(vp.cs el)[o]? = some v:=by rfl) (I:H0.le H:=by exact lE)
  (J:∀ w,(isAgg T).run x.P w=.ok false w:=by exact λ_=>rfl) (O:gd ops L ⟨some d,.load T y,ty,pos,aft,g⟩=some true:=by rfl) (hN:Nat.blt d x.N=true:=by rfl):
  W x ops Q (⟨some d,.load T y,ty,pos,aft,g⟩::rest) H M L:=pL O hN J Z (gR.one (gR.mono I (yM hR he)) o Y).at k
theorem Oq {α:Type}{iR:aE α}{v0 v:OY}{xs:List α}{el:α}{n:Nat} (k:W x ops Q rest H M ((d,v)::L)) (Z:ev L y=some (.pointer (some ((Value.base v0).add (n*@aE.sz α iR)))):=by rfl)
  (hR:aN H0 v0 xs:=by with_reducible assumption) (he:xs[n]? = some el:=by first | with_reducible assumption | assumption) (iC:vp α:=by infer_instance) (Y:(vp.cs el)[0]? = some v:=by rfl) (I:H0.le H:=by exact lE)
  (J:∀ w,(isAgg T).run x.P w=.ok false w:=by exact λ_=>rfl) (O:gd ops L ⟨some d,.load T y,ty,pos,aft,g⟩=some true:=by rfl) (hN:Nat.blt d x.N=true:=by rfl):
  W x ops Q (⟨some d,.load T y,ty,pos,aft,g⟩::rest) H M L:=pL O hN J Z (gR.one (gR.mono I (yM hR he)) 0 Y).at k
theorem Ou {α:Type}{iR:aE α}{v0:OY}{cs:List OY}{xs:List α}{el:α}{n m:Nat} (k:W x ops Q rest H M ((d,.agg cs.toArray)::L)) (Z:ev L y=some (.pointer (some ((Value.base v0).add (n*@aE.sz α iR)))):=by rfl)
  (hR:aN H0 v0 xs:=by with_reducible assumption) (he:xs[n]? = some el:=by first | with_reducible assumption | assumption) (iC:vp α:=by infer_instance) (Y:LM (vp.cs el)=some cs:=by rfl) (I:H0.le H:=by exact lE)
  (J:∀ w,(isAgg T).run x.P w=.ok true w:=by exact λ_=>rfl) (hn:∀ w,(sizeOf T).run x.P w=.ok m w:=by exact λ_=>rfl) (hl:cs.length=m:=by rfl) (O:gd ops L ⟨some d,.load T y,ty,pos,aft,g⟩=some true:=by rfl) (hN:Nat.blt d x.N=true:=by rfl):
  W x ops Q (⟨some d,.load T y,ty,pos,aft,g⟩::rest) H M L:=iD O hN J hn Z (gR.mono I (B5 Y▸yM hR he)).at hl k
theorem Oz {α:Type}{Z:aE α}{v0 v:OY}{sz p:Nat}{xs:List OY}{l:List α}{el:α}{n o:Nat} (k:W x ops Q rest H M ((d,v)::L)) (Y:ev L y=some (.pointer (some (((Value.base v0).add (n*@aE.sz α Z)).add o))):=by rfl)
  (hm:bL.row v0 U sz p xs ∈ M:=by exact mA) (hR:Rw H0 v0 xs l:=by with_reducible assumption) (he:l[n]? = some el:=by first | with_reducible assumption | assumption) (iC:vp α:=by infer_instance) (O:(vp.cs el)[o]? = some v:=by rfl)
  (I:∀ w,(isAgg T).run x.P w=.ok false w:=by exact λ_=>rfl) (J:gd ops L ⟨some d,.load T y,ty,pos,aft,g⟩=some true:=by rfl) (hN:Nat.blt d x.N=true:=by rfl):
  W x ops Q (⟨some d,.load T y,ty,pos,aft,g⟩::rest) H M L:=pL J hN I Y (row_one hm (zA hR he) O) k
theorem Oy {α:Type}{Z:aE α}{v0 v:OY}{sz p:Nat}{xs:List OY}{l:List α}{el:α}{n:Nat} (k:W x ops Q rest H M ((d,v)::L)) (Y:ev L y=some (.pointer (some ((Value.base v0).add (n*@aE.sz α Z)))):=by rfl)
  (hm:bL.row v0 U sz p xs ∈ M:=by exact mA) (hR:Rw H0 v0 xs l:=by with_reducible assumption) (he:l[n]? = some el:=by first | with_reducible assumption | assumption) (iC:vp α:=by infer_instance) (O:(vp.cs el)[0]? = some v:=by rfl)
  (I:∀ w,(isAgg T).run x.P w=.ok false w:=by exact λ_=>rfl) (J:gd ops L ⟨some d,.load T y,ty,pos,aft,g⟩=some true:=by rfl) (hN:Nat.blt d x.N=true:=by rfl):
  W x ops Q (⟨some d,.load T y,ty,pos,aft,g⟩::rest) H M L:=pL J hN I Y (AZ hm (zA hR he) O) k
theorem OA {α:Type}{Z:aE α}{v0:OY}{sz p m:Nat}{xs cs:List OY}{l:List α}{el:α}{n:Nat} (k:W x ops Q rest H M ((d,.agg cs.toArray)::L)) (Y:ev L y=some (.pointer (some ((Value.base v0).add (n*@aE.sz α Z)))):=by rfl)
  (hm:bL.row v0 U sz p xs ∈ M:=by exact mA) (hR:Rw H0 v0 xs l:=by with_reducible assumption) (he:l[n]? = some el:=by first | with_reducible assumption | assumption) (iC:vp α:=by infer_instance) (O:LM (vp.cs el)=some cs:=by rfl)
  (I:∀ w,(isAgg T).run x.P w=.ok true w:=by exact λ_=>rfl) (hn:∀ w,(sizeOf T).run x.P w=.ok m w:=by exact λ_=>rfl) (hl:cs.length=m:=by rfl) (J:gd ops L ⟨some d,.load T y,ty,pos,aft,g⟩=some true:=by rfl) (hN:Nat.blt d x.N=true:=by rfl):
  W x ops Q (⟨some d,.load T y,ty,pos,aft,g⟩::rest) H M L:=iD J hN I hn Y (xe hm (B5 O▸zA hR he)) hl k
theorem Ow {v0 v:OY}{sz p i o:Nat}{xs cs:List OY} (k:W x ops Q rest H M ((d,v)::L)) (Z:ev L y=some (.pointer (some (((Value.base v0).add i).add o))):=by rfl)
  (hm:bL.row v0 U sz p xs ∈ M:=by exact mA) (J:∀ j u,cs[j]? = some u->xs[i+j]? = some u:=by assumption) (Y:cs[o]? = some v:=by rfl)
  (I:∀ w,(isAgg T).run x.P w=.ok false w:=by exact λ_=>rfl) (O:gd ops L ⟨some d,.load T y,ty,pos,aft,g⟩=some true:=by rfl) (hN:Nat.blt d x.N=true:=by rfl):
  W x ops Q (⟨some d,.load T y,ty,pos,aft,g⟩::rest) H M L:=pL O hN I Z (row_one hm J Y) k
theorem Ov {v0 v:OY}{sz p i:Nat}{xs cs:List OY} (k:W x ops Q rest H M ((d,v)::L)) (Z:ev L y=some (.pointer (some ((Value.base v0).add i))):=by rfl)
  (hm:bL.row v0 U sz p xs ∈ M:=by exact mA) (J:∀ j u,cs[j]? = some u->xs[i+j]? = some u:=by assumption) (Y:cs[0]? = some v:=by rfl)
  (I:∀ w,(isAgg T).run x.P w=.ok false w:=by exact λ_=>rfl) (O:gd ops L ⟨some d,.load T y,ty,pos,aft,g⟩=some true:=by rfl) (hN:Nat.blt d x.N=true:=by rfl):
  W x ops Q (⟨some d,.load T y,ty,pos,aft,g⟩::rest) H M L:=pL O hN I Z (AZ hm J Y) k
theorem Ox {v0:OY}{sz p i m:Nat}{xs cs:List OY} (k:W x ops Q rest H M ((d,.agg cs.toArray)::L)) (Y:ev L y=some (.pointer (some ((Value.base v0).add i))):=by rfl)
  (hm:bL.row v0 U sz p xs ∈ M:=by exact mA) (J:∀ j u,cs[j]? = some u->xs[i+j]? = some u:=by assumption)
  (I:∀ w,(isAgg T).run x.P w=.ok true w:=by exact λ_=>rfl) (hn:∀ w,(sizeOf T).run x.P w=.ok m w:=by exact λ_=>rfl) (hl:cs.length=m:=by rfl) (O:gd ops L ⟨some d,.load T y,ty,pos,aft,g⟩=some true:=by rfl) (hN:Nat.blt d x.N=true:=by rfl):
  W x ops Q (⟨some d,.load T y,ty,pos,aft,g⟩::rest) H M L:=iD O hN I hn Y (xe hm J) hl k
theorem Od {b i U:Nat}{fz:Nat×Nat}{l:List OY}{v:OY} (k:W x ops Q rest H M ((d,v)::L)) (Y:ev L y=some (.pointer (some ⟨b,i,none⟩)):=by rfl)
  (hm:bL.obj b (.cells l.toArray U fz) ∈ M:=by exact mA) (J:l[i]? = some v:=by rfl) (I:∀ w,(isAgg T).run x.P w=.ok false w:=by exact λ_=>rfl)
  (O:gd ops L ⟨some d,.load T y,ty,pos,aft,g⟩=some true:=by rfl) (hN:Nat.blt d x.N=true:=by rfl):W x ops Q (⟨some d,.load T y,ty,pos,aft,g⟩::rest) H M L:=
 pL O hN I Y (uT hm J) k
theorem Oe {b U n:Nat}{fz:Nat×Nat}{l:List OY} (k:W x ops Q rest H M ((d,.agg l.toArray)::L)) (O:ev L y=some (.pointer (some ⟨b,0,none⟩)):=by rfl)
  (hm:bL.obj b (.cells l.toArray U fz) ∈ M:=by exact mA) (I:∀ w,(isAgg T).run x.P w=.ok true w:=by exact λ_=>rfl) (hn:∀ w,(sizeOf T).run x.P w=.ok n w:=by exact λ_=>rfl) (hl:l.length=n:=by rfl)
  (J:gd ops L ⟨some d,.load T y,ty,pos,aft,g⟩=some true:=by rfl) (hN:Nat.blt d x.N=true:=by rfl):W x ops Q (⟨some d,.load T y,ty,pos,aft,g⟩::rest) H M L:=
 iD J hN I hn O (CA hm) hl k
theorem Oc {v:OY}{sz n:Nat}{xs:List OY}{t e:TypeId} (k:W x ops Q rest H M ((d,.int .i64 n)::L)) (O:ev L y=some v:=by rfl) (hm:bL.row v T sz n xs ∈ M:=by exact mA)
  (I:∀ w,(underlying t).run x.P w=.ok (.slice e) w:=by exact λ_=>rfl) (J:gd ops L ⟨some d,.call ⟨.builtin .len,#[y],#[t]⟩,ty,pos,aft,g⟩=some true:=by rfl) (hN:Nat.blt d x.N=true:=by rfl):
  W x ops Q (⟨some d,.call ⟨.builtin .len,#[y],#[t]⟩,ty,pos,aft,g⟩::rest) H M L:=zW hm J hN I O k
end
structure Kp (Q:Prop):Prop where
 o:Q
theorem K1 {P Q:Prop} (k:Q) (h:Kp Q->P:=by
  intro k;refine MW ?_; first
   | (with_reducible refine p1 ?_); refine bU rfl rfl rfl ?_
   | (with_reducible refine p2 ?_); refine aJ rfl rfl rfl ?_
   | (with_reducible refine p3 ?_); refine fq ?_
   | (with_reducible refine p4 ?_); first
    | refine Od ?_
    | refine Oe ?_
    | refine On ?_
    | refine Om ?_
    | refine Oo ?_
    | refine Ot ?_
    | refine Oq ?_
    | refine Ou ?_
    | refine Oz ?_
    | refine Oy ?_
    | refine OA ?_
    | refine Ow ?_
    | refine Ov ?_
    | refine Ox ?_
   | (with_reducible refine p5 ?_); refine vR rfl rfl rfl rfl rfl ?_
   | (with_reducible refine p8 ?_); refine oP rfl rfl rfl ?_
   | (with_reducible refine p7 ?_); refine rp rfl rfl rfl rfl ?_
   | (with_reducible refine p6 ?_); refine BX rfl rfl rfl rfl ?_
   | (with_reducible refine p9 ?_); refine MM rfl rfl rfl rfl ?_
   | (with_reducible refine pa ?_); refine rm rfl rfl (λ_=>rfl) (λ_=>rfl) rfl ?_
   | (with_reducible refine pb ?_); refine zY rfl rfl rfl rfl ?_
   | (with_reducible refine pc ?_); first
    | refine Oc ?_
    | refine nA ?_
   | (with_reducible refine OD ?_); first
    | refine iO ?_
    | refine iA ?_
   | (with_reducible refine pg ?_); first
    | refine ML rfl rfl rfl ?_
    | refine Ll rfl rfl ?_
  exact k.o):P:=h ⟨k⟩
theorem My {P Q:Prop} (k:Q) (h:Kp Q->P:=by
  intro k
  first
   | refine aY ?_
   | (with_reducible refine MU ?_); first
    | with_reducible refine aR ?_
    | with_reducible refine fV ?_
    | with_reducible refine mW ?_
    | with_reducible refine iI ?_
    | with_reducible refine sM ?_
    | with_reducible refine mV ?_
    | refine sL rfl ?_
   | (with_reducible refine MT ?_); first
    | with_reducible refine aK ?_
    | with_reducible refine lO ?_
    | with_reducible refine tO ?_
    | with_reducible refine lN ?_
    | with_reducible refine tr ?_
  exact k.o):P:=h ⟨k⟩
theorem wo {P Q:Prop} (k:Q) (h:Kp Q->P:=by
  intro k
  repeat first
   | refine K1 ?_
  exact k.o):P:=h ⟨k⟩
theorem go {P Q:Prop} (k:Q) (h:Kp Q->P:=by
  intro k
  repeat first
   | refine K1 ?_
   | refine My ?_
  exact k.o):P:=h ⟨k⟩
theorem gj {P Q:Prop} (k:Q) (h:Kp Q->P:=by
  intro k
  repeat first
   | refine K1 ?_
   | refine aY ?_
   | (with_reducible refine MU ?_); first
    | with_reducible refine fV ?_
    | with_reducible refine mW ?_
    | with_reducible refine iI ?_
    | with_reducible refine sM ?_
    | with_reducible refine mV ?_
    | refine sL rfl ?_
   | (with_reducible refine MT ?_); first
    | with_reducible refine aK ?_
    | with_reducible refine lO ?_
    | with_reducible refine tO ?_
    | with_reducible refine lN ?_
    | with_reducible refine tr ?_
  exact k.o):P:=h ⟨k⟩
theorem gt {P Q:Prop} (k:Q) (h:Kp Q->P:=by
  intro k
  repeat first
   | refine K1 ?_
   | refine aY ?_
   | (with_reducible refine MU ?_); first
    | with_reducible refine fV ?_
    | with_reducible refine mW ?_
    | with_reducible refine iI ?_
    | with_reducible refine sM ?_
    | with_reducible refine mV ?_
    | refine sL rfl ?_
   | (with_reducible refine MT ?_); first
    | with_reducible refine aK ?_
    | with_reducible refine lO ?_
    | with_reducible refine tO ?_
    | with_reducible refine lN ?_
    | with_reducible refine tr ?_
  with_reducible refine aR ?_
  exact k.o):P:=h ⟨k⟩
theorem gs {P Q:Prop} (k:Q) (h:Kp Q->P:=by
  intro k
  repeat first
   | refine K1 ?_
   | refine My ?_
  refine bI ?_
  repeat first
   | refine K1 ?_
   | refine My ?_
  exact k.o):P:=h ⟨k⟩
theorem g2 {P Q:Prop} (k:Q) (h:Kp Q->P:=by
  intro k;refine gs ?_;refine gs ?_;exact k.o):P:=h ⟨k⟩
theorem om {P:Prop} (h:P:=by
  intro J O X Rest hR
  repeat (rintro _ _ ⟨rfl,rfl⟩)
  intro hU I
  repeat refine K1 ?_
  exact o0 ⟨rfl,rfl⟩):P:=h
theorem MA {P q:Prop} (I:q) (h:q->P:=by
  intro I;intro O Y X Rest hR
  repeat (rintro _ _ ⟨rfl,rfl⟩)
  intro hU J
  repeat refine K1 ?_
  exact o0 ⟨rfl,(by first | rfl | (rw [I]; try rfl))⟩):P:=h I
theorem Lw {P Q:Prop} (k:Q) (h:Kp Q->P:=by
  intro k;refine MW ?_; first
   | (with_reducible refine p1 ?_); refine bU rfl rfl rfl ?_
   | (with_reducible refine p2 ?_); refine aJ rfl rfl rfl ?_
   | (with_reducible refine p3 ?_); refine fq ?_
   | (with_reducible refine p4 ?_); first
    | refine Od ?_
    | refine Oe ?_
   | (with_reducible refine p5 ?_); refine vR rfl rfl rfl rfl rfl ?_
   | (with_reducible refine p8 ?_); refine oP rfl rfl rfl ?_
   | (with_reducible refine p7 ?_); refine rp rfl rfl rfl rfl ?_
   | (with_reducible refine p6 ?_); refine BX rfl rfl rfl rfl ?_
   | (with_reducible refine p9 ?_); refine MM rfl rfl rfl rfl ?_
   | (with_reducible refine pa ?_); refine rm rfl rfl (λ_=>rfl) (λ_=>rfl) rfl ?_
   | (with_reducible refine pb ?_); refine zY rfl rfl rfl rfl ?_
   | (with_reducible refine pc ?_); first
    | refine Oc ?_
   | (with_reducible refine pg ?_); first
    | refine ML rfl rfl rfl ?_
    | refine Ll rfl rfl ?_
  exact k.o):P:=h ⟨k⟩
theorem qo {P Q:Prop} (k:Q) (h:Kp Q->P:=by
  intro k
  repeat first
   | refine Lw ?_
  exact k.o):P:=h ⟨k⟩
theorem qg {P Q:Prop} (k:Q) (h:Kp Q->P:=by
  intro k
  repeat first
   | refine Lw ?_
   | refine My ?_
  exact k.o):P:=h ⟨k⟩
theorem qj {P Q:Prop} (k:Q) (h:Kp Q->P:=by
  intro k
  repeat first
   | refine Lw ?_
   | refine aY ?_
   | (with_reducible refine MU ?_); first
    | with_reducible refine fV ?_
    | with_reducible refine mW ?_
    | with_reducible refine iI ?_
    | with_reducible refine sM ?_
    | with_reducible refine mV ?_
    | refine sL rfl ?_
   | (with_reducible refine MT ?_); first
    | with_reducible refine aK ?_
    | with_reducible refine lO ?_
    | with_reducible refine tO ?_
    | with_reducible refine lN ?_
    | with_reducible refine tr ?_
  exact k.o):P:=h ⟨k⟩
theorem qt {P Q:Prop} (k:Q) (h:Kp Q->P:=by
  intro k
  repeat first
   | refine Lw ?_
   | refine aY ?_
   | (with_reducible refine MU ?_); first
    | with_reducible refine fV ?_
    | with_reducible refine mW ?_
    | with_reducible refine iI ?_
    | with_reducible refine sM ?_
    | with_reducible refine mV ?_
    | refine sL rfl ?_
   | (with_reducible refine MT ?_); first
    | with_reducible refine aK ?_
    | with_reducible refine lO ?_
    | with_reducible refine tO ?_
    | with_reducible refine lN ?_
    | with_reducible refine tr ?_
  with_reducible refine aR ?_
  exact k.o):P:=h ⟨k⟩
theorem qs {P Q:Prop} (k:Q) (h:Kp Q->P:=by
  intro k
  repeat first
   | refine Lw ?_
   | refine My ?_
  refine bI ?_
  repeat first
   | refine Lw ?_
   | refine My ?_
  exact k.o):P:=h ⟨k⟩
theorem q2 {P Q:Prop} (k:Q) (h:Kp Q->P:=by
  intro k;refine qs ?_;refine qs ?_;exact k.o):P:=h ⟨k⟩
theorem qm {P:Prop} (h:P:=by
  intro J O X Rest hR
  repeat (rintro _ _ ⟨rfl,rfl⟩)
  intro hU I
  repeat refine Lw ?_
  exact o0 ⟨rfl,rfl⟩):P:=h
theorem qn {P q:Prop} (I:q) (h:q->P:=by
  intro I;intro O Y X Rest hR
  repeat (rintro _ _ ⟨rfl,rfl⟩)
  intro hU J
  repeat refine Lw ?_
  exact o0 ⟨rfl,(by first | rfl | (rw [I]; try rfl))⟩):P:=h I
section
variable {x:Cx}{ops:Array Oper}{Q:k_}{rest:List Oper}{H H0:Hp}{M:List bL}{L:Env}{ty:TypeId}{pos:String}{aft:Array Edge}{g:Option (Nat×Bool)}
theorem wF {α:Type}{iR:aE α} (i o:Nat) {T U m:Nat}{y z:Operand}{v u:OY}{xs cs out:List OY}{l:List α}{e:α}{I:Nat}{M1:List bL}{ad:Addr} (e2:α)
  (k:∀ sG,Rw H v sG (l.set I e2)->(l.set I e2)[I]? = some e2->W x ops Q rest H (.row v U (aE.sz α) (l.set I e2).length sG::M1) L)
  (hy:ev L y=some (.pointer (some ad)):=by rfl) (hM:zt i M=some (.row v U (aE.sz α) l.length xs,M1):=by rfl) (Y:ad=(Value.base v).add (I*aE.sz α+o):=by first | exact F6 _ _ | exact Jb _ _ _)
  (h:Rw H0 v xs l:=by with_reducible assumption) (he:l[I]? = some e:=by first | with_reducible assumption | assumption) (iC:vp α:=by infer_instance) (hle:H0.le H:=by exact lE) (hz:ev L z=some u:=by rfl)
  (hv:u.cells=cs.toArray:=by first | exact aN.cells (by assumption) | exact Rw.cells (by assumption) | rfl)
  (h1:∀ c ∈ cs,c.oneCell'=true:=by repeat first | exact QH | refine cK rfl ?_ | refine cK (aN.n9 (by assumption)) ?_ | refine cK (Rw.one (by assumption)) ?_)
  (hg:gd ops L ⟨none,.store T y z,ty,pos,aft,g⟩=some true:=by rfl) (hn:∀ w,(sizeOf T).run x.P w=.ok m w:=by exact λ_=>rfl) (hl:cs.length=m:=by rfl)
  (ho:zh (vp.cs e) o cs=some out:=by rfl) (hE:aE.E H out e2:=by rfl) (O:aE.E H (vp.cs e) e:=by rfl) (hb:Nat.ble (o+cs.length) (vp.cs e).length=true:=by rfl) (Z:Nat.ble (o+cs.length) (aE.sz α)=true:=by rfl) (J:Nat.blt 0 cs.length=true:=by rfl):
  W x ops Q (⟨none,.store T y z,ty,pos,aft,g⟩::rest) H M L:=
 wr i o e2 h he (zA h he) O hE (λsG a b _=>k sG a b) hle hy Y hz hv h1 hM hg hn hl ho hb Z J
end
theorem fc {P:Prop} (h:P:=by
  first
   | with_reducible assumption
   | exact aN.mm (by with_reducible assumption)
   | exact Rw.mm (by with_reducible assumption)
   | exact Rw.ob (by with_reducible assumption)
   | exact aN.nil
   | exact Rw.nil
   | exact (Rw.nil (H:=H)).ob
   | exact lE
   | exact pF.mm (by assumption)
   | exact gR.mm (by assumption)
   | exact Mx.mm (by assumption)
   | exact pF.ob (by assumption)
   | exact cI.mm (by with_reducible assumption)
   | exact aN.mm (by assumption)
   | exact Rw.mm (by assumption)
   | exact Rw.ob (by assumption)
   | assumption
   | rfl):P:=h
theorem pk {P:Prop} (h:P:=by
  repeat apply Exists.intro
  repeat' first
   | refine And.intro ?_ ?_
   | exact rfl
   | exact hm
  all_goals first | exact fc | skip):P:=h
section
variable {x:Cx}{ops:Array Oper}{Q:k_}{rest:List Oper}{H H0:Hp}{M:List bL}{L:Env}{d:Nat}{ty:TypeId}{pos:String}{aft:Array Edge}{g:Option (Nat×Bool)}
theorem zz {P:Program}{f:FuncId}{J:Array OY}{B:Nat}{w0 w:World}{O I:Hp->List bL->OY->Prop} (h:Calls P f J w (tG B w0 I)) (e:I=O):Calls P f J w (tG B w0 O):=e▸h
theorem ca {C:Prop}{f:FuncId}{args:List Operand}{J:Array TypeId}{vs:List OY}{A:Prop}{Y:Hp->List bL->OY->Prop} (c:C) (a:A)
  (k:∀ v H' M',Y H' M' v->W x ops Q rest H' M' ((d,v)::L)) (I:∀ O w,(callFunc f O).run x.P w=.ok (.enter f O) w:=by exact λ_ _=>rfl) (hv:xL L args=some vs:=by rfl)
  (Z:C->A->∀ w,St x.B x.w0 H M w->Calls x.P f vs.toArray w (tG x.B x.w0 Y):=by
   intro c a w ht;apply zz;apply c a
   all_goals first | exact ht | skip
   all_goals first | exact fc | exact rfl) (hg:gd ops L ⟨some d,.call ⟨.value (.func f),args.toArray,J⟩,ty,pos,aft,g⟩=some true:=by rfl) (hN:Nat.blt d x.N=true:=by rfl):
  W x ops Q (⟨some d,.call ⟨.value (.func f),args.toArray,J⟩,ty,pos,aft,g⟩::rest) H M L:=fL I hg hN hv (Z c a) k
theorem cy {C:Prop}{f:FuncId}{args:List Operand}{Y:Array TypeId}{vs:List OY}{A:Prop}{Φ:Hp->List bL->OY->Prop} (c:C) (a:A)
  (k:∀ v H' M',Φ H' M' v->W x ops Q rest H' M' ((d,v)::L)) (I:∀ Z w,(callFunc f Z).run x.P w=.ok (.enter f Z) w:=by exact λ_ _=>rfl) (hv:xL L args=some vs:=by rfl)
  (hc:C->A->∀ w,St x.B x.w0 H M w->Calls x.P f vs.toArray w (tG x.B x.w0 Φ):=by
   intro c a w ht;apply zz;obtain ⟨H0_,hl0_,O,hr0_,J⟩:=St.eA ht (by exact fc) rfl
   apply cJ J;apply c a
   all_goals first | exact O | skip
   all_goals first | exact fc | exact rfl) (hg:gd ops L ⟨some d,.call ⟨.value (.func f),args.toArray,Y⟩,ty,pos,aft,g⟩=some true:=by rfl) (hN:Nat.blt d x.N=true:=by rfl):
  W x ops Q (⟨some d,.call ⟨.value (.func f),args.toArray,Y⟩,ty,pos,aft,g⟩::rest) H M L:=fL I hg hN hv (hc c a) k
theorem cY {C:Prop}{f:FuncId}{args:List Operand}{tys:Array TypeId}{vs:List OY}{A:Prop}{Φ:Hp->List bL->OY->Prop} (c:C) (a:A)
  (k:∀ v H' M',Φ H' M' v->W x ops Q rest H' M' ((d,v)::L)) (I:∀ bs w,(callFunc f bs).run x.P w=.ok (.enter f bs) w:=by exact λ_ _=>rfl) (hv:xL L args=some vs:=by rfl)
  (hc:C->A->∀ w,St x.B x.w0 H M w->Calls x.P f vs.toArray w (tG x.B x.w0 Φ):=by
   intro c a w ht;apply zz;obtain ⟨H0_,hl0_,Y,hr0_,J⟩:=St.eA ht (by exact fc) rfl
   apply cJ J;obtain ⟨H1_,hl1_,Z,hr1_,O⟩:=St.eA Y (by exact fc) rfl
   apply cJ O;apply c a
   all_goals first | exact Z | skip
   all_goals first | exact fc | exact rfl) (hg:gd ops L ⟨some d,.call ⟨.value (.func f),args.toArray,tys⟩,ty,pos,aft,g⟩=some true:=by rfl) (hN:Nat.blt d x.N=true:=by rfl):
  W x ops Q (⟨some d,.call ⟨.value (.func f),args.toArray,tys⟩,ty,pos,aft,g⟩::rest) H M L:=fL I hg hN hv (hc c a) k
theorem cz {C:Prop}{f:FuncId}{args:List Operand}{J:Array TypeId}{vs:List OY}{A:Prop}{u:OY} (c:C) (a:A)
  (k:W x ops Q rest H M ((d,u)::L)) (I:∀ O w,(callFunc f O).run x.P w=.ok (.enter f O) w:=by exact λ_ _=>rfl) (hv:xL L args=some vs:=by rfl)
  (Y:C->A->∀ w,St x.B x.w0 H M w->Calls x.P f vs.toArray w (tG x.B x.w0 λH' M' v=>H=H'/\M=M'/\u=v):=by
   intro c a w ht;apply zz;apply c a
   all_goals first | exact ht | skip
   all_goals first | exact fc | exact rfl) (Z:gd ops L ⟨some d,.call ⟨.value (.func f),args.toArray,J⟩,ty,pos,aft,g⟩=some true:=by rfl) (hN:Nat.blt d x.N=true:=by rfl):
  W x ops Q (⟨some d,.call ⟨.value (.func f),args.toArray,J⟩,ty,pos,aft,g⟩::rest) H M L:=fL I Z hN hv (Y c a) (by rintro _ _ _ ⟨rfl,rfl,rfl⟩; exact k)
end
theorem ki {a b:Int} (h:a=b):some (Value.int .i64 a)=some (Value.int .i64 b):=by rw [h]
theorem kS {P:Prop} (h:P:=by
  repeat first
   | exact O0
   | refine ⟨rfl,?_⟩
   | refine ⟨sb (by simp only [Ln, *]),?_⟩):P:=h
theorem kK {a b:Int}{P:Prop} (e:a=b) (h:a=b->P:=by
  intro e
  repeat first
   | exact O0
   | refine ⟨rfl,?_⟩
   | refine ⟨ki e,?_⟩
   | refine ⟨sb (by simp only [Ln, *]),?_⟩):P:=h e
theorem eb {A B P:Prop} (a:A) (b:B) (h:A->B->P:=by
  intro a b;apply uI (QK _)
  repeat apply Exists.intro
  refine And.intro a ?_;refine And.intro rfl ?_;refine And.intro ((congrFun b _).trans hm) ?_
  repeat' first
   | refine And.intro ?_ ?_
   | exact rfl
  all_goals first | exact fc | skip):P:=h a b
theorem Bu {B P:Prop} (b:B) (h:B->P:=by
  intro b;apply uI (QK _)
  repeat apply Exists.intro
  refine And.intro ((congrFun b _).trans hm) ?_
  repeat' first
   | refine And.intro ?_ ?_
   | exact rfl
  all_goals first | exact fc | skip):P:=h b
theorem en {P:Prop} (h:P:=by
  obtain rfl:=O4 hm
  first
   | refine lf rfl rfl ?_
   | refine Be rfl rfl rfl ?_
   | refine MQ rfl rfl rfl rfl ?_
   | refine GI rfl ?_
  refine And.intro lE ?_
  repeat apply Exists.intro
  refine And.intro rfl ?_
  repeat' first
   | refine And.intro ?_ ?_
   | exact rfl
  all_goals first | exact fc | skip):P:=h
theorem ef {P:Prop} (h:P:=by
  obtain rfl:=O4 hm;refine Ew H ?_
  first
   | refine lf rfl rfl ?_
   | refine Be rfl rfl rfl ?_
   | refine MQ rfl rfl rfl rfl ?_
   | refine GI rfl ?_
  refine And.intro rfl ?_
  repeat apply Exists.intro
  refine And.intro rfl ?_
  repeat' first
   | refine And.intro ?_ ?_
   | exact rfl
  all_goals first | exact fc | skip):P:=h
section
variable {x:Cx}{ops:Array Oper}{Q:k_}{rest:List Oper}{H:Hp}{M:List bL}{L:Env}{d:Nat}{ty:TypeId}{pos:String}{aft:Array Edge}{g:Option (Nat×Bool)}{y:Operand}{T:TypeId}
theorem OB {b i U n:Nat}{fz:Nat×Nat}{l cs:List OY} (k:W x ops Q rest H M ((d,.agg cs.toArray)::L)) (Y:ev L y=some (.pointer (some ⟨b,i,none⟩)):=by rfl)
  (hm:bL.obj b (.cells l.toArray U fz) ∈ M:=by exact mA) (I:∀ w,(isAgg T).run x.P w=.ok true w:=by exact λ_=>rfl) (hn:∀ w,(sizeOf T).run x.P w=.ok n w:=by exact λ_=>rfl)
  (J:LM ((l.drop i).take n)=some cs:=by rfl) (hl:cs.length=n:=by rfl) (O:gd ops L ⟨some d,.load T y,ty,pos,aft,g⟩=some true:=by rfl) (hN:Nat.blt d x.N=true:=by rfl):
  W x ops Q (⟨some d,.load T y,ty,pos,aft,g⟩::rest) H M L:=
 iD O hN I hn Y (ql hm (by rw [hl]; exact B5 J)) hl k
end
theorem Ol {F:OY->List bL->Prop} (k:∀ v rs,F v rs):∀ v rs,F v rs:=k
structure Ix (l:List Nat):Prop where
 o:True
theorem ix (l:List Nat):Ix l:=⟨O0⟩
theorem Wi {x:Cx}{ops:Array Oper}{Q:k_}{rest:List Oper}{H:Hp}{M M':List bL}{L:Env}{l:List Nat} (i:Ix l) (k:W x ops Q rest H M' L) (h:zi l M=some M':=by rfl):W x ops Q rest H M L:=Wp l k h
theorem rz {P:Prop} (h:P:=by
  first
   | exact o0 ⟨rfl,rfl⟩
   | exact o0 pk
   | exact oe [] lE pk
   | exact oe [_] lE pk
   | exact oe [_,_] lE pk
   | exact oe [_,_,_] lE pk
   | exact oe [_,_,_,_,_,_] lE pk
   | exact oe [_,_,_,_,_,_,_] lE pk
   | exact aY (Bn [_] lE pk)):P:=h
theorem rk {C A I P:Prop} (i:I) (c:C) (a:A) (h:I->C->A->P:=by
  intro i c a Y Z X Rest hR
  repeat (refine Ol ?_; (first | rintro _ _ ⟨rfl,rfl⟩ | rintro _ _ ⟨_,rfl,rfl⟩ | rintro _ _ ⟨_,_,rfl,rfl⟩ | rintro _ _ ⟨_,_,_,rfl,rfl⟩ | rintro _ _ ⟨_,_,_,_,rfl,rfl⟩ | rintro _ _ ⟨_,_,_,_,_,rfl,rfl⟩ | rintro _ _ ⟨_,_,_,_,_,_,rfl,rfl⟩ | rintro _ _ ⟨_,_,_,_,_,_,_,rfl,rfl⟩ | rintro _ _ ⟨_,_,_,_,_,_,_,_,rfl,rfl⟩ | rintro _ _ ⟨_,_,_,_,_,_,_,_,_,_,rfl,rfl⟩ | rintro _ _ ⟨_,_,_,_,_,_,_,_,_,_,_,_,rfl,rfl⟩ | rintro _ _ ⟨_,_,_,_,_,_,_,_,_,_,_,_,_,_,rfl,rfl⟩ | rintro _ _ ⟨rfl,rfl,J⟩ | rintro _ _ ⟨_,rfl,rfl,J⟩ | rintro _ _ ⟨_,_,rfl,rfl,J⟩ | rintro _ _ ⟨_,_,_,rfl,rfl,J⟩ | rintro _ _ ⟨_,_,_,_,rfl,rfl,J⟩ | rintro _ _ ⟨_,_,_,_,_,rfl,rfl,J⟩ | rintro _ _ ⟨_,_,_,_,_,_,rfl,rfl,J⟩ | rintro _ _ ⟨_,_,_,_,_,_,_,rfl,rfl,J⟩ | rintro _ _ ⟨_,_,_,_,_,_,_,_,rfl,rfl,J⟩ | rintro _ _ ⟨_,_,_,_,_,_,_,_,_,_,rfl,rfl,J⟩ | rintro _ _ ⟨_,_,_,_,_,_,_,_,_,_,_,_,rfl,rfl,J⟩ | rintro _ _ ⟨_,_,_,_,_,_,_,_,_,_,_,_,_,_,rfl,rfl,J⟩); repeat (with_reducible refine And.elim (λ_ J=>?_) J))
  intro hU O
  first | refine Wi i ?_ | skip
  repeat first
   | refine K1 ?_
   | refine OB ?_
   | (refine ca c a ?_; (first | rintro _ _ _ ⟨rfl,rfl,rfl⟩ | rintro _ _ _ ⟨rfl,_,rfl,rfl⟩ | rintro _ _ _ ⟨rfl,_,_,rfl,rfl⟩ | rintro _ _ _ ⟨rfl,_,_,_,rfl,rfl⟩ | rintro _ _ _ ⟨rfl,_,_,_,_,rfl,rfl⟩ | rintro _ _ _ ⟨rfl,_,_,_,_,_,rfl,rfl⟩ | rintro _ _ _ ⟨rfl,_,_,_,_,_,_,rfl,rfl⟩ | rintro _ _ _ ⟨rfl,_,_,_,_,_,_,_,rfl,rfl⟩ | rintro _ _ _ ⟨rfl,_,_,_,_,_,_,_,_,rfl,rfl⟩ | rintro _ _ _ ⟨rfl,_,_,_,_,_,_,_,_,_,_,rfl,rfl⟩ | rintro _ _ _ ⟨rfl,_,_,_,_,_,_,_,_,_,_,_,_,rfl,rfl⟩ | rintro _ _ _ ⟨rfl,_,_,_,_,_,_,_,_,_,_,_,_,_,_,rfl,rfl⟩ | rintro _ _ _ ⟨rfl,rfl,rfl,J⟩ | rintro _ _ _ ⟨rfl,_,rfl,rfl,J⟩ | rintro _ _ _ ⟨rfl,_,_,rfl,rfl,J⟩ | rintro _ _ _ ⟨rfl,_,_,_,rfl,rfl,J⟩ | rintro _ _ _ ⟨rfl,_,_,_,_,rfl,rfl,J⟩ | rintro _ _ _ ⟨rfl,_,_,_,_,_,rfl,rfl,J⟩ | rintro _ _ _ ⟨rfl,_,_,_,_,_,_,rfl,rfl,J⟩ | rintro _ _ _ ⟨rfl,_,_,_,_,_,_,_,rfl,rfl,J⟩ | rintro _ _ _ ⟨rfl,_,_,_,_,_,_,_,_,rfl,rfl,J⟩ | rintro _ _ _ ⟨rfl,_,_,_,_,_,_,_,_,_,_,rfl,rfl,J⟩ | rintro _ _ _ ⟨rfl,_,_,_,_,_,_,_,_,_,_,_,_,rfl,rfl,J⟩ | rintro _ _ _ ⟨rfl,_,_,_,_,_,_,_,_,_,_,_,_,_,_,rfl,rfl,J⟩ | rintro _ _ _ ⟨_,rfl,rfl⟩ | rintro _ _ _ ⟨_,_,rfl,rfl⟩ | rintro _ _ _ ⟨_,_,_,rfl,rfl⟩ | rintro _ _ _ ⟨_,_,_,_,rfl,rfl⟩ | rintro _ _ _ ⟨_,_,_,_,_,rfl,rfl⟩ | rintro _ _ _ ⟨_,_,_,_,_,_,rfl,rfl⟩ | rintro _ _ _ ⟨_,_,_,_,_,_,_,rfl,rfl⟩ | rintro _ _ _ ⟨_,_,_,_,_,_,_,_,rfl,rfl⟩ | rintro _ _ _ ⟨_,_,_,_,_,_,_,_,_,rfl,rfl⟩ | rintro _ _ _ ⟨_,_,_,_,_,_,_,_,_,_,_,rfl,rfl⟩ | rintro _ _ _ ⟨_,_,_,_,_,_,_,_,_,_,_,_,_,rfl,rfl⟩ | rintro _ _ _ ⟨_,_,_,_,_,_,_,_,_,_,_,_,_,_,_,rfl,rfl⟩ | rintro _ _ _ ⟨_,rfl,rfl,J⟩ | rintro _ _ _ ⟨_,_,rfl,rfl,J⟩ | rintro _ _ _ ⟨_,_,_,rfl,rfl,J⟩ | rintro _ _ _ ⟨_,_,_,_,rfl,rfl,J⟩ | rintro _ _ _ ⟨_,_,_,_,_,rfl,rfl,J⟩ | rintro _ _ _ ⟨_,_,_,_,_,_,rfl,rfl,J⟩ | rintro _ _ _ ⟨_,_,_,_,_,_,_,rfl,rfl,J⟩ | rintro _ _ _ ⟨_,_,_,_,_,_,_,_,rfl,rfl,J⟩ | rintro _ _ _ ⟨_,_,_,_,_,_,_,_,_,rfl,rfl,J⟩ | rintro _ _ _ ⟨_,_,_,_,_,_,_,_,_,_,_,rfl,rfl,J⟩ | rintro _ _ _ ⟨_,_,_,_,_,_,_,_,_,_,_,_,_,rfl,rfl,J⟩ | rintro _ _ _ ⟨_,_,_,_,_,_,_,_,_,_,_,_,_,_,_,rfl,rfl,J⟩); repeat (with_reducible refine And.elim (λ_ J=>?_) J))
  exact rz):P:=h i c a
theorem tt:True:=O0
theorem ro {P:Prop} (h:P:=by exact rk tt tt tt):P:=h
end Go.Sim
namespace Go.Proofs
open Go.Shelf
open _root_.Go.IntKind (i64 u64 u32 u8)
def Tryz.Dw:Go.Shelf.Ren:=⟨fun | 283=>196 | n=>n,fun | 3=>3 | 9=>9 | 4=>4 | n=>n,fun | n=>n⟩
theorem Tryz.Ka:Go.Proofs.Lays.n283 Tryz.prog Tryz.Dw:={
 mixed:=by kernel_rfl
 f283:=Tryz.func196.trans (congrArg some (by kernel_rfl))
 t3:=Tryz.underlying3
 a3:=Tryz.isAgg3
 z3:=Tryz.sizeOf3
 v3:=Tryz.zeroValue3
 t4:=Tryz.underlying4
 a4:=Tryz.isAgg4
 z4:=Tryz.sizeOf4
 v4:=Tryz.zeroValue4
 t9:=Tryz.underlying9
 a9:=Tryz.isAgg9
 z9:=Tryz.sizeOf9
 v9:=Tryz.zeroValue9 }
open Go.Lib in
theorem Tryz.internal_strconv_small (i:Nat) (h:i<100) (w:World):
  Calls Tryz.prog 196 #[.int .i64 i] w λe w'=>e=.returned (.string ⟨(Lib.decDigits i).toArray⟩)/\w'=w:=Any.internal_strconv_small Tryz.Ka i h w
def Tryz.Ci:Go.Shelf.Ren:=⟨fun | 284=>197 | 129=>202 | 317=>201 | 318=>203 | n=>n,fun | 53=>205 | 3=>3 | 212=>299 | 0=>0 | 4=>4 | 46=>198 | 5=>5 | 9=>9 | n=>n,fun | 17=>3 | n=>n⟩
theorem Tryz.IF:Go.Proofs.LaysM.n284 Tryz.prog Tryz.Ci:={
 mixed:=by kernel_rfl
 f129:=Tryz.func202.trans (congrArg some (by kernel_rfl))
 f284:=Tryz.func197.trans (congrArg some (by kernel_rfl))
 f317:=Tryz.func201.trans (congrArg some (by kernel_rfl))
 f318:=Tryz.func203.trans (congrArg some (by kernel_rfl))
 t0:=Tryz.underlying0
 a0:=Tryz.isAgg0
 z0:=Tryz.sizeOf0
 v0:=Tryz.zeroValue0
 t3:=Tryz.underlying3
 a3:=Tryz.isAgg3
 z3:=Tryz.sizeOf3
 v3:=Tryz.zeroValue3
 t4:=Tryz.underlying4
 a4:=Tryz.isAgg4
 z4:=Tryz.sizeOf4
 v4:=Tryz.zeroValue4
 t5:=Tryz.underlying5
 a5:=Tryz.isAgg5
 z5:=Tryz.sizeOf5
 v5:=Tryz.zeroValue5
 t9:=Tryz.underlying9
 a9:=Tryz.isAgg9
 z9:=Tryz.sizeOf9
 v9:=Tryz.zeroValue9
 t46:=Tryz.underlying198
 a46:=Tryz.isAgg198
 z46:=Tryz.sizeOf198
 v46:=Tryz.zeroValue198
 t53:=Tryz.underlying205
 a53:=Tryz.isAgg205
 z53:=Tryz.sizeOf205
 v53:=Tryz.zeroValue205
 t212:=Tryz.underlying299
 a212:=Tryz.isAgg299
 z212:=Tryz.sizeOf299
 v212:=Tryz.zeroValue299
 g17:=by kernel_rfl
 i0:=by kernel_rfl
 i3:=by kernel_rfl
 i4:=by kernel_rfl
 i5:=by kernel_rfl
 i9:=by kernel_rfl
 i46:=by kernel_rfl
 i53:=by kernel_rfl
 i212:=by kernel_rfl
 m17:=by kernel_rfl }
open Go.Lib in
theorem Tryz.internal_strconv_numDigits (u:Nat) (h1:1<=u) (h2:u<18446744073709551616) (w:World) (htab:Lib.TabIs Tryz.prog w "internal/strconv.uint64pow10" .u64 Lib.pow10Tab):
  Calls Tryz.prog 197 #[.int .u64 u] w λe w'=>e=.returned (.int .i64 (Lib.nDigits u))/\w'=w:=Any.internal_strconv_numDigits Tryz.IF u h1 h2 w htab
def Tryz.Dx:Go.Shelf.Ren:=⟨fun | 285=>198 | n=>n,fun | 37=>168 | 53=>205 | 3=>3 | 4=>4 | 51=>211 | 9=>9 | 5=>5 | 0=>0 | n=>n,fun | n=>n⟩
theorem Tryz.Kb:Go.Proofs.Lays.n285 Tryz.prog Tryz.Dx:={
 mixed:=by kernel_rfl
 f285:=Tryz.func198.trans (congrArg some (by kernel_rfl))
 t0:=Tryz.underlying0
 a0:=Tryz.isAgg0
 z0:=Tryz.sizeOf0
 v0:=Tryz.zeroValue0
 t3:=Tryz.underlying3
 a3:=Tryz.isAgg3
 z3:=Tryz.sizeOf3
 v3:=Tryz.zeroValue3
 t4:=Tryz.underlying4
 a4:=Tryz.isAgg4
 z4:=Tryz.sizeOf4
 v4:=Tryz.zeroValue4
 t5:=Tryz.underlying5
 a5:=Tryz.isAgg5
 z5:=Tryz.sizeOf5
 v5:=Tryz.zeroValue5
 t9:=Tryz.underlying9
 a9:=Tryz.isAgg9
 z9:=Tryz.sizeOf9
 v9:=Tryz.zeroValue9
 t37:=Tryz.underlying168
 a37:=Tryz.isAgg168
 z37:=Tryz.sizeOf168
 v37:=Tryz.zeroValue168
 t51:=Tryz.underlying211
 a51:=Tryz.isAgg211
 z51:=Tryz.sizeOf211
 v51:=Tryz.zeroValue211
 t53:=Tryz.underlying205
 a53:=Tryz.isAgg205
 z53:=Tryz.sizeOf205
 v53:=Tryz.zeroValue205 }
open Go.RowKit Go.Sort Go.Lib in
theorem Tryz.internal_strconv_formatBase10 (blk off cap:Nat) (u:Nat) (d:Array UInt8) (w:World) (hH:Holds (λ(b:UInt8)=>Value.int .u8 (b.toNat:Int)) w blk off d) (hu:u<10 ^ d.size) (hu64:u<18446744073709551616) (hsz:d.size<4611686018427387904):
  Calls Tryz.prog 198 #[.slice (some ⟨blk,off,none⟩) d.size cap,.int .u64 u] w λe w'=>
   e=.returned (.tuple #[])/\∃ (n v':Nat) (dk:Array UInt8),w'=(putRow (λ(b:UInt8)=>Value.int .u8 (b.toNat:Int)) w blk off dk).drewN n/\FmtInv d.size u 0 v' dk:=Any.internal_strconv_formatBase10 Tryz.Kb blk off cap u d w hH hu hu64 hsz
def Tryz.Dy:Go.Shelf.Ren:=⟨fun | 287=>147 | 321=>166 | 322=>167 | n=>n,fun | 9=>9 | 3=>3 | 53=>205 | 75=>207 | 4=>4 | 167=>252 | 5=>5 | 46=>198 | 37=>168 | 0=>0 | 21=>21 | 80=>283 | n=>n,fun | n=>n⟩
theorem Tryz.Kc:Go.Proofs.Lays.n287 Tryz.prog Tryz.Dy:={
 mixed:=by kernel_rfl
 f287:=Tryz.func147.trans (congrArg some (by kernel_rfl))
 f321:=Tryz.func166.trans (congrArg some (by kernel_rfl))
 f322:=Tryz.func167.trans (congrArg some (by kernel_rfl))
 t0:=Tryz.underlying0
 a0:=Tryz.isAgg0
 z0:=Tryz.sizeOf0
 v0:=Tryz.zeroValue0
 t3:=Tryz.underlying3
 a3:=Tryz.isAgg3
 z3:=Tryz.sizeOf3
 v3:=Tryz.zeroValue3
 t4:=Tryz.underlying4
 a4:=Tryz.isAgg4
 z4:=Tryz.sizeOf4
 v4:=Tryz.zeroValue4
 t5:=Tryz.underlying5
 a5:=Tryz.isAgg5
 z5:=Tryz.sizeOf5
 v5:=Tryz.zeroValue5
 t9:=Tryz.underlying9
 a9:=Tryz.isAgg9
 z9:=Tryz.sizeOf9
 v9:=Tryz.zeroValue9
 t21:=Tryz.underlying21
 a21:=Tryz.isAgg21
 z21:=Tryz.sizeOf21
 v21:=Tryz.zeroValue21
 t37:=Tryz.underlying168
 a37:=Tryz.isAgg168
 z37:=Tryz.sizeOf168
 v37:=Tryz.zeroValue168
 t46:=Tryz.underlying198
 a46:=Tryz.isAgg198
 z46:=Tryz.sizeOf198
 v46:=Tryz.zeroValue198
 t53:=Tryz.underlying205
 a53:=Tryz.isAgg205
 z53:=Tryz.sizeOf205
 v53:=Tryz.zeroValue205
 t75:=Tryz.underlying207
 a75:=Tryz.isAgg207
 z75:=Tryz.sizeOf207
 v75:=Tryz.zeroValue207
 t167:=Tryz.underlying252
 a167:=Tryz.isAgg252
 z167:=Tryz.sizeOf252
 v167:=Tryz.zeroValue252 }
open Go.RowKit in
theorem Tryz.internal_strconv_ParseUint_10_b32 (t:ByteArray) (hne:t.size≠0) (hmax:t.size<=9223372036854775806) (w:World):
  Calls Tryz.prog 147 #[.string t,.int .i64 10,.int .i64 32] w λe w'=>e=.returned (Lib.uintTupleM 252 4294967295 (Lib.parseUintM 4294967295 0 t.data.toList))/\w'=Lib.bytesWorld w 5 t:=Any.internal_strconv_ParseUint_10_b32 Tryz.Kc t hne hmax w
end Go.Proofs
namespace Go.Sim
open Go Go.Proofs.Tryz
open _root_.Go.IntKind (i64 u64 u32 u8)
set_option maxRecDepth 100000
set_option maxHeartbeats 4000000
instance:vp aX:=⟨λx=>[.string (x.Name),.string (x.A),.string (x.B_),.bool (x.vr),.bool (x.Open)],λh=>h⟩
instance:vp aP:=⟨λx=>[.string (x.Name),.string (x.oN),.string (x.To),.int .i64 (x.X),.int .i64 (x.A_),.int .i64 (x.Shift),.int .i64 (x.sN),.int .i64 (x.wz),.int .i64 (x.BO)],λh=>h⟩
instance:vp bE:=⟨λx=>[.string (x.Name),.string (x.Node),.int .i64 (x.iJ),.int .i64 (x.qa),.int .i64 (x.Bc)],λh=>h⟩
instance:vp aF:=⟨λx=>[.string (x.Name),.string (x.Node),.int .i64 (x.cW)],λh=>h⟩
instance:vp cE:=⟨λx=>[.string (x.Name),.string (x.Node),.int .i64 (x.rD),.int .i64 (x.Discharge),.int .i64 (x.tP)],λh=>h⟩
instance:vp aH:=⟨λx=>[.int .i64 (x.Time),.string (x.Kind),.string (x.Name),.int .i64 (x.Value)],λh=>h⟩
instance:vp bJ:=⟨λx=>[.int .i64 (x.Kind),.string (x.Name),.int .i64 (x.A),.int .i64 (x.B_)],λh=>h⟩
instance:vp bW:=⟨λx=>[.int .i64 (x.a0),.int .i64 (x.a1)],λh=>h⟩
instance:vp bH:=⟨λx=>[.int .i64 (x.iJ),.int .i64 (x.qa),.int .i64 (x.cW)],λh=>h⟩
instance:vp aL:=⟨λx=>[.string (x.Name),.bool (x.xC)],λh=>h⟩
structure dS where
 v0:OY
 v1:OY
 v2:OY
 v3:OY
 v4:OY
 v5:OY
 v6:OY
 v7:OY
 s5:List OY
 v8:OY
 v9:OY
 v10:OY
 xA:List OY
 v11:OY
 sG:List OY
 v12:OY
 A8:List OY
 Na:OY
 Nc:OY
 MB:OY
 y0:List OY
 Nd:OY
def aS (b I J:Nat):dS->aO->List bL
 | ⟨v0,v1,v2,v3,v4,v5,v6,v7,s5,v8,v9,v10,xA,v11,sG,v12,A8,Na,Nc,MB,y0,Nd⟩,x=>[.obj b (.cells [v0,v1,v2,v3,v4,v5,v6,v7,v8,.pointer (some ⟨I,0,none⟩),Na,Nc,.int .i64 (x.time),.pointer (some ⟨J,0,none⟩),Nd].toArray 72 (0,0)),.row v7 9 (aE.sz OX) x.on.length s5,.obj I (.cells [v9,v10,v11,v12,.int .i64 (x.watch.time)].toArray 129 (0,0)),.row v10 146 (aE.sz aA) x.watch.lM.length xA,.row v11 3 (aE.sz Int) x.watch.rq.length sG,.row v12 4 (aE.sz Bool) x.watch.over.length A8,.obj J (.cells [MB].toArray 124 (0,0)),.row MB 42 (aE.sz aH) x.log.jK.length y0]
def cI (H:Hp):dS->aO->Prop
 | ⟨v0,v1,v2,v3,v4,v5,v6,v7,s5,v8,v9,v10,xA,v11,sG,v12,A8,Na,Nc,MB,y0,Nd⟩,x=>aN H v0 x.bR.bC/\aN H v1 x.bR.aM/\aN H v2 x.bR.aG/\aN H v3 x.bR.dL/\aN H v4 x.bR.bA/\aN H v5 x.bR.bT/\aN H v6 x.rules/\Rw H v7 s5 x.on/\aN H v8 x.held/\aN H v9 x.watch.kF/\Rw H v10 xA x.watch.lM/\Rw H v11 sG x.watch.rq/\Rw H v12 A8 x.watch.over/\aN H Na x.state.fK/\aN H Nc x.state.hO/\Rw H MB y0 x.log.jK/\aN H Nd x.over
theorem cI.mono {H H2:Hp}{g:dS}{x:aO} (h:cI H g x) (I:H.le H2):cI H2 g x:=by
 obtain ⟨v0,v1,v2,v3,v4,v5,v6,v7,s5,v8,v9,v10,xA,v11,sG,v12,A8,Na,Nc,MB,y0,Nd⟩:=g;obtain ⟨z0,z1,z2,z3,z4,z5,z6,z7,z8,z9,J,O,Y,Z,z14,z15,z16⟩:=h;exact ⟨z0.mono I,z1.mono I,z2.mono I,z3.mono I,z4.mono I,z5.mono I,z6.mono I,z7.mono I,z8.mono I,z9.mono I,J.mono I,O.mono I,Y.mono I,Z.mono I,z14.mono I,z15.mono I,z16.mono I⟩
theorem cI.mm {H I:Hp}{g:dS}{x:aO} (h:cI H g x) (e:H.le I:=by exact lE):cI I g x:=h.mono e
theorem fm:Proofs.Tryz.prog.follows .mixedOrders=true:=by kernel_rfl
theorem Fi.mixed:Proofs.Tryz.prog.follows .mixedOrders=true:=fm
class xD (B:Nat) (w0:World):Prop where
 lt:6<=B
 e1:∃ T p,w0.var? Proofs.Tryz.prog "strconv.ErrSyntax" = some #[.iface T p]
 e2:∃ T p,w0.var? Proofs.Tryz.prog "strconv.ErrRange" = some #[.iface T p]
 t3:Lib.TabIs Proofs.Tryz.prog w0 "internal/strconv.uint64pow10" .u64 NC
 t4:Lib.TabIs Proofs.Tryz.prog w0 "math/bits.deBruijn32tab" .u8 NU
 t5:Lib.TabIs Proofs.Tryz.prog w0 "math/bits.deBruijn64tab" .u8 NV
theorem xD.below {B:Nat}{w0:World}[h:xD B w0] {g:Nat} (I:Nat.blt g 6=true):g<B:=by
 have:=h.lt;have:g<6:=by simpa [P9] using I
 omega
theorem Oh:Proofs.Tryz.prog.globalNamed "strconv.ErrSyntax" = some 1:=by kernel_rfl
theorem Oi:Proofs.Tryz.prog.globalNamed "strconv.ErrRange" = some 2:=by kernel_rfl
theorem Oa:Proofs.Tryz.prog.globalNamed "internal/strconv.uint64pow10" = some 3:=by kernel_rfl
theorem Oj:Proofs.Tryz.prog.globalNamed "math/bits.deBruijn32tab" = some 4:=by kernel_rfl
theorem Ob:Proofs.Tryz.prog.globalNamed "math/bits.deBruijn64tab" = some 5:=by kernel_rfl
abbrev N5 (d:aD) (a:Hp) (c:List bL):Hp->List bL->OY->Prop:=λf g h=>a=f/\∃ b0:OY,∃ b1:List OY,∃ O:OY,∃ b3:List OY,∃ Y:OY,∃ b5:List OY,∃ Z:OY,∃ b7:List OY,∃ b8:OY,∃ b9:List OY,∃ I:OY,∃ J:List OY,.row b0 9 (aE.sz OX) d.bC.length b1::.row O 116 (aE.sz aX) d.aM.length b3::.row Y 110 (aE.sz aP) d.aG.length b5::.row Z 103 (aE.sz bE) d.dL.length b7::.row b8 112 (aE.sz aF) d.bA.length b9::.row I 122 (aE.sz cE) d.bT.length J::c=g/\.agg [b0,O,Y,Z,b8,I].toArray=h/\rX b0 b1 d.bC/\rX O b3 d.aM/\rX Y b5 d.aG/\rX Z b7 d.dL/\rX b8 b9 d.bA/\rX I J d.bT
abbrev Hl (d:Bool) (a:Hp) (c:List bL):Hp->List bL->OY->Prop:=λf g h=>a=f/\c=g/\.bool (d)=h
abbrev N6 {I:Type} (a:List U8) (c:Nat->List U8->Unit->Option I) (d:I) (e:Hp) (l:Nat):Env->List bL->Nat->Hp->List bL->Env->Prop:=λf g h i j k=>∃ b0:Nat,∃ b1:List U8,(a).drop b0=b1/\b1.length=h/\c b0 b1 ()=some d/\e.le i/\g=j/\(l,.int .i64 (b0:Int))::f=k
abbrev vW (a:Hp) (c:Nat) (d:Bool):Env->List bL->Hp->List bL->Env->Prop:=λf g h i j=>a=h/\g=i/\(c,.bool (d))::f=j
abbrev xX (d:Int) (a:Hp) (c:List bL):Hp->List bL->OY->Prop:=λf g h=>a=f/\c=g/\.int .i64 (d)=h
abbrev D6 {I:Type} (a:Nat) (c:Nat->Nat->Unit->Option I) (d:I) (e:Hp) (l:Nat):Env->List bL->Nat->Hp->List bL->Env->Prop:=λf g h i j k=>∃ b0 b1:Nat,b0+b1=a/\b1=h/\c b1 b0 ()=some d/\e.le i/\g=j/\(l,.int .i64 (b0:Int))::f=k
abbrev N7 {I:Type} (a:List OX) (c:Nat->List OX->Unit->Option I) (d:I) (e:Hp) (l:Nat):Env->List bL->Nat->Hp->List bL->Env->Prop:=λf g h i j k=>∃ b0:Nat,∃ b1:List OX,(a).drop b0=b1/\b1.length=h/\c b0 b1 ()=some d/\e.le i/\g=j/\(l,.int .i64 (b0:Int))::f=k
abbrev N8 {α:Type}[aE α] (d:List α) (a:Hp) (c:List bL):Hp->List bL->OY->Prop:=λf g h=>a=f/\∃ b0:OY,∃ b1:List OY,.row b0 9 (aE.sz OX) d.length b1::c=g/\b0=h/\rX b0 b1 d
abbrev NF (d:Nat) (e:OX) (l:Bool) (a:Hp) (c:List bL):Hp->List bL->OY->Prop:=λf g h=>a=f/\.obj d (.cells ([.string (e)]:List OY).toArray 9 (0,0))::c=g/\.bool (l)=h
abbrev Mj (d:Nat) (e:OX) (l:Int) (a:Hp) (c:List bL):Hp->List bL->OY->Prop:=λf g h=>a=f/\.obj d (.cells ([.string (e)]:List OY).toArray 9 (0,0))::c=g/\.int .i64 (l)=h
abbrev K2 {α:Type}[aE α] (a:List α):Hp->List bL->OY->Prop:=λf g h=>∃ b0:OY,∃ b1:List OY,[.row b0 9 (aE.sz OX) a.length b1]=g/\b0=h/\Rw f b0 b1 a
abbrev K3 (d:Nat) (e:OY) (l:Bool) (a:Hp) (c:List bL):Hp->List bL->OY->Prop:=λf g h=>a=f/\.obj d (.cells ([e]:List OY).toArray 22 (0,0))::c=g/\.bool (l)=h
abbrev K4 (d:Nat) (e:OY) (l:Int) (a:Hp) (c:List bL):Hp->List bL->OY->Prop:=λf g h=>a=f/\.obj d (.cells ([e]:List OY).toArray 22 (0,0))::c=g/\.int .i64 (l)=h
abbrev Mk {α:Type}[aE α] (d:List α) (a:Hp) (c:List bL):Hp->List bL->OY->Prop:=λf g h=>a=f/\∃ b0:OY,∃ b1:List OY,.row b0 3 (aE.sz Int) d.length b1::c=g/\b0=h/\rX b0 b1 d
abbrev Ff (a:Int):Hp->List bL->OY->Prop:=λf g h=>[]=g/\.int .i64 (a)=h
abbrev JC {α:Type}[aE α] (d:List α) (e:Int) (a:Hp) (c:List bL):Hp->List bL->OY->Prop:=λf g h=>a=f/\∃ b0:OY,∃ b1:List OY,.row b0 3 (aE.sz Int) d.length b1::c=g/\.tuple #[b0,.int .i64 (e)]=h/\rX b0 b1 d
abbrev K5 {α:Type}[aE α] (a:List α):Hp->List bL->OY->Prop:=λf g h=>∃ b0:OY,∃ b1:List OY,[.row b0 3 (aE.sz Int) a.length b1]=g/\b0=h/\Rw f b0 b1 a
abbrev D2 (d:aB) (a:Hp) (c:List bL):Hp->List bL->OY->Prop:=λf g h=>a.le f/\∃ b0:OY,c=g/\.agg [.bool (d.minus),b0].toArray=h/\aN f b0 d.words
abbrev K6 {I:Type} (a:Nat->Int->Option I) (c:I) (d:Hp) (e:Nat):Env->List bL->Nat->Hp->List bL->Env->Prop:=λf g h i j k=>∃ b0:Int,a h b0=some c/\d.le i/\g=j/\(e,.int .i64 (b0))::f=k
abbrev K7 {α:Type}[aE α] (d:List α) (a:Hp) (c:List bL):Hp->List bL->OY->Prop:=λf g h=>a=f/\∃ b0:OY,∃ b1:List OY,.row b0 211 (aE.sz bO) d.length b1::c=g/\b0=h/\rX b0 b1 d
abbrev Nf {Y:Type} (a:List bO) (c:Nat->List bO->((List bO)×Int)->Option Y) (d:Y) (e:OY) (l:Hp) (m:Nat) (n:Nat):Env->List bL->Nat->Hp->List bL->Env->Prop:=λf g h i j k=>∃ b0:Nat,∃ b1 I:List bO,∃ J:Int,∃ O:List OY,(a).drop b0=b1/\b1.length=h/\c b0 b1 (I,J)=some d/\Rw i e O I/\l.le i/\.row e 211 (aE.sz bO) I.length O::g=j/\(m,.int .u64 (J))::(n,.int .i64 (b0:Int))::f=k
abbrev Bj {α:Type}[aE α] (a:List α):Hp->List bL->OY->Prop:=λf g h=>∃ b0:OY,∃ b1:List OY,[.row b0 211 (aE.sz bO) a.length b1]=g/\b0=h/\Rw f b0 b1 a
abbrev Ng {Y:Type} (a:Nat) (c:Nat->Nat->((List bO)×Int)->Option Y) (d:Y) (e:OY) (l:Hp) (m:Nat) (n:Nat):Env->List bL->Nat->Hp->List bL->Env->Prop:=λf g h i j k=>∃ b0 b1:Nat,∃ I:List bO,∃ J:Int,∃ O:List OY,b0+b1=a/\b1=h/\c b1 b0 (I,J)=some d/\Rw i e O I/\l.le i/\.row e 211 (aE.sz bO) I.length O::g=j/\(m,.int .u64 (J))::(n,.int .i64 (b0:Int))::f=k
abbrev Ml {α:Type}[aE α] (a:aB) (c:List α):Hp->List bL->OY->Prop:=λf g h=>∃ b0:OY,∃ b1:List OY,∃ I:OY,[]=g/\.agg [.bool (a.minus),I].toArray=h/\Rw f b0 b1 c/\aN f b0 c/\aN f I a.words
abbrev y6 (a:aB):Hp->List bL->OY->Prop:=λf g h=>∃ b0:OY,[]=g/\.agg [.bool (a.minus),b0].toArray=h/\aN f b0 a.words
abbrev Nh:Hp->List bL->OY->Prop:=λf g h=>∃ b0:Nat,[.obj b0 (.cells ([.bool (false),.slice none 0 0]:List OY).toArray 144 (0,0))]=g/\.pointer (some ⟨b0,0,none⟩)=h
abbrev Ni {Z:Type} (a:Bool->(List bO)->Bool->(List bO)->Option Z) (c:Z) (d:Hp) (e:Nat) (l:Nat):Env->List bL->Hp->List bL->Env->Prop:=λf g h i j=>∃ b0:Bool,∃ b1:(List bO),∃ I:Bool,∃ J:(List bO),∃ O Y:OY,a b0 b1 I J=some c/\aN h O b1/\aN h Y J/\d.le h/\.obj e (.cells ([.bool (b0),O]:List OY).toArray 144 (0,0))::.obj l (.cells ([.bool (I),Y]:List OY).toArray 144 (0,0))::g=i/\f=j
abbrev A9 (d:aA) (a:Hp) (c:List bL):Hp->List bL->OY->Prop:=λf g h=>a.le f/\∃ b0 b1:OY,c=g/\.agg [.bool (d.N.minus),b0,.bool (d.D.minus),b1].toArray=h/\aN f b0 d.N.words/\aN f b1 d.D.words
abbrev rY (a:aA):Hp->List bL->OY->Prop:=λf g h=>∃ b0 b1:OY,[]=g/\.agg [.bool (a.N.minus),b0,.bool (a.D.minus),b1].toArray=h/\aN f b0 a.N.words/\aN f b1 a.D.words
abbrev Mm {α:Type}[aE α] (a:List α):Hp->List bL->OY->Prop:=λf g h=>∃ b0:OY,∃ b1:List OY,[.row b0 146 (aE.sz aA) a.length b1]=g/\b0=h/\Rw f b0 b1 a
abbrev K8 {α:Type}[aE α] (d:List α) (e:Nat) (l:OY) (m:OY) (n:OY) (o:OY) (p:OY) (q:OY) (r:OY) (s:OY) (a:Hp) (c:List bL):Hp->List bL->OY->Prop:=λf g h=>a.le f/\∃ b0:OY,∃ b1:List OY,.row b0 146 (aE.sz aA) d.length b1::.obj e (.cells ([l,m,n,o,p,q,r,s]:List OY).toArray 218 (0,0))::c=g/\b0=h/\Rw f b0 b1 d
abbrev Nj {O:Type} (a:List Int) (c:Nat->List Int->List aA->Option O) (d:O) (e:OY) (l:Hp) (m:Nat):Env->List bL->Nat->Hp->List bL->Env->Prop:=λf g h i j k=>∃ b0:Nat,∃ b1:List Int,∃ I:List aA,∃ J:List OY,(a).drop b0=b1/\b1.length=h/\c b0 b1 I=some d/\Rw i e J I/\l.le i/\.row e 146 (aE.sz aA) I.length J::g=j/\(m,.int .i64 (b0:Int))::f=k
abbrev K9 (a:Nat):Hp->List bL->OY->Prop:=λf g h=>[]=g/\.pointer (some ⟨a,0,none⟩)=h
abbrev Nk {Y:Type} (a:List aP) (c:Nat->List aP->List OX->Option Y) (d:Y) (e:Hp) (l:Nat) (m:Nat):Env->List bL->Nat->Hp->List bL->Env->Prop:=λf g h i j k=>∃ b0:Nat,∃ b1:List aP,∃ I:List OX,∃ J:OY,∃ O:List OY,(a).drop b0=b1/\b1.length=h/\c b0 b1 I=some d/\Rw i J O I/\e.le i/\.row J 9 (aE.sz OX) I.length O::g=j/\(l,J)::(m,.int .i64 (b0:Int))::f=k
abbrev Mn {J:Type} (a:List OX->Option J) (c:J) (d:Hp) (e:Nat):Env->List bL->Hp->List bL->Env->Prop:=λf g h i j=>∃ b0:List OX,∃ b1:OY,∃ I:List OY,a b0=some c/\Rw h b1 I b0/\d.le h/\.row b1 9 (aE.sz OX) b0.length I::g=i/\(e,b1)::f=j
abbrev Nl {α:Type}[aE α] (d:cD) (e:List α) (l:Int) (a:Hp) (c:List bL):Hp->List bL->OY->Prop:=λf g h=>a=f/\∃ b0:OY,∃ b1:List OY,∃ I:OY,∃ O:List OY,∃ J:OY,∃ Y:List OY,.row b0 61 (aE.sz OX) d.fK.length b1::.row I 61 (aE.sz OX) d.hO.length O::.row J 9 (aE.sz OX) e.length Y::c=g/\.tuple #[.agg [b0,I].toArray,J,.int .i64 (l)]=h/\rX b0 b1 d.fK/\rX I O d.hO/\rX J Y e
abbrev JD (a:cD):Hp->List bL->OY->Prop:=λf g h=>∃ b0 b1:OY,∃ I J:List OY,[]=g/\.agg [b0,b1].toArray=h/\Rw f b0 I a.fK/\Rw f b1 J a.hO/\aN f b0 a.fK/\aN f b1 a.hO
abbrev Nn {α:Type}[aE α] {O:Type}[aE O] (a:List α) (c:List O):Hp->List bL->OY->Prop:=λf g h=>∃ b0:OY,∃ b1:List OY,∃ I:OY,∃ J:List OY,[.row b0 9 (aE.sz OX) a.length b1,.row I 9 (aE.sz OX) c.length J]=g/\I=h/\Rw f b0 b1 a/\Rw f I J c
abbrev No:Hp->List bL->OY->Prop:=λf g h=>∃ b0:Nat,[.obj b0 (.cells ([.slice none 0 0,.slice none 0 0]:List OY).toArray 54 (0,0))]=g/\.pointer (some ⟨b0,0,none⟩)=h
abbrev Np (a:cD):Hp->List bL->OY->Prop:=λf g h=>∃ b0 b1:OY,∃ I:Nat,∃ J O:List OY,[.obj I (.cells ([b0,b1]:List OY).toArray 54 (0,0))]=g/\.pointer (some ⟨I,0,none⟩)=h/\Rw f b0 J a.fK/\Rw f b1 O a.hO/\aN f b0 a.fK/\aN f b1 a.hO
abbrev Mo (a:aD):Hp->List bL->OY->Prop:=λf g h=>∃ b0:OY,∃ b1:List OY,∃ O:OY,∃ b3:List OY,∃ Y:OY,∃ b5:List OY,∃ Z:OY,∃ b7:List OY,∃ b8:OY,∃ b9:List OY,∃ I:OY,∃ J:List OY,[.row b0 9 (aE.sz OX) a.bC.length b1,.row O 116 (aE.sz aX) a.aM.length b3,.row Y 110 (aE.sz aP) a.aG.length b5,.row Z 103 (aE.sz bE) a.dL.length b7,.row b8 112 (aE.sz aF) a.bA.length b9,.row I 122 (aE.sz cE) a.bT.length J]=g/\.agg [b0,O,Y,Z,b8,I].toArray=h/\Rw f b0 b1 a.bC/\Rw f O b3 a.aM/\Rw f Y b5 a.aG/\Rw f Z b7 a.dL/\Rw f b8 b9 a.bA/\Rw f I J a.bT
abbrev Mp {α:Type}[aE α] {Y:Type}[aE Y] (a:OY) (c:List α) (d:List OY) (e:List Y) (l:Int) (m:cD):Hp->List bL->OY->Prop:=λf g h=>∃ b0:OY,∃ b1:List OY,∃ I:OY,∃ Z:List OY,∃ J:OY,∃ O:List OY,[.row a 9 (aE.sz OX) c.length d,.row J 9 (aE.sz OX) e.length O]=g/\.tuple #[.agg [b0,I].toArray,J,.int .i64 (l)]=h/\Rw f b0 b1 m.fK/\Rw f I Z m.hO/\Rw f J O e/\aN f b0 m.fK/\aN f I m.hO
abbrev Mq {α:Type}[aE α] {O:Type}[aE O] (a:OY) (c:List α) (d:List OY) (e:List O) (l:Int) (m:cD):Hp->List bL->OY->Prop:=λf g h=>∃ b0 b1 I:OY,∃ J Y Z:List OY,[.row a 9 (aE.sz OX) c.length d,.row I 9 (aE.sz OX) e.length J]=g/\.tuple #[.agg [b0,b1].toArray,I,.int .i64 (l)]=h/\Rw f b0 Y m.fK/\Rw f b1 Z m.hO/\Rw f I J e/\aN f b0 m.fK/\aN f b1 m.hO
abbrev Mr {α:Type}[aE α] {I:Type}[aE I] (a:OY) (c:List α) (d:List OY) (e:List I):Hp->List bL->OY->Prop:=λf g h=>∃ b0:OY,∃ b1:List OY,[.row a 9 (aE.sz OX) c.length d,.row b0 9 (aE.sz OX) e.length b1]=g/\b0=h/\Rw f b0 b1 e
abbrev Ms (d:Nat) (e:aH) (l:Bool) (a:Hp) (c:List bL):Hp->List bL->OY->Prop:=λf g h=>a=f/\.obj d (.cells ([.int .i64 (e.Time),.string (e.Kind),.string (e.Name),.int .i64 (e.Value)]:List OY).toArray 42 (0,0))::c=g/\.bool (l)=h
abbrev Mu (d:Nat) (e:aH) (l:Int) (a:Hp) (c:List bL):Hp->List bL->OY->Prop:=λf g h=>a=f/\.obj d (.cells ([.int .i64 (e.Time),.string (e.Kind),.string (e.Name),.int .i64 (e.Value)]:List OY).toArray 42 (0,0))::c=g/\.int .i64 (l)=h
abbrev Nq (d:Nat) (e:Nat) (l:Nat) (m:dS) (n:aO) (o:Nat) (p:cO) (q:Int) (a:Hp) (c:List bL):Hp->List bL->OY->Prop:=λf g h=>a.le f/\∃ b0 b1:OY,∃ Z:List OY,∃ b3 J:OY,∃ b5:List OY,∃ O:OY,∃ b7:List OY,∃ b8 Y:OY,∃ I:List OY,iY (aS d e l m n)::.obj o (.cells ([b0,b1,b3,J,O,b8,Y]:List OY).toArray 83 (0,0))::.row b1 116 (aE.sz aX) p.n.aM.length Z::.row J 103 (aE.sz bE) p.n.dL.length b5::.row O 112 (aE.sz aF) p.n.bA.length b7::.row Y 9 (aE.sz OX) p.on.length I::c=g/\.int .i64 (q)=h/\aN f b0 p.n.bC/\Rw f b1 Z p.n.aM/\aN f b3 p.n.aG/\Rw f J b5 p.n.dL/\Rw f O b7 p.n.bA/\aN f b8 p.n.bT/\Rw f Y I p.on
abbrev Nr {α:Type}[aE α] (a:List α):Hp->List bL->OY->Prop:=λf g h=>∃ b0:OY,∃ b1:List OY,[.row b0 42 (aE.sz aH) a.length b1]=g/\b0=h/\Rw f b0 b1 a
abbrev Mv {α:Type}[aE α] (d:List α) (e:Nat) (l:OY) (a:Hp) (c:List bL):Hp->List bL->OY->Prop:=λf g h=>a=f/\∃ b0:OY,∃ b1:List OY,.row b0 9 (aE.sz OX) d.length b1::.obj e (.cells ([l]:List OY).toArray 22 (0,0))::c=g/\b0=h/\rX b0 b1 d
abbrev K_ {O:Type} (a:Nat->((List OX)×Int×Int)->Option O) (c:O) (d:OY) (e:Hp) (l:Nat) (m:Nat):Env->List bL->Nat->Hp->List bL->Env->Prop:=λf g h i j k=>∃ b0:List OX,∃ b1 I:Int,∃ J:List OY,a h (b0,b1,I)=some c/\Rw i d J b0/\e.le i/\.row d 9 (aE.sz OX) b0.length J::g=j/\(l,.int .i64 (b1))::(m,.int .i64 (I))::f=k
abbrev La {J:Type} (a:List OX->Int->Option J) (c:J) (d:OY) (e:Hp) (l:Nat):Env->List bL->Hp->List bL->Env->Prop:=λf g h i j=>∃ b0:List OX,∃ b1:Int,∃ I:List OY,a b0 b1=some c/\Rw h d I b0/\e=h/\.row d 9 (aE.sz OX) b0.length I::g=i/\(l,.int .i64 (b1))::f=j
abbrev Lb {α:Type}[aE α] (d:List α) (e:Nat) (l:OY) (m:Nat) (n:OY) (o:OY) (p:OY) (q:OY) (r:OY) (s:OY) (t:Bool) (a:Hp) (c:List bL):Hp->List bL->OY->Prop:=λf g h=>a=f/\∃ b0:OY,∃ b1:List OY,.row b0 9 (aE.sz OX) d.length b1::.obj e (.cells ([l]:List OY).toArray 22 (0,0))::.obj m (.cells ([n,o,p,q,r,s]:List OY).toArray 29 (0,0))::c=g/\.tuple #[b0,.bool (t)]=h/\rX b0 b1 d
abbrev Ns {Y:Type} (a:List OX) (c:Nat->List OX->List aH->Option Y) (d:Y) (e:Hp) (l:Nat) (m:Nat):Env->List bL->Nat->Hp->List bL->Env->Prop:=λf g h i j k=>∃ b0:Nat,∃ b1:List OX,∃ I:List aH,∃ J:OY,∃ O:List OY,(a).drop b0=b1/\b1.length=h/\c b0 b1 I=some d/\Rw i J O I/\e.le i/\.row J 42 (aE.sz aH) I.length O::.obj l (.cells ([J]:List OY).toArray 124 (0,0))::g=j/\(m,.int .i64 (b0:Int))::f=k
abbrev Nt {α:Type}[aE α] (a:OY) (c:cO) (d:List OY) (e:OY) (l:List OY) (m:OY) (n:List OY) (o:OY) (p:List OY) (q:List α):Hp->List bL->OY->Prop:=λf g h=>∃ b0:OY,∃ b1:List OY,[.row a 116 (aE.sz aX) c.n.aM.length d,.row e 103 (aE.sz bE) c.n.dL.length l,.row m 112 (aE.sz aF) c.n.bA.length n,.row o 9 (aE.sz OX) c.on.length p,.row b0 9 (aE.sz OX) q.length b1]=g/\b0=h/\Rw f b0 b1 q
abbrev Cq (B:Nat) (w0:World) (n:FuncId) (a:List OY) (H:Hp) (M:List bL) (F:Hp->List bL->Hp->List bL->OY->Prop):Prop:=∀ ⦃w⦄,St B w0 H M w->Calls Proofs.Tryz.prog n a.toArray w (tG B w0 (F H M))
theorem fU {n:FuncId}{I:Func}{c:Code}{vs:List OY}{N B:Nat}{w0:World}{H:Hp}{M:List bL}{F:Hp->List bL->Hp->List bL->OY->Prop} (Y:Proofs.Tryz.prog.funcs[n]? = some I)
  (k:C ⟨Proofs.Tryz.prog,N,B,w0⟩ c (bodyPost Proofs.Tryz.prog I (tG B w0 (F H M))) H M (Bw 0 vs)) (O:I.body=some c:=by rfl) (hN:I.ntmps=N:=by rfl) (J:Nat.ble vs.length N=true:=by rfl):Cq B w0 n vs H M F:=λ_ ht=>enter Y O hN J ht k
variable {B:Nat}{w0 w:World}[xD B w0] {H:Hp}{M:List bL}
theorem wQ {r:aD} (hm:oV=r):
  Cq B w0 15 [] H M (N5 r):=by
 unfold oV at hm;refine fU func15 ?_;refine gs ?_;refine al (λac=>?_);refine gs ?_;refine fP (α:=OX) (css:=[[.string (⟨#[65]⟩)],[.string (⟨#[66]⟩)]]) (zs:=[.string (⟨#[]⟩),.string (⟨#[]⟩)]) (out:=[.string (⟨#[65]⟩),.string (⟨#[66]⟩)]) (ys:=[(⟨#[65]⟩),(⟨#[66]⟩)]) G G G ⟨G,G,O0⟩ P3 QP G QT (by kernel_rfl) G G G G ⟨[.string (⟨#[65]⟩)],[.string (⟨#[66]⟩)],G,G,⟨[.string (⟨#[66]⟩)],[],G,G,G⟩⟩ G ?_
 intro a0 a8 O;refine dX (css:=[[.string (⟨#[76]⟩)],[.string (⟨#[65]⟩)],[.string (⟨#[66]⟩)],[.int .i64 (1000)],[.int .i64 (1000)],[.int .i64 (40)],[.int .i64 (60)],[.int .i64 (10)]]) (zs:=[.string (⟨#[]⟩),.string (⟨#[]⟩),.string (⟨#[]⟩),.int .i64 (0),.int .i64 (0),.int .i64 (0),.int .i64 (0),.int .i64 (0),.int .i64 (0)]) (out:=[.string (⟨#[76]⟩),.string (⟨#[65]⟩),.string (⟨#[66]⟩),.int .i64 (1000),.int .i64 (1000),.int .i64 (0),.int .i64 (40),.int .i64 (60),.int .i64 (10)]) (places:=[(0,1),(1,1),(2,1),(3,1),(4,1),(5,1),(6,1),(7,1),(8,1)]) G G G ⟨G,G,G,G,G,G,G,G,O0⟩ zeroValue110 G runUnderlying110 (λw=>by kernel_rfl) G ?_
 refine fP (α:=aP) (css:=[[.string (⟨#[76]⟩),.string (⟨#[65]⟩),.string (⟨#[66]⟩),.int .i64 (1000),.int .i64 (1000),.int .i64 (0),.int .i64 (40),.int .i64 (60),.int .i64 (10)]]) (zs:=[.string (⟨#[]⟩),.string (⟨#[]⟩),.string (⟨#[]⟩),.int .i64 (0),.int .i64 (0),.int .i64 (0),.int .i64 (0),.int .i64 (0),.int .i64 (0)]) (out:=[.string (⟨#[76]⟩),.string (⟨#[65]⟩),.string (⟨#[66]⟩),.int .i64 (1000),.int .i64 (1000),.int .i64 (0),.int .i64 (40),.int .i64 (60),.int .i64 (10)]) (ys:=[(aP.mk (⟨#[76]⟩) (⟨#[65]⟩) (⟨#[66]⟩) 1000 1000 0 40 60 10)]) G G G ⟨G,O0⟩ runUnderlying24 sizeOf110 G zeroValue110 (by kernel_rfl) G G G G ⟨[.string (⟨#[76]⟩),.string (⟨#[65]⟩),.string (⟨#[66]⟩),.int .i64 (1000),.int .i64 (1000),.int .i64 (0),.int .i64 (40),.int .i64 (60),.int .i64 (10)],[],G,G,G⟩ G ?_
 intro a1 a9 Y;refine dX (css:=[[.string (⟨#[71]⟩)],[.string (⟨#[65]⟩)],[.int .i64 (10)],[.int .i64 (50)]]) (zs:=[.string (⟨#[]⟩),.string (⟨#[]⟩),.int .i64 (0),.int .i64 (0),.int .i64 (0)]) (out:=[.string (⟨#[71]⟩),.string (⟨#[65]⟩),.int .i64 (10),.int .i64 (50),.int .i64 (0)]) (places:=[(0,1),(1,1),(2,1),(3,1),(4,1)]) G G G ⟨G,G,G,G,O0⟩ zeroValue103 G runUnderlying103 (λw=>by kernel_rfl) G ?_
 refine fP (α:=bE) (css:=[[.string (⟨#[71]⟩),.string (⟨#[65]⟩),.int .i64 (10),.int .i64 (50),.int .i64 (0)]]) (zs:=[.string (⟨#[]⟩),.string (⟨#[]⟩),.int .i64 (0),.int .i64 (0),.int .i64 (0)]) (out:=[.string (⟨#[71]⟩),.string (⟨#[65]⟩),.int .i64 (10),.int .i64 (50),.int .i64 (0)]) (ys:=[(bE.mk (⟨#[71]⟩) (⟨#[65]⟩) 10 50 0)]) G G G ⟨G,O0⟩ Tj sizeOf103 G zeroValue103 (by kernel_rfl) G G G G ⟨[.string (⟨#[71]⟩),.string (⟨#[65]⟩),.int .i64 (10),.int .i64 (50),.int .i64 (0)],[],G,G,G⟩ G ?_
 intro I aa Z;refine dX (css:=[[.string (⟨#[68]⟩)],[.string (⟨#[66]⟩)],[.int .i64 (30)]]) (zs:=[.string (⟨#[]⟩),.string (⟨#[]⟩),.int .i64 (0)]) (out:=[.string (⟨#[68]⟩),.string (⟨#[66]⟩),.int .i64 (30)]) (places:=[(0,1),(1,1),(2,1)]) G G G ⟨G,G,G,O0⟩ zeroValue112 G runUnderlying112 (λw=>by kernel_rfl) G ?_
 refine fP (α:=aF) (css:=[[.string (⟨#[68]⟩),.string (⟨#[66]⟩),.int .i64 (30)]]) (zs:=[.string (⟨#[]⟩),.string (⟨#[]⟩),.int .i64 (0)]) (out:=[.string (⟨#[68]⟩),.string (⟨#[66]⟩),.int .i64 (30)]) (ys:=[(aF.mk (⟨#[68]⟩) (⟨#[66]⟩) 30)]) G G G ⟨G,O0⟩ Sm sizeOf112 G zeroValue112 (by kernel_rfl) G G G G ⟨[.string (⟨#[68]⟩),.string (⟨#[66]⟩),.int .i64 (30)],[],G,G,G⟩ G ?_
 intro J ab a7;refine dX (css:=[[a0],[a1],[I],[J]]) (zs:=[.slice none 0 0,.slice none 0 0,.slice none 0 0,.slice none 0 0,.slice none 0 0,.slice none 0 0]) (out:=[a0,.slice none 0 0,a1,I,J,.slice none 0 0]) (places:=[(0,1),(1,1),(2,1),(3,1),(4,1),(5,1)]) G G G ⟨(Rw.cells O),(Rw.cells Y),(Rw.cells Z),(Rw.cells a7),O0⟩ zeroValue29 G Tk (λw=>by kernel_rfl) G ?_
 refine wt 4 ?_;refine aY (aR ?_);refine gj ?_;refine b_ 116 (aE.sz aX) (b_ 122 (aE.sz cE) ?_);obtain rfl:=hm;exact jR lE G (fB.agg G Se RW (.tail _ (.tail _ (.head _))) G) (.cons_cons _ (.cons_cons _ (.cons _ (.refl _)))) (.trans (.cons _ (.cons _ (.cons _ (.cons _ (.swap _ _ _))))) (.trans (.cons _ (.cons _ (.cons _ (.swap _ _ _)))) (.trans (.cons _ (.cons _ (.swap _ _ _))) (.trans (.cons _ (.swap _ _ _)) (.trans (.swap _ _ _) (.trans (.cons _ (.swap _ _ _)) (.trans (.cons _ (.cons _ (.cons _ (.cons _ (.swap _ _ _))))) (.trans (.cons _ (.cons _ (.cons _ (.swap _ _ _)))) (.trans (.cons _ (.cons _ (.swap _ _ _))) (.trans (.cons _ (.cons _ (.cons _ (.cons _ (.swap _ _ _))))) (.trans (.cons _ (.cons _ (.cons _ (.swap _ _ _)))) (.cons _ (.cons _ (.cons _ (.cons _ (.swap _ _ _)))))))))))))))) ⟨G,a0,a8,(.slice none 0 0),[],a1,a9,I,aa,J,ab,(.slice none 0 0),[],G,G,(O).ob,(Rw.nil (H:=H)).ob,(Y).ob,(Z).ob,(a7).ob,(Rw.nil (H:=H)).ob⟩
theorem nY {J:OX}{r:Bool} (hm:bP J=some r):
  Cq B w0 57 [.string (J)] H M (Hl r):=by
 unfold bP at hm;refine fU func57 ?_;refine g2 ?_;refine gs ?_;obtain ⟨aa,hm⟩:=aI hm;refine wA G G PI S7 runUnderlying5 G aa ?_;intro ak ab am ac;refine go ?_;obtain ⟨Y,ad,ae,hm⟩:=cS hm;refine cl [(0,_),(6,_),(7,_)] [] 0 [] 0 (N6 (jL J) Y r ab 8) _ G ⟨0,_,G,G,hm,lE,G,G⟩ ?_;rintro _ Z _ _ ⟨a0,a4,a8,rfl,hm,an,rfl,rfl⟩;refine g2 ?_;refine bB G (λO=>?_) (λO=>?_);obtain ⟨a1,af,rfl,ag,ah⟩:=fI a8 O;have hm:=(ad _ _ _ _).symm.trans hm;generalize ai:Y (a0+1) af=ao at hm;unfold oX at hm;refine g2 ?_;refine cj [(0,_),(6,_),(7,_),(8,_)] [] 0 (vW Z 31 (!(((decide (65<=a1.n)) && (decide (a1.n<=90))) || (((decide (0<(a0:Int))) && (decide (48<=a1.n))) && (decide (a1.n<=57)))))) ?_ (λI=>?_);rintro _ _ _ ⟨rfl,rfl,rfl⟩;refine cd hm G (λaj hm=>?_) (λaj hm=>?_);refine gs ?_;exact ef;refine gt ?_
 refine gj ?_;exact kj (eb ah ai) (kK (cA ag ac.mm.cU));refine go ?_;cases ap:(decide (65<=a1.n));refine go ?_;cases aq:(decide (0<(a0:Int)));refine gj ?_;exact kj (I _ _ _ pk) kS;refine go ?_;cases ar:(decide (48<=a1.n));refine gj ?_;exact kj (I _ _ _ pk) kS;refine gj ?_;exact kj (I _ _ _ pk) kS;refine go ?_;cases au:(decide (a1.n<=90));refine go ?_;cases av:(decide (0<(a0:Int)));refine gj ?_;exact kj (I _ _ _ pk) kS;refine go ?_;cases aw:(decide (48<=a1.n));refine gj ?_;exact kj (I _ _ _ pk) kS;refine gj ?_;exact kj (I _ _ _ pk) kS;refine gj ?_;exact kj (I _ _ _ pk) kS;obtain rfl:=fH a8 O;have hm:=(ae _ _).symm.trans hm;refine go ?_;refine cj [] [] 0 (vW Z 2 ((decide (1<=(J.size:Int))) && (decide ((J.size:Int)<=8)))) ?_ (λa9=>?_);rintro _ _ _ ⟨rfl,rfl,rfl⟩;refine go ?_;exact ef;refine go ?_;refine jJ G G PI G (go ?_);cases ax:(decide (1<=(J.size:Int)))
 refine gj ?_;exact kj (a9 _ _ _ pk) kS;refine go ?_;refine jJ G G PI G (gj ?_);exact kj (a9 _ _ _ pk) kS
theorem bY {I:(List OX)}{O:OX}{v0:OY}{r:Int} (hm:a_ I O=some r) (h0:aN H v0 I):
  Cq B w0 72 [v0,.string (O)] H M (xX r):=by
 unfold a_ at hm;refine fU func72 ?_;refine g2 ?_;refine gs ?_;obtain ⟨Y,a7,a8,hm⟩:=iH hm;refine cl [(0,_),(1,_),(7,_)] [] 0 [] 0 (D6 (((I.length:Int):Int).toNat) Y r H 8) _ G ⟨0,_,Po _,G,hm,lE,G,G⟩ ?_;rintro _ ae _ _ ⟨a0,a1,Z,rfl,hm,af,rfl,rfl⟩;refine g2 ?_;refine bB G (λJ=>?_) (λJ=>?_);obtain ⟨a9,rfl,aa,ab⟩:=lq Z J;have hm:=(a7 _ _ _).symm.trans hm;generalize ac:Y a9 (a0+1)=ag at hm;unfold lg at hm;refine g2 ?_;refine gs ?_;obtain ⟨ah,ai,aj,hm⟩:=aC hm;refine go ?_;refine cd hm G (λad hm=>?_) (λad hm=>?_);refine gs ?_;exact ef;refine gt ?_;refine gj ?_;exact kj (eb aa ac) (kK (eH ab (eI (lu (h0).cU))));obtain rfl:=lj Z J;have hm:=(a8 _ _).symm.trans hm;refine gs ?_;exact ef
theorem cC {a0:(List OX)}{a1:OX}{v0:OY}{r:Bool} (hm:bG a0 a1=some r) (O:aN H v0 a0):
  Cq B w0 36 [v0,.string (a1)] H M (Hl r):=by
 unfold bG at hm;refine fU func36 ?_;refine g2 ?_;obtain ⟨J,I,hm⟩:=aU hm;refine cz @bY I ?_;refine go ?_;exact ef
theorem fE {Z:aQ}{name:OX}{nodes:(List OX)}{b0:Nat}{J:Array MapEntry}{c0:Nat}{v0 v1:OY}{r:Int×aQ} (hm:cB Z name nodes=some r) (h0:rF J c0 Z.seen) (h1:aN H v0 Z.nodes) (h2:aN H v1 nodes):
  Cq B w0 54 [.agg [.map (some b0),v0].toArray,.string (name),v1] H (.obj b0 (.map J c0)::M) (λH _ H' M' v=>H.le H'/\∃ I:Array MapEntry,∃ O:Nat,∃ qv0:OY,.obj b0 (.map I O)::M=M'/\.int .i64 (r.1)=v/\rF I O r.2.seen/\aN H' qv0 r.2.nodes):=by
 unfold cB at hm;refine fU func54 ?_;refine gs ?_;refine bx (λaj=>?_);refine g2 ?_;obtain ⟨ak,a7,hm⟩:=aU hm;refine cz @nY a7 ?_;refine go ?_;refine cd hm G (λa8 hm=>?_) (λa8 hm=>?_);refine gs ?_;refine Ek [1] 1 ?_;exact en;refine gs ?_;refine zX (z:=false) (k:=name) (.tail _ (.head _)) h0 G G runUnderlying130 PI zeroValue4 G G G G (go ?_);refine cd hm G (λa9 hm=>?_) (λa9 hm=>?_);refine gs ?_;refine Ek [1] 1 ?_;exact en;refine gs ?_;refine Wp [1] ?_;refine wC (k:=name) (v:=true) h0 G runUnderlying130 PI G G G G G ?_;intro am an ao;refine g2 ?_;obtain ⟨a5,aa,ab,hm⟩:=cS hm;refine cl [(2,_),(3,_),(21,_),(22,_)] [] 0 [] 0 (N7 nodes a5 r H 23) _ G ⟨0,_,G,G,hm,lE,G,G⟩ ?_;rintro _ ap _ _ ⟨a0,a1,a6,rfl,hm,aq,rfl,rfl⟩;refine g2 ?_;refine bB G (λa4=>?_) (λa4=>?_);obtain ⟨ar,ac,rfl,ad,ae⟩:=fI a6 a4;have hm:=(aa _ _ _ _).symm.trans hm
 generalize af:a5 (a0+1) ac=au at hm;unfold gK at hm;refine g2 ?_;refine gs ?_;obtain ⟨av,ag,hm⟩:=aU hm;refine cz @cC ag ?_;refine go ?_;refine cd hm G (λah hm=>?_) (λah hm=>?_);refine gs ?_;refine Ek [0] 1 ?_;exact en;refine gt ?_;refine gj ?_;exact kj (eb ae af) (kK (cA ad h2.mm.cU));obtain rfl:=fH a6 a4;have hm:=(ab _ _).symm.trans hm;refine g2 ?_;cases Y:(decide ((nodes.length:Int)=2));have hm:=eM Y hm;refine oz fm 10 [ph _,ph _,ph (.bool (false)),ph _,ph _,ph _,ph _,ph _,ph _,ph _] ⟨om,om,MA Y,om,om,om,om,om,om,om,O0⟩ ?_;intro aw ax;refine dz ?_;refine go ?_;refine cF G ?_;refine gs ?_;refine Ek [0] 1 ?_;exact en;have hm:=eN Y hm;obtain ⟨ay,az,b1,hm⟩:=aC hm;obtain ⟨b2,b3,b4,hm⟩:=aC hm;refine oz fm 10 [ph _,ph _,ph (.bool (true)),ph _,ph _,ph _,ph _,ph _,ph _,ph _] ⟨om,om,MA Y,om,om,om,om,om,om,om,O0⟩ ?_
 intro b5 b6;refine dz ?_;refine go ?_;refine cd hm G (λai hm=>?_) (λai hm=>?_);refine gs ?_;refine Ek [0] 1 ?_;exact en;refine gs ?_;refine Ek [0] 1 ?_;exact en
theorem kA {a0 a1 I:Int}{r:Bool} (hm:bF a0 a1 I=r):
  Cq B w0 88 [.int .i64 (a0),.int .i64 (a1),.int .i64 (I)] H M (Hl r):=by
 unfold bF at hm;refine fU func88 ?_;refine gs ?_;refine cj [] [] 0 (vW H 6 ((decide (a0<a1)) || (decide (I<a0)))) ?_ (λJ=>?_);rintro _ _ _ ⟨rfl,rfl,rfl⟩;refine go ?_;obtain rfl:=hm;refine Ew H ?_;exact lf G G ⟨G,G,G⟩;refine go ?_;cases O:(decide (a0<a1));refine gj ?_;exact kj (J _ _ _ pk) kS;refine gj ?_;exact kj (J _ _ _ pk) kS
theorem xo {a0:aP}{r:Int} (hm:gX a0=r):
  Cq B w0 55 [.agg [.string (a0.Name),.string (a0.oN),.string (a0.To),.int .i64 (a0.X),.int .i64 (a0.A_),.int .i64 (a0.Shift),.int .i64 (a0.sN),.int .i64 (a0.wz),.int .i64 (a0.BO)].toArray] H M (xX r):=by
 unfold gX at hm;refine fU func55 ?_;refine gs ?_;refine bx (λJ=>?_);refine gs ?_;refine cj [] [] 1 (vW H 32 ((((((bF a0.X 1 10000) || (bF a0.A_ 500 1500)) || (bF a0.Shift (-1000) 1000)) || (bF a0.sN 0 100000)) || (bF a0.wz a0.sN 100000)) || (bF a0.BO 0 200000))) ?_ (λa1=>?_);rintro _ _ _ ⟨rfl,rfl,rfl⟩;refine cd hm G (λI hm=>?_) (λI hm=>?_);refine gs ?_;obtain rfl:=hm;refine Ew H ?_;exact lf G G ⟨G,G,G⟩;refine gs ?_;obtain rfl:=hm;refine Ew H ?_;exact lf G G ⟨G,G,G⟩;refine go ?_;refine cz @kA (G:bF a0.X 1 10000=_) ?_;refine go ?_;cases O:((bF a0.X 1 10000));refine go ?_;refine cz @kA (G:bF a0.A_ 500 1500=_) ?_;refine go ?_;cases Y:((bF a0.A_ 500 1500));refine go ?_;refine cz @kA (G:bF a0.Shift (-1000) 1000=_) ?_;refine go ?_;cases Z:((bF a0.Shift (-1000) 1000));refine go ?_;refine cz @kA (G:bF a0.sN 0 100000=_) ?_;refine go ?_;cases a7:((bF a0.sN 0 100000))
 refine go ?_;refine cz @kA (G:bF a0.wz a0.sN 100000=_) ?_;refine go ?_;cases a8:((bF a0.wz a0.sN 100000));refine go ?_;refine cz @kA (G:bF a0.BO 0 200000=_) ?_;refine gj ?_;exact kx [] 1 (a1 _ _ _ pk) G kS;refine gj ?_;exact kx [] 1 (a1 _ _ _ pk) G kS;refine gj ?_;exact kx [] 1 (a1 _ _ _ pk) G kS;refine gj ?_;exact kx [] 1 (a1 _ _ _ pk) G kS;refine gj ?_;exact kx [] 1 (a1 _ _ _ pk) G kS;refine gj ?_;exact kx [] 1 (a1 _ _ _ pk) G kS
theorem iX {a0:Int}{r:Bool} (hm:aT a0=r):
  Cq B w0 89 [.int .i64 (a0)] H M (Hl r):=by
 unfold aT at hm;refine fU func89 ?_;refine g2 ?_;refine cz @kA (G:bF a0 0 100000=_) ?_;refine go ?_;obtain rfl:=hm;refine Ew H ?_;exact lf G G ⟨G,G,G⟩
theorem uu {aa:aQ}{I:aD}{b0:Nat}{es0:Array MapEntry}{c0:Nat}{v0 v1 v2 v3 v4 v5 v6:OY}{r:Int×aQ} (hm:fO aa I=some r) (h0:rF es0 c0 aa.seen) (h1:aN H v0 aa.nodes) (h2:aN H v1 I.bC) (h3:aN H v2 I.aM) (h4:aN H v3 I.aG) (h5:aN H v4 I.dL) (h6:aN H v5 I.bA) (h7:aN H v6 I.bT):
  Cq B w0 56 [.agg [.map (some b0),v0].toArray,.agg [v1,v2,v3,v4,v5,v6].toArray] H (.obj b0 (.map es0 c0)::M) (λH _ H' M' v=>H.le H'/\∃ J:Array MapEntry,∃ qc0:Nat,∃ qv0:OY,.obj b0 (.map J qc0)::M=M'/\.int .i64 (r.1)=v/\rF J qc0 r.2.seen/\aN H' qv0 r.2.nodes):=by
 unfold fO at hm;refine fU func56 ?_;refine gs ?_;refine bx (λc2=>?_);refine bx (λc3=>?_);refine g2 ?_;obtain ⟨aq,ay,az,hm⟩:=cS hm;refine cl [(2,_),(3,_),(15,_),(16,_)] [0,0] 1 [2] 0 (λu m n H' M' L'=>∃ (O:Nat) (a7:List bE),∃ ab:(List (OX×Bool)),∃ ac:Array MapEntry,∃ ad:Nat,(I.dL).drop O=a7/\a7.length=n/\aq O a7 ab=some r/\rF ac ad ab/\H.le H'/\.obj b0 (.map ac ad)::m=M'/\(17,.int .i64 ((O:Int)))::u=L') _ G ⟨0,_,_,_,_,G,G,hm,h0,lE,G,G⟩ ?_;rintro _ b1 _ _ ⟨O,a7,ab,ac,ad,ar,rfl,hm,b2,c4,rfl,rfl⟩;refine g2 ?_;refine bB G (λae=>?_) (λae=>?_);obtain ⟨a0,b3,rfl,b4,b5⟩:=fI ar ae;have hm:=(ay _ _ _ _).symm.trans hm;generalize b6:aq (O+1) b3=c5 at hm;unfold iN at hm;refine g2 ?_;refine al (λc6=>?_);refine wt 0 ?_;refine g2 ?_;refine fP (α:=OX) (css:=[[.string (a0.Node)]]) (zs:=[.string (⟨#[]⟩)]) (out:=[.string (a0.Node)]) (ys:=[a0.Node]) G G G ⟨G,O0⟩ P3 QP G QT (by kernel_rfl) G G G G ⟨[.string (a0.Node)],[],G,G,G⟩ G ?_
 intro c7 c8 b7;refine bZ (b7).rd G (λc9 cb cc=>?_);refine Wp [1] ?_;obtain ⟨ce,b8,hm⟩:=aU hm;refine ca @fE b8 ?_;rintro _ b9 _ ⟨cf,cg,ch,ci,rfl,rfl,ck,cm⟩;refine gs ?_;refine cd hm G (λba hm=>?_) (λba hm=>?_);refine gs ?_;refine Ek [0] 3 ?_;exact en;refine go ?_;refine cj [(2,_),(3,_),(15,_),(16,_),(17,_)] [0,1,1] 1 (vW b9 47 (((!(aT a0.iJ)) || (bF a0.qa a0.iJ 100000)) || (!(aT a0.Bc)))) ?_ (λaf=>?_);rintro _ _ _ ⟨rfl,rfl,rfl⟩;refine cd hm G (λbb hm=>?_) (λbb hm=>?_);refine gs ?_;refine Ek [0] 2 ?_;exact en;refine gt ?_;refine gj ?_;exact kj (eb b5 b6) (kK (cA b4 h5.mm.cU));refine go ?_;refine cz @iX (G:aT a0.iJ=_) ?_;refine go ?_;cases cn:(aT a0.iJ);refine gj ?_;exact kx [0,1,1] 1 (af _ _ _ pk) G kS;refine go ?_;refine cz @kA (G:bF a0.qa a0.iJ 100000=_) ?_;refine go ?_;cases co:((bF a0.qa a0.iJ 100000));refine go ?_;refine cz @iX (G:aT a0.Bc=_) ?_
 refine gj ?_;exact kx [0,1,1] 1 (af _ _ _ pk) G kS;refine gj ?_;exact kx [0,1,1] 1 (af _ _ _ pk) G kS;obtain rfl:=fH ar ae;have hm:=(az _ _).symm.trans hm;refine g2 ?_;obtain ⟨au,bc,bd,hm⟩:=cS hm;refine cl [(2,_),(3,_),(50,_),(51,_)] [1,1] 1 [] 0 (λu m n H' M' L'=>∃ (Y:Nat) (a8:List aF),∃ ag:(List (OX×Bool)),∃ ah:Array MapEntry,∃ ai:Nat,(I.bA).drop Y=a8/\a8.length=n/\au Y a8 ag=some r/\rF ah ai ag/\b1.le H'/\.obj b0 (.map ah ai)::m=M'/\(52,.int .i64 ((Y:Int)))::u=L') _ G ⟨0,_,_,_,_,G,G,hm,b2,lE,G,G⟩ ?_;rintro _ be _ _ ⟨Y,a8,ag,ah,ai,av,rfl,hm,bf,cp,rfl,rfl⟩;refine g2 ?_;refine bB G (λaj=>?_) (λaj=>?_);obtain ⟨Z,bg,rfl,bh,bi⟩:=fI av aj;have hm:=(bc _ _ _ _).symm.trans hm;generalize bj:au (Y+1) bg=cq at hm;unfold iP at hm;refine g2 ?_;refine al (λcr=>?_);refine wt 0 ?_
 refine g2 ?_;refine fP (α:=OX) (css:=[[.string (Z.Node)]]) (zs:=[.string (⟨#[]⟩)]) (out:=[.string (Z.Node)]) (ys:=[Z.Node]) G G G ⟨G,O0⟩ P3 QP G QT (by kernel_rfl) G G G G ⟨[.string (Z.Node)],[],G,G,G⟩ G ?_
 intro cs ct bk;refine bZ (bk).rd G (λcu cv cw=>?_);refine Wp [1] ?_;obtain ⟨cx,bl,hm⟩:=aU hm;refine ca @fE bl ?_;rintro _ d0 _ ⟨d1,d2,d3,d4,rfl,rfl,d5,d6⟩;refine gs ?_;refine cd hm G (λbm hm=>?_) (λbm hm=>?_);refine gs ?_;refine Ek [0] 3 ?_;exact en;refine gs ?_;refine cz @iX (G:aT Z.cW=_) ?_;refine go ?_;refine cd hm G (λbn hm=>?_) (λbn hm=>?_);refine gs ?_;refine Ek [0] 3 ?_;exact en;refine gt ?_;refine gj ?_;exact kx [0,1,1] 1 (eb bi bj) G (kK (cA bh h6.mm.cU));obtain rfl:=fH av aj;have hm:=(bd _ _).symm.trans hm;refine g2 ?_;obtain ⟨aw,bo,bp,hm⟩:=cS hm;refine cl [(2,_),(72,_),(73,_)] [2] 2 [0,1] 1 (λu m n H' M' L'=>∃ (a6:Nat) (a9:List cE),∃ ak:(List (OX×Bool)),∃ am:Array MapEntry,∃ an:Nat,(I.bT).drop a6=a9/\a9.length=n/\aw a6 a9 ak=some r/\rF am an ak/\be.le H'/\.obj b0 (.map am an)::m=M'/\(74,.int .i64 ((a6:Int)))::u=L') _ G ⟨0,_,_,_,_,G,G,hm,bf,lE,G,G⟩ ?_
 rintro _ d7 _ _ ⟨a6,a9,ak,am,an,ax,rfl,hm,d8,d9,rfl,rfl⟩;refine g2 ?_;refine bB G (λao=>?_) (λao=>?_);obtain ⟨a1,bq,rfl,br,bs⟩:=fI ax ao;have hm:=(bo _ _ _ _).symm.trans hm;generalize bt:aw (a6+1) bq=da at hm;unfold iQ at hm;refine g2 ?_;refine al (λdb=>?_);refine wt 0 ?_;refine g2 ?_;refine fP (α:=OX) (css:=[[.string (a1.Node)]]) (zs:=[.string (⟨#[]⟩)]) (out:=[.string (a1.Node)]) (ys:=[a1.Node]) G G G ⟨G,O0⟩ P3 QP G QT (by kernel_rfl) G G G G ⟨[.string (a1.Node)],[],G,G,G⟩ G ?_
 intro dc dd bu;refine bZ (bu).rd G (λde df dg=>?_);refine Wp [1] ?_;obtain ⟨dh,bv,hm⟩:=aU hm;refine ca @fE bv ?_;rintro _ bw _ ⟨di,dj,dk,dl,rfl,rfl,dm,dn⟩;refine gs ?_;refine cd hm G (λbz hm=>?_) (λbz hm=>?_);refine gs ?_;refine Ek [0] 2 ?_;exact en;refine go ?_;refine cj [(2,_),(72,_),(73,_),(74,_)] [0,1] 1 (vW bw 103 (((!(aT a1.rD)) || (!(aT a1.Discharge))) || (!(aT a1.tP)))) ?_ (λap=>?_);rintro _ _ _ ⟨rfl,rfl,rfl⟩;refine cd hm G (λc1 hm=>?_) (λc1 hm=>?_);refine gs ?_;refine Ek [0] 1 ?_;exact en;refine gt ?_;refine gj ?_;exact kj (eb bs bt) (kK (cA br h7.mm.cU));refine go ?_;refine cz @iX (G:aT a1.rD=_) ?_;refine go ?_;cases dp:(aT a1.rD);refine gj ?_;exact kx [0,1] 1 (ap _ _ _ pk) G kS;refine go ?_;refine cz @iX (G:aT a1.Discharge=_) ?_;refine go ?_;cases dq:(aT a1.Discharge);refine gj ?_;exact kx [0,1] 1 (ap _ _ _ pk) G kS
 refine go ?_;refine cz @iX (G:aT a1.tP=_) ?_;refine gj ?_;exact kx [0,1] 1 (ap _ _ _ pk) G kS;obtain rfl:=fH ax ao;have hm:=(bp _ _).symm.trans hm;refine gs ?_;refine Ek [0] 1 ?_;exact en
theorem lH {a0:aD}{v0 v1 v2 v3 v4 v5:OY}{r:Int} (hm:bV a0=some r) (h0:aN H v0 a0.bC) (h1:aN H v1 a0.aM) (h2:aN H v2 a0.aG) (h3:aN H v3 a0.dL) (h4:aN H v4 a0.bA) (h5:aN H v5 a0.bT):
  Cq B w0 25 [.agg [v0,v1,v2,v3,v4,v5].toArray] H M (xX r):=by
 unfold bV at hm;refine fU func25 ?_;refine gs ?_;refine bx (λbt=>?_);refine gs ?_;refine cj [(1,_)] [] 0 (vW H 47 ((((((decide (24<(a0.bC.length:Int))) || (decide (32<(a0.aM.length:Int)))) || (decide (24<(a0.aG.length:Int)))) || (decide (10<(a0.dL.length:Int)))) || (decide (12<(a0.bA.length:Int)))) || (decide (4<(a0.bT.length:Int))))) ?_ (λJ=>?_);rintro _ _ _ ⟨rfl,rfl,rfl⟩;refine cd hm G (λaw hm=>?_) (λaw hm=>?_);refine gs ?_;refine Ek [] 1 ?_;exact ef;refine gs ?_;refine yK G G (λO=>?_);refine go ?_;refine dX (css:=[[.map (some O)],[v0]]) (zs:=[.map none,.slice none 0 0]) (out:=[.map (some O),v0]) (places:=[(0,1),(1,1)]) G G G ⟨G,(aN.cells h0),O0⟩ zeroValue132 G runUnderlying132 (λw=>by kernel_rfl) G ?_
 refine al (λbu=>?_);refine wt 0 ?_;refine g2 ?_;obtain ⟨ao,ax,ay,hm⟩:=cS hm;refine cl [(1,_),(3,_),(53,_),(54,_)] [0,1] 1 [1] 0 (λu m n H' M' L'=>∃ (Y:Nat) (a8:List OX),∃ ab:(List (OX×Bool)),∃ ac:Array MapEntry,∃ ad:Nat,(a0.bC).drop Y=a8/\a8.length=n/\ao Y a8 ab=some r/\rF ac ad ab/\H.le H'/\.obj O (.map ac ad)::m=M'/\(55,.int .i64 ((Y:Int)))::u=L') _ G ⟨0,_,_,_,_,G,G,hm,(rF.nil (κ:=OX) (ν:=Bool)),lE,G,G⟩ ?_;rintro _ az _ _ ⟨Y,a8,ab,ac,ad,ap,rfl,hm,b0,bv,rfl,rfl⟩;refine g2 ?_;refine bB G (λae=>?_) (λae=>?_);obtain ⟨bw,b1,rfl,b2,b3⟩:=fI ap ae;have hm:=(ax _ _ _ _).symm.trans hm;generalize b4:ao (Y+1) b1=bz at hm;unfold mu at hm;refine g2 ?_;refine gs ?_;obtain ⟨c0,b5,hm⟩:=aU hm;refine ca @fE b5 ?_;rintro _ c1 _ ⟨c2,c3,c4,c5,rfl,rfl,c6,c7⟩;refine gs ?_
 refine cd hm G (λb6 hm=>?_) (λb6 hm=>?_);refine gs ?_;refine Ek [] 3 ?_;exact ef;refine gt ?_;refine gj ?_;exact kj (eb b3 b4) (kK (cA b2 h0.mm.cU));obtain rfl:=fH ap ae;have hm:=(ay _ _).symm.trans hm;refine g2 ?_;obtain ⟨aq,b7,b8,hm⟩:=cS hm;refine cl [(1,_),(3,_),(67,_),(68,_)] [1,1] 1 [] 0 (λu m n H' M' L'=>∃ (Z:Nat) (a9:List aX),∃ af:(List (OX×Bool)),∃ ag:Array MapEntry,∃ ah:Nat,(a0.aM).drop Z=a9/\a9.length=n/\aq Z a9 af=some r/\rF ag ah af/\az.le H'/\.obj O (.map ag ah)::m=M'/\(69,.int .i64 ((Z:Int)))::u=L') _ G ⟨0,_,_,_,_,G,G,hm,b0,lE,G,G⟩ ?_;rintro _ b9 _ _ ⟨Z,a9,af,ag,ah,ar,rfl,hm,ba,c8,rfl,rfl⟩;refine g2 ?_;refine bB G (λai=>?_) (λai=>?_);obtain ⟨I,bb,rfl,bc,bd⟩:=fI ar ai;have hm:=(b7 _ _ _ _).symm.trans hm;generalize be:aq (Z+1) bb=c9 at hm;unfold mw at hm
 refine g2 ?_;refine al (λcb=>?_);refine wt 0 ?_;refine gs ?_;refine fP (α:=OX) (css:=[[.string (I.A)],[.string (I.B_)]]) (zs:=[.string (⟨#[]⟩),.string (⟨#[]⟩)]) (out:=[.string (I.A),.string (I.B_)]) (ys:=[I.A,I.B_]) G G G ⟨G,G,O0⟩ P3 QP G QT (by kernel_rfl) G G G G ⟨[.string (I.A)],[.string (I.B_)],G,G,⟨[.string (I.B_)],[],G,G,G⟩⟩ G ?_
 intro cc ce bf;refine bZ (bf).rd G (λcf cg ch=>?_);refine Wp [1] ?_;obtain ⟨ci,bg,hm⟩:=aU hm;refine ca @fE bg ?_;rintro _ ck _ ⟨cm,cn,co,cp,rfl,rfl,cq,cr⟩;refine gs ?_;refine cd hm G (λbh hm=>?_) (λbh hm=>?_);refine gs ?_;refine Ek [] 4 ?_;exact ef;refine gt ?_;refine gj ?_;exact kx [0,1,1] 1 (eb bd be) G (kK (cA bc h1.mm.cU));obtain rfl:=fH ar ai;have hm:=(b8 _ _).symm.trans hm;refine g2 ?_;obtain ⟨au,bi,bj,hm⟩:=cS hm;refine cl [(1,_),(3,_),(87,_),(88,_)] [1,1] 1 [] 0 (λu m n H' M' L'=>∃ (a7:Nat) (aa:List aP),∃ aj:(List (OX×Bool)),∃ ak:Array MapEntry,∃ am:Nat,(a0.aG).drop a7=aa/\aa.length=n/\au a7 aa aj=some r/\rF ak am aj/\b9.le H'/\.obj O (.map ak am)::m=M'/\(89,.int .i64 ((a7:Int)))::u=L') _ G ⟨0,_,_,_,_,G,G,hm,ba,lE,G,G⟩ ?_;rintro _ cs _ _ ⟨a7,aa,aj,ak,am,av,rfl,hm,ct,cu,rfl,rfl⟩
 refine g2 ?_;refine bB G (λan=>?_) (λan=>?_);obtain ⟨a1,bk,rfl,bl,bm⟩:=fI av an;have hm:=(bi _ _ _ _).symm.trans hm;generalize bn:au (a7+1) bk=cv at hm;unfold my at hm;refine g2 ?_;refine al (λcw=>?_);refine wt 0 ?_;refine g2 ?_;refine fP (α:=OX) (css:=[[.string (a1.oN)],[.string (a1.To)]]) (zs:=[.string (⟨#[]⟩),.string (⟨#[]⟩)]) (out:=[.string (a1.oN),.string (a1.To)]) (ys:=[a1.oN,a1.To]) G G G ⟨G,G,O0⟩ P3 QP G QT (by kernel_rfl) G G G G ⟨[.string (a1.oN)],[.string (a1.To)],G,G,⟨[.string (a1.To)],[],G,G,G⟩⟩ G ?_
 intro cx d0 bo;refine bZ (bo).rd G (λd1 d2 d3=>?_);refine Wp [1] ?_;obtain ⟨d4,bp,hm⟩:=aU hm;refine ca @fE bp ?_;rintro _ d5 _ ⟨d6,d7,d8,d9,rfl,rfl,da,db⟩;refine gs ?_;refine cd hm G (λbq hm=>?_) (λbq hm=>?_);refine gs ?_;refine Ek [] 4 ?_;exact ef;refine gs ?_;refine cz @xo (G:gX a1=_) ?_;refine gs ?_;refine cd hm G (λbr hm=>?_) (λbr hm=>?_);refine gs ?_;refine Ek [] 4 ?_;exact ef;refine gt ?_;refine gj ?_;exact kx [0,1,1] 1 (eb bm bn) G (kK (cA bl h2.mm.cU));obtain rfl:=fH av an;have hm:=(bj _ _).symm.trans hm;refine gs ?_;obtain ⟨dc,bs,hm⟩:=aU hm;refine ca @uu bs ?_;rintro _ dd _ ⟨de,df,dg,dh,rfl,rfl,di,dj⟩;refine go ?_;refine Ek [] 3 ?_;exact ef;refine go ?_;cases dk:(decide (24<(a0.bC.length:Int)));refine go ?_;cases dl:(decide (32<(a0.aM.length:Int)));refine go ?_;cases dm:(decide (24<(a0.aG.length:Int)));refine go ?_
 cases dn:(decide (10<(a0.dL.length:Int)));refine go ?_;cases dp:(decide (12<(a0.bA.length:Int)));refine gj ?_;exact kj (J _ _ _ pk) kS;refine gj ?_;exact kj (J _ _ _ pk) kS;refine gj ?_;exact kj (J _ _ _ pk) kS;refine gj ?_;exact kj (J _ _ _ pk) kS;refine gj ?_;exact kj (J _ _ _ pk) kS;refine gj ?_;exact kj (J _ _ _ pk) kS
theorem u9 {ah:(List bJ)}{v0:OY}{r:Int} (hm:jG ah=some r) (h0:aN H v0 ah):
  Cq B w0 58 [v0] H M (xX r):=by
 unfold jG at hm;refine fU func58 ?_;refine q2 ?_;refine qs ?_;refine lr h0 ?_;refine qg ?_;refine cd hm G (λbn hm=>?_) (λbn hm=>?_);refine qs ?_;exact ef;refine qs ?_;refine lr h0 ?_;refine qg ?_;refine cd hm G (λbo hm=>?_) (λbo hm=>?_);refine qs ?_;exact ef;refine qs ?_;refine lr h0 ?_;obtain ⟨b4,hm⟩:=aI hm;refine eS (α:=Int) (zs:=[.int .i64 (0)]) (ze:=0) G G Qx ⟨_,G,G,G,G⟩ G G G G G G b4.1 b4.2 ?_;intro Z d6 bp;refine q2 ?_;refine lr h0 ?_;refine qg ?_;obtain ⟨b5,bq,br,hm⟩:=cS hm;refine cl [(0,_),(3,_),(18,_),(19,_)] [] 1 [] 0 (λu m n H' M' L'=>∃ (a0:Nat) (ad:List bJ),∃ a6:List Int,∃ ai:List OY,(ah).drop a0=ad/\ad.length=n/\b5 a0 ad a6=some r/\Rw H' Z ai a6/\H.le H'/\.row Z 3 (aE.sz Int) a6.length ai::m=M'/\(20,.int .i64 ((a0:Int)))::u=L') _ G ⟨0,_,_,_,G,G,hm,bp,lE,G,G⟩ ?_;rintro _ O _ _ ⟨a0,ad,a6,ai,b6,rfl,hm,aa,d7,rfl,rfl⟩
 refine q2 ?_;refine bB G (λaj=>?_) (λaj=>?_);obtain ⟨a1,bs,rfl,ak,bt⟩:=fI b6 aj;have hm:=(bq _ _ _ _).symm.trans hm;generalize bu:b5 (a0+1) bs=am at hm;unfold nC at hm;refine qg ?_;refine cj [(0,_),(3,_),(18,_),(19,_),(20,_)] [] 1 (λu m H' M' L'=>∃ ae:List Int,∃ an:List OY,dO am ae=some r/\Rw H' Z an ae/\O.le H'/\.row Z 3 (aE.sz Int) ae.length an::m=M'/\u=L') ?_ (λa7=>?_);rintro d8 _ _ ⟨ae,an,hm,d9,da,rfl,rfl⟩;unfold dO at hm;refine qj ?_;exact kj (eb bt bu) (kK (cA ak h0.mm.cU));refine qs ?_;obtain ⟨_,⟨rfl⟩,bv⟩:=(h0).elem ak;refine Az h0 ak ?_;refine MY bv ?_;refine al (λdb=>?_);refine qg ?_;refine wt 0 ?_;refine qg ?_;refine cj [(0,_),(3,_),(4,_),(5,_),(18,_),(19,_),(20,_)] [] 0 (vW O 6 ((decide (a1.Kind=2)) || (decide (a1.Kind=3)))) ?_ (λb7=>?_);rintro _ _ _ ⟨rfl,rfl,rfl⟩;refine qs ?_
 refine cj [(0,_),(3,_),(4,_),(5,_),(6,_),(18,_),(19,_),(20,_)] [] 0 (vW O 33 ((decide (a1.Kind<0)) || (decide (6<a1.Kind)))) ?_ (λb8=>?_);rintro _ _ _ ⟨rfl,rfl,rfl⟩;refine cd hm G (λbw hm=>?_) (λbw hm=>?_);refine qs ?_;refine Ek [] 2 ?_;exact ef;refine qs ?_;cases b9:((decide (a1.Kind=2)) || (decide (a1.Kind=3)));have hm:=eM b9 hm;refine qg ?_;refine cF G ?_;refine cj [(0,_),(3,_),(4,_),(5,_),(18,_),(19,_),(20,_)] [] 0 (vW O 50 (!decide (a1.Name=(⟨#[]⟩)))) ?_ (λbz=>?_);rintro _ _ _ ⟨rfl,rfl,rfl⟩;refine cd hm G (λc0 hm=>?_) (λc0 hm=>?_);refine qs ?_;refine Ek [] 2 ?_;exact ef;refine qs ?_;obtain ⟨dc,dd,ao,hm⟩:=aC hm;refine sZ ao ?_;obtain ⟨_,rfl,c1⟩:=(aa).elem ao;refine wr 1 0 ((a0:Int)) aa ao c1 G G ?_;intro de a4 df dg;refine q2 ?_;refine cd hm G (λc2 hm=>?_) (λc2 hm=>?_);refine qs ?_;refine cj [(0,_),(3,_),(4,_),(5,_),(18,_),(19,_),(20,_)] [] 0 (vW O 87 (((decide ((a0:Int)=0)) || (!decide (a1.A=(i64.wrap ((a0:Int)-1))))) || (!decide (a1.B_=0)))) ?_ (λap=>?_)
 rintro _ _ _ ⟨rfl,rfl,rfl⟩;refine cd hm G (λc3 hm=>?_) (λc3 hm=>?_);refine qs ?_;refine Ek [] 2 ?_;exact ef;refine qg ?_;obtain ⟨c4,dh,ba,hm⟩:=aC hm;refine sZ ba ?_;obtain ⟨_,rfl,c5⟩:=(a4).elem ba;refine xv c5 ?_;obtain ⟨di,dj,aq,hm⟩:=aC hm;refine sZ aq ?_;obtain ⟨_,rfl,c6⟩:=(a4).elem aq;refine wr 0 0 c4 a4 aq c6 G G ?_;intro dk dl dm dn;refine qj ?_;exact kx [0] 1 (a7 _ _ _ pk);refine qg ?_;cases dp:(decide ((a0:Int)=0));refine qg ?_;cases dq:(decide (a1.A=(i64.wrap ((a0:Int)-1))));refine qj ?_;exact kj (ap _ _ _ pk) kS;refine qj ?_;exact kj (ap _ _ _ pk) kS;refine qj ?_;exact kj (ap _ _ _ pk) kS;refine cj [(0,_),(3,_),(4,_),(5,_),(18,_),(19,_),(20,_)] [] 0 (λu m H' M' L'=>∃ ar:Bool,dY a6 am a1 a0 ar=some r/\O=H'/\m=M'/\(96,.bool (ar))::u=L') ?_ (λbb=>?_);rintro _ _ _ ⟨ar,hm,rfl,rfl,rfl⟩;unfold dY at hm
 refine cd hm G (λc7 hm=>?_) (λc7 hm=>?_);refine q2 ?_;cases a8:(decide ((a0:Int)=0));have hm:=eM a8 hm;cases ab:(decide (a1.B_=(i64.wrap ((a0:Int)-1))));have hm:=eM ab hm;refine oz fm 26 [ph _,ph (.bool (false)),ph _,ph _,ph _,ph _,ph _,ph (.bool (true)),ph _,ph _,ph _,ph _,ph _,ph _,ph _,ph _,ph _,ph _,ph _,ph _,ph _,ph _,ph _,ph _,ph _,ph _] ⟨qm,qn a8,qm,qm,qm,qm,qm,qn ab,qm,qm,qm,qm,qm,qm,qm,qm,qm,qm,qm,qm,qm,qm,qm,qm,qm,qm,O0⟩ ?_;intro ds dt;refine dz ?_;refine qg ?_;refine cT G ?_;refine qs ?_;refine Ek [] 2 ?_;exact ef;have hm:=eN ab hm;obtain ⟨au,du,av,hm⟩:=aC hm;obtain ⟨_,rfl,bc⟩:=(a4).elem av;cases af:(decide (au=0));have hm:=eM af hm;obtain ⟨c8,dv,bd,hm⟩:=aC hm;obtain ⟨_,rfl,c9⟩:=(a4).elem bd;refine oz fm 26 [ph _,ph (.bool (false)),ph _,ph _,ph _,ph _,ph _,ph (.bool (false)),ph _,ph _,ph _,ph _,ph _,ph (.pointer (some ((Value.base (Z)).add ((i64.wrap ((a0:Int)-1):Int).toNat*aE.sz Int)))),ph (.int .i64 (au)),ph (.bool (false)),ph _,ph _,ph _,ph _,ph _,ph _,ph _,ph (.pointer (some ((Value.base (Z)).add ((i64.wrap ((a0:Int)-1):Int).toNat*aE.sz Int)))),ph (.int .i64 (c8)),ph _] ⟨qm,qn a8,qm,qm,qm,qm,qm,qn ab,qm,qm,qm,qm,qm,?_,?_,qn af,qm,qm,qm,qm,qm,qm,qm,?_,?_,qm,O0⟩ ?_
 intro J Y X Rest hR;refine dr ?_;intro hU I;refine sZ av ?_;exact o0 ⟨G,G⟩;rintro J Y X Rest hR _ _ ⟨rfl,rfl⟩ _ _ ⟨rfl,rfl⟩ hU I;refine xv bc ?_;exact o0 ⟨G,G⟩;intro J Y X Rest hR;refine dr ?_;intro hU I;refine sZ bd ?_;exact o0 ⟨G,G⟩;rintro J Y X Rest hR _ _ ⟨rfl,rfl⟩ _ _ ⟨rfl,rfl⟩ hU I;refine xv c9 ?_;exact o0 ⟨G,G⟩;intro dw dx;refine dz ?_;refine qg ?_;refine cd hm G (λcb hm=>?_) (λcb hm=>?_);refine qs ?_;refine Ek [] 2 ?_;exact ef;refine qg ?_;obtain ⟨cc,dy,be,hm⟩:=aC hm;refine sZ be ?_;obtain ⟨_,rfl,ce⟩:=(a4).elem be;refine xv ce ?_;obtain ⟨e0,e1,aw,hm⟩:=aC hm;refine sZ aw ?_;obtain ⟨_,rfl,cf⟩:=(a4).elem aw;refine wr 0 0 cc a4 aw cf G G ?_;intro e2 e3 e4 e5;refine qj ?_;exact kx [0] 1 (a7 _ _ _ pk);have hm:=eN af hm;refine oz fm 26 [ph _,ph (.bool (false)),ph _,ph _,ph _,ph _,ph _,ph (.bool (false)),ph _,ph _,ph _,ph _,ph _,ph (.pointer (some ((Value.base (Z)).add ((i64.wrap ((a0:Int)-1):Int).toNat*aE.sz Int)))),ph (.int .i64 (au)),ph (.bool (true)),ph _,ph _,ph _,ph _,ph _,ph _,ph _,ph _,ph _,ph _] ⟨qm,qn a8,qm,qm,qm,qm,qm,qn ab,qm,qm,qm,qm,qm,?_,?_,qn af,qm,qm,qm,qm,qm,qm,qm,qm,qm,qm,O0⟩ ?_
 intro J Y X Rest hR;refine dr ?_;intro hU I;refine sZ av ?_;exact o0 ⟨G,G⟩;rintro J Y X Rest hR _ _ ⟨rfl,rfl⟩ _ _ ⟨rfl,rfl⟩ hU I;refine xv bc ?_;exact o0 ⟨G,G⟩;intro e6 e7;refine dz ?_;refine qg ?_;refine cT G ?_;refine qs ?_;refine Ek [] 2 ?_;exact ef;have hm:=eN a8 hm;refine oz fm 26 [ph _,ph (.bool (true)),ph _,ph _,ph _,ph _,ph _,ph _,ph _,ph _,ph _,ph _,ph _,ph _,ph _,ph _,ph _,ph _,ph _,ph _,ph _,ph _,ph _,ph _,ph _,ph _] ⟨qm,qn a8,qm,qm,qm,qm,qm,qm,qm,qm,qm,qm,qm,qm,qm,qm,qm,qm,qm,qm,qm,qm,qm,qm,qm,qm,O0⟩ ?_;intro e8 e9;refine dz ?_;refine qg ?_;refine cT G ?_;refine qs ?_;refine Ek [] 2 ?_;exact ef;refine cj [(0,_),(3,_),(18,_),(19,_),(20,_)] [0] 1 (vW O 71 ((!decide (a1.A=0)) || (!decide (a1.B_=0)))) ?_ (λbf=>?_);rintro _ _ _ ⟨rfl,rfl,rfl⟩;refine cd hm G (λcg hm=>?_) (λcg hm=>?_)
 refine qs ?_;refine Ek [] 1 ?_;exact ef;refine qj ?_;exact kj (a7 _ _ _ pk);refine qg ?_;cases ea:(decide (a1.A=0));refine qj ?_;exact kx [0] 1 (bf _ _ _ pk) G kS;refine qj ?_;exact kx [0] 1 (bf _ _ _ pk) G kS;refine qs ?_;refine cd hm G (λch hm=>?_) (λch hm=>?_);refine qj ?_;exact kj (bb _ _ _ pk);refine qj ?_;exact kj (bb _ _ _ pk);refine qj ?_;exact kj (bz _ _ _ pk);have hm:=eN b9 hm;refine qg ?_;obtain ⟨ec,ci,hm⟩:=aU hm;refine cz @nY ci ?_;refine qg ?_;refine cd hm G (λck hm=>?_) (λck hm=>?_);refine qs ?_;refine Ek [] 2 ?_;exact ef;refine cj [(0,_),(3,_),(4,_),(5,_),(18,_),(19,_),(20,_)] [] 0 (λu m H' M' L'=>O=H'/\m=M'/\(50,.bool (false))::u=L') ?_ (λcm=>?_);rintro _ _ _ ⟨rfl,rfl,rfl⟩;refine cF G ?_;refine qs ?_;obtain ⟨ed,ee,ax,hm⟩:=aC hm;refine sZ ax ?_;obtain ⟨_,rfl,cn⟩:=(aa).elem ax;refine wr 1 0 ((a0:Int)) aa ax cn G G ?_
 intro eg a5 eh ei;refine q2 ?_;refine cd hm G (λco hm=>?_) (λco hm=>?_);refine qs ?_;refine cj [(0,_),(3,_),(4,_),(5,_),(18,_),(19,_),(20,_)] [] 0 (vW O 87 (((decide ((a0:Int)=0)) || (!decide (a1.A=(i64.wrap ((a0:Int)-1))))) || (!decide (a1.B_=0)))) ?_ (λay=>?_);rintro _ _ _ ⟨rfl,rfl,rfl⟩;refine cd hm G (λcp hm=>?_) (λcp hm=>?_);refine qs ?_;refine Ek [] 2 ?_;exact ef;refine qg ?_;obtain ⟨cq,ej,bg,hm⟩:=aC hm;refine sZ bg ?_;obtain ⟨_,rfl,cr⟩:=(a5).elem bg;refine xv cr ?_;obtain ⟨ek,el,az,hm⟩:=aC hm;refine sZ az ?_;obtain ⟨_,rfl,cs⟩:=(a5).elem az;refine wr 0 0 cq a5 az cs G G ?_;intro em eo ep er;refine qj ?_;exact kx [0] 1 (a7 _ _ _ pk);refine qg ?_;cases es:(decide ((a0:Int)=0));refine qg ?_;cases et:(decide (a1.A=(i64.wrap ((a0:Int)-1))));refine qj ?_;exact kj (ay _ _ _ pk) kS;refine qj ?_;exact kj (ay _ _ _ pk) kS
 refine qj ?_;exact kj (ay _ _ _ pk) kS;refine cj [(0,_),(3,_),(4,_),(5,_),(18,_),(19,_),(20,_)] [] 0 (λu m H' M' L'=>∃ b0:Bool,jA a6 am a1 a0 b0=some r/\O=H'/\m=M'/\(96,.bool (b0))::u=L') ?_ (λbh=>?_);rintro _ _ _ ⟨b0,hm,rfl,rfl,rfl⟩;unfold jA at hm;refine cd hm G (λct hm=>?_) (λct hm=>?_);refine q2 ?_;cases a9:(decide ((a0:Int)=0));have hm:=eM a9 hm;cases ac:(decide (a1.B_=(i64.wrap ((a0:Int)-1))));have hm:=eM ac hm;refine oz fm 26 [ph _,ph (.bool (false)),ph _,ph _,ph _,ph _,ph _,ph (.bool (true)),ph _,ph _,ph _,ph _,ph _,ph _,ph _,ph _,ph _,ph _,ph _,ph _,ph _,ph _,ph _,ph _,ph _,ph _] ⟨qm,qn a9,qm,qm,qm,qm,qm,qn ac,qm,qm,qm,qm,qm,qm,qm,qm,qm,qm,qm,qm,qm,qm,qm,qm,qm,qm,O0⟩ ?_;intro eu ev;refine dz ?_;refine qg ?_;refine cT G ?_;refine qs ?_;refine Ek [] 2 ?_
 exact ef;have hm:=eN ac hm;obtain ⟨b1,ew,b2,hm⟩:=aC hm;obtain ⟨_,rfl,bi⟩:=(a5).elem b2;cases ag:(decide (b1=0));have hm:=eM ag hm;obtain ⟨cu,ex,bj,hm⟩:=aC hm;obtain ⟨_,rfl,cv⟩:=(a5).elem bj;refine oz fm 26 [ph _,ph (.bool (false)),ph _,ph _,ph _,ph _,ph _,ph (.bool (false)),ph _,ph _,ph _,ph _,ph _,ph (.pointer (some ((Value.base (Z)).add ((i64.wrap ((a0:Int)-1):Int).toNat*aE.sz Int)))),ph (.int .i64 (b1)),ph (.bool (false)),ph _,ph _,ph _,ph _,ph _,ph _,ph _,ph (.pointer (some ((Value.base (Z)).add ((i64.wrap ((a0:Int)-1):Int).toNat*aE.sz Int)))),ph (.int .i64 (cu)),ph _] ⟨qm,qn a9,qm,qm,qm,qm,qm,qn ac,qm,qm,qm,qm,qm,?_,?_,qn ag,qm,qm,qm,qm,qm,qm,qm,?_,?_,qm,O0⟩ ?_;intro J Y X Rest hR;refine dr ?_;intro hU I;refine sZ b2 ?_;exact o0 ⟨G,G⟩;rintro J Y X Rest hR _ _ ⟨rfl,rfl⟩ _ _ ⟨rfl,rfl⟩ hU I
 refine xv bi ?_;exact o0 ⟨G,G⟩;intro J Y X Rest hR;refine dr ?_;intro hU I;refine sZ bj ?_;exact o0 ⟨G,G⟩;rintro J Y X Rest hR _ _ ⟨rfl,rfl⟩ _ _ ⟨rfl,rfl⟩ hU I;refine xv cv ?_;exact o0 ⟨G,G⟩;intro ey ez;refine dz ?_;refine qg ?_;refine cd hm G (λcw hm=>?_) (λcw hm=>?_);refine qs ?_;refine Ek [] 2 ?_;exact ef;refine qg ?_;obtain ⟨cx,fa,bk,hm⟩:=aC hm;refine sZ bk ?_;obtain ⟨_,rfl,d0⟩:=(a5).elem bk;refine xv d0 ?_;obtain ⟨fb,fd,b3,hm⟩:=aC hm;refine sZ b3 ?_;obtain ⟨_,rfl,d1⟩:=(a5).elem b3;refine wr 0 0 cx a5 b3 d1 G G ?_;intro fe ff fg fh;refine qj ?_;exact kx [0] 1 (a7 _ _ _ pk);have hm:=eN ag hm;refine oz fm 26 [ph _,ph (.bool (false)),ph _,ph _,ph _,ph _,ph _,ph (.bool (false)),ph _,ph _,ph _,ph _,ph _,ph (.pointer (some ((Value.base (Z)).add ((i64.wrap ((a0:Int)-1):Int).toNat*aE.sz Int)))),ph (.int .i64 (b1)),ph (.bool (true)),ph _,ph _,ph _,ph _,ph _,ph _,ph _,ph _,ph _,ph _] ⟨qm,qn a9,qm,qm,qm,qm,qm,qn ac,qm,qm,qm,qm,qm,?_,?_,qn ag,qm,qm,qm,qm,qm,qm,qm,qm,qm,qm,O0⟩ ?_
 intro J Y X Rest hR;refine dr ?_;intro hU I;refine sZ b2 ?_;exact o0 ⟨G,G⟩;rintro J Y X Rest hR _ _ ⟨rfl,rfl⟩ _ _ ⟨rfl,rfl⟩ hU I;refine xv bi ?_;exact o0 ⟨G,G⟩;intro fi fj;refine dz ?_;refine qg ?_;refine cT G ?_;refine qs ?_;refine Ek [] 2 ?_;exact ef;have hm:=eN a9 hm;refine oz fm 26 [ph _,ph (.bool (true)),ph _,ph _,ph _,ph _,ph _,ph _,ph _,ph _,ph _,ph _,ph _,ph _,ph _,ph _,ph _,ph _,ph _,ph _,ph _,ph _,ph _,ph _,ph _,ph _] ⟨qm,qn a9,qm,qm,qm,qm,qm,qm,qm,qm,qm,qm,qm,qm,qm,qm,qm,qm,qm,qm,qm,qm,qm,qm,qm,qm,O0⟩ ?_;intro fk fl;refine dz ?_;refine qg ?_;refine cT G ?_;refine qs ?_;refine Ek [] 2 ?_;exact ef;refine cj [(0,_),(3,_),(18,_),(19,_),(20,_)] [0] 1 (vW O 71 ((!decide (a1.A=0)) || (!decide (a1.B_=0)))) ?_ (λbl=>?_);rintro _ _ _ ⟨rfl,rfl,rfl⟩;refine cd hm G (λd2 hm=>?_) (λd2 hm=>?_)
 refine qs ?_;refine Ek [] 1 ?_;exact ef;refine qj ?_;exact kj (a7 _ _ _ pk);refine qg ?_;cases fn:(decide (a1.A=0));refine qj ?_;exact kx [0] 1 (bl _ _ _ pk) G kS;refine qj ?_;exact kx [0] 1 (bl _ _ _ pk) G kS;refine qs ?_;refine cd hm G (λd3 hm=>?_) (λd3 hm=>?_);refine qj ?_;exact kj (bh _ _ _ pk);refine qj ?_;exact kj (bh _ _ _ pk);refine qj ?_;exact kj (cm _ _ _ pk);refine qg ?_;cases fo:(decide (a1.Kind<0));refine qj ?_;exact kj (b8 _ _ _ pk) kS;refine qj ?_;exact kj (b8 _ _ _ pk) kS;refine qg ?_;cases fp:(decide (a1.Kind=2));refine qj ?_;exact kj (b7 _ _ _ pk) kS;refine qj ?_;exact kj (b7 _ _ _ pk) kS;obtain rfl:=fH b6 aj;have hm:=(br _ _).symm.trans hm;refine q2 ?_;refine lr h0 ?_;refine qg ?_;obtain ⟨fr,fs,bm,hm⟩:=aC hm;refine sZ bm ?_;obtain ⟨_,rfl,d4⟩:=(aa).elem bm;refine xv d4 ?_;refine qg ?_;refine cd hm G (λd5 hm=>?_) (λd5 hm=>?_);refine qs ?_
 refine Ek [] 1 ?_;exact ef;refine qs ?_;refine Ek [] 1 ?_;exact ef
theorem tk {I:(List aZ)}{v0:OY}{r:Int} (hm:lZ I=some r) (h0:aN H v0 I):
  Cq B w0 26 [v0] H M (xX r):=by
 unfold lZ at hm;refine fU func26 ?_;refine g2 ?_;refine gs ?_;refine cd hm G (λa7 hm=>?_) (λa7 hm=>?_);refine gs ?_;exact ef;refine g2 ?_;obtain ⟨O,a8,a9,hm⟩:=cS hm;refine cl [(9,_),(10,_)] [] 0 [] 0 (λu m n H' M' L'=>∃ (a0:Nat) (a1:List aZ),(I).drop a0=a1/\a1.length=n/\O a0 a1 ()=some r/\H.le H'/\m=M'/\(11,.int .i64 ((a0:Int)))::u=L') _ G ⟨0,_,G,G,hm,lE,G,G⟩ ?_;rintro _ ah _ _ ⟨a0,a1,Y,rfl,hm,ai,rfl,rfl⟩;refine g2 ?_;refine bB G (λJ=>?_) (λJ=>?_);obtain ⟨aj,aa,rfl,Z,ab⟩:=fI Y J;have hm:=(a8 _ _ _ _).symm.trans hm;generalize ac:O (a0+1) aa=ak at hm;unfold qd at hm;refine g2 ?_;obtain ⟨_,⟨am,rfl,an⟩,ao⟩:=(h0).elem Z;refine go ?_;refine al (λap=>?_);refine wt 0 ?_;refine g2 ?_;obtain ⟨aq,ad,hm⟩:=aU hm;refine cz @nY ad ?_;refine go ?_;refine cd hm G (λae hm=>?_) (λae hm=>?_)
 refine gs ?_;refine Ek [] 1 ?_;exact ef;refine gs ?_;obtain ⟨ar,af,hm⟩:=aU hm;refine cz @u9 af ?_;refine gs ?_;refine cd hm G (λag hm=>?_) (λag hm=>?_);refine gs ?_;refine Ek [] 1 ?_;exact ef;refine gt ?_;refine gj ?_;exact kx [] 1 (eb ab ac) G (kK (cA Z h0.mm.cU));obtain rfl:=fH Y J;have hm:=(a9 _ _).symm.trans hm;refine gs ?_;exact ef
theorem ug {a0:aD}{v0 v1 v2 v3 v4 v5:OY}{r:(List OX)} (hm:pq a0=some r) (h0:aN H v0 a0.bC) (h1:aN H v1 a0.aM) (h2:aN H v2 a0.aG) (h3:aN H v3 a0.dL) (h4:aN H v4 a0.bA) (h5:aN H v5 a0.bT):
  Cq B w0 21 [.agg [v0,v1,v2,v3,v4,v5].toArray] H M (N8 r):=by
 unfold pq at hm;refine fU func21 ?_;refine gs ?_;refine bx (λam=>?_);refine g2 ?_;refine gs ?_;refine iZ 9 (aE.sz OX) ?_;obtain ⟨a8,aa,ab,hm⟩:=cS hm;refine cl [(7,_),(8,_)] [] 2 [0] 1 (λu m n H' M' L'=>∃ (I:Nat) (O:List aF),∃ J:List OX,∃ Y:OY,∃ Z:List OY,(a0.bA).drop I=O/\O.length=n/\a8 I O J=some r/\Rw H' Y Z J/\H.le H'/\.row Y 9 (aE.sz OX) J.length Z::m=M'/\(3,Y)::(9,.int .i64 ((I:Int)))::u=L') _ G ⟨0,_,_,_,_,G,G,hm,Rw.nil,lE,G,G⟩ ?_;rintro _ an _ _ ⟨I,O,J,Y,Z,a9,rfl,hm,ac,ao,rfl,rfl⟩;refine g2 ?_;refine bB G (λa7=>?_) (λa7=>?_);obtain ⟨a1,ad,rfl,ae,af⟩:=fI a9 a7;have hm:=(aa _ _ _ _).symm.trans hm;generalize ag:a8 (I+1) ad=ap at hm;unfold th at hm;refine g2 ?_;refine al (λaq=>?_);refine wt 0 ?_;refine go ?_;refine cV (α:=OX) (css:=[[.string (a1.Name)]]) (zs:=[.string (⟨#[]⟩)]) (out:=[.string (a1.Name)]) (ys:=[a1.Name]) G G G ⟨G,O0⟩ P3 QP G QT (by kernel_rfl) G G G G ⟨[.string (a1.Name)],[],G,G,G⟩ G ?_
 intro ar ah au ai av aj;have aw:Value.nq ah=([a1.Name]).length:=by rw [ai]; rfl
 obtain ⟨ak,hm⟩:=aI hm;refine Wp [1] ?_;refine cQ (α:=OX) (l:=J) (ys:=[a1.Name]) G G Ra ⟨_,G,G,G,G⟩ G G G G G ac.mm aj ak ?_;intro ax ay az;refine gt ?_;refine gj ?_;exact kx [0] 1 (eb af ag) G (kK (cA ae h4.mm.cU));obtain rfl:=fH a9 a7;have hm:=(ab _ _).symm.trans hm;refine gs ?_;exact ef
theorem xp {a0:aF}{a1:OX}{b0:Nat}{r:Bool} (hm:nZ a0 a1=r):
  Cq B w0 77 [.agg [.string (a0.Name),.string (a0.Node),.int .i64 (a0.cW)].toArray,.pointer (some ⟨b0,0,none⟩)] H (.obj b0 (.cells ([.string (a1)]:List OY).toArray 9 (0,0))::M) (λH _=>NF b0 a1 r H M):=by
 unfold nZ at hm;refine fU func77 ?_;refine gs ?_;refine bx (λI=>?_);refine gs ?_;obtain rfl:=hm;refine Ek [1] 1 ?_;refine Ew H ?_;exact lf G G ⟨G,G,G⟩
theorem lX {I:(List aF)}{a1:OX}{v0:OY}{b0:Nat}{r:Int} (hm:cL I a1=some r) (h0:aN H v0 I):
  Cq B w0 61 [v0,.func (.func 77) [].toArray [.pointer (some ⟨b0,0,none⟩)].toArray] H (.obj b0 (.cells ([.string (a1)]:List OY).toArray 9 (0,0))::M) (λH _=>Mj b0 a1 r H M):=by
 unfold cL at hm;refine fU func61 ?_;refine g2 ?_;refine gs ?_;obtain ⟨O,Z,a8,hm⟩:=iH hm;refine cl [(0,_),(1,_),(7,_)] [] 0 [] 0 (D6 (((I.length:Int):Int).toNat) O r H 8) _ G ⟨0,_,Po _,G,hm,lE,G,G⟩ ?_;rintro _ af _ _ ⟨a0,a2,Y,rfl,hm,ag,rfl,rfl⟩;refine g2 ?_;refine bB G (λJ=>?_) (λJ=>?_);obtain ⟨a9,rfl,aa,ab⟩:=lq Y J;have hm:=(Z _ _ _).symm.trans hm;generalize ac:O a9 (a0+1)=ah at hm;unfold dD at hm;refine g2 ?_;refine gs ?_;obtain ⟨ad,ai,aj,hm⟩:=aC hm;refine go ?_;refine nj call77 G G G G (λw ht=>(xp (hm:=(G:nZ ad a1=_))  ht :)) ?_;rintro _ _ _ ⟨rfl,rfl,rfl⟩;refine go ?_;refine cd hm G (λae hm=>?_) (λae hm=>?_);refine gs ?_;exact ef;refine gt ?_;refine gj ?_;exact kj (eb aa ac) (kK (eH ab (eI (lu (h0).cU))));obtain rfl:=lj Y J;have hm:=(a8 _ _).symm.trans hm;refine gs ?_;exact ef
theorem lK {a1:(List aF)}{a0:OX}{v0:OY}{b0:Nat}{r:Bool} (hm:cG a1 a0=some r) (O:aN H v0 a1):
  Cq B w0 76 [v0,.func (.func 77) [].toArray [.pointer (some ⟨b0,0,none⟩)].toArray] H (.obj b0 (.cells ([.string (a0)]:List OY).toArray 9 (0,0))::M) (λH _=>NF b0 a0 r H M):=by
 unfold cG at hm;refine fU func76 ?_;refine g2 ?_;obtain ⟨J,I,hm⟩:=aU hm;refine cz @lX I ?_;refine go ?_;exact ef
theorem uF {a0:aD}{on:(List OX)}{v0 v1 v2 v3 v4 v5 v6:OY}{r:Int} (hm:dW a0 on=some r) (h0:aN H v0 a0.bC) (h1:aN H v1 a0.aM) (h2:aN H v2 a0.aG) (h3:aN H v3 a0.dL) (h4:aN H v4 a0.bA) (h5:aN H v5 a0.bT) (h6:aN H v6 on):
  Cq B w0 38 [.agg [v0,v1,v2,v3,v4,v5].toArray,v6] H M (xX r):=by
 unfold dW at hm;refine fU func38 ?_;refine gs ?_;refine bx (λak=>?_);refine g2 ?_;obtain ⟨am,a8,hm⟩:=aU hm;refine cz @lH a8 ?_;refine gs ?_;refine cd hm G (λa9 hm=>?_) (λa9 hm=>?_);refine gs ?_;refine Ek [] 1 ?_;exact ef;refine g2 ?_;obtain ⟨O,aa,ab,hm⟩:=cS hm;refine cl [(1,_),(2,_),(13,_),(14,_)] [] 0 [] 0 (N7 on O r H 15) _ G ⟨0,_,G,G,hm,lE,G,G⟩ ?_;rintro _ an _ _ ⟨a1,a3,Y,rfl,hm,ao,rfl,rfl⟩;refine g2 ?_;refine bB G (λJ=>?_) (λJ=>?_);obtain ⟨ap,ac,rfl,ad,ae⟩:=fI Y J;have hm:=(aa _ _ _ _).symm.trans hm;generalize af:O (a1+1) ac=aq at hm;unfold o_ at hm;refine g2 ?_;refine al (λar=>?_);refine go ?_;refine wt 0 ?_;refine gs ?_;obtain ⟨au,ag,hm⟩:=aU hm;refine cz @lK ag ?_;refine go ?_;refine cd hm G (λah hm=>?_) (λah hm=>?_);refine gs ?_;refine Ek [] 2 ?_;exact ef;refine gs ?_;obtain ⟨av,hm⟩:=aI hm
 refine oz fm 4 [ph _,ph _,(λH rs v=>∃ I:OY,[]=rs/\I=v/\aN H I (se on 0 (((a1:Int):Int).toNat))),ph _] ⟨om,om,?_,om,O0⟩ ?_;rintro HX hX X Rest hR _ _ ⟨rfl,rfl⟩ _ _ ⟨rfl,rfl⟩ hU hUp;refine tR (α:=OX) (l:=0) (h:=((a1:Int):Int).toNat) (xs:=on) G G P3 QP G h6.mm (by omega) (by omega) (.inl G) (λcap hcap=>by rw [O8 G]; exact (.inl ⟨G,G⟩)) (λm hmm=>(.inr ⟨_,_,_,G,G,by omega,by omega,G⟩)) (.inl ⟨G,G⟩) ?_
 intro I Z aw;exact o0 ⟨I,G,G,(Z)⟩;intro ax ay;refine dr ?_;rintro _ _ ⟨I,rfl,rfl,Z⟩;refine dz ?_;obtain ⟨az,ai,hm⟩:=aU hm;refine cz @cC ai ?_;refine go ?_;refine cd hm G (λaj hm=>?_) (λaj hm=>?_);refine gs ?_;refine Ek [] 2 ?_;exact ef;refine gt ?_;refine gj ?_;exact kx [1] 1 (eb ae af) G (kK (cA ad h6.mm.cU));obtain rfl:=fH Y J;have hm:=(ab _ _).symm.trans hm;refine gs ?_;refine Ek [] 1 ?_;exact ef
theorem xa {B:Nat}{w0 w:World}{H:Hp}{M:List bL}{s:List OX}{v0:OY} (I:aN H v0 s) (Z:s.length*16<=140737488355328) (ht:St B w0 H M w):
  Calls prog 29 [v0].toArray w (tG B w0 (N8 s H M)):=by
 refine enter func29 G G G ht ?_;obtain ⟨o,n,c,rfl⟩:=I.shape;refine bI ?_;refine aK (aJ G G G ?_);refine aY (aR ?_);refine bI ?_;refine bI ?_;refine aK (bU G G G (qT G G P3 G G ?_));refine aY (aR ?_);cases o with
 | none=>
  refine bB (b:=true) G (λ_=>?_) (λJ=>Bool.noConfusion J);obtain rfl:=I.isNil;refine bI ?_;refine aK (aJ G G G ?_);refine aY (aR ?_);refine lN (iI ?_);refine b_ 9 (aE.sz OX) ?_;exact lf G G ⟨G,.slice none 0 0,[],G,G,(Rw.nil (H:=H)).ob⟩
 | some a=>
  refine bB (b:=false) G (λJ=>Bool.noConfusion J) (λ_=>?_);refine lO (aR ?_);refine bI ?_;refine aK (py OX G G P3 QP ?_);intro v1 xA O;refine bU G G G (cQ (α:=OX) (l:=[]) (ys:=s) (bytes:=16) G G Ra ⟨_,G,G,G,G⟩ G G G G G O I (by simpa using Z) ?_)
  intro v2 sG Y;refine aJ G G G ?_;refine aY (aR ?_);refine lN ?_;exact lf G G ⟨G,v2,sG,G,G,Y.ob⟩
theorem Gx {B:Nat}{w0 w:World}{H:Hp}{M:List bL}{s:List aX}{v0:OY} (J:aN H v0 s) (hz:s.length*56<=140737488355328) (ht:St B w0 H M w):
  Calls prog 48 [v0].toArray w (tG B w0 λH' M' v=>H=H'/\∃ (v':OY) (I:List OY),.row v' 116 (aE.sz aX) s.length I::M=M'/\v'=v/\rX v' I s):=by
 refine enter func48 G G G ht ?_;obtain ⟨o,n,c,rfl⟩:=J.shape;refine bI ?_;refine aK (aJ G G G ?_);refine aY (aR ?_);refine bI ?_;refine bI ?_;refine aK (bU G G G (qT G G runUnderlying23 G G ?_));refine aY (aR ?_);cases o with
 | none=>
  refine bB (b:=true) G (λ_=>?_) (λO=>Bool.noConfusion O);obtain rfl:=J.isNil;refine bI ?_;refine aK (aJ G G G ?_);refine aY (aR ?_);refine lN (iI ?_);refine b_ 116 (aE.sz aX) ?_;exact lf G G ⟨G,.slice none 0 0,[],G,G,(Rw.nil (H:=H)).ob⟩
 | some a=>
  refine bB (b:=false) G (λO=>Bool.noConfusion O) (λ_=>?_);refine lO (aR ?_);refine bI ?_;refine aK (py aX G G runUnderlying23 sizeOf116 ?_);intro v1 xA Y;refine bU G G G (cQ (α:=aX) (l:=[]) (ys:=s) (bytes:=56) G G underlying23 ⟨_,G,G,G,G⟩ G G G G G Y J (by simpa using hz) ?_)
  intro v2 sG Z;refine aJ G G G ?_;refine aY (aR ?_);refine lN ?_;exact lf G G ⟨G,v2,sG,G,G,Z.ob⟩
theorem Gy {B:Nat}{w0 w:World}{H:Hp}{M:List bL}{s:List aP}{v0:OY} (J:aN H v0 s) (hz:s.length*96<=140737488355328) (ht:St B w0 H M w):
  Calls prog 49 [v0].toArray w (tG B w0 λH' M' v=>H=H'/\∃ (v':OY) (I:List OY),.row v' 110 (aE.sz aP) s.length I::M=M'/\v'=v/\rX v' I s):=by
 refine enter func49 G G G ht ?_;obtain ⟨o,n,c,rfl⟩:=J.shape;refine bI ?_;refine aK (aJ G G G ?_);refine aY (aR ?_);refine bI ?_;refine bI ?_;refine aK (bU G G G (qT G G runUnderlying24 G G ?_));refine aY (aR ?_);cases o with
 | none=>
  refine bB (b:=true) G (λ_=>?_) (λO=>Bool.noConfusion O);obtain rfl:=J.isNil;refine bI ?_;refine aK (aJ G G G ?_);refine aY (aR ?_);refine lN (iI ?_);refine b_ 110 (aE.sz aP) ?_;exact lf G G ⟨G,.slice none 0 0,[],G,G,(Rw.nil (H:=H)).ob⟩
 | some a=>
  refine bB (b:=false) G (λO=>Bool.noConfusion O) (λ_=>?_);refine lO (aR ?_);refine bI ?_;refine aK (py aP G G runUnderlying24 sizeOf110 ?_);intro v1 xA Y;refine bU G G G (cQ (α:=aP) (l:=[]) (ys:=s) (bytes:=96) G G underlying24 ⟨_,G,G,G,G⟩ G G G G G Y J (by simpa using hz) ?_)
  intro v2 sG Z;refine aJ G G G ?_;refine aY (aR ?_);refine lN ?_;exact lf G G ⟨G,v2,sG,G,G,Z.ob⟩
theorem Gz {B:Nat}{w0 w:World}{H:Hp}{M:List bL}{s:List bE}{v0:OY} (J:aN H v0 s) (hz:s.length*56<=140737488355328) (ht:St B w0 H M w):
  Calls prog 50 [v0].toArray w (tG B w0 λH' M' v=>H=H'/\∃ (v':OY) (I:List OY),.row v' 103 (aE.sz bE) s.length I::M=M'/\v'=v/\rX v' I s):=by
 refine enter func50 G G G ht ?_;obtain ⟨o,n,c,rfl⟩:=J.shape;refine bI ?_;refine aK (aJ G G G ?_);refine aY (aR ?_);refine bI ?_;refine bI ?_;refine aK (bU G G G (qT G G Tj G G ?_));refine aY (aR ?_);cases o with
 | none=>
  refine bB (b:=true) G (λ_=>?_) (λO=>Bool.noConfusion O);obtain rfl:=J.isNil;refine bI ?_;refine aK (aJ G G G ?_);refine aY (aR ?_);refine lN (iI ?_);refine b_ 103 (aE.sz bE) ?_;exact lf G G ⟨G,.slice none 0 0,[],G,G,(Rw.nil (H:=H)).ob⟩
 | some a=>
  refine bB (b:=false) G (λO=>Bool.noConfusion O) (λ_=>?_);refine lO (aR ?_);refine bI ?_;refine aK (py bE G G Tj sizeOf103 ?_);intro v1 xA Y;refine bU G G G (cQ (α:=bE) (l:=[]) (ys:=s) (bytes:=56) G G underlying25 ⟨_,G,G,G,G⟩ G G G G G Y J (by simpa using hz) ?_)
  intro v2 sG Z;refine aJ G G G ?_;refine aY (aR ?_);refine lN ?_;exact lf G G ⟨G,v2,sG,G,G,Z.ob⟩
theorem GA {B:Nat}{w0 w:World}{H:Hp}{M:List bL}{s:List aF}{v0:OY} (J:aN H v0 s) (hz:s.length*40<=140737488355328) (ht:St B w0 H M w):
  Calls prog 51 [v0].toArray w (tG B w0 λH' M' v=>H=H'/\∃ (v':OY) (I:List OY),.row v' 112 (aE.sz aF) s.length I::M=M'/\v'=v/\rX v' I s):=by
 refine enter func51 G G G ht ?_;obtain ⟨o,n,c,rfl⟩:=J.shape;refine bI ?_;refine aK (aJ G G G ?_);refine aY (aR ?_);refine bI ?_;refine bI ?_;refine aK (bU G G G (qT G G Sm G G ?_));refine aY (aR ?_);cases o with
 | none=>
  refine bB (b:=true) G (λ_=>?_) (λO=>Bool.noConfusion O);obtain rfl:=J.isNil;refine bI ?_;refine aK (aJ G G G ?_);refine aY (aR ?_);refine lN (iI ?_);refine b_ 112 (aE.sz aF) ?_;exact lf G G ⟨G,.slice none 0 0,[],G,G,(Rw.nil (H:=H)).ob⟩
 | some a=>
  refine bB (b:=false) G (λO=>Bool.noConfusion O) (λ_=>?_);refine lO (aR ?_);refine bI ?_;refine aK (py aF G G Sm sizeOf112 ?_);intro v1 xA Y;refine bU G G G (cQ (α:=aF) (l:=[]) (ys:=s) (bytes:=40) G G underlying26 ⟨_,G,G,G,G⟩ G G G G G Y J (by simpa using hz) ?_)
  intro v2 sG Z;refine aJ G G G ?_;refine aY (aR ?_);refine lN ?_;exact lf G G ⟨G,v2,sG,G,G,Z.ob⟩
theorem GB {B:Nat}{w0 w:World}{H:Hp}{M:List bL}{s:List cE}{v0:OY} (J:aN H v0 s) (hz:s.length*56<=140737488355328) (ht:St B w0 H M w):
  Calls prog 52 [v0].toArray w (tG B w0 λH' M' v=>H=H'/\∃ (v':OY) (I:List OY),.row v' 122 (aE.sz cE) s.length I::M=M'/\v'=v/\rX v' I s):=by
 refine enter func52 G G G ht ?_;obtain ⟨o,n,c,rfl⟩:=J.shape;refine bI ?_;refine aK (aJ G G G ?_);refine aY (aR ?_);refine bI ?_;refine bI ?_;refine aK (bU G G G (qT G G runUnderlying27 G G ?_));refine aY (aR ?_);cases o with
 | none=>
  refine bB (b:=true) G (λ_=>?_) (λO=>Bool.noConfusion O);obtain rfl:=J.isNil;refine bI ?_;refine aK (aJ G G G ?_);refine aY (aR ?_);refine lN (iI ?_);refine b_ 122 (aE.sz cE) ?_;exact lf G G ⟨G,.slice none 0 0,[],G,G,(Rw.nil (H:=H)).ob⟩
 | some a=>
  refine bB (b:=false) G (λO=>Bool.noConfusion O) (λ_=>?_);refine lO (aR ?_);refine bI ?_;refine aK (py cE G G runUnderlying27 sizeOf122 ?_);intro v1 xA Y;refine bU G G G (cQ (α:=cE) (l:=[]) (ys:=s) (bytes:=56) G G underlying27 ⟨_,G,G,G,G⟩ G G G G G Y J (by simpa using hz) ?_)
  intro v2 sG Z;refine aJ G G G ?_;refine aY (aR ?_);refine lN ?_;exact lf G G ⟨G,v2,sG,G,G,Z.ob⟩
theorem nX {a0:aD}{v0 v1 v2 v3 v4 v5:OY}{r:aD} (hm:iV a0=some r) (h0:aN H v0 a0.bC) (h1:aN H v1 a0.aM) (h2:aN H v2 a0.aG) (h3:aN H v3 a0.dL) (h4:aN H v4 a0.bA) (h5:aN H v5 a0.bT):
  Cq B w0 19 [.agg [v0,v1,v2,v3,v4,v5].toArray] H M (N5 r):=by
 unfold iV at hm;refine fU func19 ?_;refine gs ?_;refine bx (λau=>?_);refine al (λav=>?_);refine gs ?_;obtain ⟨ai,hm⟩:=aI hm;obtain ⟨aj,hm⟩:=aI hm;obtain ⟨ak,hm⟩:=aI hm;obtain ⟨am,hm⟩:=aI hm;obtain ⟨an,hm⟩:=aI hm;refine oz fm 17 [ph _,ph _,(K2 a0.bC),ph _,ph _,(λH rs v=>∃ I:OY,∃ a7:List OY,[.row I 116 (aE.sz aX) a0.aM.length a7]=rs/\I=v/\Rw H I a7 a0.aM),ph _,ph _,(λH rs v=>∃ J:OY,∃ a8:List OY,[.row J 110 (aE.sz aP) a0.aG.length a8]=rs/\J=v/\Rw H J a8 a0.aG),ph _,ph _,(λH rs v=>∃ O:OY,∃ a9:List OY,[.row O 103 (aE.sz bE) a0.dL.length a9]=rs/\O=v/\Rw H O a9 a0.dL),ph _,ph _,(λH rs v=>∃ Y:OY,∃ aa:List OY,[.row Y 112 (aE.sz aF) a0.bA.length aa]=rs/\Y=v/\Rw H Y aa a0.bA),ph _,ph _] ⟨om,om,?_,om,om,?_,om,om,?_,om,om,?_,om,om,?_,om,om,O0⟩ ?_
 rintro Z hX X Rest hR _ _ ⟨rfl,rfl⟩ hU hUp;refine fL call29 G G G (λw ht=>(xa (s:=a0.bC) h0.mm ai ht :)) ?_;rintro _ _ _ ⟨rfl,a1,a6,rfl,rfl,ab⟩;have ab:=ab Z;exact oe [.row a1 9 (aE.sz OX) a0.bC.length a6] lE ⟨a1,a6,G,G,(ab)⟩;rintro Z hX X Rest hR _ _ ⟨rfl,rfl⟩ _ _ ⟨a1,a6,rfl,rfl,ab⟩ hU hUp;refine fL call48 G G G (λw ht=>(Gx (s:=a0.aM) h1.mm aj ht :)) ?_;rintro _ _ _ ⟨rfl,I,a7,rfl,rfl,ac⟩;have ac:=ac Z;exact oe [.row I 116 (aE.sz aX) a0.aM.length a7] lE ⟨I,a7,G,G,(ac)⟩;rintro Z hX X Rest hR _ _ ⟨rfl,rfl⟩ _ _ ⟨I,a7,rfl,rfl,ac⟩ hU hUp;refine fL call49 G G G (λw ht=>(Gy (s:=a0.aG) h2.mm ak ht :)) ?_;rintro _ _ _ ⟨rfl,J,a8,rfl,rfl,ad⟩;have ad:=ad Z;exact oe [.row J 110 (aE.sz aP) a0.aG.length a8] lE ⟨J,a8,G,G,(ad)⟩;rintro Z hX X Rest hR _ _ ⟨rfl,rfl⟩ _ _ ⟨J,a8,rfl,rfl,ad⟩ hU hUp;refine fL call50 G G G (λw ht=>(Gz (s:=a0.dL) h3.mm am ht :)) ?_
 rintro _ _ _ ⟨rfl,O,a9,rfl,rfl,ae⟩;have ae:=ae Z;exact oe [.row O 103 (aE.sz bE) a0.dL.length a9] lE ⟨O,a9,G,G,(ae)⟩;rintro Z hX X Rest hR _ _ ⟨rfl,rfl⟩ _ _ ⟨O,a9,rfl,rfl,ae⟩ hU hUp;refine fL call51 G G G (λw ht=>(GA (s:=a0.bA) h4.mm an ht :)) ?_;rintro _ _ _ ⟨rfl,Y,aa,rfl,rfl,af⟩;have af:=af Z;exact oe [.row Y 112 (aE.sz aF) a0.bA.length aa] lE ⟨Y,aa,G,G,(af)⟩;intro ao ap;refine dr ?_;rintro _ _ ⟨a1,a6,rfl,rfl,ab⟩;refine dr ?_;rintro _ _ ⟨I,a7,rfl,rfl,ac⟩;refine dr ?_;rintro _ _ ⟨J,a8,rfl,rfl,ad⟩;refine dr ?_;rintro _ _ ⟨O,a9,rfl,rfl,ae⟩;refine dr ?_;rintro _ _ ⟨Y,aa,rfl,rfl,af⟩;refine dz ?_;refine Wp [0,0,0,0,0,0,0] ?_;obtain ⟨aq,hm⟩:=aI hm;refine fL call52 G G G (λw ht=>(GB (s:=a0.bT) h5.mm aq ht :)) ?_;rintro _ _ _ ⟨rfl,ah,ar,rfl,rfl,ag⟩;have ag:=ag ao;refine dX (css:=[[a1],[I],[J],[O],[Y],[ah]]) (zs:=[.slice none 0 0,.slice none 0 0,.slice none 0 0,.slice none 0 0,.slice none 0 0,.slice none 0 0]) (out:=[a1,I,J,O,Y,ah]) (places:=[(0,1),(1,1),(2,1),(3,1),(4,1),(5,1)]) G G G ⟨(Rw.cells ab),(Rw.cells ac),(Rw.cells ad),(Rw.cells ae),(Rw.cells af),(Rw.cells ag),O0⟩ zeroValue29 G Tk (λw=>by kernel_rfl) G ?_
 refine wt 6 ?_;refine go ?_;obtain rfl:=O4 hm;exact jR ap G (fB.agg G Se RW (.head _) G) (.cons _ (.cons_cons _ (.cons_cons _ (.cons_cons _ (.cons_cons _ (.cons_cons _ (.cons_cons _ (.cons _ (.refl _))))))))) (.trans (.swap _ _ _) (.trans (.cons _ (.swap _ _ _)) (.trans (.cons _ (.cons _ (.swap _ _ _))) (.trans (.cons _ (.cons _ (.cons _ (.swap _ _ _)))) (.cons _ (.cons _ (.cons _ (.cons _ (.swap _ _ _))))))))) ⟨G,a1,a6,I,a7,J,a8,O,a9,Y,aa,ah,ar,G,G,(ab).ob,(ac).ob,(ad).ob,(ae).ob,(af).ob,(ag).ob⟩
theorem ud {a0:aF}{a1:(List OX)}{b0:Nat}{v0:OY}{r:Bool} (hm:lI a0 a1=some r) (Y:aN H v0 a1):
  Cq B w0 79 [.agg [.string (a0.Name),.string (a0.Node),.int .i64 (a0.cW)].toArray,.pointer (some ⟨b0,0,none⟩)] H (.obj b0 (.cells [v0].toArray 22 (0,0))::M) (λH _=>K3 b0 v0 r H M):=by
 unfold lI at hm;refine fU func79 ?_;refine gs ?_;refine bx (λJ=>?_);refine gs ?_;obtain ⟨O,I,hm⟩:=aU hm;refine cz @cC I ?_;refine go ?_;refine Ek [1] 1 ?_;exact ef
theorem mj {I:(List aF)}{O:(List OX)}{v0:OY}{b0:Nat}{v1:OY}{r:Int} (hm:eJ I O=some r) (h0:aN H v0 I) (h1:aN H v1 O):
  Cq B w0 61 [v0,.func (.func 79) [].toArray [.pointer (some ⟨b0,0,none⟩)].toArray] H (.obj b0 (.cells [v1].toArray 22 (0,0))::M) (λH _=>K4 b0 v1 r H M):=by
 unfold eJ at hm;refine fU func61 ?_;refine g2 ?_;refine gs ?_;obtain ⟨Y,a7,a8,hm⟩:=iH hm;refine cl [(0,_),(1,_),(7,_)] [] 0 [] 0 (D6 (((I.length:Int):Int).toNat) Y r H 8) _ G ⟨0,_,Po _,G,hm,lE,G,G⟩ ?_;rintro _ af _ _ ⟨a0,a1,Z,rfl,hm,ag,rfl,rfl⟩;refine g2 ?_;refine bB G (λJ=>?_) (λJ=>?_);obtain ⟨a9,rfl,aa,ab⟩:=lq Z J;have hm:=(a7 _ _ _).symm.trans hm;generalize ac:Y a9 (a0+1)=ah at hm;unfold gE at hm;refine g2 ?_;refine gs ?_;obtain ⟨ai,aj,ak,hm⟩:=aC hm;refine go ?_;obtain ⟨am,ad,hm⟩:=aU hm;refine nj call79 G G G G (λw ht=>(ud (hm:=ad) h1.mm ht :)) ?_;rintro _ _ _ ⟨rfl,rfl,rfl⟩;refine go ?_;refine cd hm G (λae hm=>?_) (λae hm=>?_);refine gs ?_;exact ef;refine gt ?_;refine gj ?_;exact kj (eb aa ac) (kK (eH ab (eI (lu (h0).cU))));obtain rfl:=lj Z J;have hm:=(a8 _ _).symm.trans hm;refine gs ?_
 exact ef
theorem lV {a4:(List aF)}{I:(List OX)}{v0:OY}{s5:List OY}{b0:Nat}{v1:OY}{r:(List aF)} (hm:dM a4 I=some r) (h0:Rw H v0 s5 a4) (h1:aN H v1 I):
  Cq B w0 78 [v0,.func (.func 79) [].toArray [.pointer (some ⟨b0,0,none⟩)].toArray] H (.row v0 112 (aE.sz aF) a4.length s5::.obj b0 (.cells [v1].toArray 22 (0,0))::M) (λH _ H' M' v=>H=H'/\∃ O:OY,∃ J:List OY,.row O 112 (aE.sz aF) r.length J::.obj b0 (.cells [v1].toArray 22 (0,0))::M=M'/\O=v/\rX O J r):=by
 unfold dM at hm;refine fU func78 ?_;refine g2 ?_;obtain ⟨aq,ab,hm⟩:=aU hm;refine cy @mj ab ?_;rintro _ _ _ ⟨rfl,⟨_,rfl,rfl,rfl⟩⟩;refine g2 ?_;refine cd hm G (λac hm=>?_) (λac hm=>?_);refine gs ?_;exact ef;refine g2 ?_;obtain ⟨a9,ad,ae,hm⟩:=jM hm;refine cl [(0,_),(1,_)] [1] 1 [] 0 (λu m n H' M' L'=>∃ a0:List aF,∃ a1 Y:Int,∃ a5:List OY,a9 n (a0,a1,Y)=some r/\Rw H' v0 a5 a0/\H.le H'/\.row v0 112 (aE.sz aF) a0.length a5::m=M'/\(5,.int .i64 (a1))::(6,.int .i64 (Y))::u=L') fA G ⟨_,_,_,_,hm,h0,lE,G,G⟩ ?_;rintro a6 af _ _ ⟨a0,a1,Y,a5,hm,ag,ar,rfl,rfl⟩
 rcases a6 with _ | a6
 exact nomatch (ae _).symm.trans hm;have hm:=(ad _ _).symm.trans hm;generalize ah:a9 a6=ai at hm
 try dsimp only at hm
 unfold fY at hm;refine g2 ?_;refine cd hm G (λaj hm=>?_) (λaj hm=>?_);refine go ?_;refine cj [(0,_),(1,_),(6,_)] [1] 1 (λu m H' M' L'=>∃ Z:List aF,∃ a7:Int,∃ a8:List OY,dB Y ai Z a7=some r/\Rw H' v0 a8 Z/\af=H'/\.row v0 112 (aE.sz aF) Z.length a8::m=M'/\(5,.int .i64 (a7))::u=L') ?_ (λaa=>?_);rintro _ _ _ ⟨Z,a7,a8,hm,au,rfl,rfl,rfl⟩;unfold dB at hm;refine gj ?_;exact kj (Bu ah);refine gs ?_;obtain ⟨ak,av,aw,hm⟩:=aC hm;refine go ?_;refine al (λax=>?_);refine wt 0 ?_;refine gs ?_;refine Wp [2] ?_;obtain ⟨ay,am,hm⟩:=aU hm;refine nj call79 G G G G (λw ht=>(ud (hm:=am) h1.mm ht :)) ?_;rintro _ _ _ ⟨rfl,rfl,rfl⟩;refine go ?_;refine cd hm G (λan hm=>?_) (λan hm=>?_);refine gs ?_;obtain ⟨az,b1,b2,hm⟩:=aC hm;refine go ?_;refine wF 2 0 ak ?_;intro b3 b4 b5;refine aY (aR ?_);refine gj ?_;exact kx [0,0] 1 (aa _ _ _ pk)
 refine gj ?_;exact kx [2,0] 1 (aa _ _ _ pk);refine gs ?_;obtain ⟨ao,hm⟩:=aI hm;refine sO (α:=aF) (zs:=[.string (⟨#[]⟩),.string (⟨#[]⟩),.int .i64 (0)]) (ze:=(aF.mk (⟨#[]⟩) (⟨#[]⟩) 0)) G G (λ_=>G) underlying26 Sm sizeOf112 zeroValue112 G G G G G G ag ao ?_;intro b6 b7 ap;refine gs ?_;obtain ⟨b8,hm⟩:=aI hm;refine tQ (α:=aF) (l:=0) (h:=(a1:Int).toNat) G G Sm sizeOf112 G G ap (by omega) (by omega) (λm hmm=>(.inr ⟨_,_,_,G,G,by omega,by omega,G⟩)) (.inl ⟨G,G⟩) ?_
 intro b9 ba bb;refine go ?_;exact ef
theorem vd {a0:aD}{on:(List OX)}{v0 v1 v2 v3 v4 v5 v6:OY}{r:aD} (hm:oC a0 on=some r) (h0:aN H v0 a0.bC) (h1:aN H v1 a0.aM) (h2:aN H v2 a0.aG) (h3:aN H v3 a0.dL) (h4:aN H v4 a0.bA) (h5:aN H v5 a0.bT) (h6:aN H v6 on):
  Cq B w0 39 [.agg [v0,v1,v2,v3,v4,v5].toArray,v6] H M (N5 r):=by
 unfold oC at hm;refine fU func39 ?_;refine gs ?_;refine bx (λan=>?_);refine bx (λao=>?_);refine al (λap=>?_);refine gs ?_;obtain ⟨aq,a8,hm⟩:=aU hm;refine ca @nX a8 ?_;rintro _ _ _ ⟨rfl,a9,aa,ab,ac,ad,ae,af,ag,ar,au,ah,ai,rfl,rfl,a1,I,J,O,a7,Y⟩;have a1:=a1 H;have I:=I H;have J:=J H;have O:=O H;have a7:=a7 H;have Y:=Y H;refine al (λav=>?_);refine wt 0 ?_;refine gs ?_;refine Wp [5,7] ?_;obtain ⟨aw,aj,hm⟩:=aU hm;refine ca @lV aj ?_;rintro _ _ _ ⟨rfl,ak,am,rfl,rfl,Z⟩;have Z:=Z H;refine go ?_;refine wt 2 ?_;refine gs ?_;refine wt 8 ?_;refine go ?_;obtain rfl:=O4 hm;exact jR lE G (fB.agg G Se RW (.head _) G) (.cons _ (.cons _ (.cons_cons _ (.cons _ (.cons_cons _ (.cons_cons _ (.cons_cons _ (.cons_cons _ (.cons_cons _ (.cons _ (.refl _))))))))))) (.trans (.swap _ _ _) (.trans (.cons _ (.swap _ _ _)) (.trans (.cons _ (.cons _ (.swap _ _ _))) (.cons _ (.cons _ (.cons _ (.swap _ _ _))))))) ⟨G,a9,aa,ab,ac,ad,ae,af,ag,ak,am,ah,ai,G,G,(a1).ob,(I).ob,(J).ob,(O).ob,(Z).ob,(Y).ob⟩
theorem vc {a0:aD}{on:(List OX)}{v0 v1 v2 v3 v4 v5 v6:OY}{r:aD×Int} (hm:kJ a0 on=some r) (h0:aN H v0 a0.bC) (h1:aN H v1 a0.aM) (h2:aN H v2 a0.aG) (h3:aN H v3 a0.dL) (h4:aN H v4 a0.bA) (h5:aN H v5 a0.bT) (h6:aN H v6 on):
  Cq B w0 9 [.agg [v0,v1,v2,v3,v4,v5].toArray,v6] H M (λH M H' M' v=>H=H'/\∃ qv0:OY,∃ I:List OY,∃ qv1:OY,∃ J:List OY,∃ qv2:OY,∃ O:List OY,∃ qv3:OY,∃ Y:List OY,∃ qv4:OY,∃ Z:List OY,∃ qv5:OY,∃ qxs5:List OY,.row qv0 9 (aE.sz OX) r.1.bC.length I::.row qv1 116 (aE.sz aX) r.1.aM.length J::.row qv2 110 (aE.sz aP) r.1.aG.length O::.row qv3 103 (aE.sz bE) r.1.dL.length Y::.row qv4 112 (aE.sz aF) r.1.bA.length Z::.row qv5 122 (aE.sz cE) r.1.bT.length qxs5::M=M'/\.tuple #[.agg [qv0,qv1,qv2,qv3,qv4,qv5].toArray,.int .i64 (r.2)]=v/\rX qv0 I r.1.bC/\rX qv1 J r.1.aM/\rX qv2 O r.1.aG/\rX qv3 Y r.1.dL/\rX qv4 Z r.1.bA/\rX qv5 qxs5 r.1.bT):=by
 unfold kJ at hm;refine fU func9 ?_;refine gs ?_;refine bx (λan=>?_);refine al (λao=>?_);refine g2 ?_;obtain ⟨ap,a7,hm⟩:=aU hm;refine cz @uF a7 ?_;refine gs ?_;refine cd hm G (λa8 hm=>?_) (λa8 hm=>?_);refine gs ?_;refine dX (css:=[]) (zs:=[.slice none 0 0,.slice none 0 0,.slice none 0 0,.slice none 0 0,.slice none 0 0,.slice none 0 0]) (out:=[.slice none 0 0,.slice none 0 0,.slice none 0 0,.slice none 0 0,.slice none 0 0,.slice none 0 0]) (places:=[(0,1),(1,1),(2,1),(3,1),(4,1),(5,1)]) G G G O0 zeroValue29 G Tk (λw=>by kernel_rfl) G ?_
 refine go ?_;refine wt 0 ?_;refine gt ?_;refine gj ?_;refine b_ 9 (aE.sz OX) (b_ 116 (aE.sz aX) (b_ 110 (aE.sz aP) (b_ 103 (aE.sz bE) (b_ 112 (aE.sz aF) (b_ 122 (aE.sz cE) ?_)))));obtain rfl:=O4 hm;exact Bv lE G (fB.agg G Se RW (.tail _ (.tail _ (.tail _ (.tail _ (.tail _ (.tail _ (.head _))))))) G) (fB.tmp G) (.cons_cons _ (.cons_cons _ (.cons_cons _ (.cons_cons _ (.cons_cons _ (.cons_cons _ (.cons _ (.cons _ (.refl _))))))))) (.trans (.cons _ (.cons _ (.cons _ (.cons _ (.swap _ _ _))))) (.trans (.cons _ (.cons _ (.cons _ (.swap _ _ _)))) (.trans (.cons _ (.cons _ (.swap _ _ _))) (.trans (.cons _ (.swap _ _ _)) (.trans (.swap _ _ _) (.trans (.cons _ (.cons _ (.cons _ (.cons _ (.swap _ _ _))))) (.trans (.cons _ (.cons _ (.cons _ (.swap _ _ _)))) (.trans (.cons _ (.cons _ (.swap _ _ _))) (.trans (.cons _ (.swap _ _ _)) (.trans (.cons _ (.cons _ (.cons _ (.cons _ (.swap _ _ _))))) (.trans (.cons _ (.cons _ (.cons _ (.swap _ _ _)))) (.trans (.cons _ (.cons _ (.swap _ _ _))) (.trans (.cons _ (.cons _ (.cons _ (.cons _ (.swap _ _ _))))) (.trans (.cons _ (.cons _ (.cons _ (.swap _ _ _)))) (.cons _ (.cons _ (.cons _ (.cons _ (.swap _ _ _))))))))))))))))))) ⟨G,(.slice none 0 0),[],(.slice none 0 0),[],(.slice none 0 0),[],(.slice none 0 0),[],(.slice none 0 0),[],(.slice none 0 0),[],G,G,(Rw.nil (H:=H)).ob,(Rw.nil (H:=H)).ob,(Rw.nil (H:=H)).ob,(Rw.nil (H:=H)).ob,(Rw.nil (H:=H)).ob,(Rw.nil (H:=H)).ob⟩
 refine gs ?_;obtain ⟨aq,a9,hm⟩:=aU hm;refine ca @vd a9 ?_;rintro _ _ _ ⟨rfl,aa,ab,ac,ad,ae,af,ag,ah,ai,aj,ak,am,rfl,rfl,a1,a2,a3,a4,a5,a6⟩;have a1:=a1 H;have a2:=a2 H;have a3:=a3 H;have a4:=a4 H;have a5:=a5 H;have a6:=a6 H;refine wt 6 ?_;refine go ?_;obtain rfl:=O4 hm;exact Bv lE G (fB.agg G Se RW (.head _) G) (fB.tmp G) (.cons _ (.cons_cons _ (.cons_cons _ (.cons_cons _ (.cons_cons _ (.cons_cons _ (.cons_cons _ (.cons _ (.refl _))))))))) (.refl _) ⟨G,aa,ab,ac,ad,ae,af,ag,ah,ai,aj,ak,am,G,G,(a1).ob,(a2).ob,(a3).ob,(a4).ob,(a5).ob,(a6).ob⟩
theorem yv {J:aD}{ak:Bool}{v0 v1 v2 v3 v4 v5:OY}{r:(List bW)×(List Int)} (hm:pD J ak=some r) (h0:aN H v0 J.bC) (h1:aN H v1 J.aM) (h2:aN H v2 J.aG) (h3:aN H v3 J.dL) (h4:aN H v4 J.bA) (h5:aN H v5 J.bT):
  Cq B w0 105 [.agg [v0,v1,v2,v3,v4,v5].toArray,.bool (ak)] H M (λH M H' M' v=>H=H'/\∃ qv0:OY,∃ O:List OY,∃ qv1:OY,∃ Y:List OY,.row qv0 158 (aE.sz bW) r.1.length O::.row qv1 3 (aE.sz Int) r.2.length Y::M=M'/\.tuple #[qv0,qv1]=v/\rX qv0 O r.1/\rX qv1 Y r.2):=by
 unfold pD at hm;refine fU func105 ?_;refine gs ?_;refine bx (λbc=>?_);refine g2 ?_;refine g2 ?_;refine iZ 158 (aE.sz bW) (iZ 3 (aE.sz Int) ?_);obtain ⟨am,aq,ar,hm⟩:=cS hm;refine cl [(1,_),(2,_),(11,_),(12,_)] [2] 2 [1] 0 (λu m n H' M' L'=>∃ (I:Nat) (a7:List aX),∃ a5:List bW,∃ a6:List Int,∃ a8:OY,∃ ae:List OY,∃ a9:OY,∃ af:List OY,(J.aM).drop I=a7/\a7.length=n/\am I a7 (a5,a6)=some r/\Rw H' a8 ae a5/\Rw H' a9 af a6/\H.le H'/\.row a8 158 (aE.sz bW) a5.length ae::.row a9 3 (aE.sz Int) a6.length af::m=M'/\(6,a8)::(7,a9)::(13,.int .i64 ((I:Int)))::u=L') _ G ⟨0,_,_,_,_,_,_,_,G,G,hm,Rw.nil,Rw.nil,lE,G,G⟩ ?_;rintro _ au _ _ ⟨I,a7,a5,a6,a8,ae,a9,af,an,rfl,hm,av,aw,bd,rfl,rfl⟩;refine g2 ?_;refine bB G (λag=>?_) (λag=>?_);obtain ⟨be,ax,rfl,ay,az⟩:=fI an ag;have hm:=(aq _ _ _ _).symm.trans hm
 generalize b0:am (I+1) ax=b1 at hm
 try dsimp only at hm
 unfold rj at hm;refine go ?_;refine cj [(1,_),(2,_),(11,_),(12,_),(13,_)] [2] 2 (λu m H' M' L'=>∃ aa:List bW,∃ ab:List Int,∃ ac:OY,∃ ah:List OY,∃ ad:OY,∃ ai:List OY,ni b1 aa ab=some r/\Rw H' ac ah aa/\Rw H' ad ai ab/\au.le H'/\.row ac 158 (aE.sz bW) aa.length ah::.row ad 3 (aE.sz Int) ab.length ai::m=M'/\(6,ac)::(7,ad)::u=L') ?_ (λao=>?_);rintro bf _ _ ⟨aa,ab,ac,ah,ad,ai,hm,bg,bh,bi,rfl,rfl⟩;unfold ni at hm;refine gj ?_;exact kj (eb az b0) (kK (cA ay h1.mm.cU));refine gs ?_;refine al (λbj=>?_);refine go ?_;refine wt 0 ?_;refine gs ?_;refine zV G G S1 G G (go ?_);refine cd hm G (λb2 hm=>?_) (λb2 hm=>?_);refine gs ?_;obtain ⟨a0,b3,hm⟩:=aU hm;obtain ⟨a1,b4,hm⟩:=aU hm;refine oz fm 13 [ph _,ph _,ph _,ph _,ph _,ph (.int .i64 (a0)),ph _,ph _,ph _,ph _,ph (.int .i64 (a1)),ph (.agg [.int .i64 (a0),.int .i64 (a1)].toArray),(λH rs v=>∃ Z:OY,[]=rs/\Z=v/\aN H Z ([(bW.mk a0 a1)])/\Value.nq Z=([(bW.mk a0 a1)]).length)] ⟨om,om,om,om,om,?_,om,om,om,om,?_,?_,?_,O0⟩ ?_
 exact rk tt @bY b3;exact rk tt @bY b4;rintro HX hX X Rest hR _ _ ⟨rfl,rfl⟩ _ _ ⟨rfl,rfl⟩ hU hUp;refine xE (css:=[[.int .i64 (a0)],[.int .i64 (a1)]]) (zs:=[.int .i64 (0),.int .i64 (0)]) (out:=[.int .i64 (a0),.int .i64 (a1)]) (places:=[(0,1),(1,1)]) G G G ⟨G,G,O0⟩ zeroValue158 G QN QA G G ?_;exact o0 ⟨G,G⟩;rintro HX hX X Rest hR _ _ ⟨rfl,rfl⟩ hU hUp;refine cV (α:=bW) (css:=[[.int .i64 (a0),.int .i64 (a1)]]) (zs:=[.int .i64 (0),.int .i64 (0)]) (out:=[.int .i64 (a0),.int .i64 (a1)]) (ys:=[(bW.mk a0 a1)]) G G G ⟨G,O0⟩ runUnderlying157 sizeOf158 G zeroValue158 (by kernel_rfl) G G G G ⟨[.int .i64 (a0),.int .i64 (a1)],[],G,G,G⟩ G ?_
 intro bk Z bl b5 b6 aj;have ap:Value.nq Z=([(bW.mk a0 a1)]).length:=by rw [b5]; rfl
 exact oe [] b6 ⟨Z,G,G,(aj),(ap)⟩;intro bm bn;refine dr ?_;rintro _ _ ⟨Z,rfl,rfl,aj,ap⟩;refine ux ?_;obtain ⟨b7,hm⟩:=aI hm;refine Wp [1] ?_;refine cQ (α:=bW) (l:=a5) (ys:=[(bW.mk a0 a1)]) G G underlying157 ⟨_,G,G,G,G⟩ G G G G G av.mm aj b7 ?_;intro bo bp bq;refine go ?_;refine cV (α:=Int) (css:=[[.int .i64 ((I:Int))]]) (zs:=[.int .i64 (0)]) (out:=[.int .i64 ((I:Int))]) (ys:=([((I:Int))]:List Int)) G G G ⟨G,O0⟩ Qm QA G Rg (by kernel_rfl) G G G G ⟨[.int .i64 ((I:Int))],[],G,G,G⟩ G ?_
 intro br b8 bs b9 bt ba;have bu:Value.nq b8=([((I:Int))]:List Int).length:=by rw [b9]; rfl
 obtain ⟨bb,hm⟩:=aI hm;refine Wp [2] ?_;refine cQ (α:=Int) (l:=a6) (ys:=([((I:Int))]:List Int)) G G Qx ⟨_,G,G,G,G⟩ G G G G G aw.mm ba bb ?_;intro bv bw bz;refine gj ?_;exact kx [1,0,1] 1 (ao _ _ _ pk);refine gj ?_;exact kx [1,1,1] 1 (ao _ _ _ pk);obtain rfl:=fH an ag;have hm:=(ar _ _).symm.trans hm
 try dsimp only at hm
 refine gs ?_;refine Ek [0,0] 1 ?_;exact ef
theorem zo {I:Int}{O:(List bW)}{v0:OY}{r:Int} (hm:qQ I O=some r) (h0:aN H v0 O):
  Cq B w0 106 [.int .i64 (I),v0] H M (xX r):=by
 unfold qQ at hm;refine fU func106 ?_;refine g2 ?_;refine cj [(0,_),(1,_)] [] 0 (vW H 17 (((decide (I<0)) || (decide (24<I))) || (decide (64<(O.length:Int))))) ?_ (λZ=>?_);rintro _ _ _ ⟨rfl,rfl,rfl⟩;refine cd hm G (λae hm=>?_) (λae hm=>?_);refine gs ?_;exact ef;refine g2 ?_;obtain ⟨a9,af,ag,hm⟩:=cS hm;refine cl [(0,_),(18,_),(19,_)] [] 0 [] 0 (λu m n H' M' L'=>∃ (J:Nat) (Y:List bW),(O).drop J=Y/\Y.length=n/\a9 J Y ()=some r/\H.le H'/\m=M'/\(20,.int .i64 ((J:Int)))::u=L') _ G ⟨0,_,G,G,hm,lE,G,G⟩ ?_;rintro _ an _ _ ⟨J,Y,aa,rfl,hm,ao,rfl,rfl⟩;refine g2 ?_;refine bB G (λa7=>?_) (λa7=>?_);obtain ⟨a8,ah,rfl,ai,aj⟩:=fI aa a7;have hm:=(af _ _ _ _).symm.trans hm;generalize ak:a9 (J+1) ah=ap at hm;unfold ss at hm;refine g2 ?_;refine al (λaq=>?_);refine wt 0 ?_;refine gs ?_;refine pG G G QN QA G G (by decide) (by decide) (go ?_)
 cases ab:(decide (a8.a0<0));have hm:=eM ab hm;refine pG G G QN QA G G (by decide) (by decide) (go ?_)
 cases ac:(decide (I<=a8.a0));have hm:=eM ac hm;refine pG G G QN QA G G (by decide) (by decide) (go ?_)
 cases ad:(decide (a8.a1<0));have hm:=eM ad hm;refine pG G G QN QA G G (by decide) (by decide) (go ?_)
 refine cd hm G (λam hm=>?_) (λam hm=>?_);refine gs ?_;refine Ek [] 1 ?_;exact ef;refine gt ?_;refine gj ?_;exact kx [] 1 (eb aj ak) G (kK (cA ai h0.mm.cU));have hm:=eN ad hm;refine go ?_;refine cT G ?_;refine gs ?_;refine Ek [] 1 ?_;exact ef;have hm:=eN ac hm;refine go ?_;refine cT G ?_;refine gs ?_;refine Ek [] 1 ?_;exact ef;have hm:=eN ab hm;refine go ?_;refine cT G ?_;refine gs ?_;refine Ek [] 1 ?_;exact ef;obtain rfl:=fH aa a7;have hm:=(ag _ _).symm.trans hm;refine gs ?_;exact ef;refine go ?_;cases ar:(decide (I<0));refine go ?_;cases au:(decide (24<I));refine gj ?_;exact kj (Z _ _ _ pk) kS;refine gj ?_;exact kj (Z _ _ _ pk) kS;refine gj ?_;exact kj (Z _ _ _ pk) kS
theorem xm {a0 a1:Int}{r:Int×Int} (hm:mb a0 a1=r):
  Cq B w0 138 [.int .u64 (a0),.int .u64 (a1)] H M (λH M H' M' v=>H=H'/\M=M'/\.tuple #[.int .u64 (r.1),.int .u64 (r.2)]=v):=by
 unfold mb at hm;refine fU func138 ?_;refine g2 ?_;refine gs ?_;refine sQ G G G G (by decide) (g2 ?_)
 refine sQ G G G G (by decide) (g2 ?_)
 refine sQ G G G G (by decide) (g2 ?_)
 refine sQ G G G G (by decide) (g2 ?_)
 refine sQ G G G G (by decide) (gs ?_)
 obtain rfl:=hm;refine Ew H ?_;exact Be G G G ⟨G,G,G⟩
theorem uE {a0 a1:Int}{r:Int×Int} (hm:qY a0 a1=r):
  Cq B w0 115 [.int .u64 (a0),.int .u64 (a1)] H M (λH M H' M' v=>H=H'/\M=M'/\.tuple #[.int .u64 (r.1),.int .u64 (r.2)]=v):=by
 unfold qY at hm;refine fU func115 ?_;refine g2 ?_;refine cF G ?_;refine gs ?_;refine cz @xm (G:mb a0 a1=_) ?_;refine gs ?_;obtain rfl:=hm;refine Ew H ?_;exact Be G G G ⟨G,G,G⟩
theorem zf (m:Nat) (hm:m<9223372036854775808):qY (u64.wrap (1:Int)) (u64.wrap (m:Int))=(0,(m:Int)):=by
 have hw:u64.wrap (m:Int)=m:=by rw [IntKind.wrap_u64]; omega
 have h1:u64.wrap (1:Int)=1:=rfl;have O:u64.wrap ((BitVec.ofInt (u64).bits (m:Int) &&& BitVec.ofInt (u64).bits 4294967295).toNat)=((m%4294967296:Nat):Int):=by
  have h:=bits_and_u64_nat m 4294967295 (by omega) (by omega)
  have e:m &&& 4294967295=m%4294967296:=Si m 32;rw [e] at h;exact h
 have Z:u64.wrap ((BitVec.ofInt (u64).bits ((m / 4294967296%4294967296:Nat):Int) &&& BitVec.ofInt (u64).bits 4294967295).toNat)=((m / 4294967296%4294967296:Nat):Int):=by
  have h:=bits_and_u64_nat (m / 4294967296%4294967296) 4294967295 (by omega) (by omega)
  have e:(m / 4294967296%4294967296) &&& 4294967295=(m / 4294967296%4294967296)%4294967296:=Si _ 32;rw [e,Nat.mod_mod] at h;exact h
 have hs0:nr .u64 (1:Int) 32=0:=rfl;have Y:nr .u64 (0:Int) 32=0:=rfl;have J:u64.wrap ((BitVec.ofInt (u64).bits (1:Int) &&& BitVec.ofInt (u64).bits 4294967295).toNat)=1:=rfl;have I:u64.wrap ((BitVec.ofInt (u64).bits (0:Int) &&& BitVec.ofInt (u64).bits 4294967295).toNat)=0:=rfl;have hsm:∀ k:Nat,nr .u64 (k:Int) 32=((k / 4294967296:Nat):Int):=λk=>Fa k;have e0:((m%4294967296:Nat):Int)=((m%4294967296:Nat):Int):=rfl;have w1:u64.wrap ((m%4294967296:Nat):Int)=((m%4294967296:Nat):Int):=by rw [IntKind.wrap_u64]; omega
 have w2:u64.wrap ((m / 4294967296:Nat):Int)=((m / 4294967296:Nat):Int):=by rw [IntKind.wrap_u64]; omega
 have d1:m%4294967296 / 4294967296=0:=by omega
 have d2:m / 4294967296 / 4294967296=0:=by omega
 have z0:u64.wrap (0:Int)=0:=rfl;unfold qY mb;rw [hw,h1]
 simp only [hs0,Y,J,O,hsm,Int.zero_mul,Int.one_mul,z0,Int.zero_add,w1,d1,Int.ofNat_zero,Int.natCast_zero,Int.add_zero,I,w2,d2,hw]
theorem DP {s:List Int}{v0:OY}{n:Int} (h0:aN H v0 s) (hz:s.length=1/\0<=n/\n*8<=140737488355328) (ht:St B w0 H M w):
  Calls prog 127 [v0,.int .i64 n].toArray w (tG B w0 (Mk (E5 s n) H M)):=by
 obtain ⟨hs1,hn0,O⟩:=hz;obtain ⟨a,rfl⟩:=Sq.1 hs1;obtain ⟨m,rfl⟩:∃ m:Nat,n=m:=⟨n.toNat,by omega⟩
 have hrep:=wX a m;rw [hrep];have hlr:(List.replicate m a).length=m:=Qe;have hmb:m<9223372036854775808:=by omega
 obtain ⟨o,c,hv0,_⟩:=h0.len
 simp only [Pa,QI,Po] at hv0
 subst hv0;refine enter func127 G G G ht ?_;refine bI ?_;refine aK (aJ G G G ?_);refine aY (aR ?_);refine bI ?_;refine bI ?_;refine aK (bU G G G (vR G G G G G ?_));refine aY (aR ?_);refine bB (b:=decide ((m:Int)<0)) G (λO=>absurd (O6 O) (by omega)) (λ_=>?_)
 refine lO (aR ?_);refine bI ?_;refine aK (bU G G G (BW G G Qm G (rm G G Rf R8 G (bU G G G (rm G G Rf R8 G ?_)))));refine fL call115 G G G (λw ht=>by have h:=uE (hm:=zf m hmb) ht; exact h) ?_
 rintro _ _ _ ⟨rfl,rfl,rfl⟩;refine bU G G G (rp G G G G (rp G G G G (aJ G G G (aJ G G G ?_))));refine aY (aR ?_);refine bI ?_;refine bI ?_;refine aK (bU G G G (vR G G G G G (bU G G G (bU G G G (vR G G G G G (BX (b:=false) G G G G ?_))))));refine aY (aR ?_);refine bB (b:=decide (9223372036854775807<(m:Int))) G (λO=>absurd (O6 O) (by omega)) (λ_=>?_)
 refine lO (aR ?_);have hw:i64.wrap (m:Int)=m:=wL (by omega) (by omega)
 refine bI ?_;refine aK (bU G G G (rm G G R8 Rf G ?_));rw [hw];refine eS (α:=Int) (ze:=0) (bytes:=8) G G Qx ⟨_,G,G,G,G⟩ G G G G G G (by omega) O ?_
 intro v1 xA hx1;rw [O2] at hx1 ⊢;refine aJ G G G ?_;refine aY (aR ?_);generalize hl1:List.replicate m (0:Int)=l1 at hx1 ⊢;have hll:l1.length=m:=by rw [<- hl1]; exact Qe
 refine bI ?_;refine aK (bU G G G (bU G G G (Fl (α:=Int) (l:=l1) (ys:=[a]) G G Qx QA G G G hx1 h0 (by simp) ?_)))
 rw [P2,hll];generalize hl2:[a].take (min 1 m)++l1.drop (min 1 m)=l2;have hl2l:l2.length=m:=by rw [<- hl2,Pj,Pr,Qv,P2]; omega
 have hl2t:l2.take (min 1 m)=List.replicate (min 1 m) a:=by
  rw [<- hl2];cases m with
  | zero=>rfl
  | succ q=>rw [show min 1 (q+1)=1 by omega]; rfl
 intro sG hx2;refine aJ G G G ?_;refine aY (aR ?_);obtain ⟨o1,m1,c1,hv1⟩:=hx2.sl;refine bI ?_;refine tr (zJ (L':=[(7,v1),(8,.int .i64 ((min 1 m:Nat):Int))]) ⟨G,G,O0⟩ (Rd _) ?_);refine zK (λn H' M' L'=>∃ (q:Nat) (l:List Int) (xs:List OY),m-q=n/\(1<=q\/m=0)/\q<=m/\l.length=m/\l.take q=List.replicate q a/\Rw H' v1 xs l/\H.le H'/\.row v1 3 (aE.sz Int) m xs::M=M'/\[(7,v1),(8,.int .i64 (q:Int))]=L') (m-min 1 m) ⟨min 1 m,l2,sG,G,by omega,by omega,hl2l,hl2t,hx2,PX _,G,G⟩ ?_
 rintro n3 H3 _ _ ⟨q,l3,A8,hn3,hq1,hqm,hl3,ht3,hx3,Z,rfl,rfl⟩;refine bI ?_;refine bI ?_;refine aK (bU G G G (bU G G G (pZ (M':=.row v1 3 (aE.sz Int) l3.length A8::M) (by rw [hl3]) (zW (O5 ..) G G Qm G (vR G G G G G ?_)))))
 refine aY (aR ?_);refine bB (b:=decide ((q:Int)<(l3.length:Int))) G (λO=>?_) (λO=>?_)
 ·have hlt:q<l3.length:=by have:=O6 O; omega
  refine lO (aR ?_);refine yI (by omega) (λJ off cap hv hcap=>?_)
  subst hv;refine tr (Hn (M':=[[.row (.slice (some ⟨J,off,none⟩) l3.length cap) 3 (aE.sz Int) l3.length A8]].flatten++M) G ?_);refine qO 8 (yz [(Ff (q:Int)),(λH rs v=>[]=rs/\.slice (some ⟨J,off,none⟩) l3.length cap=v),(Ff (q:Int)),(λH rs v=>[]=rs/\.slice (some ⟨J,off+q*aE.sz Int,none⟩) (l3.length-q) (cap-q)=v),(λH rs v=>[]=rs/\.slice (some ⟨J,off,none⟩) l3.length cap=v),(Ff (q:Int)),(λH rs v=>[]=rs/\.slice (some ⟨J,off,none⟩) q cap=v),(λH rs v=>∃ y0:List OY,[.row (.slice (some ⟨J,off,none⟩) l3.length cap) 3 (aE.sz Int) l3.length y0]=rs/\.int .i64 ((min q (l3.length-q):Nat):Int)=v/\Rw H (.slice (some ⟨J,off,none⟩) l3.length cap) y0 (l3.take q++l3.take (min q (l3.length-q))++l3.drop (q+min q (l3.length-q))))]) [[],[],[],[],[],[],[],[8]] [[],[],[],[],[],[],[],[]] [[.row (.slice (some ⟨J,off,none⟩) l3.length cap) 3 (aE.sz Int) l3.length A8]] [0,1,2,3,4,5,6,7] Fi.mixed (by kernel_rfl) G G G (by kernel_rfl) (tN ⟨fW _ _,fW _ _,fW _ _,fW _ _,fW _ _,fW _ _,fW _ _,(by rintro H1 H2 rs v hle ⟨y0,rfl,rfl,h⟩; exact ⟨y0,G,G,h.mono hle⟩),O0⟩) ⟨?_,?_,?_,?_,?_,?_,?_,?_,O0⟩ ?_
  ·intro HX Y X Rest hR
   intro hU I;refine bU G G G ?_;exact aY (eX [] (PX _) ⟨G,G⟩)
  ·intro HX Y X Rest hR
   intro hU I;refine bU G G G ?_;exact aY (eX [] (PX _) ⟨G,G⟩)
  ·intro HX Y X Rest hR
   intro hU I;refine bU G G G ?_;exact aY (eX [] (PX _) ⟨G,G⟩)
  ·intro HX Y X Rest hR
   rintro _ _ ⟨rfl,rfl⟩;rintro _ _ ⟨rfl,rfl⟩;intro hU I;refine sR (m:=cap) (h:=l3.length) (l:=q) G G Qm QA G (.inl G) (.inl ⟨G,G⟩) (.inl ⟨G,G⟩) (.inr ⟨_,_,_,G,G,by omega,by omega,by omega⟩) (by rw [O7 (by omega),Qp,P8]) ?_
   exact aY (eX [] (PX _) ⟨G,G⟩)
  ·intro HX Y X Rest hR
   intro hU I;refine bU G G G ?_;exact aY (eX [] (PX _) ⟨G,G⟩)
  ·intro HX Y X Rest hR
   intro hU I;refine bU G G G ?_;exact aY (eX [] (PX _) ⟨G,G⟩)
  ·intro HX Y X Rest hR
   rintro _ _ ⟨rfl,rfl⟩;rintro _ _ ⟨rfl,rfl⟩;intro hU I;refine sR (m:=cap) (h:=q) (l:=0) G G Qm QA G (.inl G) (.inl ⟨G,G⟩) (.inr ⟨_,_,_,G,G,by omega,by omega,by omega⟩) (.inl ⟨G,G⟩) (by rw [O7 (by omega),RT,RT,Qp,P8,Qu,Qt]) ?_
   exact aY (eX [] (PX _) ⟨G,G⟩)
  ·intro HX Y X Rest hR
   rintro _ _ ⟨rfl,rfl⟩;rintro _ _ ⟨rfl,rfl⟩;intro hU I;refine pZ (M':=.row (.slice (some ⟨J,off,none⟩) l3.length cap) 3 (aE.sz Int) l3.length A8::Rest) G (zU (α:=Int) (l:=l3) (q:=q) G G Qx QA G (hx3.mono Y) (by omega) G G ?_)
   intro y0 hx4;exact aY (eX [.row (.slice (some ⟨J,off,none⟩) l3.length cap) 3 (aE.sz Int) l3.length y0] (PX _) ⟨y0,G,G,hx4⟩)
  intro H5 hle5;rintro _ _ ⟨rfl,rfl⟩;rintro _ _ ⟨rfl,rfl⟩;rintro _ _ ⟨rfl,rfl⟩;rintro _ _ ⟨rfl,rfl⟩;rintro _ _ ⟨rfl,rfl⟩;rintro _ _ ⟨rfl,rfl⟩;rintro _ _ ⟨rfl,rfl⟩;rintro _ _ ⟨y0,rfl,rfl,hx4⟩;refine pZ (M':=.row (.slice (some ⟨J,off,none⟩) l3.length cap) 3 (aE.sz Int) l3.length y0::M) G ?_;have hrs:=DO ht3 (by omega)
  refine vR G G G G G (aJ G G G (aY (mW ?_)));have hwr:i64.wrap ((q:Int)+((min q (l3.length-q):Nat):Int))=((q+min q (l3.length-q):Nat):Int):=by
   rw [wL (by omega) (by omega)]; omega
  exact BN (uI (by omega:m-(q+min q (l3.length-q))<n3) ⟨q+min q (l3.length-q),_,y0,G,by omega,by omega,by simp only [Pj,Pr,Qv]; omega,hrs,hx4,SF Z hle5,by rw [hl3],G⟩) (Rd _) ⟨G,P4 (λz=>some (Value.int .i64 z)) hwr,O0⟩
 ·have hge:q=m:=by have:=Pc O; omega
  refine tO (fV (fV (mV (aR ?_))));have hfin:l3=List.replicate m a:=by
   have h:=ht3;rw [hge,Pg (by omega)] at h
   exact h
  refine bI ?_;refine aK (bU G G G (aJ G G G ?_));refine aY (aR ?_);refine lN (D8 Z ?_);rw [<- hfin];exact lf G G ⟨G,v1,A8,G,G,hx3.ob⟩
theorem zp {an:Int}{ao:(List bW)}{J:Int}{v0:OY}{r:(List Int)} (hm:od an ao J=some r) (h0:aN H v0 ao):
  Cq B w0 107 [.int .i64 (an),v0,.int .i64 (J)] H M (Mk r):=by
 unfold od at hm;refine fU func107 ?_;refine g2 ?_;refine fP (α:=Int) (css:=[[.int .i64 ((-1))]]) (zs:=[.int .i64 (0)]) (out:=[.int .i64 ((-1))]) (ys:=([((-1))]:List Int)) G G G ⟨G,O0⟩ Qm QA G Rg (by kernel_rfl) G G G G ⟨[.int .i64 ((-1))],[],G,G,G⟩ G ?_
 intro co cp be;refine go ?_;obtain ⟨bf,hm⟩:=aI hm;refine fL call127 G G G (λw ht=>by obtain ⟨H0_,hl0_,ht0_,hr0_,bk0_⟩:=ht.eA be G; have h:=DP hr0_ bf ht0_; exact cJ bk0_ h) ?_
 rintro _ _ _ ⟨rfl,_,rfl,Y,cq,rfl,rfl,ap⟩;have ap:=ap H;refine g2 ?_;refine gs ?_;obtain ⟨bg,hm⟩:=aI hm;obtain ⟨b4,bh,bi,hm⟩:=iH hm;refine cl [(1,_),(2,_),(7,_),(18,_)] [] 2 [1] 1 (λu m n H' M' L'=>∃ (Z:Nat) (ab:Nat),∃ ac:List Int,∃ a6:Int,∃ aq:List OY,Z+ab=(an:Int).toNat/\ab=n/\b4 ab Z (ac,a6)=some r/\Rw H' Y aq ac/\H.le H'/\.row Y 3 (aE.sz Int) ac.length aq::m=M'/\(8,.int .i64 (a6))::(19,.int .i64 ((Z:Int)))::u=L') _ G ⟨0,_,_,_,_,Po _,G,hm,ap,lE,G,G⟩ ?_;rintro _ b5 _ _ ⟨Z,ab,ac,a6,aq,b6,rfl,hm,cr,cs,rfl,rfl⟩;refine g2 ?_;refine bB G (λar=>?_) (λar=>?_);obtain ⟨bj,rfl,bk,bl⟩:=lq b6 ar;have hm:=(bh _ _ _).symm.trans hm;generalize bm:b4 bj (Z+1)=bn at hm
 try dsimp only at hm
 unfold pO at hm;refine go ?_;refine cj [(1,_),(2,_),(7,_),(18,_),(19,_)] [] 1 (λu m H' M' L'=>∃ ad:List Int,∃ au:Int,∃ av:List OY,jD bn ad au=some r/\Rw H' Y av ad/\b5.le H'/\.row Y 3 (aE.sz Int) ad.length av::m=M'/\(8,.int .i64 (au))::u=L') ?_ (λb7=>?_);rintro ct _ _ ⟨ad,au,av,hm,cu,cv,rfl,rfl⟩;unfold jD at hm;refine gj ?_;exact kj (eb bk bm) (kK (eH bl (eI bg)));refine g2 ?_;refine gs ?_;obtain ⟨cw,cx,d0,hm⟩:=aC hm;refine go ?_;refine cd hm G (λbo hm=>?_) (λbo hm=>?_);refine gj ?_;exact kj (b7 _ _ _ pk);refine gs ?_;obtain ⟨d1,d2,d3,hm⟩:=aC hm;refine go ?_;refine wF 0 0 a6 ?_;intro d4 bp d5;refine g2 ?_;refine fP (α:=Int) (css:=[[.int .i64 ((Z:Int))]]) (zs:=[.int .i64 (0)]) (out:=[.int .i64 ((Z:Int))]) (ys:=([((Z:Int))]:List Int)) G G G ⟨G,O0⟩ Qm QA G Rg (by kernel_rfl) G G G G ⟨[.int .i64 ((Z:Int))],[],G,G,G⟩ G ?_
 intro d6 d7 bq;refine go ?_;obtain ⟨b8,br,bs,hm⟩:=jM hm;refine cl [(1,_),(2,_),(7,_),(8,_),(18,_),(19,_)] [] 2 [1] 0 (λu m n H' M' L'=>∃ ae aa:List Int,∃ aw:List OY,∃ af:OY,∃ ax:List OY,b8 n (ae,aa)=some r/\Rw H' Y aw ae/\Rw H' af ax aa/\b5.le H'/\.row Y 3 (aE.sz Int) ae.length aw::.row af 3 (aE.sz Int) aa.length ax::m=M'/\(10,af)::u=L') fA G ⟨_,_,_,_,_,hm,bp,bq,lE,G,G⟩ ?_;rintro ay bt _ _ ⟨ae,aa,aw,af,ax,hm,bu,bv,d8,rfl,rfl⟩
 rcases ay with _ | ay
 exact nomatch (bs _).symm.trans hm;have hm:=(br _ _).symm.trans hm;generalize bw:b8 ay=d9 at hm
 try dsimp only at hm
 unfold pP at hm;refine g2 ?_;refine cd hm G (λbz hm=>?_) (λbz hm=>?_);refine gs ?_;obtain ⟨O,da,db,hm⟩:=aC hm;refine gs ?_;obtain ⟨dc,hm⟩:=aI hm;refine Wp [1] ?_;refine tQ (α:=Int) (l:=(1:Int).toNat) (h:=aa.length) G G Qm QA G G bv (by omega) (by omega) (λm hmm=>(.inl ⟨G,G⟩)) (.inr ⟨_,_,_,G,G,by omega,by omega,G⟩) ?_
 intro dd de c0;refine gs ?_;obtain ⟨b9,c1,c2,hm⟩:=cS hm;refine cl [(1,_),(2,_),(7,_),(8,_),(11,_),(18,_),(19,_),(41,_),(42,_)] [] 2 [1] 0 (λu m n H' M' L'=>∃ (a7:Nat) (ag:List bW),∃ ah a8:List Int,∃ az:List OY,∃ ai:OY,∃ b0:List OY,(ao).drop a7=ag/\ag.length=n/\b9 a7 ag (ah,a8)=some r/\Rw H' Y az ah/\Rw H' ai b0 a8/\bt.le H'/\.row Y 3 (aE.sz Int) ah.length az::.row ai 3 (aE.sz Int) a8.length b0::m=M'/\(10,ai)::(43,.int .i64 ((a7:Int)))::u=L') _ G ⟨0,_,_,_,_,_,_,G,G,hm,bu,c0,lE,G,G⟩ ?_;rintro _ c3 _ _ ⟨a7,ag,ah,a8,az,ai,b0,ba,rfl,hm,df,bb,dg,rfl,rfl⟩;refine g2 ?_;refine bB G (λb1=>?_) (λb1=>?_);obtain ⟨I,c4,rfl,c5,c6⟩:=fI ba b1;have hm:=(c1 _ _ _ _).symm.trans hm;generalize c7:b9 (a7+1) c4=c8 at hm
 try dsimp only at hm
 unfold pQ at hm;refine go ?_;refine cj [(1,_),(2,_),(7,_),(8,_),(11,_),(18,_),(19,_),(41,_),(42,_),(43,_)] [] 2 (λu m H' M' L'=>∃ aj ak:List Int,∃ b2:List OY,∃ am:OY,∃ b3:List OY,d_ c8 aj ak=some r/\Rw H' Y b2 aj/\Rw H' am b3 ak/\c3.le H'/\.row Y 3 (aE.sz Int) aj.length b2::.row am 3 (aE.sz Int) ak.length b3::m=M'/\(10,am)::u=L') ?_ (λa9=>?_);rintro dh _ _ ⟨aj,ak,b2,am,b3,hm,di,dj,dk,rfl,rfl⟩;unfold d_ at hm;refine gj ?_;exact kj (eb c6 c7) (kK (cA c5 h0.mm.cU));refine gs ?_;refine al (λdl=>?_);refine go ?_;refine wt 0 ?_;refine g2 ?_;cases bc:(decide ((a7:Int)=J));have hm:=eM bc hm;refine pG G G QN QA G G (by decide) (by decide) (go ?_)
 cases bd:(decide (I.a0=O));have hm:=eM bd hm;refine pG G G QN QA G G (by decide) (by decide) (go ?_)
 refine cd hm G (λc9 hm=>?_) (λc9 hm=>?_);refine gj ?_;exact kx [1,1] 1 (a9 _ _ _ pk);refine gs ?_;refine pG G G QN QA G G (by decide) (by decide) (go ?_)
 refine pG G G QN QA G G (by decide) (by decide) (gs ?_)
 obtain ⟨dm,dn,dp,hm⟩:=aC hm;refine go ?_;refine cd hm G (λcb hm=>?_) (λcb hm=>?_);refine gs ?_;obtain ⟨dq,ds,dt,hm⟩:=aC hm;refine go ?_;refine wF 1 0 a6 ?_;intro du dv dw;refine go ?_;refine cV (α:=Int) (css:=[[.int .i64 (i64.wrap ((i64.wrap (I.a0+I.a1))-O))]]) (zs:=[.int .i64 (0)]) (out:=[.int .i64 (i64.wrap ((i64.wrap (I.a0+I.a1))-O))]) (ys:=([(i64.wrap ((i64.wrap (I.a0+I.a1))-O))]:List Int)) G G G ⟨G,O0⟩ Qm QA G Rg (by kernel_rfl) G G G G ⟨[.int .i64 (i64.wrap ((i64.wrap (I.a0+I.a1))-O))],[],G,G,G⟩ G ?_
 intro dx cc dy ce e0 cf;have e1:Value.nq cc=([(i64.wrap ((i64.wrap (I.a0+I.a1))-O))]:List Int).length:=by rw [ce]; rfl
 obtain ⟨cg,hm⟩:=aI hm;refine Wp [2] ?_;refine cQ (α:=Int) (l:=a8) (ys:=([(i64.wrap ((i64.wrap (I.a0+I.a1))-O))]:List Int)) G G Qx ⟨_,G,G,G,G⟩ G G G G G bb.mm cf cg ?_;intro e2 e3 e4;refine gj ?_;exact kx [1,0] 1 (a9 _ _ _ pk);refine gj ?_;exact kx [1,1] 1 (a9 _ _ _ pk);have hm:=eN bd hm;refine go ?_;refine cF G ?_;refine gs ?_;refine pG G G QN QA G G (by decide) (by decide) (go ?_)
 refine pG G G QN QA G G (by decide) (by decide) (gs ?_)
 obtain ⟨e5,e6,e7,hm⟩:=aC hm;refine go ?_;refine cd hm G (λch hm=>?_) (λch hm=>?_);refine gs ?_;obtain ⟨e8,e9,ea,hm⟩:=aC hm;refine go ?_;refine wF 1 0 a6 ?_;intro ec ed ee;refine go ?_;refine cV (α:=Int) (css:=[[.int .i64 (i64.wrap ((i64.wrap (I.a0+I.a1))-O))]]) (zs:=[.int .i64 (0)]) (out:=[.int .i64 (i64.wrap ((i64.wrap (I.a0+I.a1))-O))]) (ys:=([(i64.wrap ((i64.wrap (I.a0+I.a1))-O))]:List Int)) G G G ⟨G,O0⟩ Qm QA G Rg (by kernel_rfl) G G G G ⟨[.int .i64 (i64.wrap ((i64.wrap (I.a0+I.a1))-O))],[],G,G,G⟩ G ?_
 intro eg ci eh ck ei cm;have ej:Value.nq ci=([(i64.wrap ((i64.wrap (I.a0+I.a1))-O))]:List Int).length:=by rw [ck]; rfl
 obtain ⟨cn,hm⟩:=aI hm;refine Wp [2] ?_;refine cQ (α:=Int) (l:=a8) (ys:=([(i64.wrap ((i64.wrap (I.a0+I.a1))-O))]:List Int)) G G Qx ⟨_,G,G,G,G⟩ G G G G G bb.mm cm cn ?_;intro ek el em;refine gj ?_;exact kx [1,0] 1 (a9 _ _ _ pk);refine gj ?_;exact kx [1,1] 1 (a9 _ _ _ pk);have hm:=eN bc hm;refine go ?_;refine cT G ?_;refine gj ?_;exact kx [1,1] 1 (a9 _ _ _ pk);obtain rfl:=fH ba b1;have hm:=(c2 _ _).symm.trans hm
 try dsimp only at hm
 refine gj ?_;exact kj (Bu bw);refine gt ?_;refine gj ?_;exact kx [0] 1 (b7 _ _ _ pk);obtain rfl:=lj b6 ar;have hm:=(bi _ _).symm.trans hm
 try dsimp only at hm
 refine gs ?_;exact ef
theorem sU {a0:Int}{a1:(List bW)}{v0:OY}{r:(List Int)×Int} (hm:iK a0 a1=some r) (h0:aN H v0 a1):
  Cq B w0 81 [.int .i64 (a0),v0] H M (JC r.1 r.2):=by
 unfold iK at hm;refine fU func81 ?_;refine g2 ?_;refine gs ?_;obtain ⟨Z,J,hm⟩:=aU hm;refine cz @zo J ?_;refine gs ?_;refine cd hm G (λO hm=>?_) (λO hm=>?_);refine bI (aK (bU G G G (aJ G G G (aJ G G G (aY (aR ?_))))));refine gj ?_;refine b_ 3 (aE.sz Int) ?_;exact ef;refine gs ?_;obtain ⟨a7,Y,hm⟩:=aU hm;refine ca @zp Y ?_;rintro _ _ _ ⟨rfl,a8,a9,rfl,rfl,I⟩;have I:=I H;refine go ?_;exact ef
theorem yu {a0:aD}{v0 v1 v2 v3 v4 v5:OY}{r:(List Int)} (hm:nK a0=some r) (h0:aN H v0 a0.bC) (h1:aN H v1 a0.aM) (h2:aN H v2 a0.aG) (h3:aN H v3 a0.dL) (h4:aN H v4 a0.bA) (h5:aN H v5 a0.bT):
  Cq B w0 80 [.agg [v0,v1,v2,v3,v4,v5].toArray] H M (Mk r):=by
 unfold nK at hm;refine fU func80 ?_;refine gs ?_;refine bx (λZ=>?_);refine gs ?_;obtain ⟨a7,O,hm⟩:=aU hm;refine ca @yv O ?_;rintro _ _ _ ⟨rfl,a8,a9,aa,ab,rfl,rfl,a1,I⟩;have a1:=a1 H;have I:=I H;refine gs ?_;obtain ⟨ac,Y,hm⟩:=aU hm;refine cy @sU Y ?_;rintro _ _ _ ⟨rfl,⟨_,rfl,ad,ae,rfl,rfl,J⟩⟩;have J:=J H;refine gs ?_;refine Ek [1] 3 ?_;exact ef
theorem oF {I:aD}{v0 v1 v2 v3 v4 v5:OY}{r:aW} (hm:dT I=some r) (h0:aN H v0 I.bC) (h1:aN H v1 I.aM) (h2:aN H v2 I.aG) (h3:aN H v3 I.dL) (h4:aN H v4 I.bA) (h5:aN H v5 I.bT):
  Cq B w0 41 [.agg [v0,v1,v2,v3,v4,v5].toArray] H M (λH M H' M' v=>H=H'/\∃ Z:OY,∃ J:List OY,∃ qv1:OY,∃ O:List OY,.row Z 3 (aE.sz Int) r.pw.length J::.row qv1 3 (aE.sz Int) r.bK.length O::M=M'/\.agg [Z,qv1].toArray=v/\rX Z J r.pw/\rX qv1 O r.bK):=by
 unfold dT at hm;refine fU func41 ?_;refine gs ?_;refine bx (λbj=>?_);refine al (λbk=>?_);refine gs ?_;obtain ⟨ao,ap,hm⟩:=aU hm;refine ca @yu ap ?_;rintro _ _ _ ⟨rfl,ab,aq,rfl,rfl,a7⟩;have a7:=a7 H;refine dX (css:=[[ab]]) (zs:=[.slice none 0 0,.slice none 0 0]) (out:=[ab,.slice none 0 0]) (places:=[(0,1),(1,1)]) G G G ⟨(Rw.cells a7),O0⟩ zeroValue96 G runUnderlying96 (λw=>by kernel_rfl) G ?_
 refine al (λbl=>?_);refine wt 0 ?_;refine g2 ?_;refine gs ?_;refine rC (.tail _ (.head _)) (λar=>?_);obtain ⟨ai,au,av,hm⟩:=cS hm;refine cl [(1,_),(2,_),(3,_),(14,_),(15,_)] [] 0 [] 0 (λu m n H' M' L'=>∃ (a4:Nat) (a8:List Int),∃ ac:Int,(ao).drop a4=a8/\a8.length=n/\ai a4 a8 ac=some r/\H.le H'/\m=M'/\(4,.int .i64 (ac))::(16,.int .i64 ((a4:Int)))::u=L') _ G ⟨0,_,_,G,G,hm,lE,G,G⟩ ?_;rintro _ aw _ _ ⟨a4,a8,ac,aj,rfl,hm,bm,rfl,rfl⟩;refine g2 ?_;refine bB G (λad=>?_) (λad=>?_);obtain ⟨bn,ax,rfl,ay,az⟩:=fI aj ad;have hm:=(au _ _ _ _).symm.trans hm;generalize b0:ai (a4+1) ax=bo at hm;unfold rT at hm;refine g2 ?_;refine Lj G G G G (gt ?_);refine gj ?_;exact kj (eb az b0) (kK (cA ay ar));obtain rfl:=fH aj ad;have hm:=(av _ _).symm.trans hm;refine g2 ?_;refine gs ?_;refine iZ 158 (aE.sz bW) ?_;obtain ⟨ak,b1,b2,hm⟩:=cS hm
 refine cl [(1,_),(2,_),(3,_),(4,_),(26,_),(27,_)] [1,1,1,1] 1 [] 0 (λu m n H' M' L'=>∃ (a5:Nat) (a9:List aP),∃ a6:List bW,∃ aa:OY,∃ ae:List OY,(I.aG).drop a5=a9/\a9.length=n/\ak a5 a9 a6=some r/\Rw H' aa ae a6/\aw.le H'/\.row aa 158 (aE.sz bW) a6.length ae::m=M'/\(7,aa)::(28,.int .i64 ((a5:Int)))::u=L') _ G ⟨0,_,_,_,_,G,G,hm,Rw.nil,lE,G,G⟩ ?_;rintro _ b3 _ _ ⟨a5,a9,a6,aa,ae,am,rfl,hm,b4,bp,rfl,rfl⟩;refine g2 ?_;refine bB G (λaf=>?_) (λaf=>?_);obtain ⟨bq,b5,rfl,b6,b7⟩:=fI am af;have hm:=(b1 _ _ _ _).symm.trans hm;generalize b8:ak (a5+1) b5=br at hm;unfold rU at hm;refine g2 ?_;refine al (λbs=>?_);refine wt 0 ?_;refine go ?_;obtain ⟨b9,ba,hm⟩:=aU hm;obtain ⟨a0,bt,bu,hm⟩:=aC hm;obtain ⟨bb,bc,hm⟩:=aU hm;obtain ⟨a1,bv,bw,hm⟩:=aC hm;refine oz fm 21 [ph _,ph _,ph _,ph _,ph _,ph _,ph _,ph (.int .i64 (b9)),ph _,ph _,ph _,ph _,ph _,ph _,ph _,ph _,ph (.int .i64 (bb)),ph _,ph _,ph (.agg [.int .i64 (a0),.int .i64 (a1)].toArray),(λH rs v=>∃ Y:OY,[]=rs/\Y=v/\aN H Y ([(bW.mk a0 a1)])/\Value.nq Y=([(bW.mk a0 a1)]).length)] ⟨om,om,om,om,om,om,om,?_,om,om,om,om,om,om,om,om,?_,om,om,?_,?_,O0⟩ ?_
 exact rk tt @bY ba;exact rk tt @bY bc;rintro HX hX X Rest hR _ _ ⟨rfl,rfl⟩ _ _ ⟨rfl,rfl⟩ hU hUp;refine xE (css:=[[.int .i64 (a0)],[.int .i64 (a1)]]) (zs:=[.int .i64 (0),.int .i64 (0)]) (out:=[.int .i64 (a0),.int .i64 (a1)]) (places:=[(0,1),(1,1)]) G G G ⟨G,G,O0⟩ zeroValue158 G QN QA G G ?_;exact o0 ⟨G,G⟩;rintro HX hX X Rest hR _ _ ⟨rfl,rfl⟩ hU hUp;refine cV (α:=bW) (css:=[[.int .i64 (a0),.int .i64 (a1)]]) (zs:=[.int .i64 (0),.int .i64 (0)]) (out:=[.int .i64 (a0),.int .i64 (a1)]) (ys:=[(bW.mk a0 a1)]) G G G ⟨G,O0⟩ runUnderlying157 sizeOf158 G zeroValue158 (by kernel_rfl) G G G G ⟨[.int .i64 (a0),.int .i64 (a1)],[],G,G,G⟩ G ?_
 intro bz Y c0 bd be ag;have an:Value.nq Y=([(bW.mk a0 a1)]).length:=by rw [bd]; rfl
 exact oe [] be ⟨Y,G,G,(ag),(an)⟩;intro c1 c2;refine dr ?_;rintro _ _ ⟨Y,rfl,rfl,ag,an⟩;refine ux ?_;obtain ⟨bf,hm⟩:=aI hm;refine Wp [1] ?_;refine cQ (α:=bW) (l:=a6) (ys:=[(bW.mk a0 a1)]) G G underlying157 ⟨_,G,G,G,G⟩ G G G G G b4.mm ag bf ?_;intro c3 c4 c5;refine gt ?_;refine gj ?_;exact kx [0,1,1,1,1] 1 (eb b7 b8) G (kK (cA b6 h2.mm.cU));obtain rfl:=fH am af;have hm:=(b2 _ _).symm.trans hm;refine gs ?_;obtain ⟨c6,bg,hm⟩:=aU hm;refine cy @sU bg ?_;rintro _ _ _ ⟨rfl,⟨_,rfl,bh,bi,rfl,rfl,ah⟩⟩;have ah:=ah b3;refine go ?_;refine wt 2 ?_;refine gs ?_;refine wt 4 ?_;refine go ?_;obtain rfl:=O4 hm;exact jR lE G (fB.agg G isAgg96 sizeOf96 (.head _) G) (.cons _ (.cons _ (.cons _ (.cons_cons _ (.cons_cons _ (.cons _ (.refl _))))))) (.swap _ _ _) ⟨G,ab,aq,bh,bi,G,G,a7.mm.ob,(ah).ob⟩
theorem xN {a0:aD}{v0 v1 v2 v3 v4 v5:OY}{r:Int} (hm:lD a0=some r) (h0:aN H v0 a0.bC) (h1:aN H v1 a0.aM) (h2:aN H v2 a0.aG) (h3:aN H v3 a0.dL) (h4:aN H v4 a0.bA) (h5:aN H v5 a0.bT):
  Cq B w0 82 [.agg [v0,v1,v2,v3,v4,v5].toArray] H M (xX r):=by
 unfold lD at hm;refine fU func82 ?_;refine gs ?_;refine bx (λai=>?_);refine g2 ?_;refine gs ?_;obtain ⟨a9,aa,hm⟩:=aU hm;refine ca @oF aa ?_;rintro _ _ _ ⟨rfl,aj,ak,am,an,rfl,rfl,Y,Z⟩;have Y:=Y H;have Z:=Z H;refine wB G G runUnderlying96 G isAgg48 G G (go ?_);refine rC (.tail _ (.head _)) (λab=>?_);obtain ⟨a7,ac,ad,hm⟩:=cS hm;refine cl [(8,_),(9,_)] [1] 2 [1] 2 (λu m n H' M' L'=>∃ (a1:Nat) (I:List Int),∃ J:Int,(a9.bK).drop a1=I/\I.length=n/\a7 a1 I J=some r/\H.le H'/\m=M'/\(3,.int .i64 (J))::(10,.int .i64 ((a1:Int)))::u=L') _ G ⟨0,_,_,G,G,hm,lE,G,G⟩ ?_;rintro _ ao _ _ ⟨a1,I,J,a8,rfl,hm,ap,rfl,rfl⟩;refine g2 ?_;refine bB G (λO=>?_) (λO=>?_);obtain ⟨aq,ae,rfl,af,ag⟩:=fI a8 O;have hm:=(ac _ _ _ _).symm.trans hm;generalize ah:a7 (a1+1) ae=ar at hm;unfold qC at hm;refine g2 ?_
 refine Lj G G G G (gt ?_);refine gj ?_;exact kj (eb ag ah) (kK (cA af ab));obtain rfl:=fH a8 O;have hm:=(ad _ _).symm.trans hm;refine gs ?_;refine Ek [] 1 ?_;exact ef
theorem rI {a0:aD}{a1:aW}{I:OX}{v0 v1 v2 v3 v4 v5 v6 v7:OY}{r:Int} (hm:mf a0 a1 I=some r) (h0:aN H v0 a0.bC) (h1:aN H v1 a0.aM) (h2:aN H v2 a0.aG) (h3:aN H v3 a0.dL) (h4:aN H v4 a0.bA) (h5:aN H v5 a0.bT) (h6:aN H v6 a1.pw) (h7:aN H v7 a1.bK):
  Cq B w0 43 [.agg [v0,v1,v2,v3,v4,v5].toArray,.agg [v6,v7].toArray,.string (I)] H M (xX r):=by
 unfold mf at hm;refine fU func43 ?_;refine gs ?_;refine bx (λY=>?_);refine bx (λZ=>?_);refine gs ?_;obtain ⟨J,O,hm⟩:=aU hm;obtain ⟨a6,a7,a8,hm⟩:=aC hm;refine oz fm 10 [ph _,ph _,ph _,ph _,ph _,ph _,ph _,ph (.int .i64 (J)),ph _,ph _] ⟨om,om,om,om,om,om,om,?_,om,om,O0⟩ ?_;exact rk tt @bY O;intro a9 aa;refine dz ?_;obtain ⟨ab,ac,ad,hm⟩:=aC hm;refine go ?_;refine Ek [] 2 ?_;exact ef
end Go.Sim
