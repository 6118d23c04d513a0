/-
  The proof, part C1.
-/
import Derived.KernelRfl
import Derived.Shelf.Strconv.Itoa0
import Derived.Shelf.Strconv.Itoa1
import Derived.Shelf.LaysM
import Derived.Shelf.Strconv.Itoa2
import Derived.Shelf.Strconv.Itoa3
import Derived.Shelf.Strconv.Clone
import Derived.Shelf.Strconv.SyntaxError
import Derived.Shelf.LaysC
import Derived.Shelf.Strconv.ToError
import Derived.Shelf.Strconv.Lower
import Derived.Shelf.Strconv.ParseUint10
import Derived.Shelf.Strconv.ParseUint10Empty
import Derived.Shelf.Strconv.ParseUint10Any
import Derived.Shelf.Strconv.RangeError
import Derived.Shelf.Strconv.ToErrorRange
import Derived.Shelf.Strconv.ParseUintEmpty
import Derived.Shelf.Strconv.ParseUint10b64
import Derived.Shelf.Strconv.ParseUint10b32
import Derived.Shelf.Strconv.ParseUint10b16
import Derived.Shelf.Strconv.ParseUint10b8
import Derived.Test.YtkpbgofhndmbnaaGreatDoorProg
import Derived.Test.YtkpbgofhndmbnaaGreatDoorRows
import Derived.Test.YtkpbgofhndmbnaaGreatDoorSqA2
set_option linter.unusedVariables false
set_option linter.unusedSimpArgs false
set_option linter.unusedSectionVars false
set_option linter.unnecessarySimpa false
namespace Go.Sim
abbrev RR := @Int.natCast_nonneg
abbrev Rb := @List.Perm.refl
abbrev So := @List.length_eq_one_iff
abbrev QO := @List.length_nil
abbrev Se := @Nat.and_two_pow_sub_one_eq_mod
abbrev Q1 := @Go.Proofs.Tryz.isAgg29
abbrev S5 := @Go.Proofs.Tryz.runUnderlying206
abbrev R6 := @Go.Proofs.Tryz.runUnderlying213
abbrev PX := @Go.Proofs.Tryz.runUnderlying22
abbrev QK := @Go.Proofs.Tryz.runUnderlying231
abbrev Th := @Go.Proofs.Tryz.runUnderlying25
abbrev RW := @Go.Proofs.Tryz.runUnderlying26
abbrev Sh := @Go.Proofs.Tryz.runUnderlying29
abbrev QX := @Go.Proofs.Tryz.runUnderlying3
abbrev RA := @Go.Proofs.Tryz.runUnderlying4
abbrev Ql := @Go.Proofs.Tryz.runUnderlying80
abbrev Pu := @Go.Proofs.Tryz.runUnderlying9
abbrev QM := @Go.Proofs.Tryz.sizeOf29
abbrev Qz := @Go.Proofs.Tryz.sizeOf3
abbrev QL := @Go.Proofs.Tryz.sizeOf9
abbrev Rq := @Go.Proofs.Tryz.underlying22
abbrev Qx := @Go.Proofs.Tryz.underlying80
abbrev Re := @Go.Proofs.Tryz.zeroValue3
abbrev QQ := @Go.Proofs.Tryz.zeroValue9
end Go.Sim
namespace Go.Sim
open Go
open _root_.Go.IntKind (i64 u64 u32 u8)
theorem G {α : Sort _} {a : α} : a = a := rfl
def zn:Nat->List bL->Option (bL×List bL)
 | _,[]=>none
 | 0,r::l=>some (r,l)
 | n+1,r::l=>match zn n l with
  | some (s,l')=>some (s,r::l')
  | none=>none
theorem tJ:∀ {n:Nat}{l:List bL}{r:bL}{l':List bL},zn n l=some (r,l')->l.Perm (r::l')
 | _,[],_,_,h=>by simp [zn] at h
 | 0,s::l,r,l',h=>by simp only [zn,Pf,Ra] at h; rw [h.1,h.2]
 | n+1,s::l,r,l',h=>by
  simp only [zn] at h
  split at h
  ·rename_i q l2 e
   simp only [Pf,Ra] at h;obtain ⟨rfl,rfl⟩:=h;exact ((tJ e).cons s).trans (List.Perm.swap _ _ _)
  ·cases h
def AR:List Nat->List bL->Option (List bL)
 | [],l=>some l
 | i::is,l=>match zn i l with
  | some (r,l')=>(match AR is l' with
   | some l''=>some (r::l'')
   | none=>none)
  | none=>none
theorem vI:∀ {ix:List Nat}{l l':List bL},AR ix l=some l'->l.Perm l'
 | [],l,l',h=>by simp only [AR,Pf] at h; rw [h]
 | i::is,l,l',h=>by
  simp only [AR] at h
  split at h
  ·rename_i r l1 e
   split at h
   ·rename_i l2 e2
    simp only [Pf] at h;subst h;exact (tJ e).trans ((vI e2).cons r)
   ·cases h
  ·cases h
def Dg:Nat->List bL->Option (List bL)
 | 0,l=>some l
 | _+1,[]=>none
 | n+1,_::l=>Dg n l
theorem Bp:∀ {n:Nat}{l l':List bL},Dg n l=some l'->l'.Sublist l
 | 0,l,l',h=>by simp only [Dg,Pf] at h; rw [h]; exact Q5 _
 | n+1,[],l',h=>by simp [Dg] at h
 | n+1,r::l,l',h=>(Bp (n:=n) (l:=l) h).cons r
def xv:List Nat->Nat->List bL->Option (List bL)
 | [],d,l=>Dg d l
 | i::is,d,l=>match zn i l with
  | some (r,l')=>(match xv is d l' with
   | some l''=>some (r::l'')
   | none=>none)
  | none=>none
theorem yS:∀ {ix:List Nat}{d:Nat}{l l':List bL},xv ix d l=some l'->∃ k,l.Perm k/\l'.Sublist k
 | [],d,l,l',h=>⟨l,Rb _,Bp h⟩
 | i::is,d,l,l',h=>by
  simp only [xv] at h
  split at h
  ·rename_i r l1 e
   split at h
   ·rename_i l2 e2
    simp only [Pf] at h;subst h;obtain ⟨k,hk,hs⟩:=yS e2;exact ⟨r::k,(tJ e).trans (hk.cons r),hs.cons_cons r⟩
   ·cases h
  ·cases h
def Jj:List Nat->List bL->Option (List (List bL)×List bL)
 | [],l=>some ([],l)
 | i::is,l=>match zn i l with
  | some (r,l')=>(match Jj is l' with
   | some (I,m)=>some ([r]::I,m)
   | none=>none)
  | none=>none
theorem BJ:∀ {ix:List Nat}{l:List bL}{I:List (List bL)}{m:List bL},Jj ix l=some (I,m)->l.Perm (I.flatten++m)
 | [],l,I,m,h=>by simp only [Jj,Pf,Ra] at h; obtain ⟨rfl,rfl⟩:=h; exact Rb _
 | i::is,l,I,m,h=>by
  simp only [Jj] at h
  split at h
  ·rename_i r l1 e
   split at h
   ·rename_i I2 m2 e2
    simp only [Pf,Ra] at h;obtain ⟨rfl,rfl⟩:=h;simpa using (tJ e).trans ((BJ e2).cons r)
   ·cases h
  ·cases h
section
variable {x:Cx}{ops:Array Oper}{Q:lC}{rest:List Oper}{H:Hp}{M M':List bL}{L L':Env}{e:Exit}{c:Code}
theorem Wp (ix:List Nat) (k:W x ops Q rest H M' L) (h:AR ix M=some M':=by rfl):W x ops Q rest H M L:=nE (vI h) k
theorem Cp (ix:List Nat) (k:Sim.C x c Q H M' L) (h:AR ix M=some M':=by rfl):Sim.C x c Q H M L:=zE (vI h) k
theorem Ep (ix:List Nat) (k:E x e Q H M' L) (h:AR ix M=some M':=by rfl):E x e Q H M L:=D8 (vI h) k
theorem Ek (ix:List Nat) (d:Nat) (k:E x e Q H M' L) (h:xv ix d M=some M':=by rfl):E x e Q H M L:=by
 obtain ⟨n,hp,hs⟩:=yS h;exact D8 hp (Hq hs k)
theorem Ck (ix:List Nat) (d:Nat) (k:Sim.C x c Q H M' L) (h:xv ix d M=some M':=by rfl):Sim.C x c Q H M L:=by
 obtain ⟨n,hp,hs⟩:=yS h;exact zE hp (λa w s t=>k a w s (t.sub hs))
theorem kx (ix:List Nat) (d:Nat) (k:E x e Q H M' L') (h:xv ix d M=some M':=by rfl) (hL:Kept L L':=by repeat first | exact OV | refine ⟨rfl,?_⟩):E x e Q H M L:=
 Ek ix d (BK hL (Rb _) k) h
theorem NI (ix:List Nat) (d:Nat) (S:Bm) (n:Nat) (h0:S n H M' L') (step:∀ n H M L,S n H M L->Sim.C x c (Exit.then (Hn x S n) Q) H M L) (h:xv ix d M=some M':=by rfl) (hL:Kept L L':=by repeat first | exact OV | refine ⟨rfl,?_⟩):Sim.C x (.loop c) Q H M L:=
 Ck ix d (zC hL (Rb _) (zD S n h0 step)) h
end
def G7:Nat->Value->List Value->Option (List Value)
 | _,_,[]=>none
 | 0,v,_::l=>some (v::l)
 | n+1,v,u::l=>match G7 n v l with
  | some l'=>some (u::l')
  | none=>none
def zf:List Value->Nat->List Value->Option (List Value)
 | l,_,[]=>some l
 | l,k,v::vs=>match G7 k v l with
  | some l'=>zf l' (k+1) vs
  | none=>none
theorem F6:∀ {n:Nat}{v:Value}{l l':List Value},G7 n v l=some l'->l.set n v=l'/\n<l.length
 | _,_,[],_,h=>by simp [G7] at h
 | 0,v,u::l,l',h=>by simp only [G7,Pf] at h; subst h; exact ⟨rfl,by simp⟩
 | n+1,v,u::l,l',h=>by
  simp only [G7] at h
  split at h
  ·rename_i l2 e
   simp only [Pf] at h;subst h;obtain ⟨h1,h2⟩:=F6 e;exact ⟨by simp [h1],by simp; omega⟩
  ·cases h
theorem AP:∀ {vs:List Value}{l:List Value}{k:Nat}{l':List Value},zf l k vs=some l'->over l k vs=l'/\(vs=[]\/k+vs.length<=l.length)
 | [],l,k,l',h=>by simp only [zf,Pf] at h; subst h; exact ⟨rfl,.inl rfl⟩
 | v::vs,l,k,l',h=>by
  simp only [zf] at h
  split at h
  ·rename_i l2 e
   obtain ⟨h1,h2⟩:=F6 e;obtain ⟨h3,h4⟩:=AP h;refine ⟨by simp only [over]; rw [h1]; exact h3,.inr ?_⟩
   have hl:l2.length=l.length:=by rw [<- h1]; simp
   rcases h4 with rfl | h4
   ·simp; omega
   ·simp only [O6]; omega
  ·cases h
section
variable {x:Cx}{ops:Array Oper}{Q:lC}{rest:List Oper}{H:Hp}{M M':List bL}{L L':Env}{ty:TypeId}{pos:String}{aft:Array Edge}{g:Option (Nat×Bool)}
theorem ws (i:Nat) {T U n b o:Nat}{y z:Operand}{l cs out:List Value}{v:Value}{M1:List bL} (hv:v.cells=cs.toArray)
  (k:W x ops Q rest H (.obj b (.cells out.toArray U (0,0))::M1) L)
  (h1:∀ c ∈ cs,c.oneCell'=true:=by repeat first | exact QG | refine O_ rfl ?_)
  (hy:ev L y=some (.pointer (some ⟨b,o,none⟩)):=by rfl) (hz:ev L z=some v:=by rfl) (hM:zn i M=some (.obj b (.cells l.toArray U (0,0)),M1):=by rfl)
  (hg:gd ops L ⟨none,.store T y z,ty,pos,aft,g⟩=some true:=by rfl) (hn:∀ w,(sizeOf T).run x.P w=.ok n w:=by exact λ_=>rfl) (hl:cs.length=n:=by rfl) (ho:zf l o cs=some out:=by rfl):
  W x ops Q (⟨none,.store T y z,ty,pos,aft,g⟩::rest) H M L:=by
 refine nE (tJ hM) ?_;obtain ⟨h2,h3⟩:=AP ho;rcases h3 with rfl | h3
 ·have h2:l=out:=h2
  subst h2;exact BW rfl hg (λa w hs ht=>⟨w,by
   have hl0:n=0:=hl.symm;subst hl0;simp [execOp,hs.ev hy,hs.ev hz,Instr.storeAt,Instr.sureAddr,storeVar,hn,hv,storeCells],H,_,ht,k⟩)
 ·exact BX hg hn hy hz hv hl (by simpa [Ru] using h3) h1 h2 k
end
def LM:Nat->List bL->Option (List bL)
 | 0,l=>some l
 | _+1,[]=>none
 | n+1,r::l=>match LM n l with
  | some l'=>some (r::l')
  | none=>none
theorem EJ:∀ {n:Nat}{l l':List bL},LM n l=some l'->l=l'
 | 0,l,l',h=>by simpa [LM] using h
 | n+1,[],l',h=>by simp [LM] at h
 | n+1,r::l,l',h=>by
  simp only [LM] at h
  split at h
  ·rename_i l2 e
   simp only [Pf] at h;subst h;rw [EJ e]
  ·cases h
section
variable {x:Cx}{ops:Array Oper}{Q:lC}{rest:List Oper}{H:Hp}{M M' M1:List bL}{rs:List bL}{L L':Env}{e:Exit}{c:Code}
theorem Wu (n:Nat) (k:W x ops Q rest H M' L) (h:M=iT rs::M1:=by rfl) (h2:LM n (rs++M1)=some M':=by rfl):W x ops Q rest H M L:=λa w hs ht=>k a w hs (by rw [<- EJ h2]; rw [h] at ht; exact ht.unpack)
theorem Cu (n:Nat) (k:Sim.C x c Q H M' L) (h:M=iT rs::M1:=by rfl) (h2:LM n (rs++M1)=some M':=by rfl):Sim.C x c Q H M L:=λa w hs ht=>k a w hs (by rw [<- EJ h2]; rw [h] at ht; exact ht.unpack)
theorem Wk (rs:List bL) (k:W x ops Q rest H (iT rs::M1) L) (h:rs++M1=M:=by rfl):W x ops Q rest H M L:=λa w hs ht=>k a w hs (by rw [<- h] at ht; exact ht.pack)
theorem xe (rs:List bL) (k:E x e Q H (iT rs::M1) L) (h:rs++M1=M:=by rfl):E x e Q H M L:=λa w hs ht=>k a w hs (by rw [<- h] at ht; exact ht.pack)
end
section
variable {x:Cx}{ops:Array Oper}{Q:lC}{rest:List Oper}{H:Hp}{M:List bL}{L:Env}{e:Exit}{c:Code}
theorem uk (k:W x ops Q rest H M L):W x ops Q rest H M L:=k
theorem MN (k:E x e Q H M L):E x e Q H M L:=k
theorem MM (k:Go.Sim.C x c Q H M L):Go.Sim.C x c Q H M L:=k
end
section
variable {x:Cx}{ops:Array Oper}{Q:lC}{rest:List Oper}{H:Hp}{M:List bL}{L:Env}{d:Nat}{ty:TypeId}{pos:String}{aft:Array Edge}{g:Option (Nat×Bool)}
theorem fq {T:TypeId}{y:Operand}{ad:Addr}{f n o ft bo:Nat}{fs:Array Field}{nm tg pp:String}{em:Bool} (k:W x ops Q rest H M ((d,.pointer (some (ad.add o)))::L))
  (hy:ev L y=some (.pointer (some ad)):=by rfl) (hT:∀ w,(underlying T).run x.P w=.ok (.struct fs) w:=by exact λ_=>rfl) (hf:fs[f]? = some ⟨nm,ft,o,em,tg,pp,bo⟩:=by rfl) (hn:∀ w,(sizeOf ft).run x.P w=.ok n w:=by exact λ_=>rfl)
  (hn0:Nat.beq n 0=false:=by rfl) (hg:gd ops L ⟨some d,.fieldAddr T y f,ty,pos,aft,g⟩=some true:=by rfl) (hN:Nat.blt d x.N=true:=by rfl):
  W x ops Q (⟨some d,.fieldAddr T y f,ty,pos,aft,g⟩::rest) H M L:=tn hg hN hT hf hn hn0 rfl hy k
end
section
variable {x:Cx}{ops:Array Oper}{Q:lC}{rest:List Oper}{H:Hp}{M:List bL}{L:Env}{d:Nat}{ty:TypeId}{pos:String}{aft:Array Edge}{g:Option (Nat×Bool)}{y z c:Operand}{T U:TypeId}{n:Nat}{o:Oper}{op:BinOp}{uo:UnOp}{tys:Array TypeId}{fn:Fn}{ys bs:Array Operand}
theorem MO (k:W x ops Q (o::rest) H M L):W x ops Q (o::rest) H M L:=k
theorem p1 (k:W x ops Q (⟨some d,.move y,ty,pos,aft,g⟩::rest) H M L):W x ops Q (⟨some d,.move y,ty,pos,aft,g⟩::rest) H M L:=k
theorem p2 (k:W x ops Q (⟨some d,.assign y,ty,pos,aft,g⟩::rest) H M L):W x ops Q (⟨some d,.assign y,ty,pos,aft,g⟩::rest) H M L:=k
theorem p3 (k:W x ops Q (⟨some d,.fieldAddr T y n,ty,pos,aft,g⟩::rest) H M L):W x ops Q (⟨some d,.fieldAddr T y n,ty,pos,aft,g⟩::rest) H M L:=k
theorem p4 (k:W x ops Q (⟨some d,.load T y,ty,pos,aft,g⟩::rest) H M L):W x ops Q (⟨some d,.load T y,ty,pos,aft,g⟩::rest) H M L:=k
theorem p5 (k:W x ops Q (⟨some d,.binOp op T y z U,ty,pos,aft,g⟩::rest) H M L):W x ops Q (⟨some d,.binOp op T y z U,ty,pos,aft,g⟩::rest) H M L:=k
theorem p6 (k:W x ops Q (⟨some d,.pick c y z,ty,pos,aft,g⟩::rest) H M L):W x ops Q (⟨some d,.pick c y z,ty,pos,aft,g⟩::rest) H M L:=k
theorem p7 (k:W x ops Q (⟨some d,.extract y n,ty,pos,aft,g⟩::rest) H M L):W x ops Q (⟨some d,.extract y n,ty,pos,aft,g⟩::rest) H M L:=k
theorem p8 (k:W x ops Q (⟨some d,.nilCheck y,ty,pos,aft,g⟩::rest) H M L):W x ops Q (⟨some d,.nilCheck y,ty,pos,aft,g⟩::rest) H M L:=k
theorem p9 (k:W x ops Q (⟨some d,.unOp uo T y,ty,pos,aft,g⟩::rest) H M L):W x ops Q (⟨some d,.unOp uo T y,ty,pos,aft,g⟩::rest) H M L:=k
theorem pa (k:W x ops Q (⟨some d,.convert T U y,ty,pos,aft,g⟩::rest) H M L):W x ops Q (⟨some d,.convert T U y,ty,pos,aft,g⟩::rest) H M L:=k
theorem pb (k:W x ops Q (⟨some d,.makeFunc fn ys bs,ty,pos,aft,g⟩::rest) H M L):W x ops Q (⟨some d,.makeFunc fn ys bs,ty,pos,aft,g⟩::rest) H M L:=k
theorem pc (k:W x ops Q (⟨some d,.call ⟨.builtin .len,#[y],#[T]⟩,ty,pos,aft,g⟩::rest) H M L):W x ops Q (⟨some d,.call ⟨.builtin .len,#[y],#[T]⟩,ty,pos,aft,g⟩::rest) H M L:=k
theorem pg {j:Nat}{w:Bool}{oo:Op}{dd:Option Nat} (k:W x ops Q (⟨dd,oo,ty,pos,aft,some (j,w)⟩::rest) H M L):W x ops Q (⟨dd,oo,ty,pos,aft,some (j,w)⟩::rest) H M L:=k
end
abbrev ph (a:Value):Hp->List bL->Value->Prop:=λ_ rs v=>[]=rs/\a=v
def nn (n:Nat):List (List Nat):=List.replicate n []
section
variable {x:Cx}{ops:Array Oper}{Q:lC}{H H':Hp}{M:List bL}{L:Env}{t:Nat}{ps:Option Nat}{v:Value}{φ:Hp->List bL->Value->Prop}
theorem o0 (h:φ H [] v):W x ops (BO x H M L (some t) ps φ) [] H M ((t,v)::L):=aZ (eZ [] (PT _) h)
theorem oe (rs:List bL) (hle:H.le H') (h:φ H' rs v):W x ops (BO x H M L (some t) ps φ) [] H' (rs++M) ((t,v)::L):=aZ (eZ rs hle h)
end
theorem dr {P Q:Prop} (k:Q) (h:Q->P:=by
  intro k
  repeat (rintro _ _ ⟨rfl,rfl⟩)
  exact k):P:=h k
theorem dz {P Q:Prop} (k:Q) (h:Q->P:=by
  intro k
  repeat (rintro _ _ ⟨rfl,rfl⟩)
  refine uk ?_;exact k):P:=h k
theorem ma {P:Prop} (h:P:=by
    repeat' first
      | exact OV
      | exact fV _ _
      | refine ⟨?_,?_⟩
      | (intro H1 H2 rs v hle
         repeat' first
           | exact λh=>h
           | exact λh=>aP.mono hle h
           | exact λh=>Rw.mono hle h
           | exact λh=>pD.mono hle h
           | exact λh=>gS.mono hle h
           | exact λh=>Mx.mono h hle
           | refine Exists.imp (λ_=>?_)
           | refine And.imp ?_ ?_)):P:=h
theorem NW {x:Cx}{l:List Oper}{Q:lC}{H:Hp}{M:List bL}{L:Env}{id:Nat} (hmix:x.P.follows .mixedOrders=true) (m:Nat) (F:List (Hp->List bL->Value->Prop)) (C U:List (List Nat)) (I:List (List bL)) (live:List Nat)
  (hop:wy x l (yu F) C U [] (CR m I) H M L 0 (l.take m))
  (k:∀ H',H.le H'->vp l (yu F) H' (List.range m) L (CR m I) (λL' R=>W x l.toArray Q (l.drop m) H' (sV live R M) L'))
  (hB:ui l m=true:=by kernel_rfl) (hml:Nat.ble m l.length=true:=by rfl) (hD:xF l m L=true:=by rfl) (hNd:xG l m=true:=by rfl)
  (hT:Fb l m (m+I.length) C U live=true:=by kernel_rfl) (hmono:zH F:=by exact ma):Go.Sim.C x (.region id l.toArray true) Q H (I.flatten++M) L:=
 qO m (yu F) C U I live hmix hB hml hD hNd hT (tK hmono) hop k
def Ny:Nat->Nat->List (Nat×List Nat)->List (List Nat)
 | 0,_,_=>[]
 | n+1,i,[]=>[]::Ny n (i+1) []
 | n+1,i,(j,c)::l=>bif Nat.beq i j then c::Ny n (i+1) l else []::Ny n (i+1) ((j,c)::l)
def sp (n:Nat) (l:List (Nat×List Nat)):List (List Nat):=Ny n 0 l
theorem yV {x:Cx}{l:List Oper}{Q:lC}{H:Hp}{M M0:List bL}{L:Env}{id:Nat}{I:List (List bL)} (hmix:x.P.follows .mixedOrders=true) (m:Nat) (F:List (Hp->List bL->Value->Prop)) (C U:List (List Nat)) (ix live:List Nat)
  (hI:Jj ix M=some (I,M0))
  (hop:wy x l (yu F) C U [] (CR m I) H M0 L 0 (l.take m))
  (k:∀ H',H.le H'->vp l (yu F) H' (List.range m) L (CR m I) (λL' R=>W x l.toArray Q (l.drop m) H' (sV live R M0) L'))
  (hB:ui l m=true:=by kernel_rfl) (hml:Nat.ble m l.length=true:=by rfl) (hD:xF l m L=true:=by rfl) (hNd:xG l m=true:=by rfl)
  (hT:Fb l m (m+I.length) C U live=true:=by kernel_rfl) (hmono:zH F:=by exact ma):Go.Sim.C x (.region id l.toArray true) Q H M L:=
 zE (BJ hI) (NW hmix m F C U I live hop k hB hml hD hNd hT hmono)
theorem oz {x:Cx}{l:List Oper}{Q:lC}{H:Hp}{M:List bL}{L:Env}{id:Nat} (hmix:x.P.follows .mixedOrders=true) (m:Nat) (F:List (Hp->List bL->Value->Prop))
  (hop:wy x l (yu F) (nn m) (nn m) [] (CR m []) H M L 0 (l.take m))
  (k:∀ H',H.le H'->vp l (yu F) H' (List.range m) L (CR m []) (λL' R=>W x l.toArray Q (l.drop m) H' (sV (List.range m) R M) L'))
  (hB:ui l m=true:=by kernel_rfl) (hml:Nat.ble m l.length=true:=by rfl) (hD:xF l m L=true:=by rfl) (hNd:xG l m=true:=by rfl)
  (hT:Fb l m m (nn m) (nn m) (List.range m)=true:=by kernel_rfl) (hmono:zH F:=by exact ma):Go.Sim.C x (.region id l.toArray true) Q H M L:=
 qO m (yu F) (nn m) (nn m) [] (List.range m) hmix hB hml hD hNd hT (tK hmono) hop k
theorem cU {α σ R:Type}{B:Nat->α->σ->(σ->Option R)->Option R}{K:σ->Option R}{l:List α}{s:σ}{r:Option R}{i:Nat} (h:dR B K i l s=r):
  ∃ F:Nat->List α->σ->Option R,(∀ i y ys s,F i (y::ys) s=B i y s (F (i+1) ys))/\(∀ i s,F i [] s=K s)/\F i l s=r:=⟨dR B K,λ_ _ _ _=>rfl,λ_ _=>rfl,h⟩
theorem iG {σ R:Type}{B:Nat->σ->(σ->Option R)->Option R}{K:σ->Option R}{m:Nat}{s:σ}{r:Option R}{i:Nat} (h:jN B K m i s=r):
  ∃ F:Nat->Nat->σ->Option R,(∀ m i s,F (m+1) i s=B i s (F m (i+1)))/\(∀ i s,F 0 i s=K s)/\F m i s=r:=⟨jN B K,λ_ _ _=>rfl,λ_ _=>rfl,h⟩
theorem jO {σ R:Type}{B:σ->(σ->Option R)->Option R}{m:Nat}{s:σ}{r:Option R} (h:gH B m s=r):
  ∃ F:Nat->σ->Option R,(∀ m s,F (m+1) s=B s (F m))/\(∀ s,F 0 s=none)/\F m s=r:=⟨gH B,λ_ _=>rfl,λ_=>rfl,h⟩
section
variable {x:Cx}{Q:lC}{H:Hp}{M M':List bL}{L L':Env}{e:Exit}{c:Code}
theorem kj (k:E x e Q H M L') (hL:Kept L L':=by repeat first | exact OV | refine ⟨rfl,?_⟩):E x e Q H M L:=BK hL (Rb _) k
theorem kp (k:E x e Q H M' L') (hM:M.Perm M') (hL:Kept L L':=by repeat first | exact OV | refine ⟨rfl,?_⟩):E x e Q H M L:=BK hL hM k
theorem LB (S:Bm) (n:Nat) (h0:S n H M L') (step:∀ n H M L,S n H M L->Go.Sim.C x c (Exit.then (Hn x S n) Q) H M L) (hL:Kept L L':=by repeat first | exact OV | refine ⟨rfl,?_⟩):Go.Sim.C x (.loop c) Q H M L:=
 zC hL (Rb _) (zD S n h0 step)
theorem cj {m:List bL}{d:Code} (u:Env) (ix:List Nat) (e:Nat) (S:Env->List bL->Mz) (rest:∀ H M L,S u m H M L->Go.Sim.C x d Q H M L)
  (k:(∀ H M L,S u m H M L->E x .normal (Exit.then (d.wp x.P Q) Q) H M L)->Go.Sim.C x c (Exit.then (d.wp x.P Q) Q) H M L) (hm:xv ix e M=some m:=by rfl) (hu:Kept L u:=by repeat first | exact OV | refine ⟨rfl,?_⟩):Go.Sim.C x (.seq c d) Q H M L:=
 qZ (S u m) rest k
theorem cl {m:List bL} (u:Env) (jx:List Nat) (e:Nat) (ix:List Nat) (d:Nat) (S:Env->List bL->Bm) (n:Nat) (hm:xv jx e M=some m) (h0:S u m n H M' L') (step:∀ n H M L,S u m n H M L->Go.Sim.C x c (Exit.then (Hn x (S u m) n) Q) H M L)
  (h:xv ix d M=some M':=by rfl) (hu:Kept L u:=by repeat first | exact OV | refine ⟨rfl,?_⟩) (hL:Kept L L':=by repeat first | exact OV | refine ⟨rfl,?_⟩):Go.Sim.C x (.loop c) Q H M L:=
 NI ix d (S u m) n h0 step h hL
theorem cd {α:Type}{o:Operand}{p q:Code}{b:Bool}{u v r:α} (hm:(if b=true then u else v)=r) (hb:ev L o=some (.bool b)) (k1:b=true->u=r->Go.Sim.C x p Q H M L) (k2:b=false->v=r->Go.Sim.C x q Q H M L):Go.Sim.C x (.cond o p q) Q H M L:=
 bC hb (λh=>k1 h (eG h hm)) (λh=>k2 h (eF h hm))
theorem cT {o:Operand}{p q:Code} (hb:ev L o=some (.bool true)) (k:Go.Sim.C x p Q H M L):Go.Sim.C x (.cond o p q) Q H M L:=bC hb (λ_=>k) (λh=>Bool.noConfusion h)
theorem cF {o:Operand}{p q:Code} (hb:ev L o=some (.bool false)) (k:Go.Sim.C x q Q H M L):Go.Sim.C x (.cond o p q) Q H M L:=bC hb (λh=>Bool.noConfusion h) (λ_=>k)
end
theorem sb {a b:Bool} (h:a=b):some (Value.bool a)=some (Value.bool b):=by rw [h]
theorem Hk:(∀ b,(b && true)=b)/\(∀ b,(true && b)=b)/\(∀ b,(false && b)=false)/\(∀ b,(b && false)=false)/\(∀ b,(b || true)=true)/\(∀ b,(true || b)=true)/\(∀ b,(b || false)=b)/\(∀ b,(false || b)=b)/\(!true)=false/\(!false)=true/\(∀ α:Type,(none:Option α).isNone=true)/\(∀ (α:Type) (a:α),(some a).isNone=false):=by
 refine ⟨?_,?_,?_,?_,?_,?_,?_,?_,rfl,rfl,λ_=>rfl,λ_ _=>rfl⟩ <;> intro b <;> cases b <;> rfl
section
variable {x:Cx}{ops:Array Oper}{Q:lC}{rest:List Oper}{H:Hp}{M:List bL}{L:Env}{d:Nat}{ty:TypeId}{pos:String}{aft:Array Edge}{g:Option (Nat×Bool)}
theorem lo {T b i U:Nat}{fz:Nat×Nat}{y:Operand}{l:List Value}{v:Value} (hT:∀ w,(isAgg T).run x.P w=.ok false w) (hy:ev L y=some (.pointer (some ⟨b,i,none⟩))) (hm:bL.obj b (.cells l.toArray U fz) ∈ M) (hc:l[i]? = some v)
  (k:W x ops Q rest H M ((d,v)::L)) (hg:gd ops L ⟨some d,.load T y,ty,pos,aft,g⟩=some true:=by rfl) (hN:Nat.blt d x.N=true:=by rfl):W x ops Q (⟨some d,.load T y,ty,pos,aft,g⟩::rest) H M L:=
 pJ hg hN hT hy (uP hm hc) k
theorem la {T b U n:Nat}{fz:Nat×Nat}{y:Operand}{l:List Value} (hT:∀ w,(isAgg T).run x.P w=.ok true w) (hn:∀ w,(sizeOf T).run x.P w=.ok n w) (hy:ev L y=some (.pointer (some ⟨b,0,none⟩))) (hm:bL.obj b (.cells l.toArray U fz) ∈ M) (hl:l.length=n)
  (k:W x ops Q rest H M ((d,.agg l.toArray)::L)) (hg:gd ops L ⟨some d,.load T y,ty,pos,aft,g⟩=some true:=by rfl) (hN:Nat.blt d x.N=true:=by rfl):W x ops Q (⟨some d,.load T y,ty,pos,aft,g⟩::rest) H M L:=
 cA hg hN hT hn hy (Cz hm) hl k
theorem fi {T:TypeId}{y:Operand}{ad:Addr}{f n:Nat}{fs:Array Field}{fd:Field} (o:Nat) (hT:∀ w,(underlying T).run x.P w=.ok (.struct fs) w) (hf:fs[f]? = some fd) (hn:∀ w,(sizeOf fd.type).run x.P w=.ok n w) (hy:ev L y=some (.pointer (some ad)))
  (k:W x ops Q rest H M ((d,.pointer (some (ad.add o)))::L)) (ho:fd.offset=o:=by rfl) (hn0:Nat.beq n 0=false:=by rfl) (hg:gd ops L ⟨some d,.fieldAddr T y f,ty,pos,aft,g⟩=some true:=by rfl) (hN:Nat.blt d x.N=true:=by rfl):
  W x ops Q (⟨some d,.fieldAddr T y f,ty,pos,aft,g⟩::rest) H M L:=tn hg hN hT hf hn hn0 ho hy k
end
theorem lE {H H':Hp} (h:H.le H':=by first | exact PT _ | assumption | ((repeat first | assumption | exact PT _ | refine SD ?_ (by assumption)); done)):H.le H':=h
section
variable {α:Type}[aF α] {H H':Hp}{v:Value}{xs:List Value}{l:List α}{ad:Addr}
theorem aP.mm (h:aP H v l) (e:H.le H':=by exact lE):aP H' v l:=aP.mono e h
theorem Rw.mm (h:Rw H v xs l) (e:H.le H':=by exact lE):Rw H' v xs l:=Rw.mono e h
theorem pD.mm (h:pD H xs l) (e:H.le H':=by exact lE):pD H' xs l:=pD.mono e h
theorem gS.mm (h:gS H ad xs) (e:H.le H':=by exact lE):gS H' ad xs:=gS.mono e h
theorem Mx.mm {T1 T2:TypeId}{hs:List Value}{mx:List bL}{sg:List Nat}{ls:List (List α)} (h:Mx T1 T2 H v hs mx sg ls) (e:H.le H':=by exact lE):Mx T1 T2 H' v hs mx sg ls:=Mx.mono h e
end
section
variable {x:Cx}{ops:Array Oper}{Q:lC}{rest:List Oper}{H H0:Hp}{M:List bL}{L:Env}{d:Nat}{ty:TypeId}{pos:String}{aft:Array Edge}{g:Option (Nat×Bool)}{ee:Exit}
theorem Ew (H0:Hp) (k:E x ee Q H0 M L) (h:H0.le H:=by exact lE):E x ee Q H M L:=D9 h k
theorem Ar {α:Type}[aF α] {t e:TypeId}{y z:Operand}{v:Value}{xs:List α}{el:α}{kk:IntKind}{i:Int}{n:Nat} (hR:aP H0 v xs) (he:xs[n]? = some el)
  (k:W x ops Q rest H M ((d,.pointer (some ((Value.base v).add (i.toNat*aF.sz α))))::L)) (hle:H0.le H:=by exact lE) (hy:ev L y=some v:=by rfl) (hz:ev L z=some (.int kk i):=by rfl) (hn:i.toNat=n:=by rfl)
  (h0:0<=i:=by first | exact RR _ | assumption | decide) (hT:∀ w,(underlying t).run x.P w=.ok (.slice e) w:=by exact λ_=>rfl) (hs:∀ w,(sizeOf e).run x.P w=.ok (aF.sz α) w:=by exact λ_=>rfl)
  (hg:gd ops L ⟨some d,.indexAddr t y z,ty,pos,aft,g⟩=some true:=by rfl) (hN:Nat.blt d x.N=true:=by rfl):W x ops Q (⟨some d,.indexAddr t y z,ty,pos,aft,g⟩::rest) H M L:=
 C1 hg hN hT hs hy (aP.mono hle hR) hz h0 (by rw [hn]; exact he) k
theorem lr {α:Type}[aF α] {t e:TypeId}{y:Operand}{v:Value}{xs:List α} (hR:aP H0 v xs) (k:W x ops Q rest H M ((d,.int .i64 xs.length)::L)) (hle:H0.le H:=by exact lE) (hy:ev L y=some v:=by rfl)
  (hT:∀ w,(underlying t).run x.P w=.ok (.slice e) w:=by exact λ_=>rfl) (hg:gd ops L ⟨some d,.call ⟨.builtin .len,#[y],#[t]⟩,ty,pos,aft,g⟩=some true:=by rfl) (hN:Nat.blt d x.N=true:=by rfl):
  W x ops Q (⟨some d,.call ⟨.builtin .len,#[y],#[t]⟩,ty,pos,aft,g⟩::rest) H M L:=HG hg hN hT hy (aP.mono hle hR) k
theorem sX {α:Type}{v:Value}{T:TypeId}{sz n:Nat}{xs:List Value}{t e:TypeId}{y z:Operand}{kk:IntKind}{i:Int}{l:List α}{el:α} (he:l[n]? = some el)
  (k:W x ops Q rest H M ((d,.pointer (some ((Value.base v).add (i.toNat*sz))))::L)) (hy:ev L y=some v:=by rfl) (hz:ev L z=some (.int kk i):=by rfl) (hn:i.toNat=n:=by rfl)
  (hm:bL.row v T sz l.length xs ∈ M:=by first | ((repeat first | exact List.Mem.head _ | refine List.Mem.tail _ ?_); done) | (refine hR _ ?_; (repeat first | exact List.Mem.head _ | refine List.Mem.tail _ ?_); done) | (refine hU _ ?_; (repeat first | exact List.Mem.head _ | refine List.Mem.tail _ ?_); done))
  (h0:0<=i:=by first | exact RR _ | assumption | decide) (hT:∀ w,(underlying t).run x.P w=.ok (.slice e) w:=by exact λ_=>rfl) (hs:∀ w,(sizeOf e).run x.P w=.ok sz w:=by exact λ_=>rfl)
  (hg:gd ops L ⟨some d,.indexAddr t y z,ty,pos,aft,g⟩=some true:=by rfl) (hN:Nat.blt d x.N=true:=by rfl):W x ops Q (⟨some d,.indexAddr t y z,ty,pos,aft,g⟩::rest) H M L:=
 xY hm hg hN hT hs hy hz h0 (by rw [hn]; exact (OY.1 he).1) k
theorem lh {T:TypeId}{y:Operand}{ad:Addr}{cs:List Value}{v:Value} (hc:gS H0 ad cs) (o:Nat) (k:W x ops Q rest H M ((d,v)::L)) (hle:H0.le H:=by exact lE) (hy:ev L y=some (.pointer (some (ad.add o))):=by rfl) (hv:cs[o]? = some v:=by rfl)
  (hT:∀ w,(isAgg T).run x.P w=.ok false w:=by exact λ_=>rfl) (hg:gd ops L ⟨some d,.load T y,ty,pos,aft,g⟩=some true:=by rfl) (hN:Nat.blt d x.N=true:=by rfl):W x ops Q (⟨some d,.load T y,ty,pos,aft,g⟩::rest) H M L:=
 pJ hg hN hT hy (gS.one (gS.mono hle hc) o hv).at k
theorem MQ {T:TypeId}{n:Nat}{y:Operand}{ad:Addr}{cs:List Value} (hc:gS H0 ad cs) (k:W x ops Q rest H M ((d,.agg cs.toArray)::L)) (hle:H0.le H:=by exact lE) (hy:ev L y=some (.pointer (some ad)):=by rfl)
  (hT:∀ w,(isAgg T).run x.P w=.ok true w:=by exact λ_=>rfl) (hn:∀ w,(sizeOf T).run x.P w=.ok n w:=by exact λ_=>rfl) (hl:cs.length=n:=by rfl) (hg:gd ops L ⟨some d,.load T y,ty,pos,aft,g⟩=some true:=by rfl) (hN:Nat.blt d x.N=true:=by rfl):
  W x ops Q (⟨some d,.load T y,ty,pos,aft,g⟩::rest) H M L:=cA hg hN hT hn hy (gS.mono hle hc).at hl k
theorem xt {T U:TypeId}{y:Operand}{v w:Value}{sz n i:Nat}{xs cs:List Value} (hc:∀ j u,cs[j]? = some u->xs[i+j]? = some u) (k:W x ops Q rest H M ((d,w)::L)) (hy:ev L y=some (.pointer (some ((Value.base v).add i))):=by rfl)
  (hm:bL.row v U sz n xs ∈ M:=by first | ((repeat first | exact List.Mem.head _ | refine List.Mem.tail _ ?_); done) | (refine hR _ ?_; (repeat first | exact List.Mem.head _ | refine List.Mem.tail _ ?_); done) | (refine hU _ ?_; (repeat first | exact List.Mem.head _ | refine List.Mem.tail _ ?_); done))
  (hd:cs[0]? = some w:=by rfl) (hT:∀ w,(isAgg T).run x.P w=.ok false w:=by exact λ_=>rfl) (hg:gd ops L ⟨some d,.load T y,ty,pos,aft,g⟩=some true:=by rfl) (hN:Nat.blt d x.N=true:=by rfl):
  W x ops Q (⟨some d,.load T y,ty,pos,aft,g⟩::rest) H M L:=pJ hg hN hT hy (AV hm hc hd) k
theorem Oe {T U:TypeId}{m:Nat}{y:Operand}{v:Value}{sz n i:Nat}{xs cs:List Value} (hc:∀ j u,cs[j]? = some u->xs[i+j]? = some u) (k:W x ops Q rest H M ((d,.agg cs.toArray)::L)) (hy:ev L y=some (.pointer (some ((Value.base v).add i))):=by rfl)
  (hm:bL.row v U sz n xs ∈ M:=by first | ((repeat first | exact List.Mem.head _ | refine List.Mem.tail _ ?_); done) | (refine hR _ ?_; (repeat first | exact List.Mem.head _ | refine List.Mem.tail _ ?_); done) | (refine hU _ ?_; (repeat first | exact List.Mem.head _ | refine List.Mem.tail _ ?_); done))
  (hT:∀ w,(isAgg T).run x.P w=.ok true w:=by exact λ_=>rfl) (hn:∀ w,(sizeOf T).run x.P w=.ok m w:=by exact λ_=>rfl) (hl:cs.length=m:=by rfl) (hg:gd ops L ⟨some d,.load T y,ty,pos,aft,g⟩=some true:=by rfl) (hN:Nat.blt d x.N=true:=by rfl):
  W x ops Q (⟨some d,.load T y,ty,pos,aft,g⟩::rest) H M L:=cA hg hN hT hn hy (xa hm hc) hl k
theorem bx {T:TypeId}{y:Operand}{v:Value}{cs:List Value} (k:∀ b,W x ops Q rest H (.obj b (.cells cs.toArray T (0,0))::M) ((d,.pointer (some ⟨b,0,none⟩))::L)) (hy:ev L y=some v:=by rfl)
  (hcs:v.cells=cs.toArray:=by first | exact aP.cells (by assumption) | exact Rw.cells (by assumption) | rfl) (hg:gd ops L ⟨some d,.box T y,ty,pos,aft,g⟩=some true:=by rfl) (hN:Nat.blt d x.N=true:=by rfl):
  W x ops Q (⟨some d,.box T y,ty,pos,aft,g⟩::rest) H M L:=MC hg hN hy hcs k
theorem al {T:TypeId}{z:Value}{cs:List Value} (k:∀ b,W x ops Q rest H (.obj b (.cells cs.toArray T (0,0))::M) ((d,.pointer (some ⟨b,0,none⟩))::L))
  (hz:∀ w,(zeroValue T).run x.P w=.ok z w:=by exact λ_=>rfl) (hcs:z.cells=cs.toArray:=by rfl) (hg:gd ops L ⟨some d,.alloc T,ty,pos,aft,g⟩=some true:=by rfl) (hN:Nat.blt d x.N=true:=by rfl):
  W x ops Q (⟨some d,.alloc T,ty,pos,aft,g⟩::rest) H M L:=JB hg hN hz hcs k
theorem wt (i:Nat) {T U n b o:Nat}{y z:Operand}{l cs out:List Value}{v:Value}{M1:List bL}
  (k:W x ops Q rest H (.obj b (.cells out.toArray U (0,0))::M1) L) (hy:ev L y=some (.pointer (some ⟨b,o,none⟩)):=by rfl) (hz:ev L z=some v:=by rfl)
  (hv:v.cells=cs.toArray:=by first | exact aP.cells (by assumption) | exact Rw.cells (by assumption) | rfl)
  (h1:∀ c ∈ cs,c.oneCell'=true:=by repeat first | exact QG | refine O_ rfl ?_ | refine O_ (aP.og (by assumption)) ?_ | refine O_ (Rw.one (by assumption)) ?_)
  (hM:zn i M=some (.obj b (.cells l.toArray U (0,0)),M1):=by rfl)
  (hg:gd ops L ⟨none,.store T y z,ty,pos,aft,g⟩=some true:=by rfl) (hn:∀ w,(sizeOf T).run x.P w=.ok n w:=by exact λ_=>rfl) (hl:cs.length=n:=by rfl) (ho:zf l o cs=some out:=by rfl):
  W x ops Q (⟨none,.store T y z,ty,pos,aft,g⟩::rest) H M L:=ws i hv k h1 hy hz hM hg hn hl ho
theorem wr {α:Type}[aF α] (i o:Nat) {T U m:Nat}{y z:Operand}{v u:Value}{xs c cs out:List Value}{l:List α}{e:α}{kk:Nat}{M1:List bL}{ad:Addr} (e2:α) (h:Rw H0 v xs l) (he:l[kk]? = some e) (hg':∀ j w,c[j]? = some w->xs[kk*aF.sz α+j]? = some w)
  (hc:aF.E H c e) (hE:aF.E H out e2)
  (k:∀ sW,Rw H v sW (l.set kk e2)->(l.set kk e2)[kk]? = some e2->(∀ j w,out[j]? = some w->sW[kk*aF.sz α+j]? = some w)->W x ops Q rest H (.row v U (aF.sz α) (l.set kk e2).length sW::M1) L)
  (hle:H0.le H:=by exact lE) (hy:ev L y=some (.pointer (some ad)):=by rfl) (had:ad=(Value.base v).add (kk*aF.sz α+o):=by first | exact F4 _ _ | exact I7 _ _ _) (hz:ev L z=some u:=by rfl)
  (hv:u.cells=cs.toArray:=by first | exact aP.cells (by assumption) | exact Rw.cells (by assumption) | rfl)
  (h1:∀ c ∈ cs,c.oneCell'=true:=by repeat first | exact QG | refine O_ rfl ?_ | refine O_ (aP.og (by assumption)) ?_ | refine O_ (Rw.one (by assumption)) ?_)
  (hM:zn i M=some (.row v U (aF.sz α) l.length xs,M1):=by rfl) (hg:gd ops L ⟨none,.store T y z,ty,pos,aft,g⟩=some true:=by rfl) (hn:∀ w,(sizeOf T).run x.P w=.ok m w:=by exact λ_=>rfl) (hl:cs.length=m:=by rfl)
  (ho:zf c o cs=some out:=by rfl) (hb:Nat.ble (o+cs.length) c.length=true:=by rfl) (hb2:Nat.ble (o+cs.length) (aF.sz α)=true:=by rfl) (hpos:Nat.blt 0 cs.length=true:=by rfl):
  W x ops Q (⟨none,.store T y z,ty,pos,aft,g⟩::rest) H M L:=by
 have h':=Rw.mono hle h;obtain ⟨ho1,_⟩:=AP ho;obtain ⟨p1,p2,p3⟩:=Rw.put h' he hc hg' hb ho1 hE;refine nE (tJ hM) ?_;refine Gk (n':=(l.set kk e2).length) hg hn hy had hz hv hl (Rw.room h' he hb2) hpos h1 Qg ?_;exact k _ p1 p2 p3
end
class vm (α:Type) [aF α] where
 cs:α->List Value
 eq:∀ {H c x},aF.E H c x->c=cs x
instance:vm Int:=⟨λn=>[.int .i64 n],λh=>h⟩
instance:vm Bool:=⟨λb=>[.bool b],λh=>h⟩
instance:vm ByteArray:=⟨λs=>[.string s],λh=>h⟩
instance:vm U8:=⟨λn=>[.int .u8 n.n],λh=>h⟩
instance:vm Nv:=⟨λn=>[.int .u16 n.n],λh=>h⟩
instance:vm bP:=⟨λn=>[.int .u32 n.n],λh=>h⟩
instance:vm Nw:=⟨λn=>[.int .u64 n.n],λh=>h⟩
instance:vm Nt:=⟨λn=>[.int .i32 n.n],λh=>h⟩
def Mq:List Value->Option (List Value)
 | []=>some []
 | v::l=>match Mq l with
  | some m=>some (v::m)
  | none=>none
theorem Eu:∀ {l m:List Value},Mq l=some m->l=m
 | [],m,h=>by simpa [Mq] using h
 | v::l,m,h=>by
  simp only [Mq] at h
  split at h
  ·rename_i k e
   simp only [Pf] at h;rw [Eu e,h]
  ·cases h
theorem mA {P:Prop} (h:P:=by
  first
   | ((repeat first | exact List.Mem.head _ | refine List.Mem.tail _ ?_); done)
   | (refine hR _ ?_; (repeat first | exact List.Mem.head _ | refine List.Mem.tail _ ?_); done)
   | (refine hU _ ?_; (repeat first | exact List.Mem.head _ | refine List.Mem.tail _ ?_); done)):P:=h
section
variable {x:Cx}{ops:Array Oper}{Q:lC}{rest:List Oper}{H H0:Hp}{M:List bL}{L:Env}{d:Nat}{ty:TypeId}{pos:String}{aft:Array Edge}{g:Option (Nat×Bool)}{y z:Operand}{T U:TypeId}
theorem OA {t:TypeId} (k:W x ops Q (⟨some d,.indexAddr t y z,ty,pos,aft,g⟩::rest) H M L):W x ops Q (⟨some d,.indexAddr t y z,ty,pos,aft,g⟩::rest) H M L:=k
theorem iA {α:Type}{iR:aF α}{t e:TypeId}{v:Value}{xs:List α}{el:α}{kk:IntKind}{i:Int} (k:W x ops Q rest H M ((d,.pointer (some ((Value.base v).add (i.toNat*aF.sz α))))::L))
  (hy:ev L y=some v:=by rfl) (hz:ev L z=some (.int kk i):=by rfl) (hR:aP H0 v xs:=by with_reducible assumption) (he:xs[i.toNat]? = some el:=by first | with_reducible assumption | assumption) (hle:H0.le H:=by exact lE)
  (h0:0<=i:=by first | exact RR _ | assumption | decide) (hT:∀ w,(underlying t).run x.P w=.ok (.slice e) w:=by exact λ_=>rfl) (hs:∀ w,(sizeOf e).run x.P w=.ok (aF.sz α) w:=by exact λ_=>rfl)
  (hg:gd ops L ⟨some d,.indexAddr t y z,ty,pos,aft,g⟩=some true:=by rfl) (hN:Nat.blt d x.N=true:=by rfl):W x ops Q (⟨some d,.indexAddr t y z,ty,pos,aft,g⟩::rest) H M L:=
 C1 hg hN hT hs hy (aP.mono hle hR) hz h0 he k
theorem iO {α:Type}{v:Value}{sz:Nat}{xs:List Value}{t e:TypeId}{kk:IntKind}{i:Int}{l:List α}{el:α}
  (k:W x ops Q rest H M ((d,.pointer (some ((Value.base v).add (i.toNat*sz))))::L)) (hy:ev L y=some v:=by rfl) (hz:ev L z=some (.int kk i):=by rfl)
  (hm:bL.row v T sz l.length xs ∈ M:=by exact mA) (he:l[i.toNat]? = some el:=by first | with_reducible assumption | assumption)
  (h0:0<=i:=by first | exact RR _ | assumption | decide) (hT:∀ w,(underlying t).run x.P w=.ok (.slice e) w:=by exact λ_=>rfl) (hs:∀ w,(sizeOf e).run x.P w=.ok sz w:=by exact λ_=>rfl)
  (hg:gd ops L ⟨some d,.indexAddr t y z,ty,pos,aft,g⟩=some true:=by rfl) (hN:Nat.blt d x.N=true:=by rfl):W x ops Q (⟨some d,.indexAddr t y z,ty,pos,aft,g⟩::rest) H M L:=
 xY hm hg hN hT hs hy hz h0 (OY.1 he).1 k
theorem nA {α:Type}{iR:aF α}{e:TypeId}{v:Value}{xs:List α} (k:W x ops Q rest H M ((d,.int .i64 xs.length)::L)) (hy:ev L y=some v:=by rfl) (hR:aP H0 v xs:=by with_reducible assumption) (hle:H0.le H:=by exact lE)
  (hT:∀ w,(underlying T).run x.P w=.ok (.slice e) w:=by exact λ_=>rfl) (hg:gd ops L ⟨some d,.call ⟨.builtin .len,#[y],#[T]⟩,ty,pos,aft,g⟩=some true:=by rfl) (hN:Nat.blt d x.N=true:=by rfl):
  W x ops Q (⟨some d,.call ⟨.builtin .len,#[y],#[T]⟩,ty,pos,aft,g⟩::rest) H M L:=HG hg hN hT hy (aP.mono hle hR) k
theorem Ol {ad:Addr}{cs:List Value}{v:Value}{o:Nat} (k:W x ops Q rest H M ((d,v)::L)) (hy:ev L y=some (.pointer (some (ad.add o))):=by rfl) (hc:gS H0 ad cs:=by first | with_reducible assumption | assumption) (hv:cs[o]? = some v:=by rfl)
  (hT:∀ w,(isAgg T).run x.P w=.ok false w:=by exact λ_=>rfl) (hle:H0.le H:=by exact lE) (hg:gd ops L ⟨some d,.load T y,ty,pos,aft,g⟩=some true:=by rfl) (hN:Nat.blt d x.N=true:=by rfl):
  W x ops Q (⟨some d,.load T y,ty,pos,aft,g⟩::rest) H M L:=pJ hg hN hT hy (gS.one (gS.mono hle hc) o hv).at k
theorem Oj {ad:Addr}{cs:List Value}{v:Value} (k:W x ops Q rest H M ((d,v)::L)) (hy:ev L y=some (.pointer (some ad)):=by rfl) (hc:gS H0 ad cs:=by first | with_reducible assumption | assumption) (hv:cs[0]? = some v:=by rfl)
  (hT:∀ w,(isAgg T).run x.P w=.ok false w:=by exact λ_=>rfl) (hle:H0.le H:=by exact lE) (hg:gd ops L ⟨some d,.load T y,ty,pos,aft,g⟩=some true:=by rfl) (hN:Nat.blt d x.N=true:=by rfl):
  W x ops Q (⟨some d,.load T y,ty,pos,aft,g⟩::rest) H M L:=pJ hg hN hT hy (gS.one (gS.mono hle hc) 0 hv).at k
theorem Om {ad:Addr}{cs:List Value}{n:Nat} (k:W x ops Q rest H M ((d,.agg cs.toArray)::L)) (hy:ev L y=some (.pointer (some ad)):=by rfl) (hc:gS H0 ad cs:=by first | with_reducible assumption | assumption)
  (hT:∀ w,(isAgg T).run x.P w=.ok true w:=by exact λ_=>rfl) (hn:∀ w,(sizeOf T).run x.P w=.ok n w:=by exact λ_=>rfl) (hl:cs.length=n:=by rfl) (hle:H0.le H:=by exact lE) (hg:gd ops L ⟨some d,.load T y,ty,pos,aft,g⟩=some true:=by rfl) (hN:Nat.blt d x.N=true:=by rfl):
  W x ops Q (⟨some d,.load T y,ty,pos,aft,g⟩::rest) H M L:=cA hg hN hT hn hy (gS.mono hle hc).at hl k
theorem yH {α:Type}[aF α] [vm α] {v0:Value}{xs:List α}{el:α}{n:Nat} (hR:aP H0 v0 xs) (he:xs[n]? = some el):gS H0 ((Value.base v0).add (n*aF.sz α)) (vm.cs el):=by
 obtain ⟨c,h1,h2⟩:=aP.elem hR he;rw [<- vm.eq h1]; exact h2
theorem zu {α:Type}[aF α] [vm α] {v0:Value}{xs:List Value}{l:List α}{el:α}{n:Nat} (hR:Rw H0 v0 xs l) (he:l[n]? = some el):∀ j u,(vm.cs el)[j]? = some u->xs[n*aF.sz α+j]? = some u:=by
 obtain ⟨c,h1,h2⟩:=Rw.elem hR he;rw [<- vm.eq h1]; exact h2
theorem Oo {α:Type}{iR:aF α}{v0 v:Value}{xs:List α}{el:α}{n o:Nat} (k:W x ops Q rest H M ((d,v)::L)) (hy:ev L y=some (.pointer (some (((Value.base v0).add (n*@aF.sz α iR)).add o))):=by rfl)
  (hR:aP H0 v0 xs:=by with_reducible assumption) (he:xs[n]? = some el:=by first | with_reducible assumption | assumption) (iC:vm α:=by infer_instance) (hv:(vm.cs el)[o]? = some v:=by rfl) (hle:H0.le H:=by exact lE)
  (hT:∀ w,(isAgg T).run x.P w=.ok false w:=by exact λ_=>rfl) (hg:gd ops L ⟨some d,.load T y,ty,pos,aft,g⟩=some true:=by rfl) (hN:Nat.blt d x.N=true:=by rfl):
  W x ops Q (⟨some d,.load T y,ty,pos,aft,g⟩::rest) H M L:=pJ hg hN hT hy (gS.one (gS.mono hle (yH hR he)) o hv).at k
theorem On {α:Type}{iR:aF α}{v0 v:Value}{xs:List α}{el:α}{n:Nat} (k:W x ops Q rest H M ((d,v)::L)) (hy:ev L y=some (.pointer (some ((Value.base v0).add (n*@aF.sz α iR)))):=by rfl)
  (hR:aP H0 v0 xs:=by with_reducible assumption) (he:xs[n]? = some el:=by first | with_reducible assumption | assumption) (iC:vm α:=by infer_instance) (hv:(vm.cs el)[0]? = some v:=by rfl) (hle:H0.le H:=by exact lE)
  (hT:∀ w,(isAgg T).run x.P w=.ok false w:=by exact λ_=>rfl) (hg:gd ops L ⟨some d,.load T y,ty,pos,aft,g⟩=some true:=by rfl) (hN:Nat.blt d x.N=true:=by rfl):
  W x ops Q (⟨some d,.load T y,ty,pos,aft,g⟩::rest) H M L:=pJ hg hN hT hy (gS.one (gS.mono hle (yH hR he)) 0 hv).at k
theorem Oq {α:Type}{iR:aF α}{v0:Value}{cs:List Value}{xs:List α}{el:α}{n m:Nat} (k:W x ops Q rest H M ((d,.agg cs.toArray)::L)) (hy:ev L y=some (.pointer (some ((Value.base v0).add (n*@aF.sz α iR)))):=by rfl)
  (hR:aP H0 v0 xs:=by with_reducible assumption) (he:xs[n]? = some el:=by first | with_reducible assumption | assumption) (iC:vm α:=by infer_instance) (hv:Mq (vm.cs el)=some cs:=by rfl) (hle:H0.le H:=by exact lE)
  (hT:∀ w,(isAgg T).run x.P w=.ok true w:=by exact λ_=>rfl) (hn:∀ w,(sizeOf T).run x.P w=.ok m w:=by exact λ_=>rfl) (hl:cs.length=m:=by rfl) (hg:gd ops L ⟨some d,.load T y,ty,pos,aft,g⟩=some true:=by rfl) (hN:Nat.blt d x.N=true:=by rfl):
  W x ops Q (⟨some d,.load T y,ty,pos,aft,g⟩::rest) H M L:=cA hg hN hT hn hy (gS.mono hle (Eu hv▸yH hR he)).at hl k
theorem Ox {α:Type}{iR:aF α}{v0 v:Value}{sz p:Nat}{xs:List Value}{l:List α}{el:α}{n o:Nat} (k:W x ops Q rest H M ((d,v)::L)) (hy:ev L y=some (.pointer (some (((Value.base v0).add (n*@aF.sz α iR)).add o))):=by rfl)
  (hm:bL.row v0 U sz p xs ∈ M:=by exact mA) (hR:Rw H0 v0 xs l:=by with_reducible assumption) (he:l[n]? = some el:=by first | with_reducible assumption | assumption) (iC:vm α:=by infer_instance) (hv:(vm.cs el)[o]? = some v:=by rfl)
  (hT:∀ w,(isAgg T).run x.P w=.ok false w:=by exact λ_=>rfl) (hg:gd ops L ⟨some d,.load T y,ty,pos,aft,g⟩=some true:=by rfl) (hN:Nat.blt d x.N=true:=by rfl):
  W x ops Q (⟨some d,.load T y,ty,pos,aft,g⟩::rest) H M L:=pJ hg hN hT hy (row_one hm (zu hR he) hv) k
theorem Ow {α:Type}{iR:aF α}{v0 v:Value}{sz p:Nat}{xs:List Value}{l:List α}{el:α}{n:Nat} (k:W x ops Q rest H M ((d,v)::L)) (hy:ev L y=some (.pointer (some ((Value.base v0).add (n*@aF.sz α iR)))):=by rfl)
  (hm:bL.row v0 U sz p xs ∈ M:=by exact mA) (hR:Rw H0 v0 xs l:=by with_reducible assumption) (he:l[n]? = some el:=by first | with_reducible assumption | assumption) (iC:vm α:=by infer_instance) (hv:(vm.cs el)[0]? = some v:=by rfl)
  (hT:∀ w,(isAgg T).run x.P w=.ok false w:=by exact λ_=>rfl) (hg:gd ops L ⟨some d,.load T y,ty,pos,aft,g⟩=some true:=by rfl) (hN:Nat.blt d x.N=true:=by rfl):
  W x ops Q (⟨some d,.load T y,ty,pos,aft,g⟩::rest) H M L:=pJ hg hN hT hy (AV hm (zu hR he) hv) k
theorem Oy {α:Type}{iR:aF α}{v0:Value}{sz p m:Nat}{xs cs:List Value}{l:List α}{el:α}{n:Nat} (k:W x ops Q rest H M ((d,.agg cs.toArray)::L)) (hy:ev L y=some (.pointer (some ((Value.base v0).add (n*@aF.sz α iR)))):=by rfl)
  (hm:bL.row v0 U sz p xs ∈ M:=by exact mA) (hR:Rw H0 v0 xs l:=by with_reducible assumption) (he:l[n]? = some el:=by first | with_reducible assumption | assumption) (iC:vm α:=by infer_instance) (hv:Mq (vm.cs el)=some cs:=by rfl)
  (hT:∀ w,(isAgg T).run x.P w=.ok true w:=by exact λ_=>rfl) (hn:∀ w,(sizeOf T).run x.P w=.ok m w:=by exact λ_=>rfl) (hl:cs.length=m:=by rfl) (hg:gd ops L ⟨some d,.load T y,ty,pos,aft,g⟩=some true:=by rfl) (hN:Nat.blt d x.N=true:=by rfl):
  W x ops Q (⟨some d,.load T y,ty,pos,aft,g⟩::rest) H M L:=cA hg hN hT hn hy (xa hm (Eu hv▸zu hR he)) hl k
theorem Ou {v0 v:Value}{sz p i o:Nat}{xs cs:List Value} (k:W x ops Q rest H M ((d,v)::L)) (hy:ev L y=some (.pointer (some (((Value.base v0).add i).add o))):=by rfl)
  (hm:bL.row v0 U sz p xs ∈ M:=by exact mA) (hc:∀ j u,cs[j]? = some u->xs[i+j]? = some u:=by assumption) (hv:cs[o]? = some v:=by rfl)
  (hT:∀ w,(isAgg T).run x.P w=.ok false w:=by exact λ_=>rfl) (hg:gd ops L ⟨some d,.load T y,ty,pos,aft,g⟩=some true:=by rfl) (hN:Nat.blt d x.N=true:=by rfl):
  W x ops Q (⟨some d,.load T y,ty,pos,aft,g⟩::rest) H M L:=pJ hg hN hT hy (row_one hm hc hv) k
theorem Ot {v0 v:Value}{sz p i:Nat}{xs cs:List Value} (k:W x ops Q rest H M ((d,v)::L)) (hy:ev L y=some (.pointer (some ((Value.base v0).add i))):=by rfl)
  (hm:bL.row v0 U sz p xs ∈ M:=by exact mA) (hc:∀ j u,cs[j]? = some u->xs[i+j]? = some u:=by assumption) (hv:cs[0]? = some v:=by rfl)
  (hT:∀ w,(isAgg T).run x.P w=.ok false w:=by exact λ_=>rfl) (hg:gd ops L ⟨some d,.load T y,ty,pos,aft,g⟩=some true:=by rfl) (hN:Nat.blt d x.N=true:=by rfl):
  W x ops Q (⟨some d,.load T y,ty,pos,aft,g⟩::rest) H M L:=pJ hg hN hT hy (AV hm hc hv) k
theorem Ov {v0:Value}{sz p i m:Nat}{xs cs:List Value} (k:W x ops Q rest H M ((d,.agg cs.toArray)::L)) (hy:ev L y=some (.pointer (some ((Value.base v0).add i))):=by rfl)
  (hm:bL.row v0 U sz p xs ∈ M:=by exact mA) (hc:∀ j u,cs[j]? = some u->xs[i+j]? = some u:=by assumption)
  (hT:∀ w,(isAgg T).run x.P w=.ok true w:=by exact λ_=>rfl) (hn:∀ w,(sizeOf T).run x.P w=.ok m w:=by exact λ_=>rfl) (hl:cs.length=m:=by rfl) (hg:gd ops L ⟨some d,.load T y,ty,pos,aft,g⟩=some true:=by rfl) (hN:Nat.blt d x.N=true:=by rfl):
  W x ops Q (⟨some d,.load T y,ty,pos,aft,g⟩::rest) H M L:=cA hg hN hT hn hy (xa hm hc) hl k
theorem Oc {b i U:Nat}{fz:Nat×Nat}{l:List Value}{v:Value} (k:W x ops Q rest H M ((d,v)::L)) (hy:ev L y=some (.pointer (some ⟨b,i,none⟩)):=by rfl)
  (hm:bL.obj b (.cells l.toArray U fz) ∈ M:=by exact mA) (hc:l[i]? = some v:=by rfl) (hT:∀ w,(isAgg T).run x.P w=.ok false w:=by exact λ_=>rfl)
  (hg:gd ops L ⟨some d,.load T y,ty,pos,aft,g⟩=some true:=by rfl) (hN:Nat.blt d x.N=true:=by rfl):W x ops Q (⟨some d,.load T y,ty,pos,aft,g⟩::rest) H M L:=
 pJ hg hN hT hy (uP hm hc) k
theorem Od {b U n:Nat}{fz:Nat×Nat}{l:List Value} (k:W x ops Q rest H M ((d,.agg l.toArray)::L)) (hy:ev L y=some (.pointer (some ⟨b,0,none⟩)):=by rfl)
  (hm:bL.obj b (.cells l.toArray U fz) ∈ M:=by exact mA) (hT:∀ w,(isAgg T).run x.P w=.ok true w:=by exact λ_=>rfl) (hn:∀ w,(sizeOf T).run x.P w=.ok n w:=by exact λ_=>rfl) (hl:l.length=n:=by rfl)
  (hg:gd ops L ⟨some d,.load T y,ty,pos,aft,g⟩=some true:=by rfl) (hN:Nat.blt d x.N=true:=by rfl):W x ops Q (⟨some d,.load T y,ty,pos,aft,g⟩::rest) H M L:=
 cA hg hN hT hn hy (Cz hm) hl k
theorem Ob {v:Value}{sz n:Nat}{xs:List Value}{t e:TypeId} (k:W x ops Q rest H M ((d,.int .i64 n)::L)) (hy:ev L y=some v:=by rfl) (hm:bL.row v T sz n xs ∈ M:=by exact mA)
  (hT:∀ w,(underlying t).run x.P w=.ok (.slice e) w:=by exact λ_=>rfl) (hg:gd ops L ⟨some d,.call ⟨.builtin .len,#[y],#[t]⟩,ty,pos,aft,g⟩=some true:=by rfl) (hN:Nat.blt d x.N=true:=by rfl):
  W x ops Q (⟨some d,.call ⟨.builtin .len,#[y],#[t]⟩,ty,pos,aft,g⟩::rest) H M L:=zN hm hg hN hT hy k
end
structure Kp (Q:Prop):Prop where
 o:Q
theorem Lt {P Q:Prop} (k:Q) (h:Kp Q->P:=by
  intro k;refine MO ?_; first
   | (with_reducible refine p1 ?_); refine bR rfl rfl rfl ?_
   | (with_reducible refine p2 ?_); refine aJ rfl rfl rfl ?_
   | (with_reducible refine p3 ?_); refine fq ?_
   | (with_reducible refine p4 ?_); first
    | refine Oc ?_
    | refine Od ?_
    | refine Ol ?_
    | refine Oj ?_
    | refine Om ?_
    | refine Oo ?_
    | refine On ?_
    | refine Oq ?_
    | refine Ox ?_
    | refine Ow ?_
    | refine Oy ?_
    | refine Ou ?_
    | refine Ot ?_
    | refine Ov ?_
   | (with_reducible refine p5 ?_); refine vP rfl rfl rfl rfl rfl ?_
   | (with_reducible refine p8 ?_); refine oU rfl rfl rfl ?_
   | (with_reducible refine p7 ?_); refine rp rfl rfl rfl rfl ?_
   | (with_reducible refine p6 ?_); refine BV rfl rfl rfl rfl ?_
   | (with_reducible refine p9 ?_); refine ME rfl rfl rfl rfl ?_
   | (with_reducible refine pa ?_); refine rm rfl rfl (λ_=>rfl) (λ_=>rfl) rfl ?_
   | (with_reducible refine pb ?_); refine zP rfl rfl rfl rfl ?_
   | (with_reducible refine pc ?_); first
    | refine Ob ?_
    | refine nA ?_
   | (with_reducible refine OA ?_); first
    | refine iO ?_
    | refine iA ?_
   | (with_reducible refine pg ?_); first
    | refine MD rfl rfl rfl ?_
    | refine Lc rfl rfl ?_
  exact k.o):P:=h ⟨k⟩
theorem Mr {P Q:Prop} (k:Q) (h:Kp Q->P:=by
  intro k
  first
   | refine aZ ?_
   | (with_reducible refine MN ?_); first
    | with_reducible refine aT ?_
    | with_reducible refine fU ?_
    | with_reducible refine nc ?_
    | with_reducible refine jB ?_
    | with_reducible refine sJ ?_
    | with_reducible refine nb ?_
    | refine sI rfl ?_
   | (with_reducible refine MM ?_); first
    | with_reducible refine aN ?_
    | with_reducible refine mf ?_
    | with_reducible refine tL ?_
    | with_reducible refine mq ?_
    | with_reducible refine tl ?_
  exact k.o):P:=h ⟨k⟩
theorem wo {P Q:Prop} (k:Q) (h:Kp Q->P:=by
  intro k
  repeat first
   | refine Lt ?_
  exact k.o):P:=h ⟨k⟩
theorem go {P Q:Prop} (k:Q) (h:Kp Q->P:=by
  intro k
  repeat first
   | refine Lt ?_
   | refine Mr ?_
  exact k.o):P:=h ⟨k⟩
theorem gj {P Q:Prop} (k:Q) (h:Kp Q->P:=by
  intro k
  repeat first
   | refine Lt ?_
   | refine aZ ?_
   | (with_reducible refine MN ?_); first
    | with_reducible refine fU ?_
    | with_reducible refine nc ?_
    | with_reducible refine jB ?_
    | with_reducible refine sJ ?_
    | with_reducible refine nb ?_
    | refine sI rfl ?_
   | (with_reducible refine MM ?_); first
    | with_reducible refine aN ?_
    | with_reducible refine mf ?_
    | with_reducible refine tL ?_
    | with_reducible refine mq ?_
    | with_reducible refine tl ?_
  exact k.o):P:=h ⟨k⟩
theorem gt {P Q:Prop} (k:Q) (h:Kp Q->P:=by
  intro k
  repeat first
   | refine Lt ?_
   | refine aZ ?_
   | (with_reducible refine MN ?_); first
    | with_reducible refine fU ?_
    | with_reducible refine nc ?_
    | with_reducible refine jB ?_
    | with_reducible refine sJ ?_
    | with_reducible refine nb ?_
    | refine sI rfl ?_
   | (with_reducible refine MM ?_); first
    | with_reducible refine aN ?_
    | with_reducible refine mf ?_
    | with_reducible refine tL ?_
    | with_reducible refine mq ?_
    | with_reducible refine tl ?_
  with_reducible refine aT ?_
  exact k.o):P:=h ⟨k⟩
theorem gs {P Q:Prop} (k:Q) (h:Kp Q->P:=by
  intro k
  repeat first
   | refine Lt ?_
   | refine Mr ?_
  refine bI ?_
  repeat first
   | refine Lt ?_
   | refine Mr ?_
  exact k.o):P:=h ⟨k⟩
theorem g2 {P Q:Prop} (k:Q) (h:Kp Q->P:=by
  intro k;refine gs ?_;refine gs ?_;exact k.o):P:=h ⟨k⟩
theorem om {P:Prop} (h:P:=by
  intro HX hX X Rest hR
  repeat (rintro _ _ ⟨rfl,rfl⟩)
  intro hU hUp
  repeat refine Lt ?_
  exact o0 ⟨rfl,rfl⟩):P:=h
theorem Ll {P q:Prop} (hb:q) (h:q->P:=by
  intro hb;intro HX hX X Rest hR
  repeat (rintro _ _ ⟨rfl,rfl⟩)
  intro hU hUp
  repeat refine Lt ?_
  exact o0 ⟨rfl,(by first | rfl | (rw [hb]; try rfl))⟩):P:=h hb
theorem Lo {P Q:Prop} (k:Q) (h:Kp Q->P:=by
  intro k;refine MO ?_; first
   | (with_reducible refine p1 ?_); refine bR rfl rfl rfl ?_
   | (with_reducible refine p2 ?_); refine aJ rfl rfl rfl ?_
   | (with_reducible refine p3 ?_); refine fq ?_
   | (with_reducible refine p4 ?_); first
    | refine Oc ?_
    | refine Od ?_
   | (with_reducible refine p5 ?_); refine vP rfl rfl rfl rfl rfl ?_
   | (with_reducible refine p8 ?_); refine oU rfl rfl rfl ?_
   | (with_reducible refine p7 ?_); refine rp rfl rfl rfl rfl ?_
   | (with_reducible refine p6 ?_); refine BV rfl rfl rfl rfl ?_
   | (with_reducible refine p9 ?_); refine ME rfl rfl rfl rfl ?_
   | (with_reducible refine pa ?_); refine rm rfl rfl (λ_=>rfl) (λ_=>rfl) rfl ?_
   | (with_reducible refine pb ?_); refine zP rfl rfl rfl rfl ?_
   | (with_reducible refine pc ?_); first
    | refine Ob ?_
   | (with_reducible refine pg ?_); first
    | refine MD rfl rfl rfl ?_
    | refine Lc rfl rfl ?_
  exact k.o):P:=h ⟨k⟩
theorem qo {P Q:Prop} (k:Q) (h:Kp Q->P:=by
  intro k
  repeat first
   | refine Lo ?_
  exact k.o):P:=h ⟨k⟩
theorem qg {P Q:Prop} (k:Q) (h:Kp Q->P:=by
  intro k
  repeat first
   | refine Lo ?_
   | refine Mr ?_
  exact k.o):P:=h ⟨k⟩
theorem qj {P Q:Prop} (k:Q) (h:Kp Q->P:=by
  intro k
  repeat first
   | refine Lo ?_
   | refine aZ ?_
   | (with_reducible refine MN ?_); first
    | with_reducible refine fU ?_
    | with_reducible refine nc ?_
    | with_reducible refine jB ?_
    | with_reducible refine sJ ?_
    | with_reducible refine nb ?_
    | refine sI rfl ?_
   | (with_reducible refine MM ?_); first
    | with_reducible refine aN ?_
    | with_reducible refine mf ?_
    | with_reducible refine tL ?_
    | with_reducible refine mq ?_
    | with_reducible refine tl ?_
  exact k.o):P:=h ⟨k⟩
theorem qt {P Q:Prop} (k:Q) (h:Kp Q->P:=by
  intro k
  repeat first
   | refine Lo ?_
   | refine aZ ?_
   | (with_reducible refine MN ?_); first
    | with_reducible refine fU ?_
    | with_reducible refine nc ?_
    | with_reducible refine jB ?_
    | with_reducible refine sJ ?_
    | with_reducible refine nb ?_
    | refine sI rfl ?_
   | (with_reducible refine MM ?_); first
    | with_reducible refine aN ?_
    | with_reducible refine mf ?_
    | with_reducible refine tL ?_
    | with_reducible refine mq ?_
    | with_reducible refine tl ?_
  with_reducible refine aT ?_
  exact k.o):P:=h ⟨k⟩
theorem qs {P Q:Prop} (k:Q) (h:Kp Q->P:=by
  intro k
  repeat first
   | refine Lo ?_
   | refine Mr ?_
  refine bI ?_
  repeat first
   | refine Lo ?_
   | refine Mr ?_
  exact k.o):P:=h ⟨k⟩
theorem q2 {P Q:Prop} (k:Q) (h:Kp Q->P:=by
  intro k;refine qs ?_;refine qs ?_;exact k.o):P:=h ⟨k⟩
theorem qm {P:Prop} (h:P:=by
  intro HX hX X Rest hR
  repeat (rintro _ _ ⟨rfl,rfl⟩)
  intro hU hUp
  repeat refine Lo ?_
  exact o0 ⟨rfl,rfl⟩):P:=h
theorem qn {P q:Prop} (hb:q) (h:q->P:=by
  intro hb;intro HX hX X Rest hR
  repeat (rintro _ _ ⟨rfl,rfl⟩)
  intro hU hUp
  repeat refine Lo ?_
  exact o0 ⟨rfl,(by first | rfl | (rw [hb]; try rfl))⟩):P:=h hb
section
variable {x:Cx}{ops:Array Oper}{Q:lC}{rest:List Oper}{H H0:Hp}{M:List bL}{L:Env}{ty:TypeId}{pos:String}{aft:Array Edge}{g:Option (Nat×Bool)}
theorem wF {α:Type}{iR:aF α} (i o:Nat) {T U m:Nat}{y z:Operand}{v u:Value}{xs cs out:List Value}{l:List α}{e:α}{kk:Nat}{M1:List bL}{ad:Addr} (e2:α)
  (k:∀ sW,Rw H v sW (l.set kk e2)->(l.set kk e2)[kk]? = some e2->W x ops Q rest H (.row v U (aF.sz α) (l.set kk e2).length sW::M1) L)
  (hy:ev L y=some (.pointer (some ad)):=by rfl) (hM:zn i M=some (.row v U (aF.sz α) l.length xs,M1):=by rfl) (had:ad=(Value.base v).add (kk*aF.sz α+o):=by first | exact F4 _ _ | exact I7 _ _ _)
  (h:Rw H0 v xs l:=by with_reducible assumption) (he:l[kk]? = some e:=by first | with_reducible assumption | assumption) (iC:vm α:=by infer_instance) (hle:H0.le H:=by exact lE) (hz:ev L z=some u:=by rfl)
  (hv:u.cells=cs.toArray:=by first | exact aP.cells (by assumption) | exact Rw.cells (by assumption) | rfl)
  (h1:∀ c ∈ cs,c.oneCell'=true:=by repeat first | exact QG | refine O_ rfl ?_ | refine O_ (aP.og (by assumption)) ?_ | refine O_ (Rw.one (by assumption)) ?_)
  (hg:gd ops L ⟨none,.store T y z,ty,pos,aft,g⟩=some true:=by rfl) (hn:∀ w,(sizeOf T).run x.P w=.ok m w:=by exact λ_=>rfl) (hl:cs.length=m:=by rfl)
  (ho:zf (vm.cs e) o cs=some out:=by rfl) (hE:aF.E H out e2:=by rfl) (hE1:aF.E H (vm.cs e) e:=by rfl) (hb:Nat.ble (o+cs.length) (vm.cs e).length=true:=by rfl) (hb2:Nat.ble (o+cs.length) (aF.sz α)=true:=by rfl) (hpos:Nat.blt 0 cs.length=true:=by rfl):
  W x ops Q (⟨none,.store T y z,ty,pos,aft,g⟩::rest) H M L:=
 wr i o e2 h he (zu h he) hE1 hE (λsW a b _=>k sW a b) hle hy had hz hv h1 hM hg hn hl ho hb hb2 hpos
end
theorem fc {P:Prop} (h:P:=by
  first
   | with_reducible assumption
   | exact aP.mm (by with_reducible assumption)
   | exact Rw.mm (by with_reducible assumption)
   | exact Rw.oF (by with_reducible assumption)
   | exact aP.nil
   | exact Rw.nil
   | exact (Rw.nil (H:=H)).oF
   | exact lE
   | exact pD.mm (by assumption)
   | exact gS.mm (by assumption)
   | exact Mx.mm (by assumption)
   | exact pD.oF (by assumption)
   | exact cM.mm (by with_reducible assumption)
   | exact aP.mm (by assumption)
   | exact Rw.mm (by assumption)
   | exact Rw.oF (by assumption)
   | assumption
   | rfl):P:=h
theorem pk {P:Prop} (h:P:=by
  repeat apply Exists.intro
  repeat' first
   | refine And.intro ?_ ?_
   | exact rfl
   | exact hm
  all_goals first | exact fc | skip):P:=h
section
variable {x:Cx}{ops:Array Oper}{Q:lC}{rest:List Oper}{H H0:Hp}{M:List bL}{L:Env}{d:Nat}{ty:TypeId}{pos:String}{aft:Array Edge}{g:Option (Nat×Bool)}
theorem zt {P:Program}{f:FuncId}{bs:Array Value}{B:Nat}{w0 w:World}{Φ Φ':Hp->List bL->Value->Prop} (h:Calls P f bs w (eA B w0 Φ')) (e:Φ'=Φ):Calls P f bs w (eA B w0 Φ):=e▸h
theorem ca {C:Prop}{f:FuncId}{args:List Operand}{tys:Array TypeId}{vs:List Value}{A:Prop}{Φ:Hp->List bL->Value->Prop} (c:C) (a:A)
  (k:∀ v H' M',Φ H' M' v->W x ops Q rest H' M' ((d,v)::L)) (hcall:∀ bs w,(callFunc f bs).run x.P w=.ok (.enter f bs) w:=by exact λ_ _=>rfl) (hv:xH L args=some vs:=by rfl)
  (hc:C->A->∀ w,St x.B x.w0 H M w->Calls x.P f vs.toArray w (eA x.B x.w0 Φ):=by
   intro c a w ht;apply zt;apply c a
   all_goals first | exact ht | skip
   all_goals first | exact fc | exact rfl) (hg:gd ops L ⟨some d,.call ⟨.value (.func f),args.toArray,tys⟩,ty,pos,aft,g⟩=some true:=by rfl) (hN:Nat.blt d x.N=true:=by rfl):
  W x ops Q (⟨some d,.call ⟨.value (.func f),args.toArray,tys⟩,ty,pos,aft,g⟩::rest) H M L:=hO hcall hg hN hv (hc c a) k
theorem cy {C:Prop}{f:FuncId}{args:List Operand}{tys:Array TypeId}{vs:List Value}{A:Prop}{Φ:Hp->List bL->Value->Prop} (c:C) (a:A)
  (k:∀ v H' M',Φ H' M' v->W x ops Q rest H' M' ((d,v)::L)) (hcall:∀ bs w,(callFunc f bs).run x.P w=.ok (.enter f bs) w:=by exact λ_ _=>rfl) (hv:xH L args=some vs:=by rfl)
  (hc:C->A->∀ w,St x.B x.w0 H M w->Calls x.P f vs.toArray w (eA x.B x.w0 Φ):=by
   intro c a w ht;apply zt;obtain ⟨H0_,hl0_,ht0_,hr0_,bk0_⟩:=St.kG ht (by exact fc) rfl
   apply fK bk0_;apply c a
   all_goals first | exact ht0_ | skip
   all_goals first | exact fc | exact rfl) (hg:gd ops L ⟨some d,.call ⟨.value (.func f),args.toArray,tys⟩,ty,pos,aft,g⟩=some true:=by rfl) (hN:Nat.blt d x.N=true:=by rfl):
  W x ops Q (⟨some d,.call ⟨.value (.func f),args.toArray,tys⟩,ty,pos,aft,g⟩::rest) H M L:=hO hcall hg hN hv (hc c a) k
theorem cY {C:Prop}{f:FuncId}{args:List Operand}{tys:Array TypeId}{vs:List Value}{A:Prop}{Φ:Hp->List bL->Value->Prop} (c:C) (a:A)
  (k:∀ v H' M',Φ H' M' v->W x ops Q rest H' M' ((d,v)::L)) (hcall:∀ bs w,(callFunc f bs).run x.P w=.ok (.enter f bs) w:=by exact λ_ _=>rfl) (hv:xH L args=some vs:=by rfl)
  (hc:C->A->∀ w,St x.B x.w0 H M w->Calls x.P f vs.toArray w (eA x.B x.w0 Φ):=by
   intro c a w ht;apply zt;obtain ⟨H0_,hl0_,ht0_,hr0_,bk0_⟩:=St.kG ht (by exact fc) rfl
   apply fK bk0_;obtain ⟨H1_,hl1_,ht1_,hr1_,bk1_⟩:=St.kG ht0_ (by exact fc) rfl
   apply fK bk1_;apply c a
   all_goals first | exact ht1_ | skip
   all_goals first | exact fc | exact rfl) (hg:gd ops L ⟨some d,.call ⟨.value (.func f),args.toArray,tys⟩,ty,pos,aft,g⟩=some true:=by rfl) (hN:Nat.blt d x.N=true:=by rfl):
  W x ops Q (⟨some d,.call ⟨.value (.func f),args.toArray,tys⟩,ty,pos,aft,g⟩::rest) H M L:=hO hcall hg hN hv (hc c a) k
theorem cz {C:Prop}{f:FuncId}{args:List Operand}{tys:Array TypeId}{vs:List Value}{A:Prop}{u:Value} (c:C) (a:A)
  (k:W x ops Q rest H M ((d,u)::L)) (hcall:∀ bs w,(callFunc f bs).run x.P w=.ok (.enter f bs) w:=by exact λ_ _=>rfl) (hv:xH L args=some vs:=by rfl)
  (hc:C->A->∀ w,St x.B x.w0 H M w->Calls x.P f vs.toArray w (eA x.B x.w0 λH' M' v=>H=H'/\M=M'/\u=v):=by
   intro c a w ht;apply zt;apply c a
   all_goals first | exact ht | skip
   all_goals first | exact fc | exact rfl) (hg:gd ops L ⟨some d,.call ⟨.value (.func f),args.toArray,tys⟩,ty,pos,aft,g⟩=some true:=by rfl) (hN:Nat.blt d x.N=true:=by rfl):
  W x ops Q (⟨some d,.call ⟨.value (.func f),args.toArray,tys⟩,ty,pos,aft,g⟩::rest) H M L:=hO hcall hg hN hv (hc c a) (by rintro _ _ _ ⟨rfl,rfl,rfl⟩; exact k)
end
theorem ki {a b:Int} (h:a=b):some (Value.int .i64 a)=some (Value.int .i64 b):=by rw [h]
theorem kS {P:Prop} (h:P:=by
  repeat first
   | exact OV
   | refine ⟨rfl,?_⟩
   | refine ⟨sb (by simp only [Hk, *]),?_⟩):P:=h
theorem kK {a b:Int}{P:Prop} (e:a=b) (h:a=b->P:=by
  intro e
  repeat first
   | exact OV
   | refine ⟨rfl,?_⟩
   | refine ⟨ki e,?_⟩
   | refine ⟨sb (by simp only [Hk, *]),?_⟩):P:=h e
theorem eb {A B P:Prop} (a:A) (b:B) (h:A->B->P:=by
  intro a b;apply wx (Q3 _)
  repeat apply Exists.intro
  refine And.intro a ?_;refine And.intro rfl ?_;refine And.intro ((congrFun b _).trans hm) ?_
  repeat' first
   | refine And.intro ?_ ?_
   | exact rfl
  all_goals first | exact fc | skip):P:=h a b
theorem Br {B P:Prop} (b:B) (h:B->P:=by
  intro b;apply wx (Q3 _)
  repeat apply Exists.intro
  refine And.intro ((congrFun b _).trans hm) ?_
  repeat' first
   | refine And.intro ?_ ?_
   | exact rfl
  all_goals first | exact fc | skip):P:=h b
theorem en {P:Prop} (h:P:=by
  obtain rfl:=OZ hm
  first
   | refine lj rfl rfl ?_
   | refine Bc rfl rfl rfl ?_
   | refine MJ rfl rfl rfl rfl ?_
   | refine GI rfl ?_
  refine And.intro lE ?_
  repeat apply Exists.intro
  refine And.intro rfl ?_
  repeat' first
   | refine And.intro ?_ ?_
   | exact rfl
  all_goals first | exact fc | skip):P:=h
theorem ef {P:Prop} (h:P:=by
  obtain rfl:=OZ hm;refine Ew H ?_
  first
   | refine lj rfl rfl ?_
   | refine Bc rfl rfl rfl ?_
   | refine MJ rfl rfl rfl rfl ?_
   | refine GI rfl ?_
  refine And.intro rfl ?_
  repeat apply Exists.intro
  refine And.intro rfl ?_
  repeat' first
   | refine And.intro ?_ ?_
   | exact rfl
  all_goals first | exact fc | skip):P:=h
end Go.Sim
namespace Go.Proofs
open Go.Shelf
open _root_.Go.IntKind (i64 u64 u32 u8)
def Tryz.Dw:Go.Shelf.Ren:=⟨fun | 283=>220 | n=>n,fun | 3=>3 | 9=>9 | 4=>4 | n=>n,fun | n=>n⟩
theorem Tryz.J1:Go.Proofs.Lays.n283 Tryz.prog Tryz.Dw:={
 mixed:=by kernel_rfl
 f283:=Tryz.func220.trans (congrArg some (by kernel_rfl))
 t3:=Tryz.underlying3
 a3:=Tryz.isAgg3
 z3:=Tryz.sizeOf3
 v3:=Tryz.zeroValue3
 t4:=Tryz.underlying4
 a4:=Tryz.isAgg4
 z4:=Tryz.sizeOf4
 v4:=Tryz.zeroValue4
 t9:=Tryz.underlying9
 a9:=Tryz.isAgg9
 z9:=Tryz.sizeOf9
 v9:=Tryz.zeroValue9 }
open Go.Lib in
theorem Tryz.internal_strconv_small (i:Nat) (h:i<100) (w:World):
  Calls Tryz.prog 220 #[.int .i64 i] w λe w'=>e=.returned (.string ⟨(Lib.decDigits i).toArray⟩)/\w'=w:=Any.internal_strconv_small Tryz.J1 i h w
def Tryz.Cj:Go.Shelf.Ren:=⟨fun | 284=>221 | 129=>228 | 317=>227 | 318=>229 | n=>n,fun | 53=>72 | 3=>3 | 212=>313 | 0=>0 | 4=>4 | 46=>213 | 5=>5 | 9=>9 | n=>n,fun | 17=>3 | n=>n⟩
theorem Tryz.IE:Go.Proofs.LaysM.n284 Tryz.prog Tryz.Cj:={
 mixed:=by kernel_rfl
 f129:=Tryz.func228.trans (congrArg some (by kernel_rfl))
 f284:=Tryz.func221.trans (congrArg some (by kernel_rfl))
 f317:=Tryz.func227.trans (congrArg some (by kernel_rfl))
 f318:=Tryz.func229.trans (congrArg some (by kernel_rfl))
 t0:=Tryz.underlying0
 a0:=Tryz.isAgg0
 z0:=Tryz.sizeOf0
 v0:=Tryz.zeroValue0
 t3:=Tryz.underlying3
 a3:=Tryz.isAgg3
 z3:=Tryz.sizeOf3
 v3:=Tryz.zeroValue3
 t4:=Tryz.underlying4
 a4:=Tryz.isAgg4
 z4:=Tryz.sizeOf4
 v4:=Tryz.zeroValue4
 t5:=Tryz.underlying5
 a5:=Tryz.isAgg5
 z5:=Tryz.sizeOf5
 v5:=Tryz.zeroValue5
 t9:=Tryz.underlying9
 a9:=Tryz.isAgg9
 z9:=Tryz.sizeOf9
 v9:=Tryz.zeroValue9
 t46:=Tryz.underlying213
 a46:=Tryz.isAgg213
 z46:=Tryz.sizeOf213
 v46:=Tryz.zeroValue213
 t53:=Tryz.underlying72
 a53:=Tryz.isAgg72
 z53:=Tryz.sizeOf72
 v53:=Tryz.zeroValue72
 t212:=Tryz.underlying313
 a212:=Tryz.isAgg313
 z212:=Tryz.sizeOf313
 v212:=Tryz.zeroValue313
 g17:=by kernel_rfl
 i0:=by kernel_rfl
 i3:=by kernel_rfl
 i4:=by kernel_rfl
 i5:=by kernel_rfl
 i9:=by kernel_rfl
 i46:=by kernel_rfl
 i53:=by kernel_rfl
 i212:=by kernel_rfl
 m17:=by kernel_rfl }
open Go.Lib in
theorem Tryz.internal_strconv_numDigits (u:Nat) (h1:1<=u) (h2:u<18446744073709551616) (w:World) (htab:Lib.TabIs Tryz.prog w "internal/strconv.uint64pow10" .u64 Lib.pow10Tab):
  Calls Tryz.prog 221 #[.int .u64 u] w λe w'=>e=.returned (.int .i64 (Lib.nDigits u))/\w'=w:=Any.internal_strconv_numDigits Tryz.IE u h1 h2 w htab
def Tryz.Dx:Go.Shelf.Ren:=⟨fun | 285=>222 | n=>n,fun | 37=>206 | 53=>72 | 3=>3 | 4=>4 | 51=>223 | 9=>9 | 5=>5 | 0=>0 | n=>n,fun | n=>n⟩
theorem Tryz.J2:Go.Proofs.Lays.n285 Tryz.prog Tryz.Dx:={
 mixed:=by kernel_rfl
 f285:=Tryz.func222.trans (congrArg some (by kernel_rfl))
 t0:=Tryz.underlying0
 a0:=Tryz.isAgg0
 z0:=Tryz.sizeOf0
 v0:=Tryz.zeroValue0
 t3:=Tryz.underlying3
 a3:=Tryz.isAgg3
 z3:=Tryz.sizeOf3
 v3:=Tryz.zeroValue3
 t4:=Tryz.underlying4
 a4:=Tryz.isAgg4
 z4:=Tryz.sizeOf4
 v4:=Tryz.zeroValue4
 t5:=Tryz.underlying5
 a5:=Tryz.isAgg5
 z5:=Tryz.sizeOf5
 v5:=Tryz.zeroValue5
 t9:=Tryz.underlying9
 a9:=Tryz.isAgg9
 z9:=Tryz.sizeOf9
 v9:=Tryz.zeroValue9
 t37:=Tryz.underlying206
 a37:=Tryz.isAgg206
 z37:=Tryz.sizeOf206
 v37:=Tryz.zeroValue206
 t51:=Tryz.underlying223
 a51:=Tryz.isAgg223
 z51:=Tryz.sizeOf223
 v51:=Tryz.zeroValue223
 t53:=Tryz.underlying72
 a53:=Tryz.isAgg72
 z53:=Tryz.sizeOf72
 v53:=Tryz.zeroValue72 }
open Go.RowKit Go.Sort Go.Lib in
theorem Tryz.internal_strconv_formatBase10 (blk off cap:Nat) (u:Nat) (d:Array UInt8) (w:World) (hH:Holds (λ(b:UInt8)=>Value.int .u8 (b.toNat:Int)) w blk off d) (hu:u<10 ^ d.size) (hu64:u<18446744073709551616) (hsz:d.size<4611686018427387904):
  Calls Tryz.prog 222 #[.slice (some ⟨blk,off,none⟩) d.size cap,.int .u64 u] w λe w'=>
   e=.returned (.tuple #[])/\∃ (n v':Nat) (dk:Array UInt8),w'=(putRow (λ(b:UInt8)=>Value.int .u8 (b.toNat:Int)) w blk off dk).drewN n/\FmtInv d.size u 0 v' dk:=Any.internal_strconv_formatBase10 Tryz.J2 blk off cap u d w hH hu hu64 hsz
def Tryz.Dy:Go.Shelf.Ren:=⟨fun | 287=>171 | 321=>195 | 322=>196 | n=>n,fun | 9=>9 | 3=>3 | 53=>72 | 75=>219 | 4=>4 | 167=>271 | 5=>5 | 46=>213 | 37=>206 | 0=>0 | 21=>21 | 80=>300 | n=>n,fun | n=>n⟩
theorem Tryz.J3:Go.Proofs.Lays.n287 Tryz.prog Tryz.Dy:={
 mixed:=by kernel_rfl
 f287:=Tryz.func171.trans (congrArg some (by kernel_rfl))
 f321:=Tryz.func195.trans (congrArg some (by kernel_rfl))
 f322:=Tryz.func196.trans (congrArg some (by kernel_rfl))
 t0:=Tryz.underlying0
 a0:=Tryz.isAgg0
 z0:=Tryz.sizeOf0
 v0:=Tryz.zeroValue0
 t3:=Tryz.underlying3
 a3:=Tryz.isAgg3
 z3:=Tryz.sizeOf3
 v3:=Tryz.zeroValue3
 t4:=Tryz.underlying4
 a4:=Tryz.isAgg4
 z4:=Tryz.sizeOf4
 v4:=Tryz.zeroValue4
 t5:=Tryz.underlying5
 a5:=Tryz.isAgg5
 z5:=Tryz.sizeOf5
 v5:=Tryz.zeroValue5
 t9:=Tryz.underlying9
 a9:=Tryz.isAgg9
 z9:=Tryz.sizeOf9
 v9:=Tryz.zeroValue9
 t21:=Tryz.underlying21
 a21:=Tryz.isAgg21
 z21:=Tryz.sizeOf21
 v21:=Tryz.zeroValue21
 t37:=Tryz.underlying206
 a37:=Tryz.isAgg206
 z37:=Tryz.sizeOf206
 v37:=Tryz.zeroValue206
 t46:=Tryz.underlying213
 a46:=Tryz.isAgg213
 z46:=Tryz.sizeOf213
 v46:=Tryz.zeroValue213
 t53:=Tryz.underlying72
 a53:=Tryz.isAgg72
 z53:=Tryz.sizeOf72
 v53:=Tryz.zeroValue72
 t75:=Tryz.underlying219
 a75:=Tryz.isAgg219
 z75:=Tryz.sizeOf219
 v75:=Tryz.zeroValue219
 t167:=Tryz.underlying271
 a167:=Tryz.isAgg271
 z167:=Tryz.sizeOf271
 v167:=Tryz.zeroValue271 }
open Go.RowKit in
theorem Tryz.internal_strconv_ParseUint_10_b32 (t:ByteArray) (hne:t.size≠0) (hmax:t.size<=9223372036854775806) (w:World):
  Calls Tryz.prog 171 #[.string t,.int .i64 10,.int .i64 32] w λe w'=>e=.returned (Lib.uintTupleM 271 4294967295 (Lib.parseUintM 4294967295 0 t.data.toList))/\w'=Lib.bytesWorld w 5 t:=Any.internal_strconv_ParseUint_10_b32 Tryz.J3 t hne hmax w
end Go.Proofs
namespace Go.Sim
open Go Go.Proofs.Tryz
open _root_.Go.IntKind (i64 u64 u32 u8)
set_option maxRecDepth 100000
set_option maxHeartbeats 4000000
instance:vm aK:=⟨λx=>[.string (x.Name),.string (x.A),.string (x.B_),.bool (x.lZ),.bool (x.Open)],λh=>h⟩
instance:vm aO:=⟨λx=>[.string (x.Name),.string (x.oS),.string (x.To),.int .i64 (x.X),.int .i64 (x.A5),.int .i64 (x.Shift),.int .i64 (x.sK),.int .i64 (x.wz),.int .i64 (x.BN)],λh=>h⟩
instance:vm bB:=⟨λx=>[.string (x.Name),.string (x.Node),.int .i64 (x.iH),.int .i64 (x.pX),.int .i64 (x.A9)],λh=>h⟩
instance:vm aE:=⟨λx=>[.string (x.Name),.string (x.Node),.int .i64 (x.cV)],λh=>h⟩
instance:vm bS:=⟨λx=>[.string (x.Name),.string (x.Node),.int .i64 (x.rA),.int .i64 (x.Discharge),.int .i64 (x.tM)],λh=>h⟩
instance:vm aI:=⟨λx=>[.int .i64 (x.Time),.string (x.Kind),.string (x.Name),.int .i64 (x.Value)],λh=>h⟩
instance:vm bH:=⟨λx=>[.int .i64 (x.Kind),.string (x.Name),.int .i64 (x.A),.int .i64 (x.B_)],λh=>h⟩
instance:vm bU:=⟨λx=>[.int .i64 (x.a0),.int .i64 (x.a1)],λh=>h⟩
instance:vm bG:=⟨λx=>[.int .i64 (x.iH),.int .i64 (x.pX),.int .i64 (x.cV)],λh=>h⟩
instance:vm aM:=⟨λx=>[.string (x.Name),.bool (x.xz)],λh=>h⟩
structure dW where
 v0:Value
 v1:Value
 v2:Value
 v3:Value
 v4:Value
 v5:Value
 v6:Value
 v7:Value
 sY:List Value
 v8:Value
 v9:Value
 v10:Value
 xR:List Value
 v11:Value
 sW:List Value
 v12:Value
 A3:List Value
 M4:Value
 M5:Value
 Mu:Value
 yY:List Value
 M6:Value
def aS (b bb1 bb2:Nat):dW->aQ->List bL
 | ⟨v0,v1,v2,v3,v4,v5,v6,v7,sY,v8,v9,v10,xR,v11,sW,v12,A3,M4,M5,Mu,yY,M6⟩,x=>[.obj b (.cells [v0,v1,v2,v3,v4,v5,v6,v7,v8,.pointer (some ⟨bb1,0,none⟩),M4,M5,.int .i64 (x.time),.pointer (some ⟨bb2,0,none⟩),M6].toArray 94 (0,0)),.row v7 9 (aF.sz ByteArray) x.on.length sY,.obj bb1 (.cells [v9,v10,v11,v12,.int .i64 (x.watch.time)].toArray 115 (0,0)),.row v10 125 (aF.sz aA) x.watch.lO.length xR,.row v11 3 (aF.sz Int) x.watch.rq.length sW,.row v12 4 (aF.sz Bool) x.watch.over.length A3,.obj bb2 (.cells [Mu].toArray 158 (0,0)),.row Mu 45 (aF.sz aI) x.log.jL.length yY]
def cM (H:Hp):dW->aQ->Prop
 | ⟨v0,v1,v2,v3,v4,v5,v6,v7,sY,v8,v9,v10,xR,v11,sW,v12,A3,M4,M5,Mu,yY,M6⟩,x=>aP H v0 x.bX.a_/\aP H v1 x.bX.aH/\aP H v2 x.bX.aG/\aP H v3 x.bX.cR/\aP H v4 x.bX.aY/\aP H v5 x.bX.bM/\aP H v6 x.rules/\Rw H v7 sY x.on/\aP H v8 x.held/\aP H v9 x.watch.kE/\Rw H v10 xR x.watch.lO/\Rw H v11 sW x.watch.rq/\Rw H v12 A3 x.watch.over/\aP H M4 x.state.f_/\aP H M5 x.state.iW/\Rw H Mu yY x.log.jL/\aP H M6 x.over
theorem cM.mono {H H2:Hp}{g:dW}{x:aQ} (h:cM H g x) (hle:H.le H2):cM H2 g x:=by
 obtain ⟨v0,v1,v2,v3,v4,v5,v6,v7,sY,v8,v9,v10,xR,v11,sW,v12,A3,M4,M5,Mu,yY,M6⟩:=g;obtain ⟨z0,z1,z2,z3,z4,z5,z6,z7,z8,z9,z10,z11,z12,z13,z14,z15,z16⟩:=h;exact ⟨z0.mono hle,z1.mono hle,z2.mono hle,z3.mono hle,z4.mono hle,z5.mono hle,z6.mono hle,z7.mono hle,z8.mono hle,z9.mono hle,z10.mono hle,z11.mono hle,z12.mono hle,z13.mono hle,z14.mono hle,z15.mono hle,z16.mono hle⟩
theorem cM.mm {H H2:Hp}{g:dW}{x:aQ} (h:cM H g x) (e:H.le H2:=by exact lE):cM H2 g x:=h.mono e
theorem fm:Proofs.Tryz.prog.follows .mixedOrders=true:=by kernel_rfl
theorem Fh.mixed:Proofs.Tryz.prog.follows .mixedOrders=true:=fm
class xf (B:Nat) (w0:World):Prop where
 lt:6<=B
 e1:∃ T p,w0.var? Proofs.Tryz.prog "strconv.ErrSyntax" = some #[.iface T p]
 e2:∃ T p,w0.var? Proofs.Tryz.prog "strconv.ErrRange" = some #[.iface T p]
 t3:Lib.TabIs Proofs.Tryz.prog w0 "internal/strconv.uint64pow10" .u64 Nx
 t4:Lib.TabIs Proofs.Tryz.prog w0 "math/bits.deBruijn32tab" .u8 NO
 t5:Lib.TabIs Proofs.Tryz.prog w0 "math/bits.deBruijn64tab" .u8 NP
theorem xf.below {B:Nat}{w0:World}[h:xf B w0] {g:Nat} (hg:Nat.blt g 6=true):g<B:=by
 have:=h.lt;have:g<6:=by simpa [P7] using hg
 omega
theorem Og:Proofs.Tryz.prog.globalNamed "strconv.ErrSyntax" = some 1:=by kernel_rfl
theorem Oh:Proofs.Tryz.prog.globalNamed "strconv.ErrRange" = some 2:=by kernel_rfl
theorem N_:Proofs.Tryz.prog.globalNamed "internal/strconv.uint64pow10" = some 3:=by kernel_rfl
theorem Oi:Proofs.Tryz.prog.globalNamed "math/bits.deBruijn32tab" = some 4:=by kernel_rfl
theorem Oa:Proofs.Tryz.prog.globalNamed "math/bits.deBruijn64tab" = some 5:=by kernel_rfl
abbrev Hm (a:Hp) (c:List bL) (d:Bool):Hp->List bL->Value->Prop:=λf g h=>a=f/\c=g/\.bool (d)=h
abbrev NZ {ρ:Type} (a:List U8) (c:Nat->List U8->Unit->Option ρ) (d:ρ) (e:Hp) (l:Nat):Env->List bL->Nat->Hp->List bL->Env->Prop:=λf g h i j k=>∃ b0:Nat,∃ b1:List U8,(a).drop b0=b1/\b1.length=h/\c b0 b1 ()=some d/\e.le i/\g=j/\(l,.int .i64 (b0:Int))::f=k
abbrev vO (a:Hp) (c:Nat) (d:Bool):Env->List bL->Hp->List bL->Env->Prop:=λf g h i j=>a=h/\g=i/\(c,.bool (d))::f=j
abbrev xS (a:Hp) (c:List bL) (d:Int):Hp->List bL->Value->Prop:=λf g h=>a=f/\c=g/\.int .i64 (d)=h
abbrev D7 {ρ:Type} (a:Nat) (c:Nat->Nat->Unit->Option ρ) (d:ρ) (e:Hp) (l:Nat):Env->List bL->Nat->Hp->List bL->Env->Prop:=λf g h i j k=>∃ b0 b1:Nat,b0+b1=a/\b1=h/\c b1 b0 ()=some d/\e.le i/\g=j/\(l,.int .i64 (b0:Int))::f=k
abbrev N2 {ρ:Type} (a:List ByteArray) (c:Nat->List ByteArray->Unit->Option ρ) (d:ρ) (e:Hp) (l:Nat):Env->List bL->Nat->Hp->List bL->Env->Prop:=λf g h i j k=>∃ b0:Nat,∃ b1:List ByteArray,(a).drop b0=b1/\b1.length=h/\c b0 b1 ()=some d/\e.le i/\g=j/\(l,.int .i64 (b0:Int))::f=k
abbrev N5 {ρ:Type} (a:Bool->Option ρ) (c:ρ) (d:Hp) (e:Nat):Env->List bL->Hp->List bL->Env->Prop:=λf g h i j=>∃ b0:Bool,a b0=some c/\d=h/\g=i/\(e,.bool (b0))::f=j
abbrev N6 {α:Type}[aF α] (a:Hp) (c:List bL) (d:List α):Hp->List bL->Value->Prop:=λf g h=>a=f/\∃ b0:Value,∃ b1:List Value,.row b0 9 (aF.sz ByteArray) d.length b1::c=g/\b0=h/\sB b0 b1 d
abbrev OC {ρ:Type} (a:List aE) (c:Nat->List aE->List ByteArray->Option ρ) (d:ρ) (e:Hp) (l:Nat) (m:Nat):Env->List bL->Nat->Hp->List bL->Env->Prop:=λf g h i j k=>∃ b0:Nat,∃ b1:List aE,∃ b2:List ByteArray,∃ b3:Value,∃ b4:List Value,(a).drop b0=b1/\b1.length=h/\c b0 b1 b2=some d/\Rw i b3 b4 b2/\e.le i/\.row b3 9 (aF.sz ByteArray) b2.length b4::g=j/\(l,b3)::(m,.int .i64 (b0:Int))::f=k
abbrev KT (a:Hp) (c:List bL) (d:Nat) (e:ByteArray) (l:Bool):Hp->List bL->Value->Prop:=λf g h=>a=f/\.obj d (.cells ([.string (e)]:List Value).toArray 9 (0,0))::c=g/\.bool (l)=h
abbrev Mb (a:Hp) (c:List bL) (d:Nat) (e:ByteArray) (l:Int):Hp->List bL->Value->Prop:=λf g h=>a=f/\.obj d (.cells ([.string (e)]:List Value).toArray 9 (0,0))::c=g/\.int .i64 (l)=h
abbrev Mc (a:Hp) (c:List bL) (d:aD):Hp->List bL->Value->Prop:=λf g h=>a=f/\∃ b0:Value,∃ b1:List Value,∃ b2:Value,∃ b3:List Value,∃ b4:Value,∃ b5:List Value,∃ b6:Value,∃ b7:List Value,∃ b8:Value,∃ b9:List Value,∃ b10:Value,∃ b11:List Value,.row b0 9 (aF.sz ByteArray) d.a_.length b1::.row b2 41 (aF.sz aK) d.aH.length b3::.row b4 120 (aF.sz aO) d.aG.length b5::.row b6 152 (aF.sz bB) d.cR.length b7::.row b8 55 (aF.sz aE) d.aY.length b9::.row b10 156 (aF.sz bS) d.bM.length b11::c=g/\.agg [b0,b2,b4,b6,b8,b10].toArray=h/\sB b0 b1 d.a_/\sB b2 b3 d.aH/\sB b4 b5 d.aG/\sB b6 b7 d.cR/\sB b8 b9 d.aY/\sB b10 b11 d.bM
abbrev KU {α:Type}[aF α] (a:List α):Hp->List bL->Value->Prop:=λf g h=>∃ b0:Value,∃ b1:List Value,[.row b0 9 (aF.sz ByteArray) a.length b1]=g/\b0=h/\Rw f b0 b1 a
abbrev KV (a:Hp) (c:List bL) (d:Nat) (e:Value) (l:Bool):Hp->List bL->Value->Prop:=λf g h=>a=f/\.obj d (.cells ([e]:List Value).toArray 22 (0,0))::c=g/\.bool (l)=h
abbrev KW (a:Hp) (c:List bL) (d:Nat) (e:Value) (l:Int):Hp->List bL->Value->Prop:=λf g h=>a=f/\.obj d (.cells ([e]:List Value).toArray 22 (0,0))::c=g/\.int .i64 (l)=h
abbrev Me {α:Type}[aF α] (a:Hp) (c:List bL) (d:List α):Hp->List bL->Value->Prop:=λf g h=>a=f/\∃ b0:Value,∃ b1:List Value,.row b0 3 (aF.sz Int) d.length b1::c=g/\b0=h/\sB b0 b1 d
abbrev Fe (a:Int):Hp->List bL->Value->Prop:=λf g h=>[]=g/\.int .i64 (a)=h
abbrev Ju {α:Type}[aF α] (a:Hp) (c:List bL) (d:List α) (e:Int):Hp->List bL->Value->Prop:=λf g h=>a=f/\∃ b0:Value,∃ b1:List Value,.row b0 3 (aF.sz Int) d.length b1::c=g/\.tuple #[b0,.int .i64 (e)]=h/\sB b0 b1 d
abbrev KX {α:Type}[aF α] (a:List α):Hp->List bL->Value->Prop:=λf g h=>∃ b0:Value,∃ b1:List Value,[.row b0 3 (aF.sz Int) a.length b1]=g/\b0=h/\Rw f b0 b1 a
abbrev D3 (a:Hp) (c:List bL) (d:aC):Hp->List bL->Value->Prop:=λf g h=>a.le f/\∃ b0:Value,c=g/\.agg [.bool (d.minus),b0].toArray=h/\aP f b0 d.words
abbrev KY {ρ:Type} (a:Nat->Int->Option ρ) (c:ρ) (d:Hp) (e:Nat):Env->List bL->Nat->Hp->List bL->Env->Prop:=λf g h i j k=>∃ b0:Int,a h b0=some c/\d.le i/\g=j/\(e,.int .i64 (b0))::f=k
abbrev KZ {α:Type}[aF α] (a:Hp) (c:List bL) (d:List α):Hp->List bL->Value->Prop:=λf g h=>a=f/\∃ b0:Value,∃ b1:List Value,.row b0 223 (aF.sz bP) d.length b1::c=g/\b0=h/\sB b0 b1 d
abbrev M7 {ρ:Type} (a:List bP) (c:Nat->List bP->((List bP)×Int)->Option ρ) (d:ρ) (e:Value) (l:Hp) (m:Nat) (n:Nat):Env->List bL->Nat->Hp->List bL->Env->Prop:=λf g h i j k=>∃ b0:Nat,∃ b1 b2:List bP,∃ b3:Int,∃ b4:List Value,(a).drop b0=b1/\b1.length=h/\c b0 b1 (b2,b3)=some d/\Rw i e b4 b2/\l.le i/\.row e 223 (aF.sz bP) b2.length b4::g=j/\(m,.int .u64 (b3))::(n,.int .i64 (b0:Int))::f=k
abbrev Bj {α:Type}[aF α] (a:List α):Hp->List bL->Value->Prop:=λf g h=>∃ b0:Value,∃ b1:List Value,[.row b0 223 (aF.sz bP) a.length b1]=g/\b0=h/\Rw f b0 b1 a
abbrev M8 {ρ:Type} (a:Nat) (c:Nat->Nat->((List bP)×Int)->Option ρ) (d:ρ) (e:Value) (l:Hp) (m:Nat) (n:Nat):Env->List bL->Nat->Hp->List bL->Env->Prop:=λf g h i j k=>∃ b0 b1:Nat,∃ b2:List bP,∃ b3:Int,∃ b4:List Value,b0+b1=a/\b1=h/\c b1 b0 (b2,b3)=some d/\Rw i e b4 b2/\l.le i/\.row e 223 (aF.sz bP) b2.length b4::g=j/\(m,.int .u64 (b3))::(n,.int .i64 (b0:Int))::f=k
abbrev Mf {α:Type}[aF α] (a:aC) (c:List α):Hp->List bL->Value->Prop:=λf g h=>∃ b0:Value,∃ b1:List Value,∃ b2:Value,[]=g/\.agg [.bool (a.minus),b2].toArray=h/\Rw f b0 b1 c/\aP f b0 c/\aP f b2 a.words
abbrev yZ (a:aC):Hp->List bL->Value->Prop:=λf g h=>∃ b0:Value,[]=g/\.agg [.bool (a.minus),b0].toArray=h/\aP f b0 a.words
abbrev M9:Hp->List bL->Value->Prop:=λf g h=>∃ b0:Nat,[.obj b0 (.cells ([.bool (false),.slice none 0 0]:List Value).toArray 123 (0,0))]=g/\.pointer (some ⟨b0,0,none⟩)=h
abbrev M_ {ρ:Type} (a:Bool->(List bP)->Bool->(List bP)->Option ρ) (c:ρ) (d:Hp) (e:Nat) (l:Nat):Env->List bL->Hp->List bL->Env->Prop:=λf g h i j=>∃ b0:Bool,∃ b1:(List bP),∃ b2:Bool,∃ b3:(List bP),∃ b4 b5:Value,a b0 b1 b2 b3=some c/\aP h b4 b1/\aP h b5 b3/\d.le h/\.obj e (.cells ([.bool (b0),b4]:List Value).toArray 123 (0,0))::.obj l (.cells ([.bool (b2),b5]:List Value).toArray 123 (0,0))::g=i/\f=j
abbrev A4 (a:Hp) (c:List bL) (d:aA):Hp->List bL->Value->Prop:=λf g h=>a.le f/\∃ b0 b1:Value,c=g/\.agg [.bool (d.N.minus),b0,.bool (d.D.minus),b1].toArray=h/\aP f b0 d.N.words/\aP f b1 d.D.words
abbrev rW (a:aA):Hp->List bL->Value->Prop:=λf g h=>∃ b0 b1:Value,[]=g/\.agg [.bool (a.N.minus),b0,.bool (a.D.minus),b1].toArray=h/\aP f b0 a.N.words/\aP f b1 a.D.words
abbrev Mg {α:Type}[aF α] (a:List α):Hp->List bL->Value->Prop:=λf g h=>∃ b0:Value,∃ b1:List Value,[.row b0 125 (aF.sz aA) a.length b1]=g/\b0=h/\Rw f b0 b1 a
abbrev K0 {α:Type}[aF α] (a:Hp) (c:List bL) (d:List α) (e:Nat) (l:Value) (m:Value) (n:Value) (o:Value) (p:Value) (q:Value) (r:Value) (s:Value):Hp->List bL->Value->Prop:=λf g h=>a.le f/\∃ b0:Value,∃ b1:List Value,.row b0 125 (aF.sz aA) d.length b1::.obj e (.cells ([l,m,n,o,p,q,r,s]:List Value).toArray 197 (0,0))::c=g/\b0=h/\Rw f b0 b1 d
abbrev Na {ρ:Type} (a:List Int) (c:Nat->List Int->List aA->Option ρ) (d:ρ) (e:Value) (l:Hp) (m:Nat):Env->List bL->Nat->Hp->List bL->Env->Prop:=λf g h i j k=>∃ b0:Nat,∃ b1:List Int,∃ b2:List aA,∃ b3:List Value,(a).drop b0=b1/\b1.length=h/\c b0 b1 b2=some d/\Rw i e b3 b2/\l.le i/\.row e 125 (aF.sz aA) b2.length b3::g=j/\(m,.int .i64 (b0:Int))::f=k
abbrev K1 (a:Hp) (c:List bL) (d:ByteArray):Hp->List bL->Value->Prop:=λf g h=>a=f/\c=g/\.string (d)=h
abbrev K2 (a:Nat):Hp->List bL->Value->Prop:=λf g h=>[]=g/\.pointer (some ⟨a,0,none⟩)=h
abbrev Nc {ρ:Type} (a:List aO) (c:Nat->List aO->List ByteArray->Option ρ) (d:ρ) (e:Hp) (l:Nat) (m:Nat):Env->List bL->Nat->Hp->List bL->Env->Prop:=λf g h i j k=>∃ b0:Nat,∃ b1:List aO,∃ b2:List ByteArray,∃ b3:Value,∃ b4:List Value,(a).drop b0=b1/\b1.length=h/\c b0 b1 b2=some d/\Rw i b3 b4 b2/\e.le i/\.row b3 9 (aF.sz ByteArray) b2.length b4::g=j/\(l,b3)::(m,.int .i64 (b0:Int))::f=k
abbrev Nd {ρ:Type} (a:List ByteArray->Option ρ) (c:ρ) (d:Hp) (e:Nat):Env->List bL->Hp->List bL->Env->Prop:=λf g h i j=>∃ b0:List ByteArray,∃ b1:Value,∃ b2:List Value,a b0=some c/\Rw h b1 b2 b0/\d.le h/\.row b1 9 (aF.sz ByteArray) b0.length b2::g=i/\(e,b1)::f=j
abbrev Nf {α:Type}[aF α] (a:Hp) (c:List bL) (d:cE) (e:List α) (l:Int):Hp->List bL->Value->Prop:=λf g h=>a=f/\∃ b0:Value,∃ b1:List Value,∃ b2:Value,∃ b3:List Value,∃ b4:Value,∃ b5:List Value,.row b0 117 (aF.sz ByteArray) d.f_.length b1::.row b2 117 (aF.sz ByteArray) d.iW.length b3::.row b4 9 (aF.sz ByteArray) e.length b5::c=g/\.tuple #[.agg [b0,b2].toArray,b4,.int .i64 (l)]=h/\sB b0 b1 d.f_/\sB b2 b3 d.iW/\sB b4 b5 e
abbrev Jv (a:cE):Hp->List bL->Value->Prop:=λf g h=>∃ b0 b1:Value,∃ b2 b3:List Value,[]=g/\.agg [b0,b1].toArray=h/\Rw f b0 b2 a.f_/\Rw f b1 b3 a.iW/\aP f b0 a.f_/\aP f b1 a.iW
abbrev Ng {α:Type}[aF α] {β:Type}[aF β] (a:List α) (c:List β):Hp->List bL->Value->Prop:=λf g h=>∃ b0:Value,∃ b1:List Value,∃ b2:Value,∃ b3:List Value,[.row b0 9 (aF.sz ByteArray) a.length b1,.row b2 9 (aF.sz ByteArray) c.length b3]=g/\b2=h/\Rw f b0 b1 a/\Rw f b2 b3 c
abbrev Nh:Hp->List bL->Value->Prop:=λf g h=>∃ b0:Nat,[.obj b0 (.cells ([.slice none 0 0,.slice none 0 0]:List Value).toArray 65 (0,0))]=g/\.pointer (some ⟨b0,0,none⟩)=h
abbrev Ni (a:cE):Hp->List bL->Value->Prop:=λf g h=>∃ b0 b1:Value,∃ b2:Nat,∃ b3 b4:List Value,[.obj b2 (.cells ([b0,b1]:List Value).toArray 65 (0,0))]=g/\.pointer (some ⟨b2,0,none⟩)=h/\Rw f b0 b3 a.f_/\Rw f b1 b4 a.iW/\aP f b0 a.f_/\aP f b1 a.iW
abbrev Mh (a:aD):Hp->List bL->Value->Prop:=λf g h=>∃ b0:Value,∃ b1:List Value,∃ b2:Value,∃ b3:List Value,∃ b4:Value,∃ b5:List Value,∃ b6:Value,∃ b7:List Value,∃ b8:Value,∃ b9:List Value,∃ b10:Value,∃ b11:List Value,[.row b0 9 (aF.sz ByteArray) a.a_.length b1,.row b2 41 (aF.sz aK) a.aH.length b3,.row b4 120 (aF.sz aO) a.aG.length b5,.row b6 152 (aF.sz bB) a.cR.length b7,.row b8 55 (aF.sz aE) a.aY.length b9,.row b10 156 (aF.sz bS) a.bM.length b11]=g/\.agg [b0,b2,b4,b6,b8,b10].toArray=h/\Rw f b0 b1 a.a_/\Rw f b2 b3 a.aH/\Rw f b4 b5 a.aG/\Rw f b6 b7 a.cR/\Rw f b8 b9 a.aY/\Rw f b10 b11 a.bM
abbrev Mi {α:Type}[aF α] {β:Type}[aF β] (a:Value) (c:List α) (d:List Value) (e:List β) (l:Int) (m:cE):Hp->List bL->Value->Prop:=λf g h=>∃ b0:Value,∃ b1:List Value,∃ b2:Value,∃ b3:List Value,∃ b4:Value,∃ b5:List Value,[.row a 9 (aF.sz ByteArray) c.length d,.row b4 9 (aF.sz ByteArray) e.length b5]=g/\.tuple #[.agg [b0,b2].toArray,b4,.int .i64 (l)]=h/\Rw f b0 b1 m.f_/\Rw f b2 b3 m.iW/\Rw f b4 b5 e/\aP f b0 m.f_/\aP f b2 m.iW
abbrev Mj {α:Type}[aF α] {β:Type}[aF β] (a:Value) (c:List α) (d:List Value) (e:List β) (l:Int) (m:cE):Hp->List bL->Value->Prop:=λf g h=>∃ b0 b1 b2:Value,∃ b3 b4 b5:List Value,[.row a 9 (aF.sz ByteArray) c.length d,.row b2 9 (aF.sz ByteArray) e.length b3]=g/\.tuple #[.agg [b0,b1].toArray,b2,.int .i64 (l)]=h/\Rw f b0 b4 m.f_/\Rw f b1 b5 m.iW/\Rw f b2 b3 e/\aP f b0 m.f_/\aP f b1 m.iW
abbrev Mk {α:Type}[aF α] {β:Type}[aF β] (a:Value) (c:List α) (d:List Value) (e:List β):Hp->List bL->Value->Prop:=λf g h=>∃ b0:Value,∃ b1:List Value,[.row a 9 (aF.sz ByteArray) c.length d,.row b0 9 (aF.sz ByteArray) e.length b1]=g/\b0=h/\Rw f b0 b1 e
abbrev Ml (a:Hp) (c:List bL) (d:Nat) (e:aI) (l:Bool):Hp->List bL->Value->Prop:=λf g h=>a=f/\.obj d (.cells ([.int .i64 (e.Time),.string (e.Kind),.string (e.Name),.int .i64 (e.Value)]:List Value).toArray 45 (0,0))::c=g/\.bool (l)=h
abbrev Mm (a:Hp) (c:List bL) (d:Nat) (e:aI) (l:Int):Hp->List bL->Value->Prop:=λf g h=>a=f/\.obj d (.cells ([.int .i64 (e.Time),.string (e.Kind),.string (e.Name),.int .i64 (e.Value)]:List Value).toArray 45 (0,0))::c=g/\.int .i64 (l)=h
abbrev Nj (a:Hp) (c:List bL) (d:Nat) (e:Nat) (l:Nat) (m:dW) (n:aQ) (o:Nat) (p:cN) (q:Int):Hp->List bL->Value->Prop:=λf g h=>a.le f/\∃ b0 b1:Value,∃ b2:List Value,∃ b3 b4:Value,∃ b5:List Value,∃ b6:Value,∃ b7:List Value,∃ b8 b9:Value,∃ b10:List Value,iT (aS d e l m n)::.obj o (.cells ([b0,b1,b3,b4,b6,b8,b9]:List Value).toArray 103 (0,0))::.row b1 41 (aF.sz aK) p.n.aH.length b2::.row b4 152 (aF.sz bB) p.n.cR.length b5::.row b6 55 (aF.sz aE) p.n.aY.length b7::.row b9 9 (aF.sz ByteArray) p.on.length b10::c=g/\.int .i64 (q)=h/\aP f b0 p.n.a_/\Rw f b1 b2 p.n.aH/\aP f b3 p.n.aG/\Rw f b4 b5 p.n.cR/\Rw f b6 b7 p.n.aY/\aP f b8 p.n.bM/\Rw f b9 b10 p.on
abbrev Nk {α:Type}[aF α] (a:List α):Hp->List bL->Value->Prop:=λf g h=>∃ b0:Value,∃ b1:List Value,[.row b0 45 (aF.sz aI) a.length b1]=g/\b0=h/\Rw f b0 b1 a
abbrev Mn {α:Type}[aF α] (a:Hp) (c:List bL) (d:List α) (e:Nat) (l:Value):Hp->List bL->Value->Prop:=λf g h=>a=f/\∃ b0:Value,∃ b1:List Value,.row b0 9 (aF.sz ByteArray) d.length b1::.obj e (.cells ([l]:List Value).toArray 22 (0,0))::c=g/\b0=h/\sB b0 b1 d
abbrev K3 {ρ:Type} (a:Nat->((List ByteArray)×Int×Int)->Option ρ) (c:ρ) (d:Value) (e:Hp) (l:Nat) (m:Nat):Env->List bL->Nat->Hp->List bL->Env->Prop:=λf g h i j k=>∃ b0:List ByteArray,∃ b1 b2:Int,∃ b3:List Value,a h (b0,b1,b2)=some c/\Rw i d b3 b0/\e.le i/\.row d 9 (aF.sz ByteArray) b0.length b3::g=j/\(l,.int .i64 (b1))::(m,.int .i64 (b2))::f=k
abbrev K4 {ρ:Type} (a:List ByteArray->Int->Option ρ) (c:ρ) (d:Value) (e:Hp) (l:Nat):Env->List bL->Hp->List bL->Env->Prop:=λf g h i j=>∃ b0:List ByteArray,∃ b1:Int,∃ b2:List Value,a b0 b1=some c/\Rw h d b2 b0/\e=h/\.row d 9 (aF.sz ByteArray) b0.length b2::g=i/\(l,.int .i64 (b1))::f=j
abbrev K5 {α:Type}[aF α] (a:Hp) (c:List bL) (d:List α) (e:Nat) (l:Value) (m:Nat) (n:Value) (o:Value) (p:Value) (q:Value) (r:Value) (s:Value) (t:Bool):Hp->List bL->Value->Prop:=λf g h=>a=f/\∃ b0:Value,∃ b1:List Value,.row b0 9 (aF.sz ByteArray) d.length b1::.obj e (.cells ([l]:List Value).toArray 22 (0,0))::.obj m (.cells ([n,o,p,q,r,s]:List Value).toArray 29 (0,0))::c=g/\.tuple #[b0,.bool (t)]=h/\sB b0 b1 d
abbrev N0 {α:Type}[aF α] (a:Hp) (c:List bL) (d:List α) (e:Int):Hp->List bL->Value->Prop:=λf g h=>a=f/\∃ b0:Value,∃ b1:List Value,.row b0 9 (aF.sz ByteArray) d.length b1::c=g/\.tuple #[b0,.int .i64 (e)]=h/\sB b0 b1 d
abbrev Nl {ρ:Type} (a:List ByteArray) (c:Nat->List ByteArray->List aI->Option ρ) (d:ρ) (e:Hp) (l:Nat) (m:Nat):Env->List bL->Nat->Hp->List bL->Env->Prop:=λf g h i j k=>∃ b0:Nat,∃ b1:List ByteArray,∃ b2:List aI,∃ b3:Value,∃ b4:List Value,(a).drop b0=b1/\b1.length=h/\c b0 b1 b2=some d/\Rw i b3 b4 b2/\e.le i/\.row b3 45 (aF.sz aI) b2.length b4::.obj l (.cells ([b3]:List Value).toArray 158 (0,0))::g=j/\(m,.int .i64 (b0:Int))::f=k
abbrev Nn {α:Type}[aF α] (a:Value) (c:cN) (d:List Value) (e:Value) (l:List Value) (m:Value) (n:List Value) (o:Value) (p:List Value) (q:List α):Hp->List bL->Value->Prop:=λf g h=>∃ b0:Value,∃ b1:List Value,[.row a 41 (aF.sz aK) c.n.aH.length d,.row e 152 (aF.sz bB) c.n.cR.length l,.row m 55 (aF.sz aE) c.n.aY.length n,.row o 9 (aF.sz ByteArray) c.on.length p,.row b0 9 (aF.sz ByteArray) q.length b1]=g/\b0=h/\Rw f b0 b1 q
abbrev N1 {ρ:Type} (a:(List aO)->List aA->List Int->List Bool->Int->Option ρ) (c:ρ) (d:Hp) (e:Nat):Env->List bL->Hp->List bL->Env->Prop:=λf g h i j=>∃ b0:(List aO),∃ b1:List aA,∃ b2:List Int,∃ b3:List Bool,∃ b4:Int,∃ b5 b6:Value,∃ b7:List Value,∃ b8:Value,∃ b9:List Value,∃ b10:Value,∃ b11:List Value,a b0 b1 b2 b3 b4=some c/\aP h b5 b0/\Rw h b6 b7 b1/\Rw h b8 b9 b2/\Rw h b10 b11 b3/\d.le h/\.row b6 125 (aF.sz aA) b1.length b7::.row b8 3 (aF.sz Int) b2.length b9::.row b10 4 (aF.sz Bool) b3.length b11::.obj e (.cells ([b5,b6,b8,b10,.int .i64 (b4)]:List Value).toArray 115 (0,0))::g=i/\f=j
abbrev No (a:Hp) (c:Nat):Env->List bL->Hp->List bL->Env->Prop:=λf g h i j=>a=h/\g=i/\(c,.bool (true))::f=j
abbrev N3 {ρ:Type} (a:List aI) (c:Nat->List aI->aQ->Option ρ) (d:ρ) (e:Hp) (l:Nat) (m:Nat) (n:Nat) (o:Nat):Env->List bL->Nat->Hp->List bL->Env->Prop:=λf g h i j k=>∃ b0:Nat,∃ b1:List aI,∃ b2:aQ,∃ b3:dW,(a).drop b0=b1/\b1.length=h/\c b0 b1 b2=some d/\cM i b3 b2/\e.le i/\iT (aS l m n b3 b2)::g=j/\(o,.int .i64 (b0:Int))::f=k
abbrev N4 (a:aD) (c:Nat) (d:Nat) (e:Nat) (l:dW) (m:aQ):Hp->List bL->Value->Prop:=λf g h=>∃ b0:Value,∃ b1:List Value,∃ b2:Value,∃ b3:List Value,∃ b4:Value,∃ b5:List Value,∃ b6:Value,∃ b7:List Value,∃ b8:Value,∃ b9:List Value,∃ b10:Value,∃ b11:List Value,[.row b0 9 (aF.sz ByteArray) a.a_.length b1,.row b2 41 (aF.sz aK) a.aH.length b3,.row b4 120 (aF.sz aO) a.aG.length b5,.row b6 152 (aF.sz bB) a.cR.length b7,.row b8 55 (aF.sz aE) a.aY.length b9,.row b10 156 (aF.sz bS) a.bM.length b11,iT (aS c d e l m)]=g/\.agg [b0,b2,b4,b6,b8,b10].toArray=h/\Rw f b0 b1 a.a_/\Rw f b2 b3 a.aH/\Rw f b4 b5 a.aG/\Rw f b6 b7 a.cR/\Rw f b8 b9 a.aY/\Rw f b10 b11 a.bM
variable {B:Nat}{w0 w:World}[xf B w0] {H:Hp}{M:List bL}
theorem vZ {p0_n:aD}{v0 v1 v2 v3 v4 v5:Value}{r:aD} (hm:oD p0_n=some r) (h0:aP H v0 p0_n.a_) (h1:aP H v1 p0_n.aH) (h2:aP H v2 p0_n.aG) (h3:aP H v3 p0_n.cR) (h4:aP H v4 p0_n.aY) (h5:aP H v5 p0_n.bM) (ht:St B w0 H (M) w):
    Calls prog 44 [.agg [v0,v1,v2,v3,v4,v5].toArray].toArray w (eA B w0 λH' M' v=>H.le H'/\∃ qv0 qv1 qv2 qv3 qv4 qv5:Value,M=M'/\.agg [qv0,qv1,qv2,qv3,qv4,qv5].toArray=v/\aP H' qv0 r.a_/\aP H' qv1 r.aH/\aP H' qv2 r.aG/\aP H' qv3 r.cR/\aP H' qv4 r.aY/\aP H' qv5 r.bM):=by
 unfold oD at hm;refine enter func44 G G G ht ?_;refine gs ?_;refine bx (λa4=>?_);refine al (λa5=>?_);refine gs ?_;refine C2 G G G G ?_;obtain ⟨a6,hm⟩:=aL hm;refine sM (α:=aE) (l:=0) (h:=(min (p0_n.aY.length:Int) 4:Int).toNat) (xs:=p0_n.aY) G G RW sizeOf55 G h4 (by omega) (by omega) (.inl G) (λcap hcap=>by rw [O3 G]; exact (.inl ⟨G,G⟩)) (λm hmm=>(.inr ⟨_,_,_,G,G,by omega,by omega,G⟩)) (.inl ⟨G,G⟩) ?_
 intro a0 a1 a7;refine go ?_;refine wt 1 ?_;refine gs ?_;refine C2 G G G G ?_;obtain ⟨a8,hm⟩:=aL hm;refine sM (α:=bB) (l:=0) (h:=(min (p0_n.cR.length:Int) 4:Int).toNat) (xs:=p0_n.cR) G G Th sizeOf152 G h3 (by omega) (by omega) (.inl G) (λcap hcap=>by rw [O3 G]; exact (.inl ⟨G,G⟩)) (λm hmm=>(.inr ⟨_,_,_,G,G,by omega,by omega,G⟩)) (.inl ⟨G,G⟩) ?_
 intro a2 a3 a9;refine go ?_;refine wt 0 ?_;refine gs ?_;refine wt 1 ?_;refine go ?_;obtain rfl:=OZ hm;exact jT lE G (fD.agg G Q1 QM (.head _) G) (.cons _ (.cons _ (.refl _))) (.refl _) ⟨lE,v0,v1,v2,a2,a0,v5,G,G,h0,h1,h2,a3,a1,h5⟩
theorem v_ {p0_s:cI}{v0 v1 v2 v3 v4 v5 v6:Value}{r:cI} (hm:kP p0_s=some r) (h0:aP H v0 p0_s.bZ.a_) (h1:aP H v1 p0_s.bZ.aH) (h2:aP H v2 p0_s.bZ.aG) (h3:aP H v3 p0_s.bZ.cR) (h4:aP H v4 p0_s.bZ.aY) (h5:aP H v5 p0_s.bZ.bM) (h6:aP H v6 p0_s.oM) (ht:St B w0 H (M) w):
    Calls prog 9 [.agg [v0,v1,v2,v3,v4,v5,v6].toArray].toArray w (eA B w0 λH' M' v=>H.le H'/\∃ qv0 qv1 qv2 qv3 qv4 qv5 qv6:Value,M=M'/\.agg [qv0,qv1,qv2,qv3,qv4,qv5,qv6].toArray=v/\aP H' qv0 r.bZ.a_/\aP H' qv1 r.bZ.aH/\aP H' qv2 r.bZ.aG/\aP H' qv3 r.bZ.cR/\aP H' qv4 r.bZ.aY/\aP H' qv5 r.bZ.bM/\aP H' qv6 r.oM):=by
 unfold kP at hm;refine enter func9 G G G ht ?_;refine gs ?_;refine bx (λag=>?_);refine al (λah=>?_);refine gs ?_;refine cA (cs:=[v0,v1,v2,v3,v4,v5]) G G Q1 QM G (dT (.tail _ (.head _)) G) G ?_;obtain ⟨a0,a1,hm⟩:=bind_some hm;refine ca @vZ a1 ?_;rintro _ ai _ ⟨a2,a3,a4,a5,a6,aj,a7,rfl,rfl,a8,a9,aa,ab,ac,ad⟩;refine go ?_;refine wt 1 ?_;refine gs ?_;refine C2 G G G G ?_;obtain ⟨ak,hm⟩:=aL hm;refine sM (α:=aE) (l:=0) (h:=(min (a0.aY.length:Int) 3:Int).toNat) (xs:=a0.aY) G G RW sizeOf55 G ac (by omega) (by omega) (.inl G) (λcap hcap=>by rw [O3 G]; exact (.inl ⟨G,G⟩)) (λm hmm=>(.inr ⟨_,_,_,G,G,by omega,by omega,G⟩)) (.inl ⟨G,G⟩) ?_
 intro ae af am;refine go ?_;refine wt 0 ?_;refine gs ?_;refine wt 1 ?_;refine go ?_;obtain rfl:=OZ hm;exact jT lE G (fD.agg G isAgg32 sizeOf32 (.head _) G) (.cons _ (.cons _ (.refl _))) (.refl _) ⟨a2,a3,a4,a5,a6,ae,a7,v6,G,G,a8,a9,aa,ab,af,ad,h6.mm⟩
theorem n9 {p0_s:ByteArray}{r:Bool} (hm:bQ p0_s=some r) (ht:St B w0 H (M) w):
    Calls prog 96 [.string (p0_s)].toArray w (eA B w0 (Hm H M r)):=by
 unfold bQ at hm;refine enter func96 G G G ht ?_;refine g2 ?_;refine gs ?_;obtain ⟨a9,hm⟩:=aL hm;refine wA G G Pu S5 runUnderlying5 G a9 ?_;intro aj aa ak ab;refine go ?_;obtain ⟨a5,ac,ad,hm⟩:=cU hm;refine cl [(0,_),(6,_),(7,_)] [] 0 [] 0 (NZ (jM p0_s) a5 r aa 8) _ G ⟨0,_,G,G,hm,lE,G,G⟩ ?_;rintro _ a6 _ _ ⟨a0,a3,a7,rfl,hm,am,rfl,rfl⟩;refine g2 ?_;refine bC G (λa4=>?_) (λa4=>?_);obtain ⟨a1,ae,rfl,af,ag⟩:=fP a7 a4;have hm:=(ac _ _ _ _).symm.trans hm;generalize ah:a5 (a0+1) ae=an at hm;unfold oZ at hm;refine g2 ?_;refine cj [(0,_),(6,_),(7,_),(8,_)] [] 0 (vO a6 31 (!(((decide (65<=a1.n)) && (decide (a1.n<=90))) || (((decide (0<(a0:Int))) && (decide (48<=a1.n))) && (decide (a1.n<=57)))))) ?_ (λa2=>?_);rintro _ _ _ ⟨rfl,rfl,rfl⟩;refine cd hm G (λai hm=>?_) (λai hm=>?_);refine gs ?_;exact ef
 refine gt ?_;refine gj ?_;exact kj (eb ag ah) (kK (cB af ab.mm.cQ));refine go ?_;cases ao:(decide (65<=a1.n));refine go ?_;cases ap:(decide (0<(a0:Int)));refine gj ?_;exact kj (a2 _ _ _ pk) kS;refine go ?_;cases aq:(decide (48<=a1.n));refine gj ?_;exact kj (a2 _ _ _ pk) kS;refine gj ?_;exact kj (a2 _ _ _ pk) kS;refine go ?_;cases ar:(decide (a1.n<=90));refine go ?_;cases au:(decide (0<(a0:Int)));refine gj ?_;exact kj (a2 _ _ _ pk) kS;refine go ?_;cases av:(decide (48<=a1.n));refine gj ?_;exact kj (a2 _ _ _ pk) kS;refine gj ?_;exact kj (a2 _ _ _ pk) kS;refine gj ?_;exact kj (a2 _ _ _ pk) kS;obtain rfl:=fO a7 a4;have hm:=(ad _ _).symm.trans hm;refine go ?_;refine cj [] [] 0 (vO a6 2 ((decide (1<=(p0_s.size:Int))) && (decide ((p0_s.size:Int)<=8)))) ?_ (λa8=>?_);rintro _ _ _ ⟨rfl,rfl,rfl⟩;refine go ?_;exact ef;refine go ?_;refine jK G G Pu G (go ?_)
 cases aw:(decide (1<=(p0_s.size:Int)));refine gj ?_;exact kj (a8 _ _ _ pk) kS;refine go ?_;refine jK G G Pu G (gj ?_);exact kj (a8 _ _ _ pk) kS
theorem bY {p0_s:(List ByteArray)}{p1_v:ByteArray}{v0:Value}{r:Int} (hm:bA p0_s p1_v=some r) (h0:aP H v0 p0_s) (ht:St B w0 H (M) w):
    Calls prog 72 [v0,.string (p1_v)].toArray w (eA B w0 (xS H M r)):=by
 unfold bA at hm;refine enter func72 G G G ht ?_;refine g2 ?_;refine gs ?_;obtain ⟨a3,a5,a6,hm⟩:=iG hm;refine cl [(0,_),(1,_),(7,_)] [] 0 [] 0 (D7 (((p0_s.length:Int):Int).toNat) a3 r H 8) _ G ⟨0,_,Pm _,G,hm,lE,G,G⟩ ?_;rintro _ ac _ _ ⟨a0,a1,a4,rfl,hm,ad,rfl,rfl⟩;refine g2 ?_;refine bC G (λa2=>?_) (λa2=>?_);obtain ⟨a7,rfl,a8,a9⟩:=lv a4 a2;have hm:=(a5 _ _ _).symm.trans hm;generalize aa:a3 a7 (a0+1)=ae at hm;unfold lq at hm;refine g2 ?_;refine gs ?_;obtain ⟨af,ag,ah,hm⟩:=aB hm;refine go ?_;refine cd hm G (λab hm=>?_) (λab hm=>?_);refine gs ?_;exact ef;refine gt ?_;refine gj ?_;exact kj (eb a8 aa) (kK (eI a9 (eJ (kF (h0).cQ))));obtain rfl:=lu a4 a2;have hm:=(a6 _ _).symm.trans hm;refine gs ?_;exact ef
theorem cC {p0_s:(List ByteArray)}{p1_v:ByteArray}{v0:Value}{r:Bool} (hm:bF p0_s p1_v=some r) (h0:aP H v0 p0_s) (ht:St B w0 H (M) w):
    Calls prog 30 [v0,.string (p1_v)].toArray w (eA B w0 (Hm H M r)):=by
 unfold bF at hm;refine enter func30 G G G ht ?_;refine g2 ?_;obtain ⟨a1,a0,hm⟩:=bind_some hm;refine cz @bY a0 ?_;refine go ?_;exact ef
theorem fF {p0_c:aR}{name:ByteArray}{nodes:(List ByteArray)}{b0:Nat}{es0:Array MapEntry}{c0:Nat}{v0 v1:Value}{r:Int×aR} (hm:b_ p0_c name nodes=some r) (h0:rB es0 c0 p0_c.seen) (h1:aP H v0 p0_c.nodes) (h2:aP H v1 nodes) (ht:St B w0 H (.obj b0 (.map es0 c0)::M) w):
    Calls prog 105 [.agg [.map (some b0),v0].toArray,.string (name),v1].toArray w (eA B w0 λH' M' v=>H.le H'/\∃ qes0:Array MapEntry,∃ qc0:Nat,∃ qv0:Value,.obj b0 (.map qes0 qc0)::M=M'/\.int .i64 (r.1)=v/\rB qes0 qc0 r.2.seen/\aP H' qv0 r.2.nodes):=by
 unfold b_ at hm;refine enter func105 G G G ht ?_;refine gs ?_;refine bx (λai=>?_);refine g2 ?_;obtain ⟨aj,a6,hm⟩:=bind_some hm;refine cz @n9 a6 ?_;refine go ?_;refine cd hm G (λa7 hm=>?_) (λa7 hm=>?_);refine gs ?_;refine Ek [1] 1 ?_;exact en;refine gs ?_;refine zO (z:=false) (k:=name) (.tail _ (.head _)) h0 G G runUnderlying165 Pu zeroValue4 G G G G (go ?_);refine cd hm G (λa8 hm=>?_) (λa8 hm=>?_);refine gs ?_;refine Ek [1] 1 ?_;exact en;refine gs ?_;refine Wp [1] ?_;refine wD (k:=name) (v:=true) h0 G runUnderlying165 Pu G G G G G ?_;intro ak am an;refine g2 ?_;obtain ⟨a4,a9,aa,hm⟩:=cU hm;refine cl [(2,_),(3,_),(21,_),(22,_)] [] 0 [] 0 (N2 nodes a4 r H 23) _ G ⟨0,_,G,G,hm,lE,G,G⟩ ?_;rintro _ ao _ _ ⟨a0,a1,a5,rfl,hm,ap,rfl,rfl⟩;refine g2 ?_;refine bC G (λa3=>?_) (λa3=>?_);obtain ⟨aq,ab,rfl,ac,ad⟩:=fP a5 a3
 have hm:=(a9 _ _ _ _).symm.trans hm;generalize ae:a4 (a0+1) ab=ar at hm;unfold gK at hm;refine g2 ?_;refine gs ?_;obtain ⟨au,af,hm⟩:=bind_some hm;refine cz @cC af ?_;refine go ?_;refine cd hm G (λag hm=>?_) (λag hm=>?_);refine gs ?_;refine Ek [0] 1 ?_;exact en;refine gt ?_;refine gj ?_;exact kj (eb ad ae) (kK (cB ac h2.mm.cQ));obtain rfl:=fO a5 a3;have hm:=(aa _ _).symm.trans hm;refine g2 ?_;cases a2:(decide ((nodes.length:Int)=2));have hm:=eF a2 hm;refine oz fm 10 [ph _,ph _,ph (.bool (false)),ph _,ph _,ph _,ph _,ph _,ph _,ph _] ⟨om,om,Ll a2,om,om,om,om,om,om,om,OV⟩ ?_;intro av aw;refine dz ?_;refine go ?_;refine cF G ?_;refine gs ?_;refine Ek [0] 1 ?_;exact en;have hm:=eG a2 hm;obtain ⟨ax,ay,az,hm⟩:=aB hm;obtain ⟨b1,b2,b3,hm⟩:=aB hm;refine oz fm 10 [ph _,ph _,ph (.bool (true)),ph _,ph _,ph _,ph _,ph _,ph _,ph _] ⟨om,om,Ll a2,om,om,om,om,om,om,om,OV⟩ ?_
 intro b4 b5;refine dz ?_;refine go ?_;refine cd hm G (λah hm=>?_) (λah hm=>?_);refine gs ?_;refine Ek [0] 1 ?_;exact en;refine gs ?_;refine Ek [0] 1 ?_;exact en
theorem kA {p0_n p1_low p2_high:Int}{r:Bool} (hm:bE p0_n p1_low p2_high=r) (ht:St B w0 H (M) w):
    Calls prog 138 [.int .i64 (p0_n),.int .i64 (p1_low),.int .i64 (p2_high)].toArray w (eA B w0 (Hm H M r)):=by
 unfold bE at hm;refine enter func138 G G G ht ?_;refine gs ?_;refine cj [] [] 0 (vO H 6 ((decide (p0_n<p1_low)) || (decide (p2_high<p0_n)))) ?_ (λa0=>?_);rintro _ _ _ ⟨rfl,rfl,rfl⟩;refine go ?_;obtain rfl:=hm;refine Ew H ?_;exact lj G G ⟨G,G,G⟩;refine go ?_;cases a1:(decide (p0_n<p1_low));refine gj ?_;exact kj (a0 _ _ _ pk) kS;refine gj ?_;exact kj (a0 _ _ _ pk) kS
theorem xm {p0_b:aO}{r:Int} (hm:gX p0_b=r) (ht:St B w0 H (M) w):
    Calls prog 106 [.agg [.string (p0_b.Name),.string (p0_b.oS),.string (p0_b.To),.int .i64 (p0_b.X),.int .i64 (p0_b.A5),.int .i64 (p0_b.Shift),.int .i64 (p0_b.sK),.int .i64 (p0_b.wz),.int .i64 (p0_b.BN)].toArray].toArray w (eA B w0 (xS H M r)):=by
 unfold gX at hm;refine enter func106 G G G ht ?_;refine gs ?_;refine bx (λa2=>?_);refine gs ?_;refine cj [] [] 1 (vO H 32 ((((((bE p0_b.X 1 10000) || (bE p0_b.A5 500 1500)) || (bE p0_b.Shift (-1000) 1000)) || (bE p0_b.sK 0 100000)) || (bE p0_b.wz p0_b.sK 100000)) || (bE p0_b.BN 0 200000))) ?_ (λa0=>?_);rintro _ _ _ ⟨rfl,rfl,rfl⟩;refine cd hm G (λa1 hm=>?_) (λa1 hm=>?_);refine gs ?_;obtain rfl:=hm;refine Ew H ?_;exact lj G G ⟨G,G,G⟩;refine gs ?_;obtain rfl:=hm;refine Ew H ?_;exact lj G G ⟨G,G,G⟩;refine go ?_;refine cz @kA (G:bE p0_b.X 1 10000=_) ?_;refine go ?_;cases a3:((bE p0_b.X 1 10000));refine go ?_;refine cz @kA (G:bE p0_b.A5 500 1500=_) ?_;refine go ?_;cases a4:((bE p0_b.A5 500 1500));refine go ?_;refine cz @kA (G:bE p0_b.Shift (-1000) 1000=_) ?_;refine go ?_;cases a5:((bE p0_b.Shift (-1000) 1000));refine go ?_;refine cz @kA (G:bE p0_b.sK 0 100000=_) ?_
 refine go ?_;cases a6:((bE p0_b.sK 0 100000));refine go ?_;refine cz @kA (G:bE p0_b.wz p0_b.sK 100000=_) ?_;refine go ?_;cases a7:((bE p0_b.wz p0_b.sK 100000));refine go ?_;refine cz @kA (G:bE p0_b.BN 0 200000=_) ?_;refine gj ?_;exact kx [] 1 (a0 _ _ _ pk) G kS;refine gj ?_;exact kx [] 1 (a0 _ _ _ pk) G kS;refine gj ?_;exact kx [] 1 (a0 _ _ _ pk) G kS;refine gj ?_;exact kx [] 1 (a0 _ _ _ pk) G kS;refine gj ?_;exact kx [] 1 (a0 _ _ _ pk) G kS;refine gj ?_;exact kx [] 1 (a0 _ _ _ pk) G kS
theorem iY {p0_n:Int}{r:Bool} (hm:aU p0_n=r) (ht:St B w0 H (M) w):
    Calls prog 139 [.int .i64 (p0_n)].toArray w (eA B w0 (Hm H M r)):=by
 unfold aU at hm;refine enter func139 G G G ht ?_;refine g2 ?_;refine cz @kA (G:bE p0_n 0 100000=_) ?_;refine go ?_;obtain rfl:=hm;refine Ew H ?_;exact lj G G ⟨G,G,G⟩
theorem uq {p0_c:aR}{p1_n:aD}{b0:Nat}{es0:Array MapEntry}{c0:Nat}{v0 v1 v2 v3 v4 v5 v6:Value}{r:Int×aR} (hm:fN p0_c p1_n=some r) (h0:rB es0 c0 p0_c.seen) (h1:aP H v0 p0_c.nodes) (h2:aP H v1 p1_n.a_) (h3:aP H v2 p1_n.aH) (h4:aP H v3 p1_n.aG) (h5:aP H v4 p1_n.cR) (h6:aP H v5 p1_n.aY) (h7:aP H v6 p1_n.bM) (ht:St B w0 H (.obj b0 (.map es0 c0)::M) w):
    Calls prog 107 [.agg [.map (some b0),v0].toArray,.agg [v1,v2,v3,v4,v5,v6].toArray].toArray w (eA B w0 λH' M' v=>H.le H'/\∃ qes0:Array MapEntry,∃ qc0:Nat,∃ qv0:Value,.obj b0 (.map qes0 qc0)::M=M'/\.int .i64 (r.1)=v/\rB qes0 qc0 r.2.seen/\aP H' qv0 r.2.nodes):=by
 unfold fN at hm;refine enter func107 G G G ht ?_;refine gs ?_;refine bx (λbz=>?_);refine bx (λc1=>?_);refine g2 ?_;obtain ⟨ao,aw,ax,hm⟩:=cU hm;refine cl [(2,_),(3,_),(15,_),(16,_)] [0,0] 1 [2] 0 (λu m n H' M' L'=>∃ (a2:Nat) (a6:List bB),∃ a9:(List (ByteArray×Bool)),∃ aa:Array MapEntry,∃ ab:Nat,(p1_n.cR).drop a2=a6/\a6.length=n/\ao a2 a6 a9=some r/\rB aa ab a9/\H.le H'/\.obj b0 (.map aa ab)::m=M'/\(17,.int .i64 ((a2:Int)))::u=L') _ G ⟨0,_,_,_,_,G,G,hm,h0,lE,G,G⟩ ?_;rintro _ ay _ _ ⟨a2,a6,a9,aa,ab,ap,rfl,hm,az,c2,rfl,rfl⟩;refine g2 ?_;refine bC G (λac=>?_) (λac=>?_);obtain ⟨a0,b1,rfl,b2,b3⟩:=fP ap ac;have hm:=(aw _ _ _ _).symm.trans hm;generalize b4:ao (a2+1) b1=c3 at hm;unfold iM at hm;refine g2 ?_;refine al (λc4=>?_);refine wt 0 ?_;refine g2 ?_;refine eU (α:=ByteArray) (css:=[[.string (a0.Node)]]) (zs:=[.string (⟨#[]⟩)]) (out:=[.string (a0.Node)]) (ys:=[a0.Node]) G G G ⟨G,OV⟩ PX QL G QQ (by kernel_rfl) G G G G ⟨[.string (a0.Node)],[],G,G,G⟩ G ?_
 intro c5 c6 b5;refine bV (b5).rd G (λc7 c8 c9=>?_);refine Wp [1] ?_;obtain ⟨cb,b6,hm⟩:=bind_some hm;refine ca @fF b6 ?_;rintro _ b7 _ ⟨cc,ce,cf,cg,rfl,rfl,ch,ci⟩;refine gs ?_;refine cd hm G (λb8 hm=>?_) (λb8 hm=>?_);refine gs ?_;refine Ek [0] 3 ?_;exact en;refine go ?_;refine cj [(2,_),(3,_),(15,_),(16,_),(17,_)] [0,1,1] 1 (vO b7 47 (((!(aU a0.iH)) || (bE a0.pX a0.iH 100000)) || (!(aU a0.A9)))) ?_ (λad=>?_);rintro _ _ _ ⟨rfl,rfl,rfl⟩;refine cd hm G (λb9 hm=>?_) (λb9 hm=>?_);refine gs ?_;refine Ek [0] 2 ?_;exact en;refine gt ?_;refine gj ?_;exact kj (eb b3 b4) (kK (cB b2 h5.mm.cQ));refine go ?_;refine cz @iY (G:aU a0.iH=_) ?_;refine go ?_;cases ck:(aU a0.iH);refine gj ?_;exact kx [0,1,1] 1 (ad _ _ _ pk) G kS;refine go ?_;refine cz @kA (G:bE a0.pX a0.iH 100000=_) ?_;refine go ?_;cases cm:((bE a0.pX a0.iH 100000));refine go ?_
 refine cz @iY (G:aU a0.A9=_) ?_;refine gj ?_;exact kx [0,1,1] 1 (ad _ _ _ pk) G kS;refine gj ?_;exact kx [0,1,1] 1 (ad _ _ _ pk) G kS;obtain rfl:=fO ap ac;have hm:=(ax _ _).symm.trans hm;refine g2 ?_;obtain ⟨aq,ba,bb,hm⟩:=cU hm;refine cl [(2,_),(3,_),(50,_),(51,_)] [1,1] 1 [] 0 (λu m n H' M' L'=>∃ (a3:Nat) (a7:List aE),∃ ae:(List (ByteArray×Bool)),∃ af:Array MapEntry,∃ ag:Nat,(p1_n.aY).drop a3=a7/\a7.length=n/\aq a3 a7 ae=some r/\rB af ag ae/\ay.le H'/\.obj b0 (.map af ag)::m=M'/\(52,.int .i64 ((a3:Int)))::u=L') _ G ⟨0,_,_,_,_,G,G,hm,az,lE,G,G⟩ ?_;rintro _ bc _ _ ⟨a3,a7,ae,af,ag,ar,rfl,hm,bd,cn,rfl,rfl⟩;refine g2 ?_;refine bC G (λah=>?_) (λah=>?_);obtain ⟨a4,be,rfl,bf,bg⟩:=fP ar ah;have hm:=(ba _ _ _ _).symm.trans hm;generalize bh:aq (a3+1) be=co at hm;unfold iN at hm;refine g2 ?_
 refine al (λcp=>?_);refine wt 0 ?_;refine g2 ?_;refine eU (α:=ByteArray) (css:=[[.string (a4.Node)]]) (zs:=[.string (⟨#[]⟩)]) (out:=[.string (a4.Node)]) (ys:=[a4.Node]) G G G ⟨G,OV⟩ PX QL G QQ (by kernel_rfl) G G G G ⟨[.string (a4.Node)],[],G,G,G⟩ G ?_
 intro cq cr bi;refine bV (bi).rd G (λcs ct cu=>?_);refine Wp [1] ?_;obtain ⟨cv,bj,hm⟩:=bind_some hm;refine ca @fF bj ?_;rintro _ cw _ ⟨cx,d0,d1,d2,rfl,rfl,d3,d4⟩;refine gs ?_;refine cd hm G (λbk hm=>?_) (λbk hm=>?_);refine gs ?_;refine Ek [0] 3 ?_;exact en;refine gs ?_;refine cz @iY (G:aU a4.cV=_) ?_;refine go ?_;refine cd hm G (λbl hm=>?_) (λbl hm=>?_);refine gs ?_;refine Ek [0] 3 ?_;exact en;refine gt ?_;refine gj ?_;exact kx [0,1,1] 1 (eb bg bh) G (kK (cB bf h6.mm.cQ));obtain rfl:=fO ar ah;have hm:=(bb _ _).symm.trans hm;refine g2 ?_;obtain ⟨au,bm,bn,hm⟩:=cU hm;refine cl [(2,_),(72,_),(73,_)] [2] 2 [0,1] 1 (λu m n H' M' L'=>∃ (a5:Nat) (a8:List bS),∃ ai:(List (ByteArray×Bool)),∃ aj:Array MapEntry,∃ ak:Nat,(p1_n.bM).drop a5=a8/\a8.length=n/\au a5 a8 ai=some r/\rB aj ak ai/\bc.le H'/\.obj b0 (.map aj ak)::m=M'/\(74,.int .i64 ((a5:Int)))::u=L') _ G ⟨0,_,_,_,_,G,G,hm,bd,lE,G,G⟩ ?_
 rintro _ d5 _ _ ⟨a5,a8,ai,aj,ak,av,rfl,hm,d6,d7,rfl,rfl⟩;refine g2 ?_;refine bC G (λam=>?_) (λam=>?_);obtain ⟨a1,bo,rfl,bp,bq⟩:=fP av am;have hm:=(bm _ _ _ _).symm.trans hm;generalize br:au (a5+1) bo=d8 at hm;unfold iP at hm;refine g2 ?_;refine al (λd9=>?_);refine wt 0 ?_;refine g2 ?_;refine eU (α:=ByteArray) (css:=[[.string (a1.Node)]]) (zs:=[.string (⟨#[]⟩)]) (out:=[.string (a1.Node)]) (ys:=[a1.Node]) G G G ⟨G,OV⟩ PX QL G QQ (by kernel_rfl) G G G G ⟨[.string (a1.Node)],[],G,G,G⟩ G ?_
 intro da db bs;refine bV (bs).rd G (λdc dd de=>?_);refine Wp [1] ?_;obtain ⟨df,bt,hm⟩:=bind_some hm;refine ca @fF bt ?_;rintro _ bu _ ⟨dg,dh,di,dj,rfl,rfl,dk,dl⟩;refine gs ?_;refine cd hm G (λbv hm=>?_) (λbv hm=>?_);refine gs ?_;refine Ek [0] 2 ?_;exact en;refine go ?_;refine cj [(2,_),(72,_),(73,_),(74,_)] [0,1] 1 (vO bu 103 (((!(aU a1.rA)) || (!(aU a1.Discharge))) || (!(aU a1.tM)))) ?_ (λan=>?_);rintro _ _ _ ⟨rfl,rfl,rfl⟩;refine cd hm G (λbw hm=>?_) (λbw hm=>?_);refine gs ?_;refine Ek [0] 1 ?_;exact en;refine gt ?_;refine gj ?_;exact kj (eb bq br) (kK (cB bp h7.mm.cQ));refine go ?_;refine cz @iY (G:aU a1.rA=_) ?_;refine go ?_;cases dm:(aU a1.rA);refine gj ?_;exact kx [0,1] 1 (an _ _ _ pk) G kS;refine go ?_;refine cz @iY (G:aU a1.Discharge=_) ?_;refine go ?_;cases dn:(aU a1.Discharge);refine gj ?_;exact kx [0,1] 1 (an _ _ _ pk) G kS
 refine go ?_;refine cz @iY (G:aU a1.tM=_) ?_;refine gj ?_;exact kx [0,1] 1 (an _ _ _ pk) G kS;obtain rfl:=fO av am;have hm:=(bn _ _).symm.trans hm;refine gs ?_;refine Ek [0] 1 ?_;exact en
theorem lI {p0_n:aD}{v0 v1 v2 v3 v4 v5:Value}{r:Int} (hm:bT p0_n=some r) (h0:aP H v0 p0_n.a_) (h1:aP H v1 p0_n.aH) (h2:aP H v2 p0_n.aG) (h3:aP H v3 p0_n.cR) (h4:aP H v4 p0_n.aY) (h5:aP H v5 p0_n.bM) (ht:St B w0 H (M) w):
    Calls prog 62 [.agg [v0,v1,v2,v3,v4,v5].toArray].toArray w (eA B w0 (xS H M r)):=by
 unfold bT at hm;refine enter func62 G G G ht ?_;refine gs ?_;refine bx (λbs=>?_);refine gs ?_;refine cj [(1,_)] [] 0 (vO H 47 ((((((decide (24<(p0_n.a_.length:Int))) || (decide (32<(p0_n.aH.length:Int)))) || (decide (24<(p0_n.aG.length:Int)))) || (decide (10<(p0_n.cR.length:Int)))) || (decide (12<(p0_n.aY.length:Int)))) || (decide (4<(p0_n.bM.length:Int))))) ?_ (λa2=>?_);rintro _ _ _ ⟨rfl,rfl,rfl⟩;refine cd hm G (λav hm=>?_) (λav hm=>?_);refine gs ?_;refine Ek [] 1 ?_;exact ef;refine gs ?_;refine yF G G (λa3=>?_);refine go ?_;refine dS (css:=[[.map (some a3)],[v0]]) (zs:=[.map none,.slice none 0 0]) (out:=[.map (some a3),v0]) (places:=[(0,1),(1,1)]) G G G ⟨G,(aP.cells h0),OV⟩ zeroValue167 G runUnderlying167 (λw=>by kernel_rfl) G ?_
 refine al (λbt=>?_);refine wt 0 ?_;refine g2 ?_;obtain ⟨an,aw,ax,hm⟩:=cU hm;refine cl [(1,_),(3,_),(53,_),(54,_)] [0,1] 1 [1] 0 (λu m n H' M' L'=>∃ (a4:Nat) (a7:List ByteArray),∃ aa:(List (ByteArray×Bool)),∃ ab:Array MapEntry,∃ ac:Nat,(p0_n.a_).drop a4=a7/\a7.length=n/\an a4 a7 aa=some r/\rB ab ac aa/\H.le H'/\.obj a3 (.map ab ac)::m=M'/\(55,.int .i64 ((a4:Int)))::u=L') _ G ⟨0,_,_,_,_,G,G,hm,(rB.nil (κ:=ByteArray) (ν:=Bool)),lE,G,G⟩ ?_;rintro _ ay _ _ ⟨a4,a7,aa,ab,ac,ao,rfl,hm,az,bu,rfl,rfl⟩;refine g2 ?_;refine bC G (λad=>?_) (λad=>?_);obtain ⟨bv,b0,rfl,b1,b2⟩:=fP ao ad;have hm:=(aw _ _ _ _).symm.trans hm;generalize b3:an (a4+1) b0=bw at hm;unfold mz at hm;refine g2 ?_;refine gs ?_;obtain ⟨bz,b4,hm⟩:=bind_some hm;refine ca @fF b4 ?_;rintro _ c0 _ ⟨c1,c2,c3,c4,rfl,rfl,c5,c6⟩
 refine gs ?_;refine cd hm G (λb5 hm=>?_) (λb5 hm=>?_);refine gs ?_;refine Ek [] 3 ?_;exact ef;refine gt ?_;refine gj ?_;exact kj (eb b2 b3) (kK (cB b1 h0.mm.cQ));obtain rfl:=fO ao ad;have hm:=(ax _ _).symm.trans hm;refine g2 ?_;obtain ⟨ap,b6,b7,hm⟩:=cU hm;refine cl [(1,_),(3,_),(67,_),(68,_)] [1,1] 1 [] 0 (λu m n H' M' L'=>∃ (a5:Nat) (a8:List aK),∃ ae:(List (ByteArray×Bool)),∃ af:Array MapEntry,∃ ag:Nat,(p0_n.aH).drop a5=a8/\a8.length=n/\ap a5 a8 ae=some r/\rB af ag ae/\ay.le H'/\.obj a3 (.map af ag)::m=M'/\(69,.int .i64 ((a5:Int)))::u=L') _ G ⟨0,_,_,_,_,G,G,hm,az,lE,G,G⟩ ?_;rintro _ b8 _ _ ⟨a5,a8,ae,af,ag,aq,rfl,hm,b9,c7,rfl,rfl⟩;refine g2 ?_;refine bC G (λah=>?_) (λah=>?_);obtain ⟨a1,ba,rfl,bb,bc⟩:=fP aq ah;have hm:=(b6 _ _ _ _).symm.trans hm;generalize bd:ap (a5+1) ba=c8 at hm
 unfold mB at hm;refine g2 ?_;refine al (λc9=>?_);refine wt 0 ?_;refine gs ?_;refine eU (α:=ByteArray) (css:=[[.string (a1.A)],[.string (a1.B_)]]) (zs:=[.string (⟨#[]⟩),.string (⟨#[]⟩)]) (out:=[.string (a1.A),.string (a1.B_)]) (ys:=[a1.A,a1.B_]) G G G ⟨G,G,OV⟩ PX QL G QQ (by kernel_rfl) G G G G ⟨[.string (a1.A)],[.string (a1.B_)],G,G,⟨[.string (a1.B_)],[],G,G,G⟩⟩ G ?_
 intro cb cc be;refine bV (be).rd G (λce cf cg=>?_);refine Wp [1] ?_;obtain ⟨ch,bf,hm⟩:=bind_some hm;refine ca @fF bf ?_;rintro _ ci _ ⟨ck,cm,cn,co,rfl,rfl,cp,cq⟩;refine gs ?_;refine cd hm G (λbg hm=>?_) (λbg hm=>?_);refine gs ?_;refine Ek [] 4 ?_;exact ef;refine gt ?_;refine gj ?_;exact kx [0,1,1] 1 (eb bc bd) G (kK (cB bb h1.mm.cQ));obtain rfl:=fO aq ah;have hm:=(b7 _ _).symm.trans hm;refine g2 ?_;obtain ⟨ar,bh,bi,hm⟩:=cU hm;refine cl [(1,_),(3,_),(87,_),(88,_)] [1,1] 1 [] 0 (λu m n H' M' L'=>∃ (a6:Nat) (a9:List aO),∃ ai:(List (ByteArray×Bool)),∃ aj:Array MapEntry,∃ ak:Nat,(p0_n.aG).drop a6=a9/\a9.length=n/\ar a6 a9 ai=some r/\rB aj ak ai/\b8.le H'/\.obj a3 (.map aj ak)::m=M'/\(89,.int .i64 ((a6:Int)))::u=L') _ G ⟨0,_,_,_,_,G,G,hm,b9,lE,G,G⟩ ?_;rintro _ cr _ _ ⟨a6,a9,ai,aj,ak,au,rfl,hm,cs,ct,rfl,rfl⟩
 refine g2 ?_;refine bC G (λam=>?_) (λam=>?_);obtain ⟨a0,bj,rfl,bk,bl⟩:=fP au am;have hm:=(bh _ _ _ _).symm.trans hm;generalize bm:ar (a6+1) bj=cu at hm;unfold mC at hm;refine g2 ?_;refine al (λcv=>?_);refine wt 0 ?_;refine g2 ?_;refine eU (α:=ByteArray) (css:=[[.string (a0.oS)],[.string (a0.To)]]) (zs:=[.string (⟨#[]⟩),.string (⟨#[]⟩)]) (out:=[.string (a0.oS),.string (a0.To)]) (ys:=[a0.oS,a0.To]) G G G ⟨G,G,OV⟩ PX QL G QQ (by kernel_rfl) G G G G ⟨[.string (a0.oS)],[.string (a0.To)],G,G,⟨[.string (a0.To)],[],G,G,G⟩⟩ G ?_
 intro cw cx bn;refine bV (bn).rd G (λd0 d1 d2=>?_);refine Wp [1] ?_;obtain ⟨d3,bo,hm⟩:=bind_some hm;refine ca @fF bo ?_;rintro _ d4 _ ⟨d5,d6,d7,d8,rfl,rfl,d9,da⟩;refine gs ?_;refine cd hm G (λbp hm=>?_) (λbp hm=>?_);refine gs ?_;refine Ek [] 4 ?_;exact ef;refine gs ?_;refine cz @xm (G:gX a0=_) ?_;refine gs ?_;refine cd hm G (λbq hm=>?_) (λbq hm=>?_);refine gs ?_;refine Ek [] 4 ?_;exact ef;refine gt ?_;refine gj ?_;exact kx [0,1,1] 1 (eb bl bm) G (kK (cB bk h2.mm.cQ));obtain rfl:=fO au am;have hm:=(bi _ _).symm.trans hm;refine gs ?_;obtain ⟨db,br,hm⟩:=bind_some hm;refine ca @uq br ?_;rintro _ dc _ ⟨dd,de,df,dg,rfl,rfl,dh,di⟩;refine go ?_;refine Ek [] 3 ?_;exact ef;refine go ?_;cases dj:(decide (24<(p0_n.a_.length:Int)));refine go ?_;cases dk:(decide (32<(p0_n.aH.length:Int)));refine go ?_;cases dl:(decide (24<(p0_n.aG.length:Int)))
 refine go ?_;cases dm:(decide (10<(p0_n.cR.length:Int)));refine go ?_;cases dn:(decide (12<(p0_n.aY.length:Int)));refine gj ?_;exact kj (a2 _ _ _ pk) kS;refine gj ?_;exact kj (a2 _ _ _ pk) kS;refine gj ?_;exact kj (a2 _ _ _ pk) kS;refine gj ?_;exact kj (a2 _ _ _ pk) kS;refine gj ?_;exact kj (a2 _ _ _ pk) kS;refine gj ?_;exact kj (a2 _ _ _ pk) kS
theorem u7 {p0_l:(List bH)}{v0:Value}{r:Int} (hm:jH p0_l=some r) (h0:aP H v0 p0_l) (ht:St B w0 H (M) w):
    Calls prog 135 [v0].toArray w (eA B w0 (xS H M r)):=by
 unfold jH at hm;refine enter func135 G G G ht ?_;refine q2 ?_;refine qs ?_;refine lr h0 ?_;refine qg ?_;refine cd hm G (λbm hm=>?_) (λbm hm=>?_);refine qs ?_;exact ef;refine qs ?_;refine lr h0 ?_;refine qg ?_;refine cd hm G (λbn hm=>?_) (λbn hm=>?_);refine qs ?_;exact ef;refine qs ?_;refine lr h0 ?_;obtain ⟨b3,hm⟩:=aL hm;refine eS (α:=Int) (zs:=[.int .i64 (0)]) (ze:=0) G G Qx ⟨_,G,G,G,G⟩ G G G G G G b3.1 b3.2 ?_;intro a3 d5 bo;refine q2 ?_;refine lr h0 ?_;refine qg ?_;obtain ⟨b4,bp,bq,hm⟩:=cU hm;refine cl [(0,_),(3,_),(18,_),(19,_)] [] 1 [] 0 (λu m n H' M' L'=>∃ (a0:Nat) (ad:List bH),∃ a6:List Int,∃ ah:List Value,(p0_l).drop a0=ad/\ad.length=n/\b4 a0 ad a6=some r/\Rw H' a3 ah a6/\H.le H'/\.row a3 3 (aF.sz Int) a6.length ah::m=M'/\(20,.int .i64 ((a0:Int)))::u=L') _ G ⟨0,_,_,_,G,G,hm,bo,lE,G,G⟩ ?_
 rintro _ a2 _ _ ⟨a0,ad,a6,ah,b5,rfl,hm,aa,d6,rfl,rfl⟩;refine q2 ?_;refine bC G (λai=>?_) (λai=>?_);obtain ⟨a1,br,rfl,aj,bs⟩:=fP b5 ai;have hm:=(bp _ _ _ _).symm.trans hm;generalize bt:b4 (a0+1) br=ak at hm;unfold nG at hm;refine qg ?_;refine cj [(0,_),(3,_),(18,_),(19,_),(20,_)] [] 1 (λu m H' M' L'=>∃ ae:List Int,∃ am:List Value,dM ak ae=some r/\Rw H' a3 am ae/\a2.le H'/\.row a3 3 (aF.sz Int) ae.length am::m=M'/\u=L') ?_ (λa7=>?_);rintro d7 _ _ ⟨ae,am,hm,d8,d9,rfl,rfl⟩;unfold dM at hm;refine qj ?_;exact kj (eb bs bt) (kK (cB aj h0.mm.cQ));refine qs ?_;obtain ⟨_,⟨rfl⟩,bu⟩:=(h0).elem aj;refine Ar h0 aj ?_;refine MQ bu ?_;refine al (λda=>?_);refine qg ?_;refine wt 0 ?_;refine qg ?_;refine cj [(0,_),(3,_),(4,_),(5,_),(18,_),(19,_),(20,_)] [] 0 (vO a2 6 ((decide (a1.Kind=2)) || (decide (a1.Kind=3)))) ?_ (λb6=>?_)
 rintro _ _ _ ⟨rfl,rfl,rfl⟩;refine qs ?_;refine cj [(0,_),(3,_),(4,_),(5,_),(6,_),(18,_),(19,_),(20,_)] [] 0 (vO a2 33 ((decide (a1.Kind<0)) || (decide (6<a1.Kind)))) ?_ (λb7=>?_);rintro _ _ _ ⟨rfl,rfl,rfl⟩;refine cd hm G (λbv hm=>?_) (λbv hm=>?_);refine qs ?_;refine Ek [] 2 ?_;exact ef;refine qs ?_;cases b8:((decide (a1.Kind=2)) || (decide (a1.Kind=3)));have hm:=eF b8 hm;refine qg ?_;refine cF G ?_;refine cj [(0,_),(3,_),(4,_),(5,_),(18,_),(19,_),(20,_)] [] 0 (vO a2 50 (!decide (a1.Name=(⟨#[]⟩)))) ?_ (λbw=>?_);rintro _ _ _ ⟨rfl,rfl,rfl⟩;refine cd hm G (λbz hm=>?_) (λbz hm=>?_);refine qs ?_;refine Ek [] 2 ?_;exact ef;refine qs ?_;obtain ⟨db,dc,an,hm⟩:=aB hm;refine sX an ?_;obtain ⟨_,rfl,c0⟩:=(aa).elem an;refine wr 1 0 ((a0:Int)) aa an c0 G G ?_;intro dd a4 de df;refine q2 ?_;refine cd hm G (λc1 hm=>?_) (λc1 hm=>?_)
 refine qs ?_;refine cj [(0,_),(3,_),(4,_),(5,_),(18,_),(19,_),(20,_)] [] 0 (vO a2 87 (((decide ((a0:Int)=0)) || (!decide (a1.A=(i64.wrap ((a0:Int)-1))))) || (!decide (a1.B_=0)))) ?_ (λao=>?_);rintro _ _ _ ⟨rfl,rfl,rfl⟩;refine cd hm G (λc2 hm=>?_) (λc2 hm=>?_);refine qs ?_;refine Ek [] 2 ?_;exact ef;refine qg ?_;obtain ⟨c3,dg,b9,hm⟩:=aB hm;refine sX b9 ?_;obtain ⟨_,rfl,c4⟩:=(a4).elem b9;refine xt c4 ?_;obtain ⟨dh,di,ap,hm⟩:=aB hm;refine sX ap ?_;obtain ⟨_,rfl,c5⟩:=(a4).elem ap;refine wr 0 0 c3 a4 ap c5 G G ?_;intro dj dk dl dm;refine qj ?_;exact kx [0] 1 (a7 _ _ _ pk);refine qg ?_;cases dn:(decide ((a0:Int)=0));refine qg ?_;cases dp:(decide (a1.A=(i64.wrap ((a0:Int)-1))));refine qj ?_;exact kj (ao _ _ _ pk) kS;refine qj ?_;exact kj (ao _ _ _ pk) kS;refine qj ?_;exact kj (ao _ _ _ pk) kS;refine cj [(0,_),(3,_),(4,_),(5,_),(18,_),(19,_),(20,_)] [] 0 (N5 (dX a6 ak a1 a0) r a2 96) ?_ (λba=>?_)
 rintro _ _ _ ⟨aq,hm,rfl,rfl,rfl⟩;unfold dX at hm;refine cd hm G (λc6 hm=>?_) (λc6 hm=>?_);refine q2 ?_;cases a8:(decide ((a0:Int)=0));have hm:=eF a8 hm;cases ab:(decide (a1.B_=(i64.wrap ((a0:Int)-1))));have hm:=eF ab hm;refine oz fm 26 [ph _,ph (.bool (false)),ph _,ph _,ph _,ph _,ph _,ph (.bool (true)),ph _,ph _,ph _,ph _,ph _,ph _,ph _,ph _,ph _,ph _,ph _,ph _,ph _,ph _,ph _,ph _,ph _,ph _] ⟨qm,qn a8,qm,qm,qm,qm,qm,qn ab,qm,qm,qm,qm,qm,qm,qm,qm,qm,qm,qm,qm,qm,qm,qm,qm,qm,qm,OV⟩ ?_;intro dq ds;refine dz ?_;refine qg ?_;refine cT G ?_;refine qs ?_;refine Ek [] 2 ?_;exact ef;have hm:=eG ab hm;obtain ⟨ar,dt,au,hm⟩:=aB hm;obtain ⟨_,rfl,bb⟩:=(a4).elem au;cases af:(decide (ar=0));have hm:=eF af hm;obtain ⟨c7,du,bc,hm⟩:=aB hm;obtain ⟨_,rfl,c8⟩:=(a4).elem bc;refine oz fm 26 [ph _,ph (.bool (false)),ph _,ph _,ph _,ph _,ph _,ph (.bool (false)),ph _,ph _,ph _,ph _,ph _,ph (.pointer (some ((Value.base (a3)).add ((i64.wrap ((a0:Int)-1):Int).toNat*aF.sz Int)))),ph (.int .i64 (ar)),ph (.bool (false)),ph _,ph _,ph _,ph _,ph _,ph _,ph _,ph (.pointer (some ((Value.base (a3)).add ((i64.wrap ((a0:Int)-1):Int).toNat*aF.sz Int)))),ph (.int .i64 (c7)),ph _] ⟨qm,qn a8,qm,qm,qm,qm,qm,qn ab,qm,qm,qm,qm,qm,?_,?_,qn af,qm,qm,qm,qm,qm,qm,qm,?_,?_,qm,OV⟩ ?_
 intro HX hX X Rest hR;refine dr ?_;intro hU hUp;refine sX au ?_;exact o0 ⟨G,G⟩;rintro HX hX X Rest hR _ _ ⟨rfl,rfl⟩ _ _ ⟨rfl,rfl⟩ hU hUp;refine xt bb ?_;exact o0 ⟨G,G⟩;intro HX hX X Rest hR;refine dr ?_;intro hU hUp;refine sX bc ?_;exact o0 ⟨G,G⟩;rintro HX hX X Rest hR _ _ ⟨rfl,rfl⟩ _ _ ⟨rfl,rfl⟩ hU hUp;refine xt c8 ?_;exact o0 ⟨G,G⟩;intro dv dw;refine dz ?_;refine qg ?_;refine cd hm G (λc9 hm=>?_) (λc9 hm=>?_);refine qs ?_;refine Ek [] 2 ?_;exact ef;refine qg ?_;obtain ⟨cb,dx,bd,hm⟩:=aB hm;refine sX bd ?_;obtain ⟨_,rfl,cc⟩:=(a4).elem bd;refine xt cc ?_;obtain ⟨dy,e0,av,hm⟩:=aB hm;refine sX av ?_;obtain ⟨_,rfl,ce⟩:=(a4).elem av;refine wr 0 0 cb a4 av ce G G ?_;intro e1 e2 e3 e4;refine qj ?_;exact kx [0] 1 (a7 _ _ _ pk);have hm:=eG af hm;refine oz fm 26 [ph _,ph (.bool (false)),ph _,ph _,ph _,ph _,ph _,ph (.bool (false)),ph _,ph _,ph _,ph _,ph _,ph (.pointer (some ((Value.base (a3)).add ((i64.wrap ((a0:Int)-1):Int).toNat*aF.sz Int)))),ph (.int .i64 (ar)),ph (.bool (true)),ph _,ph _,ph _,ph _,ph _,ph _,ph _,ph _,ph _,ph _] ⟨qm,qn a8,qm,qm,qm,qm,qm,qn ab,qm,qm,qm,qm,qm,?_,?_,qn af,qm,qm,qm,qm,qm,qm,qm,qm,qm,qm,OV⟩ ?_
 intro HX hX X Rest hR;refine dr ?_;intro hU hUp;refine sX au ?_;exact o0 ⟨G,G⟩;rintro HX hX X Rest hR _ _ ⟨rfl,rfl⟩ _ _ ⟨rfl,rfl⟩ hU hUp;refine xt bb ?_;exact o0 ⟨G,G⟩;intro e5 e6;refine dz ?_;refine qg ?_;refine cT G ?_;refine qs ?_;refine Ek [] 2 ?_;exact ef;have hm:=eG a8 hm;refine oz fm 26 [ph _,ph (.bool (true)),ph _,ph _,ph _,ph _,ph _,ph _,ph _,ph _,ph _,ph _,ph _,ph _,ph _,ph _,ph _,ph _,ph _,ph _,ph _,ph _,ph _,ph _,ph _,ph _] ⟨qm,qn a8,qm,qm,qm,qm,qm,qm,qm,qm,qm,qm,qm,qm,qm,qm,qm,qm,qm,qm,qm,qm,qm,qm,qm,qm,OV⟩ ?_;intro e7 e8;refine dz ?_;refine qg ?_;refine cT G ?_;refine qs ?_;refine Ek [] 2 ?_;exact ef;refine cj [(0,_),(3,_),(18,_),(19,_),(20,_)] [0] 1 (vO a2 71 ((!decide (a1.A=0)) || (!decide (a1.B_=0)))) ?_ (λbe=>?_);rintro _ _ _ ⟨rfl,rfl,rfl⟩;refine cd hm G (λcf hm=>?_) (λcf hm=>?_)
 refine qs ?_;refine Ek [] 1 ?_;exact ef;refine qj ?_;exact kj (a7 _ _ _ pk);refine qg ?_;cases e9:(decide (a1.A=0));refine qj ?_;exact kx [0] 1 (be _ _ _ pk) G kS;refine qj ?_;exact kx [0] 1 (be _ _ _ pk) G kS;refine qs ?_;refine cd hm G (λcg hm=>?_) (λcg hm=>?_);refine qj ?_;exact kj (ba _ _ _ pk);refine qj ?_;exact kj (ba _ _ _ pk);refine qj ?_;exact kj (bw _ _ _ pk);have hm:=eG b8 hm;refine qg ?_;obtain ⟨ea,ch,hm⟩:=bind_some hm;refine cz @n9 ch ?_;refine qg ?_;refine cd hm G (λci hm=>?_) (λci hm=>?_);refine qs ?_;refine Ek [] 2 ?_;exact ef;refine cj [(0,_),(3,_),(4,_),(5,_),(18,_),(19,_),(20,_)] [] 0 (λu m H' M' L'=>a2=H'/\m=M'/\(50,.bool (false))::u=L') ?_ (λck=>?_);rintro _ _ _ ⟨rfl,rfl,rfl⟩;refine cF G ?_;refine qs ?_;obtain ⟨ec,ed,aw,hm⟩:=aB hm;refine sX aw ?_;obtain ⟨_,rfl,cm⟩:=(aa).elem aw;refine wr 1 0 ((a0:Int)) aa aw cm G G ?_
 intro ee a5 eg eh;refine q2 ?_;refine cd hm G (λcn hm=>?_) (λcn hm=>?_);refine qs ?_;refine cj [(0,_),(3,_),(4,_),(5,_),(18,_),(19,_),(20,_)] [] 0 (vO a2 87 (((decide ((a0:Int)=0)) || (!decide (a1.A=(i64.wrap ((a0:Int)-1))))) || (!decide (a1.B_=0)))) ?_ (λax=>?_);rintro _ _ _ ⟨rfl,rfl,rfl⟩;refine cd hm G (λco hm=>?_) (λco hm=>?_);refine qs ?_;refine Ek [] 2 ?_;exact ef;refine qg ?_;obtain ⟨cp,ei,bf,hm⟩:=aB hm;refine sX bf ?_;obtain ⟨_,rfl,cq⟩:=(a5).elem bf;refine xt cq ?_;obtain ⟨ej,ek,ay,hm⟩:=aB hm;refine sX ay ?_;obtain ⟨_,rfl,cr⟩:=(a5).elem ay;refine wr 0 0 cp a5 ay cr G G ?_;intro el em eo ep;refine qj ?_;exact kx [0] 1 (a7 _ _ _ pk);refine qg ?_;cases er:(decide ((a0:Int)=0));refine qg ?_;cases es:(decide (a1.A=(i64.wrap ((a0:Int)-1))));refine qj ?_;exact kj (ax _ _ _ pk) kS;refine qj ?_;exact kj (ax _ _ _ pk) kS
 refine qj ?_;exact kj (ax _ _ _ pk) kS;refine cj [(0,_),(3,_),(4,_),(5,_),(18,_),(19,_),(20,_)] [] 0 (N5 (jA a6 ak a1 a0) r a2 96) ?_ (λbg=>?_);rintro _ _ _ ⟨az,hm,rfl,rfl,rfl⟩;unfold jA at hm;refine cd hm G (λcs hm=>?_) (λcs hm=>?_);refine q2 ?_;cases a9:(decide ((a0:Int)=0));have hm:=eF a9 hm;cases ac:(decide (a1.B_=(i64.wrap ((a0:Int)-1))));have hm:=eF ac hm;refine oz fm 26 [ph _,ph (.bool (false)),ph _,ph _,ph _,ph _,ph _,ph (.bool (true)),ph _,ph _,ph _,ph _,ph _,ph _,ph _,ph _,ph _,ph _,ph _,ph _,ph _,ph _,ph _,ph _,ph _,ph _] ⟨qm,qn a9,qm,qm,qm,qm,qm,qn ac,qm,qm,qm,qm,qm,qm,qm,qm,qm,qm,qm,qm,qm,qm,qm,qm,qm,qm,OV⟩ ?_;intro et eu;refine dz ?_;refine qg ?_;refine cT G ?_;refine qs ?_;refine Ek [] 2 ?_;exact ef;have hm:=eG ac hm;obtain ⟨b0,ev,b1,hm⟩:=aB hm;obtain ⟨_,rfl,bh⟩:=(a5).elem b1
 cases ag:(decide (b0=0));have hm:=eF ag hm;obtain ⟨ct,ew,bi,hm⟩:=aB hm;obtain ⟨_,rfl,cu⟩:=(a5).elem bi;refine oz fm 26 [ph _,ph (.bool (false)),ph _,ph _,ph _,ph _,ph _,ph (.bool (false)),ph _,ph _,ph _,ph _,ph _,ph (.pointer (some ((Value.base (a3)).add ((i64.wrap ((a0:Int)-1):Int).toNat*aF.sz Int)))),ph (.int .i64 (b0)),ph (.bool (false)),ph _,ph _,ph _,ph _,ph _,ph _,ph _,ph (.pointer (some ((Value.base (a3)).add ((i64.wrap ((a0:Int)-1):Int).toNat*aF.sz Int)))),ph (.int .i64 (ct)),ph _] ⟨qm,qn a9,qm,qm,qm,qm,qm,qn ac,qm,qm,qm,qm,qm,?_,?_,qn ag,qm,qm,qm,qm,qm,qm,qm,?_,?_,qm,OV⟩ ?_;intro HX hX X Rest hR;refine dr ?_;intro hU hUp;refine sX b1 ?_;exact o0 ⟨G,G⟩;rintro HX hX X Rest hR _ _ ⟨rfl,rfl⟩ _ _ ⟨rfl,rfl⟩ hU hUp;refine xt bh ?_;exact o0 ⟨G,G⟩;intro HX hX X Rest hR;refine dr ?_;intro hU hUp;refine sX bi ?_
 exact o0 ⟨G,G⟩;rintro HX hX X Rest hR _ _ ⟨rfl,rfl⟩ _ _ ⟨rfl,rfl⟩ hU hUp;refine xt cu ?_;exact o0 ⟨G,G⟩;intro ex ey;refine dz ?_;refine qg ?_;refine cd hm G (λcv hm=>?_) (λcv hm=>?_);refine qs ?_;refine Ek [] 2 ?_;exact ef;refine qg ?_;obtain ⟨cw,ez,bj,hm⟩:=aB hm;refine sX bj ?_;obtain ⟨_,rfl,cx⟩:=(a5).elem bj;refine xt cx ?_;obtain ⟨fa,fb,b2,hm⟩:=aB hm;refine sX b2 ?_;obtain ⟨_,rfl,d0⟩:=(a5).elem b2;refine wr 0 0 cw a5 b2 d0 G G ?_;intro fd fe ff fg;refine qj ?_;exact kx [0] 1 (a7 _ _ _ pk);have hm:=eG ag hm;refine oz fm 26 [ph _,ph (.bool (false)),ph _,ph _,ph _,ph _,ph _,ph (.bool (false)),ph _,ph _,ph _,ph _,ph _,ph (.pointer (some ((Value.base (a3)).add ((i64.wrap ((a0:Int)-1):Int).toNat*aF.sz Int)))),ph (.int .i64 (b0)),ph (.bool (true)),ph _,ph _,ph _,ph _,ph _,ph _,ph _,ph _,ph _,ph _] ⟨qm,qn a9,qm,qm,qm,qm,qm,qn ac,qm,qm,qm,qm,qm,?_,?_,qn ag,qm,qm,qm,qm,qm,qm,qm,qm,qm,qm,OV⟩ ?_
 intro HX hX X Rest hR;refine dr ?_;intro hU hUp;refine sX b1 ?_;exact o0 ⟨G,G⟩;rintro HX hX X Rest hR _ _ ⟨rfl,rfl⟩ _ _ ⟨rfl,rfl⟩ hU hUp;refine xt bh ?_;exact o0 ⟨G,G⟩;intro fh fi;refine dz ?_;refine qg ?_;refine cT G ?_;refine qs ?_;refine Ek [] 2 ?_;exact ef;have hm:=eG a9 hm;refine oz fm 26 [ph _,ph (.bool (true)),ph _,ph _,ph _,ph _,ph _,ph _,ph _,ph _,ph _,ph _,ph _,ph _,ph _,ph _,ph _,ph _,ph _,ph _,ph _,ph _,ph _,ph _,ph _,ph _] ⟨qm,qn a9,qm,qm,qm,qm,qm,qm,qm,qm,qm,qm,qm,qm,qm,qm,qm,qm,qm,qm,qm,qm,qm,qm,qm,qm,OV⟩ ?_;intro fj fk;refine dz ?_;refine qg ?_;refine cT G ?_;refine qs ?_;refine Ek [] 2 ?_;exact ef;refine cj [(0,_),(3,_),(18,_),(19,_),(20,_)] [0] 1 (vO a2 71 ((!decide (a1.A=0)) || (!decide (a1.B_=0)))) ?_ (λbk=>?_);rintro _ _ _ ⟨rfl,rfl,rfl⟩;refine cd hm G (λd1 hm=>?_) (λd1 hm=>?_)
 refine qs ?_;refine Ek [] 1 ?_;exact ef;refine qj ?_;exact kj (a7 _ _ _ pk);refine qg ?_;cases fl:(decide (a1.A=0));refine qj ?_;exact kx [0] 1 (bk _ _ _ pk) G kS;refine qj ?_;exact kx [0] 1 (bk _ _ _ pk) G kS;refine qs ?_;refine cd hm G (λd2 hm=>?_) (λd2 hm=>?_);refine qj ?_;exact kj (bg _ _ _ pk);refine qj ?_;exact kj (bg _ _ _ pk);refine qj ?_;exact kj (ck _ _ _ pk);refine qg ?_;cases fn:(decide (a1.Kind<0));refine qj ?_;exact kj (b7 _ _ _ pk) kS;refine qj ?_;exact kj (b7 _ _ _ pk) kS;refine qg ?_;cases fo:(decide (a1.Kind=2));refine qj ?_;exact kj (b6 _ _ _ pk) kS;refine qj ?_;exact kj (b6 _ _ _ pk) kS;obtain rfl:=fO b5 ai;have hm:=(bq _ _).symm.trans hm;refine q2 ?_;refine lr h0 ?_;refine qg ?_;obtain ⟨fp,fr,bl,hm⟩:=aB hm;refine sX bl ?_;obtain ⟨_,rfl,d3⟩:=(aa).elem bl;refine xt d3 ?_;refine qg ?_;refine cd hm G (λd4 hm=>?_) (λd4 hm=>?_);refine qs ?_
 refine Ek [] 1 ?_;exact ef;refine qs ?_;refine Ek [] 1 ?_;exact ef
theorem tj {p0_l:(List aX)}{v0:Value}{r:Int} (hm:l7 p0_l=some r) (h0:aP H v0 p0_l) (ht:St B w0 H (M) w):
    Calls prog 88 [v0].toArray w (eA B w0 (xS H M r)):=by
 unfold l7 at hm;refine enter func88 G G G ht ?_;refine g2 ?_;refine gs ?_;refine cd hm G (λa6 hm=>?_) (λa6 hm=>?_);refine gs ?_;exact ef;refine g2 ?_;obtain ⟨a3,a7,a8,hm⟩:=cU hm;refine cl [(9,_),(10,_)] [] 0 [] 0 (λu m n H' M' L'=>∃ (a0:Nat) (a1:List aX),(p0_l).drop a0=a1/\a1.length=n/\a3 a0 a1 ()=some r/\H.le H'/\m=M'/\(11,.int .i64 ((a0:Int)))::u=L') _ G ⟨0,_,G,G,hm,lE,G,G⟩ ?_;rintro _ ag _ _ ⟨a0,a1,a4,rfl,hm,ah,rfl,rfl⟩;refine g2 ?_;refine bC G (λa2=>?_) (λa2=>?_);obtain ⟨ai,a9,rfl,a5,aa⟩:=fP a4 a2;have hm:=(a7 _ _ _ _).symm.trans hm;generalize ab:a3 (a0+1) a9=aj at hm;unfold qa at hm;refine g2 ?_;obtain ⟨_,⟨ak,rfl,am⟩,an⟩:=(h0).elem a5;refine go ?_;refine al (λao=>?_);refine wt 0 ?_;refine g2 ?_;obtain ⟨ap,ac,hm⟩:=bind_some hm;refine cz @n9 ac ?_;refine go ?_;refine cd hm G (λad hm=>?_) (λad hm=>?_)
 refine gs ?_;refine Ek [] 1 ?_;exact ef;refine gs ?_;obtain ⟨aq,ae,hm⟩:=bind_some hm;refine cz @u7 ae ?_;refine gs ?_;refine cd hm G (λaf hm=>?_) (λaf hm=>?_);refine gs ?_;refine Ek [] 1 ?_;exact ef;refine gt ?_;refine gj ?_;exact kx [] 1 (eb aa ab) G (kK (cB a5 h0.mm.cQ));obtain rfl:=fO a4 a2;have hm:=(a8 _ _).symm.trans hm;refine gs ?_;exact ef
theorem ue {p0_n:aD}{v0 v1 v2 v3 v4 v5:Value}{r:(List ByteArray)} (hm:pw p0_n=some r) (h0:aP H v0 p0_n.a_) (h1:aP H v1 p0_n.aH) (h2:aP H v2 p0_n.aG) (h3:aP H v3 p0_n.cR) (h4:aP H v4 p0_n.aY) (h5:aP H v5 p0_n.bM) (ht:St B w0 H (M) w):
    Calls prog 48 [.agg [v0,v1,v2,v3,v4,v5].toArray].toArray w (eA B w0 (N6 H M r)):=by
 unfold pw at hm;refine enter func48 G G G ht ?_;refine gs ?_;refine bx (λak=>?_);refine g2 ?_;refine gs ?_;refine jJ 9 (aF.sz ByteArray) ?_;obtain ⟨a7,a9,aa,hm⟩:=cU hm;refine cl [(7,_),(8,_)] [] 2 [0] 1 (OC p0_n.aY a7 r H 3 9) _ G ⟨0,_,_,_,_,G,G,hm,Rw.nil,lE,G,G⟩ ?_;rintro _ am _ _ ⟨a1,a3,a2,a4,a5,a8,rfl,hm,ab,an,rfl,rfl⟩;refine g2 ?_;refine bC G (λa6=>?_) (λa6=>?_);obtain ⟨a0,ac,rfl,ad,ae⟩:=fP a8 a6;have hm:=(a9 _ _ _ _).symm.trans hm;generalize af:a7 (a1+1) ac=ao at hm;unfold te at hm;refine g2 ?_;refine al (λap=>?_);refine wt 0 ?_;refine go ?_;refine cZ (α:=ByteArray) (css:=[[.string (a0.Name)]]) (zs:=[.string (⟨#[]⟩)]) (out:=[.string (a0.Name)]) (ys:=[a0.Name]) G G G ⟨G,OV⟩ PX QL G QQ (by kernel_rfl) G G G G ⟨[.string (a0.Name)],[],G,G,G⟩ G ?_
 intro aq ag ar ah au ai;have av:Value.nF ag=([a0.Name]).length:=by rw [ah]; rfl
 obtain ⟨aj,hm⟩:=aL hm;refine Wp [1] ?_;refine cS (α:=ByteArray) (l:=a2) (ys:=[a0.Name]) G G Rq ⟨_,G,G,G,G⟩ G G G G G ab.mm ai aj ?_;intro aw ax ay;refine gt ?_;refine gj ?_;exact kx [0] 1 (eb ae af) G (kK (cB ad h4.mm.cQ));obtain rfl:=fO a8 a6;have hm:=(aa _ _).symm.trans hm;refine gs ?_;exact ef
theorem xn {p0_l:aE}{p1_c1:ByteArray}{b0:Nat}{r:Bool} (hm:oa p0_l p1_c1=r) (ht:St B w0 H (.obj b0 (.cells ([.string (p1_c1)]:List Value).toArray 9 (0,0))::M) w):
    Calls prog 118 [.agg [.string (p0_l.Name),.string (p0_l.Node),.int .i64 (p0_l.cV)].toArray,.pointer (some ⟨b0,0,none⟩)].toArray w (eA B w0 (KT H M b0 p1_c1 r)):=by
 unfold oa at hm;refine enter func118 G G G ht ?_;refine gs ?_;refine bx (λa0=>?_);refine gs ?_;obtain rfl:=hm;refine Ek [1] 1 ?_;refine Ew H ?_;exact lj G G ⟨G,G,G⟩
theorem lX {p0_s:(List aE)}{p1_f_0:ByteArray}{v0:Value}{b0:Nat}{r:Int} (hm:cJ p0_s p1_f_0=some r) (h0:aP H v0 p0_s) (ht:St B w0 H (.obj b0 (.cells ([.string (p1_f_0)]:List Value).toArray 9 (0,0))::M) w):
    Calls prog 97 [v0,.func (.func 118) [].toArray [.pointer (some ⟨b0,0,none⟩)].toArray].toArray w (eA B w0 (Mb H M b0 p1_f_0 r)):=by
 unfold cJ at hm;refine enter func97 G G G ht ?_;refine g2 ?_;refine gs ?_;obtain ⟨a3,a5,a6,hm⟩:=iG hm;refine cl [(0,_),(1,_),(7,_)] [] 0 [] 0 (D7 (((p0_s.length:Int):Int).toNat) a3 r H 8) _ G ⟨0,_,Pm _,G,hm,lE,G,G⟩ ?_;rintro _ ad _ _ ⟨a0,a1,a4,rfl,hm,ae,rfl,rfl⟩;refine g2 ?_;refine bC G (λa2=>?_) (λa2=>?_);obtain ⟨a7,rfl,a8,a9⟩:=lv a4 a2;have hm:=(a5 _ _ _).symm.trans hm;generalize aa:a3 a7 (a0+1)=af at hm;unfold dC at hm;refine g2 ?_;refine gs ?_;obtain ⟨ab,ag,ah,hm⟩:=aB hm;refine go ?_;refine mJ call118 G G G G (λw ht=>(xn (hm:=(G:oa ab p1_f_0=_))  ht :)) ?_;rintro _ _ _ ⟨rfl,rfl,rfl⟩;refine go ?_;refine cd hm G (λac hm=>?_) (λac hm=>?_);refine gs ?_;exact ef;refine gt ?_;refine gj ?_;exact kj (eb a8 aa) (kK (eI a9 (eJ (kF (h0).cQ))));obtain rfl:=lu a4 a2;have hm:=(a6 _ _).symm.trans hm;refine gs ?_
 exact ef
theorem lM {p0_s:(List aE)}{p1_f_0:ByteArray}{v0:Value}{b0:Nat}{r:Bool} (hm:cG p0_s p1_f_0=some r) (h0:aP H v0 p0_s) (ht:St B w0 H (.obj b0 (.cells ([.string (p1_f_0)]:List Value).toArray 9 (0,0))::M) w):
    Calls prog 117 [v0,.func (.func 118) [].toArray [.pointer (some ⟨b0,0,none⟩)].toArray].toArray w (eA B w0 (KT H M b0 p1_f_0 r)):=by
 unfold cG at hm;refine enter func117 G G G ht ?_;refine g2 ?_;obtain ⟨a1,a0,hm⟩:=bind_some hm;refine cz @lX a0 ?_;refine go ?_;exact ef
theorem uB {p0_n:aD}{on:(List ByteArray)}{v0 v1 v2 v3 v4 v5 v6:Value}{r:Int} (hm:dV p0_n on=some r) (h0:aP H v0 p0_n.a_) (h1:aP H v1 p0_n.aH) (h2:aP H v2 p0_n.aG) (h3:aP H v3 p0_n.cR) (h4:aP H v4 p0_n.aY) (h5:aP H v5 p0_n.bM) (h6:aP H v6 on) (ht:St B w0 H (M) w):
    Calls prog 73 [.agg [v0,v1,v2,v3,v4,v5].toArray,v6].toArray w (eA B w0 (xS H M r)):=by
 unfold dV at hm;refine enter func73 G G G ht ?_;refine gs ?_;refine bx (λaj=>?_);refine g2 ?_;obtain ⟨ak,a7,hm⟩:=bind_some hm;refine cz @lI a7 ?_;refine gs ?_;refine cd hm G (λa8 hm=>?_) (λa8 hm=>?_);refine gs ?_;refine Ek [] 1 ?_;exact ef;refine g2 ?_;obtain ⟨a4,a9,aa,hm⟩:=cU hm;refine cl [(1,_),(2,_),(13,_),(14,_)] [] 0 [] 0 (N2 on a4 r H 15) _ G ⟨0,_,G,G,hm,lE,G,G⟩ ?_;rintro _ am _ _ ⟨a0,a2,a5,rfl,hm,an,rfl,rfl⟩;refine g2 ?_;refine bC G (λa3=>?_) (λa3=>?_);obtain ⟨ao,ab,rfl,ac,ad⟩:=fP a5 a3;have hm:=(a9 _ _ _ _).symm.trans hm;generalize ae:a4 (a0+1) ab=ap at hm;unfold pf at hm;refine g2 ?_;refine al (λaq=>?_);refine go ?_;refine wt 0 ?_;refine gs ?_;obtain ⟨ar,af,hm⟩:=bind_some hm;refine cz @lM af ?_;refine go ?_;refine cd hm G (λag hm=>?_) (λag hm=>?_);refine gs ?_;refine Ek [] 2 ?_;exact ef;refine gs ?_
 obtain ⟨au,hm⟩:=aL hm;refine oz fm 4 [ph _,ph _,(λH rs v=>∃ a1:Value,[]=rs/\a1=v/\aP H a1 (rV on 0 (((a0:Int):Int).toNat))),ph _] ⟨om,om,?_,om,OV⟩ ?_;rintro HX hX X Rest hR _ _ ⟨rfl,rfl⟩ _ _ ⟨rfl,rfl⟩ hU hUp;refine sM (α:=ByteArray) (l:=0) (h:=((a0:Int):Int).toNat) (xs:=on) G G PX QL G h6.mm (by omega) (by omega) (.inl G) (λcap hcap=>by rw [O3 G]; exact (.inl ⟨G,G⟩)) (λm hmm=>(.inr ⟨_,_,_,G,G,by omega,by omega,G⟩)) (.inl ⟨G,G⟩) ?_
 intro a1 a6 av;exact o0 ⟨a1,G,G,(a6)⟩;intro aw ax;refine dr ?_;rintro _ _ ⟨a1,rfl,rfl,a6⟩;refine dz ?_;obtain ⟨ay,ah,hm⟩:=bind_some hm;refine cz @cC ah ?_;refine go ?_;refine cd hm G (λai hm=>?_) (λai hm=>?_);refine gs ?_;refine Ek [] 2 ?_;exact ef;refine gt ?_;refine gj ?_;exact kx [1] 1 (eb ad ae) G (kK (cB ac h6.mm.cQ));obtain rfl:=fO a5 a3;have hm:=(aa _ _).symm.trans hm;refine gs ?_;refine Ek [] 1 ?_;exact ef
theorem w7 {B:Nat}{w0 w:World}{H:Hp}{M:List bL}{s:List ByteArray}{v0:Value} (h0:aP H v0 s) (hz:s.length*16<=140737488355328) (ht:St B w0 H M w):
  Calls prog 53 [v0].toArray w (eA B w0 (N6 H M s)):=by
 refine enter func53 G G G ht ?_;obtain ⟨o,n,c,rfl⟩:=h0.shape;refine bI ?_;refine aN (aJ G G G ?_);refine aZ (aT ?_);refine bI ?_;refine bI ?_;refine aN (bR G G G (rC G G PX G G ?_));refine aZ (aT ?_);cases o with
 | none=>
  refine bC (b:=true) G (λ_=>?_) (λhb=>Bool.noConfusion hb);obtain rfl:=h0.isNil;refine bI ?_;refine aN (aJ G G G ?_);refine aZ (aT ?_);refine mq (jB ?_);refine cD 9 (aF.sz ByteArray) ?_;exact lj G G ⟨G,.slice none 0 0,[],G,G,(Rw.nil (H:=H)).oF⟩
 | some a=>
  refine bC (b:=false) G (λhb=>Bool.noConfusion hb) (λ_=>?_);refine mf (aT ?_);refine bI ?_;refine aN (pY ByteArray G G PX QL ?_);intro v1 xR h1;refine bR G G G (cS (α:=ByteArray) (l:=[]) (ys:=s) (bytes:=16) G G Rq ⟨_,G,G,G,G⟩ G G G G G h1 h0 (by simpa using hz) ?_)
  intro v2 sW h2;refine aJ G G G ?_;refine aZ (aT ?_);refine mq ?_;exact lj G G ⟨G,v2,sW,G,G,h2.oF⟩
theorem Gy {B:Nat}{w0 w:World}{H:Hp}{M:List bL}{s:List aK}{v0:Value} (h0:aP H v0 s) (hz:s.length*56<=140737488355328) (ht:St B w0 H M w):
  Calls prog 89 [v0].toArray w (eA B w0 λH' M' v=>H=H'/\∃ (v':Value) (xs':List Value),.row v' 41 (aF.sz aK) s.length xs'::M=M'/\v'=v/\sB v' xs' s):=by
 refine enter func89 G G G ht ?_;obtain ⟨o,n,c,rfl⟩:=h0.shape;refine bI ?_;refine aN (aJ G G G ?_);refine aZ (aT ?_);refine bI ?_;refine bI ?_;refine aN (bR G G G (rC G G runUnderlying23 G G ?_));refine aZ (aT ?_);cases o with
 | none=>
  refine bC (b:=true) G (λ_=>?_) (λhb=>Bool.noConfusion hb);obtain rfl:=h0.isNil;refine bI ?_;refine aN (aJ G G G ?_);refine aZ (aT ?_);refine mq (jB ?_);refine cD 41 (aF.sz aK) ?_;exact lj G G ⟨G,.slice none 0 0,[],G,G,(Rw.nil (H:=H)).oF⟩
 | some a=>
  refine bC (b:=false) G (λhb=>Bool.noConfusion hb) (λ_=>?_);refine mf (aT ?_);refine bI ?_;refine aN (pY aK G G runUnderlying23 sizeOf41 ?_);intro v1 xR h1;refine bR G G G (cS (α:=aK) (l:=[]) (ys:=s) (bytes:=56) G G underlying23 ⟨_,G,G,G,G⟩ G G G G G h1 h0 (by simpa using hz) ?_)
  intro v2 sW h2;refine aJ G G G ?_;refine aZ (aT ?_);refine mq ?_;exact lj G G ⟨G,v2,sW,G,G,h2.oF⟩
theorem Gz {B:Nat}{w0 w:World}{H:Hp}{M:List bL}{s:List aO}{v0:Value} (h0:aP H v0 s) (hz:s.length*96<=140737488355328) (ht:St B w0 H M w):
  Calls prog 90 [v0].toArray w (eA B w0 λH' M' v=>H=H'/\∃ (v':Value) (xs':List Value),.row v' 120 (aF.sz aO) s.length xs'::M=M'/\v'=v/\sB v' xs' s):=by
 refine enter func90 G G G ht ?_;obtain ⟨o,n,c,rfl⟩:=h0.shape;refine bI ?_;refine aN (aJ G G G ?_);refine aZ (aT ?_);refine bI ?_;refine bI ?_;refine aN (bR G G G (rC G G runUnderlying24 G G ?_));refine aZ (aT ?_);cases o with
 | none=>
  refine bC (b:=true) G (λ_=>?_) (λhb=>Bool.noConfusion hb);obtain rfl:=h0.isNil;refine bI ?_;refine aN (aJ G G G ?_);refine aZ (aT ?_);refine mq (jB ?_);refine cD 120 (aF.sz aO) ?_;exact lj G G ⟨G,.slice none 0 0,[],G,G,(Rw.nil (H:=H)).oF⟩
 | some a=>
  refine bC (b:=false) G (λhb=>Bool.noConfusion hb) (λ_=>?_);refine mf (aT ?_);refine bI ?_;refine aN (pY aO G G runUnderlying24 sizeOf120 ?_);intro v1 xR h1;refine bR G G G (cS (α:=aO) (l:=[]) (ys:=s) (bytes:=96) G G underlying24 ⟨_,G,G,G,G⟩ G G G G G h1 h0 (by simpa using hz) ?_)
  intro v2 sW h2;refine aJ G G G ?_;refine aZ (aT ?_);refine mq ?_;exact lj G G ⟨G,v2,sW,G,G,h2.oF⟩
theorem GA {B:Nat}{w0 w:World}{H:Hp}{M:List bL}{s:List bB}{v0:Value} (h0:aP H v0 s) (hz:s.length*56<=140737488355328) (ht:St B w0 H M w):
  Calls prog 91 [v0].toArray w (eA B w0 λH' M' v=>H=H'/\∃ (v':Value) (xs':List Value),.row v' 152 (aF.sz bB) s.length xs'::M=M'/\v'=v/\sB v' xs' s):=by
 refine enter func91 G G G ht ?_;obtain ⟨o,n,c,rfl⟩:=h0.shape;refine bI ?_;refine aN (aJ G G G ?_);refine aZ (aT ?_);refine bI ?_;refine bI ?_;refine aN (bR G G G (rC G G Th G G ?_));refine aZ (aT ?_);cases o with
 | none=>
  refine bC (b:=true) G (λ_=>?_) (λhb=>Bool.noConfusion hb);obtain rfl:=h0.isNil;refine bI ?_;refine aN (aJ G G G ?_);refine aZ (aT ?_);refine mq (jB ?_);refine cD 152 (aF.sz bB) ?_;exact lj G G ⟨G,.slice none 0 0,[],G,G,(Rw.nil (H:=H)).oF⟩
 | some a=>
  refine bC (b:=false) G (λhb=>Bool.noConfusion hb) (λ_=>?_);refine mf (aT ?_);refine bI ?_;refine aN (pY bB G G Th sizeOf152 ?_);intro v1 xR h1;refine bR G G G (cS (α:=bB) (l:=[]) (ys:=s) (bytes:=56) G G underlying25 ⟨_,G,G,G,G⟩ G G G G G h1 h0 (by simpa using hz) ?_)
  intro v2 sW h2;refine aJ G G G ?_;refine aZ (aT ?_);refine mq ?_;exact lj G G ⟨G,v2,sW,G,G,h2.oF⟩
theorem GB {B:Nat}{w0 w:World}{H:Hp}{M:List bL}{s:List aE}{v0:Value} (h0:aP H v0 s) (hz:s.length*40<=140737488355328) (ht:St B w0 H M w):
  Calls prog 92 [v0].toArray w (eA B w0 λH' M' v=>H=H'/\∃ (v':Value) (xs':List Value),.row v' 55 (aF.sz aE) s.length xs'::M=M'/\v'=v/\sB v' xs' s):=by
 refine enter func92 G G G ht ?_;obtain ⟨o,n,c,rfl⟩:=h0.shape;refine bI ?_;refine aN (aJ G G G ?_);refine aZ (aT ?_);refine bI ?_;refine bI ?_;refine aN (bR G G G (rC G G RW G G ?_));refine aZ (aT ?_);cases o with
 | none=>
  refine bC (b:=true) G (λ_=>?_) (λhb=>Bool.noConfusion hb);obtain rfl:=h0.isNil;refine bI ?_;refine aN (aJ G G G ?_);refine aZ (aT ?_);refine mq (jB ?_);refine cD 55 (aF.sz aE) ?_;exact lj G G ⟨G,.slice none 0 0,[],G,G,(Rw.nil (H:=H)).oF⟩
 | some a=>
  refine bC (b:=false) G (λhb=>Bool.noConfusion hb) (λ_=>?_);refine mf (aT ?_);refine bI ?_;refine aN (pY aE G G RW sizeOf55 ?_);intro v1 xR h1;refine bR G G G (cS (α:=aE) (l:=[]) (ys:=s) (bytes:=40) G G underlying26 ⟨_,G,G,G,G⟩ G G G G G h1 h0 (by simpa using hz) ?_)
  intro v2 sW h2;refine aJ G G G ?_;refine aZ (aT ?_);refine mq ?_;exact lj G G ⟨G,v2,sW,G,G,h2.oF⟩
theorem GC {B:Nat}{w0 w:World}{H:Hp}{M:List bL}{s:List bS}{v0:Value} (h0:aP H v0 s) (hz:s.length*56<=140737488355328) (ht:St B w0 H M w):
  Calls prog 93 [v0].toArray w (eA B w0 λH' M' v=>H=H'/\∃ (v':Value) (xs':List Value),.row v' 156 (aF.sz bS) s.length xs'::M=M'/\v'=v/\sB v' xs' s):=by
 refine enter func93 G G G ht ?_;obtain ⟨o,n,c,rfl⟩:=h0.shape;refine bI ?_;refine aN (aJ G G G ?_);refine aZ (aT ?_);refine bI ?_;refine bI ?_;refine aN (bR G G G (rC G G runUnderlying27 G G ?_));refine aZ (aT ?_);cases o with
 | none=>
  refine bC (b:=true) G (λ_=>?_) (λhb=>Bool.noConfusion hb);obtain rfl:=h0.isNil;refine bI ?_;refine aN (aJ G G G ?_);refine aZ (aT ?_);refine mq (jB ?_);refine cD 156 (aF.sz bS) ?_;exact lj G G ⟨G,.slice none 0 0,[],G,G,(Rw.nil (H:=H)).oF⟩
 | some a=>
  refine bC (b:=false) G (λhb=>Bool.noConfusion hb) (λ_=>?_);refine mf (aT ?_);refine bI ?_;refine aN (pY bS G G runUnderlying27 sizeOf156 ?_);intro v1 xR h1;refine bR G G G (cS (α:=bS) (l:=[]) (ys:=s) (bytes:=56) G G underlying27 ⟨_,G,G,G,G⟩ G G G G G h1 h0 (by simpa using hz) ?_)
  intro v2 sW h2;refine aJ G G G ?_;refine aZ (aT ?_);refine mq ?_;exact lj G G ⟨G,v2,sW,G,G,h2.oF⟩
theorem n8 {p0_n:aD}{v0 v1 v2 v3 v4 v5:Value}{r:aD} (hm:iV p0_n=some r) (h0:aP H v0 p0_n.a_) (h1:aP H v1 p0_n.aH) (h2:aP H v2 p0_n.aG) (h3:aP H v3 p0_n.cR) (h4:aP H v4 p0_n.aY) (h5:aP H v5 p0_n.bM) (ht:St B w0 H (M) w):
    Calls prog 46 [.agg [v0,v1,v2,v3,v4,v5].toArray].toArray w (eA B w0 (Mc H M r)):=by
 unfold iV at hm;refine enter func46 G G G ht ?_;refine gs ?_;refine bx (λar=>?_);refine al (λau=>?_);refine gs ?_;obtain ⟨ah,hm⟩:=aL hm;obtain ⟨ai,hm⟩:=aL hm;obtain ⟨aj,hm⟩:=aL hm;obtain ⟨ak,hm⟩:=aL hm;obtain ⟨am,hm⟩:=aL hm;refine oz fm 17 [ph _,ph _,(KU p0_n.a_),ph _,ph _,(λH rs v=>∃ a1:Value,∃ a6:List Value,[.row a1 41 (aF.sz aK) p0_n.aH.length a6]=rs/\a1=v/\Rw H a1 a6 p0_n.aH),ph _,ph _,(λH rs v=>∃ a2:Value,∃ a7:List Value,[.row a2 120 (aF.sz aO) p0_n.aG.length a7]=rs/\a2=v/\Rw H a2 a7 p0_n.aG),ph _,ph _,(λH rs v=>∃ a3:Value,∃ a8:List Value,[.row a3 152 (aF.sz bB) p0_n.cR.length a8]=rs/\a3=v/\Rw H a3 a8 p0_n.cR),ph _,ph _,(λH rs v=>∃ a4:Value,∃ a9:List Value,[.row a4 55 (aF.sz aE) p0_n.aY.length a9]=rs/\a4=v/\Rw H a4 a9 p0_n.aY),ph _,ph _] ⟨om,om,?_,om,om,?_,om,om,?_,om,om,?_,om,om,?_,om,om,OV⟩ ?_
 rintro HX hX X Rest hR _ _ ⟨rfl,rfl⟩ hU hUp;refine hO call53 G G G (λw ht=>(w7 (s:=p0_n.a_) h0.mm ah ht :)) ?_;rintro _ _ _ ⟨rfl,a0,a5,rfl,rfl,aa⟩;have aa:=aa HX;exact oe [.row a0 9 (aF.sz ByteArray) p0_n.a_.length a5] lE ⟨a0,a5,G,G,(aa)⟩;rintro HX hX X Rest hR _ _ ⟨rfl,rfl⟩ _ _ ⟨a0,a5,rfl,rfl,aa⟩ hU hUp;refine hO call89 G G G (λw ht=>(Gy (s:=p0_n.aH) h1.mm ai ht :)) ?_;rintro _ _ _ ⟨rfl,a1,a6,rfl,rfl,ab⟩;have ab:=ab HX;exact oe [.row a1 41 (aF.sz aK) p0_n.aH.length a6] lE ⟨a1,a6,G,G,(ab)⟩;rintro HX hX X Rest hR _ _ ⟨rfl,rfl⟩ _ _ ⟨a1,a6,rfl,rfl,ab⟩ hU hUp;refine hO call90 G G G (λw ht=>(Gz (s:=p0_n.aG) h2.mm aj ht :)) ?_;rintro _ _ _ ⟨rfl,a2,a7,rfl,rfl,ac⟩;have ac:=ac HX;exact oe [.row a2 120 (aF.sz aO) p0_n.aG.length a7] lE ⟨a2,a7,G,G,(ac)⟩;rintro HX hX X Rest hR _ _ ⟨rfl,rfl⟩ _ _ ⟨a2,a7,rfl,rfl,ac⟩ hU hUp;refine hO call91 G G G (λw ht=>(GA (s:=p0_n.cR) h3.mm ak ht :)) ?_
 rintro _ _ _ ⟨rfl,a3,a8,rfl,rfl,ad⟩;have ad:=ad HX;exact oe [.row a3 152 (aF.sz bB) p0_n.cR.length a8] lE ⟨a3,a8,G,G,(ad)⟩;rintro HX hX X Rest hR _ _ ⟨rfl,rfl⟩ _ _ ⟨a3,a8,rfl,rfl,ad⟩ hU hUp;refine hO call92 G G G (λw ht=>(GB (s:=p0_n.aY) h4.mm am ht :)) ?_;rintro _ _ _ ⟨rfl,a4,a9,rfl,rfl,ae⟩;have ae:=ae HX;exact oe [.row a4 55 (aF.sz aE) p0_n.aY.length a9] lE ⟨a4,a9,G,G,(ae)⟩;intro an ao;refine dr ?_;rintro _ _ ⟨a0,a5,rfl,rfl,aa⟩;refine dr ?_;rintro _ _ ⟨a1,a6,rfl,rfl,ab⟩;refine dr ?_;rintro _ _ ⟨a2,a7,rfl,rfl,ac⟩;refine dr ?_;rintro _ _ ⟨a3,a8,rfl,rfl,ad⟩;refine dr ?_;rintro _ _ ⟨a4,a9,rfl,rfl,ae⟩;refine dz ?_;refine Wp [0,0,0,0,0,0,0] ?_;obtain ⟨ap,hm⟩:=aL hm;refine hO call93 G G G (λw ht=>(GC (s:=p0_n.bM) h5.mm ap ht :)) ?_;rintro _ _ _ ⟨rfl,ag,aq,rfl,rfl,af⟩;have af:=af an;refine dS (css:=[[a0],[a1],[a2],[a3],[a4],[ag]]) (zs:=[.slice none 0 0,.slice none 0 0,.slice none 0 0,.slice none 0 0,.slice none 0 0,.slice none 0 0]) (out:=[a0,a1,a2,a3,a4,ag]) (places:=[(0,1),(1,1),(2,1),(3,1),(4,1),(5,1)]) G G G ⟨(Rw.cells aa),(Rw.cells ab),(Rw.cells ac),(Rw.cells ad),(Rw.cells ae),(Rw.cells af),OV⟩ zeroValue29 G Sh (λw=>by kernel_rfl) G ?_
 refine wt 6 ?_;refine go ?_;obtain rfl:=OZ hm;exact jT ao G (fD.agg G Q1 QM (.head _) G) (.cons _ (.cons_cons _ (.cons_cons _ (.cons_cons _ (.cons_cons _ (.cons_cons _ (.cons_cons _ (.cons _ (.refl _))))))))) (.trans (.swap _ _ _) (.trans (.cons _ (.swap _ _ _)) (.trans (.cons _ (.cons _ (.swap _ _ _))) (.trans (.cons _ (.cons _ (.cons _ (.swap _ _ _)))) (.cons _ (.cons _ (.cons _ (.cons _ (.swap _ _ _))))))))) ⟨G,a0,a5,a1,a6,a2,a7,a3,a8,a4,a9,ag,aq,G,G,(aa).oF,(ab).oF,(ac).oF,(ad).oF,(ae).oF,(af).oF⟩
theorem ub {p0_l:aE}{p1_c1:(List ByteArray)}{b0:Nat}{v0:Value}{r:Bool} (hm:lK p0_l p1_c1=some r) (h0:aP H v0 p1_c1) (ht:St B w0 H (.obj b0 (.cells [v0].toArray 22 (0,0))::M) w):
    Calls prog 120 [.agg [.string (p0_l.Name),.string (p0_l.Node),.int .i64 (p0_l.cV)].toArray,.pointer (some ⟨b0,0,none⟩)].toArray w (eA B w0 (KV H M b0 v0 r)):=by
 unfold lK at hm;refine enter func120 G G G ht ?_;refine gs ?_;refine bx (λa1=>?_);refine gs ?_;obtain ⟨a2,a0,hm⟩:=bind_some hm;refine cz @cC a0 ?_;refine go ?_;refine Ek [1] 1 ?_;exact ef
theorem mn {p0_s:(List aE)}{p1_f_0:(List ByteArray)}{v0:Value}{b0:Nat}{v1:Value}{r:Int} (hm:eL p0_s p1_f_0=some r) (h0:aP H v0 p0_s) (h1:aP H v1 p1_f_0) (ht:St B w0 H (.obj b0 (.cells [v1].toArray 22 (0,0))::M) w):
    Calls prog 97 [v0,.func (.func 120) [].toArray [.pointer (some ⟨b0,0,none⟩)].toArray].toArray w (eA B w0 (KW H M b0 v1 r)):=by
 unfold eL at hm;refine enter func97 G G G ht ?_;refine g2 ?_;refine gs ?_;obtain ⟨a3,a5,a6,hm⟩:=iG hm;refine cl [(0,_),(1,_),(7,_)] [] 0 [] 0 (D7 (((p0_s.length:Int):Int).toNat) a3 r H 8) _ G ⟨0,_,Pm _,G,hm,lE,G,G⟩ ?_;rintro _ ad _ _ ⟨a0,a1,a4,rfl,hm,ae,rfl,rfl⟩;refine g2 ?_;refine bC G (λa2=>?_) (λa2=>?_);obtain ⟨a7,rfl,a8,a9⟩:=lv a4 a2;have hm:=(a5 _ _ _).symm.trans hm;generalize aa:a3 a7 (a0+1)=af at hm;unfold gF at hm;refine g2 ?_;refine gs ?_;obtain ⟨ag,ah,ai,hm⟩:=aB hm;refine go ?_;obtain ⟨aj,ab,hm⟩:=bind_some hm;refine mJ call120 G G G G (λw ht=>(ub (hm:=ab) h1.mm ht :)) ?_;rintro _ _ _ ⟨rfl,rfl,rfl⟩;refine go ?_;refine cd hm G (λac hm=>?_) (λac hm=>?_);refine gs ?_;exact ef;refine gt ?_;refine gj ?_;exact kj (eb a8 aa) (kK (eI a9 (eJ (kF (h0).cQ))));obtain rfl:=lu a4 a2;have hm:=(a6 _ _).symm.trans hm
 refine gs ?_;exact ef
theorem lV {p0_s:(List aE)}{del_0:(List ByteArray)}{v0:Value}{sY:List Value}{b0:Nat}{v1:Value}{r:(List aE)} (hm:dK p0_s del_0=some r) (h0:Rw H v0 sY p0_s) (h1:aP H v1 del_0) (ht:St B w0 H (.row v0 55 (aF.sz aE) p0_s.length sY::.obj b0 (.cells [v1].toArray 22 (0,0))::M) w):
    Calls prog 119 [v0,.func (.func 120) [].toArray [.pointer (some ⟨b0,0,none⟩)].toArray].toArray w (eA B w0 λH' M' v=>H=H'/\∃ qv0:Value,∃ qxs0:List Value,.row qv0 55 (aF.sz aE) r.length qxs0::.obj b0 (.cells [v1].toArray 22 (0,0))::M=M'/\qv0=v/\sB qv0 qxs0 r):=by
 unfold dK at hm;refine enter func119 G G G ht ?_;refine g2 ?_;obtain ⟨ap,aa,hm⟩:=bind_some hm;refine cy @mn aa ?_;rintro _ _ _ ⟨rfl,⟨_,rfl,rfl,rfl⟩⟩;refine g2 ?_;refine cd hm G (λab hm=>?_) (λab hm=>?_);refine gs ?_;exact ef;refine g2 ?_;obtain ⟨a8,ac,ad,hm⟩:=jO hm;refine cl [(0,_),(1,_)] [1] 1 [] 0 (λu m n H' M' L'=>∃ a0:List aE,∃ a1 a2:Int,∃ a4:List Value,a8 n (a0,a1,a2)=some r/\Rw H' v0 a4 a0/\H.le H'/\.row v0 55 (aF.sz aE) a0.length a4::m=M'/\(5,.int .i64 (a1))::(6,.int .i64 (a2))::u=L') fC G ⟨_,_,_,_,hm,h0,lE,G,G⟩ ?_;rintro a5 ae _ _ ⟨a0,a1,a2,a4,hm,af,aq,rfl,rfl⟩
 rcases a5 with _ | a5
 exact nomatch (ad _).symm.trans hm;have hm:=(ac _ _).symm.trans hm;generalize ag:a8 a5=ah at hm
 try dsimp only at hm
 unfold fX at hm;refine g2 ?_;refine cd hm G (λai hm=>?_) (λai hm=>?_);refine go ?_;refine cj [(0,_),(1,_),(6,_)] [1] 1 (λu m H' M' L'=>∃ a3:List aE,∃ a6:Int,∃ a7:List Value,dA a2 ah a3 a6=some r/\Rw H' v0 a7 a3/\ae=H'/\.row v0 55 (aF.sz aE) a3.length a7::m=M'/\(5,.int .i64 (a6))::u=L') ?_ (λa9=>?_);rintro _ _ _ ⟨a3,a6,a7,hm,ar,rfl,rfl,rfl⟩;unfold dA at hm;refine gj ?_;exact kj (Br ag);refine gs ?_;obtain ⟨aj,au,av,hm⟩:=aB hm;refine go ?_;refine al (λaw=>?_);refine wt 0 ?_;refine gs ?_;refine Wp [2] ?_;obtain ⟨ax,ak,hm⟩:=bind_some hm;refine mJ call120 G G G G (λw ht=>(ub (hm:=ak) h1.mm ht :)) ?_;rintro _ _ _ ⟨rfl,rfl,rfl⟩;refine go ?_;refine cd hm G (λam hm=>?_) (λam hm=>?_);refine gs ?_;obtain ⟨ay,az,b1,hm⟩:=aB hm;refine go ?_;refine wF 2 0 aj ?_;intro b2 b3 b4;refine aZ (aT ?_);refine gj ?_;exact kx [0,0] 1 (a9 _ _ _ pk)
 refine gj ?_;exact kx [2,0] 1 (a9 _ _ _ pk);refine gs ?_;obtain ⟨an,hm⟩:=aL hm;refine sL (α:=aE) (zs:=[.string (⟨#[]⟩),.string (⟨#[]⟩),.int .i64 (0)]) (ze:=(aE.mk (⟨#[]⟩) (⟨#[]⟩) 0)) G G (λ_=>G) underlying26 RW sizeOf55 zeroValue55 G G G G G G af an ?_;intro b5 b6 ao;refine gs ?_;obtain ⟨b7,hm⟩:=aL hm;refine tO (α:=aE) (l:=0) (h:=(a1:Int).toNat) G G RW sizeOf55 G G ao (by omega) (by omega) (λm hmm=>(.inr ⟨_,_,_,G,G,by omega,by omega,G⟩)) (.inl ⟨G,G⟩) ?_
 intro b8 b9 ba;refine go ?_;exact ef
theorem va {p0_n:aD}{on:(List ByteArray)}{v0 v1 v2 v3 v4 v5 v6:Value}{r:aD} (hm:oJ p0_n on=some r) (h0:aP H v0 p0_n.a_) (h1:aP H v1 p0_n.aH) (h2:aP H v2 p0_n.aG) (h3:aP H v3 p0_n.cR) (h4:aP H v4 p0_n.aY) (h5:aP H v5 p0_n.bM) (h6:aP H v6 on) (ht:St B w0 H (M) w):
    Calls prog 77 [.agg [v0,v1,v2,v3,v4,v5].toArray,v6].toArray w (eA B w0 (Mc H M r)):=by
 unfold oJ at hm;refine enter func77 G G G ht ?_;refine gs ?_;refine bx (λam=>?_);refine bx (λan=>?_);refine al (λao=>?_);refine gs ?_;obtain ⟨ap,a7,hm⟩:=bind_some hm;refine ca @n8 a7 ?_;rintro _ _ _ ⟨rfl,a8,a9,aa,ab,ac,ad,ae,af,aq,ar,ag,ah,rfl,rfl,a0,a1,a2,a3,a6,a4⟩;have a0:=a0 H;have a1:=a1 H;have a2:=a2 H;have a3:=a3 H;have a6:=a6 H;have a4:=a4 H;refine al (λau=>?_);refine wt 0 ?_;refine gs ?_;refine Wp [5,7] ?_;obtain ⟨av,ai,hm⟩:=bind_some hm;refine ca @lV ai ?_;rintro _ _ _ ⟨rfl,aj,ak,rfl,rfl,a5⟩;have a5:=a5 H;refine go ?_;refine wt 2 ?_;refine gs ?_;refine wt 8 ?_;refine go ?_;obtain rfl:=OZ hm;exact jT lE G (fD.agg G Q1 QM (.head _) G) (.cons _ (.cons _ (.cons_cons _ (.cons _ (.cons_cons _ (.cons_cons _ (.cons_cons _ (.cons_cons _ (.cons_cons _ (.cons _ (.refl _))))))))))) (.trans (.swap _ _ _) (.trans (.cons _ (.swap _ _ _)) (.trans (.cons _ (.cons _ (.swap _ _ _))) (.cons _ (.cons _ (.cons _ (.swap _ _ _))))))) ⟨G,a8,a9,aa,ab,ac,ad,ae,af,aj,ak,ag,ah,G,G,(a0).oF,(a1).oF,(a2).oF,(a3).oF,(a5).oF,(a4).oF⟩
theorem yN {p0_n:aD}{on:(List ByteArray)}{v0 v1 v2 v3 v4 v5 v6:Value}{r:aD×Int} (hm:np p0_n on=some r) (h0:aP H v0 p0_n.a_) (h1:aP H v1 p0_n.aH) (h2:aP H v2 p0_n.aG) (h3:aP H v3 p0_n.cR) (h4:aP H v4 p0_n.aY) (h5:aP H v5 p0_n.bM) (h6:aP H v6 on) (ht:St B w0 H (M) w):
    Calls prog 41 [.agg [v0,v1,v2,v3,v4,v5].toArray,v6].toArray w (eA B w0 λH' M' v=>H=H'/\∃ qv0:Value,∃ qxs0:List Value,∃ qv1:Value,∃ qxs1:List Value,∃ qv2:Value,∃ qxs2:List Value,∃ qv3:Value,∃ qxs3:List Value,∃ qv4:Value,∃ qxs4:List Value,∃ qv5:Value,∃ qxs5:List Value,.row qv0 9 (aF.sz ByteArray) r.1.a_.length qxs0::.row qv1 41 (aF.sz aK) r.1.aH.length qxs1::.row qv2 120 (aF.sz aO) r.1.aG.length qxs2::.row qv3 152 (aF.sz bB) r.1.cR.length qxs3::.row qv4 55 (aF.sz aE) r.1.aY.length qxs4::.row qv5 156 (aF.sz bS) r.1.bM.length qxs5::M=M'/\.tuple #[.agg [qv0,qv1,qv2,qv3,qv4,qv5].toArray,.int .i64 (r.2)]=v/\sB qv0 qxs0 r.1.a_/\sB qv1 qxs1 r.1.aH/\sB qv2 qxs2 r.1.aG/\sB qv3 qxs3 r.1.cR/\sB qv4 qxs4 r.1.aY/\sB qv5 qxs5 r.1.bM):=by
 unfold np at hm;refine enter func41 G G G ht ?_;refine gs ?_;refine bx (λam=>?_);refine al (λan=>?_);refine g2 ?_;obtain ⟨ao,a6,hm⟩:=bind_some hm;refine cz @uB a6 ?_;refine gs ?_;refine cd hm G (λa7 hm=>?_) (λa7 hm=>?_);refine gs ?_;refine dS (css:=[]) (zs:=[.slice none 0 0,.slice none 0 0,.slice none 0 0,.slice none 0 0,.slice none 0 0,.slice none 0 0]) (out:=[.slice none 0 0,.slice none 0 0,.slice none 0 0,.slice none 0 0,.slice none 0 0,.slice none 0 0]) (places:=[(0,1),(1,1),(2,1),(3,1),(4,1),(5,1)]) G G G OV zeroValue29 G Sh (λw=>by kernel_rfl) G ?_
 refine go ?_;refine wt 0 ?_;refine gt ?_;refine gj ?_;refine cD 9 (aF.sz ByteArray) (cD 41 (aF.sz aK) (cD 120 (aF.sz aO) (cD 152 (aF.sz bB) (cD 55 (aF.sz aE) (cD 156 (aF.sz bS) ?_)))));obtain rfl:=OZ hm;exact Bt lE G (fD.agg G Q1 QM (.tail _ (.tail _ (.tail _ (.tail _ (.tail _ (.tail _ (.head _))))))) G) (fD.tmp G) (.cons_cons _ (.cons_cons _ (.cons_cons _ (.cons_cons _ (.cons_cons _ (.cons_cons _ (.cons _ (.cons _ (.refl _))))))))) (.trans (.cons _ (.cons _ (.cons _ (.cons _ (.swap _ _ _))))) (.trans (.cons _ (.cons _ (.cons _ (.swap _ _ _)))) (.trans (.cons _ (.cons _ (.swap _ _ _))) (.trans (.cons _ (.swap _ _ _)) (.trans (.swap _ _ _) (.trans (.cons _ (.cons _ (.cons _ (.cons _ (.swap _ _ _))))) (.trans (.cons _ (.cons _ (.cons _ (.swap _ _ _)))) (.trans (.cons _ (.cons _ (.swap _ _ _))) (.trans (.cons _ (.swap _ _ _)) (.trans (.cons _ (.cons _ (.cons _ (.cons _ (.swap _ _ _))))) (.trans (.cons _ (.cons _ (.cons _ (.swap _ _ _)))) (.trans (.cons _ (.cons _ (.swap _ _ _))) (.trans (.cons _ (.cons _ (.cons _ (.cons _ (.swap _ _ _))))) (.trans (.cons _ (.cons _ (.cons _ (.swap _ _ _)))) (.cons _ (.cons _ (.cons _ (.cons _ (.swap _ _ _))))))))))))))))))) ⟨G,(.slice none 0 0),[],(.slice none 0 0),[],(.slice none 0 0),[],(.slice none 0 0),[],(.slice none 0 0),[],(.slice none 0 0),[],G,G,(Rw.nil (H:=H)).oF,(Rw.nil (H:=H)).oF,(Rw.nil (H:=H)).oF,(Rw.nil (H:=H)).oF,(Rw.nil (H:=H)).oF,(Rw.nil (H:=H)).oF⟩
 refine gs ?_;obtain ⟨ap,a8,hm⟩:=bind_some hm;refine ca @va a8 ?_;rintro _ _ _ ⟨rfl,a9,aa,ab,ac,ad,ae,af,ag,ah,ai,aj,ak,rfl,rfl,a0,a1,a2,a3,a4,a5⟩;have a0:=a0 H;have a1:=a1 H;have a2:=a2 H;have a3:=a3 H;have a4:=a4 H;have a5:=a5 H;refine wt 6 ?_;refine go ?_;obtain rfl:=OZ hm;exact Bt lE G (fD.agg G Q1 QM (.head _) G) (fD.tmp G) (.cons _ (.cons_cons _ (.cons_cons _ (.cons_cons _ (.cons_cons _ (.cons_cons _ (.cons_cons _ (.cons _ (.refl _))))))))) (.refl _) ⟨G,a9,aa,ab,ac,ad,ae,af,ag,ah,ai,aj,ak,G,G,(a0).oF,(a1).oF,(a2).oF,(a3).oF,(a4).oF,(a5).oF⟩
theorem yo {p0_n:aD}{p1_open:Bool}{v0 v1 v2 v3 v4 v5:Value}{r:(List bU)×(List Int)} (hm:pC p0_n p1_open=some r) (h0:aP H v0 p0_n.a_) (h1:aP H v1 p0_n.aH) (h2:aP H v2 p0_n.aG) (h3:aP H v3 p0_n.cR) (h4:aP H v4 p0_n.aY) (h5:aP H v5 p0_n.bM) (ht:St B w0 H (M) w):
    Calls prog 180 [.agg [v0,v1,v2,v3,v4,v5].toArray,.bool (p1_open)].toArray w (eA B w0 λH' M' v=>H=H'/\∃ qv0:Value,∃ qxs0:List Value,∃ qv1:Value,∃ qxs1:List Value,.row qv0 231 (aF.sz bU) r.1.length qxs0::.row qv1 3 (aF.sz Int) r.2.length qxs1::M=M'/\.tuple #[qv0,qv1]=v/\sB qv0 qxs0 r.1/\sB qv1 qxs1 r.2):=by
 unfold pC at hm;refine enter func180 G G G ht ?_;refine gs ?_;refine bx (λba=>?_);refine g2 ?_;refine g2 ?_;refine jJ 231 (aF.sz bU) (jJ 3 (aF.sz Int) ?_);obtain ⟨aj,ao,ap,hm⟩:=cU hm;refine cl [(1,_),(2,_),(11,_),(12,_)] [2] 2 [1] 0 (λu m n H' M' L'=>∃ (a2:Nat) (a6:List aK),∃ a4:List bU,∃ a5:List Int,∃ a7:Value,∃ ad:List Value,∃ a8:Value,∃ ae:List Value,(p0_n.aH).drop a2=a6/\a6.length=n/\aj a2 a6 (a4,a5)=some r/\Rw H' a7 ad a4/\Rw H' a8 ae a5/\H.le H'/\.row a7 231 (aF.sz bU) a4.length ad::.row a8 3 (aF.sz Int) a5.length ae::m=M'/\(6,a7)::(7,a8)::(13,.int .i64 ((a2:Int)))::u=L') _ G ⟨0,_,_,_,_,_,_,_,G,G,hm,Rw.nil,Rw.nil,lE,G,G⟩ ?_;rintro _ aq _ _ ⟨a2,a6,a4,a5,a7,ad,a8,ae,ak,rfl,hm,ar,au,bb,rfl,rfl⟩;refine g2 ?_;refine bC G (λaf=>?_) (λaf=>?_);obtain ⟨bc,av,rfl,aw,ax⟩:=fP ak af
 have hm:=(ao _ _ _ _).symm.trans hm;generalize ay:aj (a2+1) av=az at hm
 try dsimp only at hm
 unfold rk at hm;refine go ?_;refine cj [(1,_),(2,_),(11,_),(12,_),(13,_)] [2] 2 (λu m H' M' L'=>∃ a9:List bU,∃ aa:List Int,∃ ab:Value,∃ ag:List Value,∃ ac:Value,∃ ah:List Value,ny az a9 aa=some r/\Rw H' ab ag a9/\Rw H' ac ah aa/\aq.le H'/\.row ab 231 (aF.sz bU) a9.length ag::.row ac 3 (aF.sz Int) aa.length ah::m=M'/\(6,ab)::(7,ac)::u=L') ?_ (λam=>?_);rintro bd _ _ ⟨a9,aa,ab,ag,ac,ah,hm,be,bf,bg,rfl,rfl⟩;unfold ny at hm;refine gj ?_;exact kj (eb ax ay) (kK (cB aw h1.mm.cQ));refine gs ?_;refine al (λbh=>?_);refine go ?_;refine wt 0 ?_;refine gs ?_;refine wB G G RA G G (go ?_);refine cd hm G (λb0 hm=>?_) (λb0 hm=>?_);refine gs ?_;obtain ⟨a0,b1,hm⟩:=bind_some hm;obtain ⟨a1,b2,hm⟩:=bind_some hm;refine oz fm 13 [ph _,ph _,ph _,ph _,ph _,ph (.int .i64 (a0)),ph _,ph _,ph _,ph _,ph (.int .i64 (a1)),ph (.agg [.int .i64 (a0),.int .i64 (a1)].toArray),(λH rs v=>∃ a3:Value,[]=rs/\a3=v/\aP H a3 ([(bU.mk a0 a1)])/\Value.nF a3=([(bU.mk a0 a1)]).length)] ⟨om,om,om,om,om,?_,om,om,om,om,?_,?_,?_,OV⟩ ?_
 rintro HX hX X Rest hR _ _ ⟨rfl,rfl⟩ _ _ ⟨rfl,rfl⟩ hU hUp;refine cz @bY b1 ?_;exact o0 ⟨G,G⟩;intro HX hX X Rest hR;refine dr ?_;intro hU hUp;refine cz @bY b2 ?_;exact o0 ⟨G,G⟩;rintro HX hX X Rest hR _ _ ⟨rfl,rfl⟩ _ _ ⟨rfl,rfl⟩ hU hUp;refine xA (css:=[[.int .i64 (a0)],[.int .i64 (a1)]]) (zs:=[.int .i64 (0),.int .i64 (0)]) (out:=[.int .i64 (a0),.int .i64 (a1)]) (places:=[(0,1),(1,1)]) G G G ⟨G,G,OV⟩ zeroValue231 G QK Qz G G ?_;exact o0 ⟨G,G⟩;rintro HX hX X Rest hR _ _ ⟨rfl,rfl⟩ hU hUp;refine cZ (α:=bU) (css:=[[.int .i64 (a0),.int .i64 (a1)]]) (zs:=[.int .i64 (0),.int .i64 (0)]) (out:=[.int .i64 (a0),.int .i64 (a1)]) (ys:=[(bU.mk a0 a1)]) G G G ⟨G,OV⟩ runUnderlying230 sizeOf231 G zeroValue231 (by kernel_rfl) G G G G ⟨[.int .i64 (a0),.int .i64 (a1)],[],G,G,G⟩ G ?_
 intro bi a3 bj b3 b4 ai;have an:Value.nF a3=([(bU.mk a0 a1)]).length:=by rw [b3]; rfl
 exact oe [] b4 ⟨a3,G,G,(ai),(an)⟩;intro bk bl;refine dr ?_;rintro _ _ ⟨a3,rfl,rfl,ai,an⟩;refine uk ?_;obtain ⟨b5,hm⟩:=aL hm;refine Wp [1] ?_;refine cS (α:=bU) (l:=a4) (ys:=[(bU.mk a0 a1)]) G G underlying230 ⟨_,G,G,G,G⟩ G G G G G ar.mm ai b5 ?_;intro bm bn bo;refine go ?_;refine cZ (α:=Int) (css:=[[.int .i64 ((a2:Int))]]) (zs:=[.int .i64 (0)]) (out:=[.int .i64 ((a2:Int))]) (ys:=([((a2:Int))]:List Int)) G G G ⟨G,OV⟩ Ql Qz G Re (by kernel_rfl) G G G G ⟨[.int .i64 ((a2:Int))],[],G,G,G⟩ G ?_
 intro bp b6 bq b7 br b8;have bs:Value.nF b6=([((a2:Int))]:List Int).length:=by rw [b7]; rfl
 obtain ⟨b9,hm⟩:=aL hm;refine Wp [2] ?_;refine cS (α:=Int) (l:=a5) (ys:=([((a2:Int))]:List Int)) G G Qx ⟨_,G,G,G,G⟩ G G G G G au.mm b8 b9 ?_;intro bt bu bv;refine gj ?_;exact kx [1,0,1] 1 (am _ _ _ pk);refine gj ?_;exact kx [1,1,1] 1 (am _ _ _ pk);obtain rfl:=fO ak af;have hm:=(ap _ _).symm.trans hm
 try dsimp only at hm
 refine gs ?_;refine Ek [0,0] 1 ?_;exact ef
theorem zj {p0_n:Int}{p1_l:(List bU)}{v0:Value}{r:Int} (hm:qR p0_n p1_l=some r) (h0:aP H v0 p1_l) (ht:St B w0 H (M) w):
    Calls prog 181 [.int .i64 (p0_n),v0].toArray w (eA B w0 (xS H M r)):=by
 unfold qR at hm;refine enter func181 G G G ht ?_;refine g2 ?_;refine cj [(0,_),(1,_)] [] 0 (vO H 17 (((decide (p0_n<0)) || (decide (24<p0_n))) || (decide (64<(p1_l.length:Int))))) ?_ (λa4=>?_);rintro _ _ _ ⟨rfl,rfl,rfl⟩;refine cd hm G (λac hm=>?_) (λac hm=>?_);refine gs ?_;exact ef;refine g2 ?_;obtain ⟨a7,ad,ae,hm⟩:=cU hm;refine cl [(0,_),(18,_),(19,_)] [] 0 [] 0 (λu m n H' M' L'=>∃ (a2:Nat) (a3:List bU),(p1_l).drop a2=a3/\a3.length=n/\a7 a2 a3 ()=some r/\H.le H'/\m=M'/\(20,.int .i64 ((a2:Int)))::u=L') _ G ⟨0,_,G,G,hm,lE,G,G⟩ ?_;rintro _ ak _ _ ⟨a2,a3,a8,rfl,hm,am,rfl,rfl⟩;refine g2 ?_;refine bC G (λa5=>?_) (λa5=>?_);obtain ⟨a6,af,rfl,ag,ah⟩:=fP a8 a5;have hm:=(ad _ _ _ _).symm.trans hm;generalize ai:a7 (a2+1) af=an at hm;unfold sn at hm;refine g2 ?_;refine al (λao=>?_);refine wt 0 ?_
 refine gs ?_;refine pE G G QK Qz G G (by decide) (by decide) (go ?_)
 cases a9:(decide (a6.a0<0));have hm:=eF a9 hm;refine pE G G QK Qz G G (by decide) (by decide) (go ?_)
 cases aa:(decide (p0_n<=a6.a0));have hm:=eF aa hm;refine pE G G QK Qz G G (by decide) (by decide) (go ?_)
 cases ab:(decide (a6.a1<0));have hm:=eF ab hm;refine pE G G QK Qz G G (by decide) (by decide) (go ?_)
 refine cd hm G (λaj hm=>?_) (λaj hm=>?_);refine gs ?_;refine Ek [] 1 ?_;exact ef;refine gt ?_;refine gj ?_;exact kx [] 1 (eb ah ai) G (kK (cB ag h0.mm.cQ));have hm:=eG ab hm;refine go ?_;refine cT G ?_;refine gs ?_;refine Ek [] 1 ?_;exact ef;have hm:=eG aa hm;refine go ?_;refine cT G ?_;refine gs ?_;refine Ek [] 1 ?_;exact ef;have hm:=eG a9 hm;refine go ?_;refine cT G ?_;refine gs ?_;refine Ek [] 1 ?_;exact ef;obtain rfl:=fO a8 a5;have hm:=(ae _ _).symm.trans hm;refine gs ?_;exact ef;refine go ?_;cases ap:(decide (p0_n<0));refine go ?_;cases aq:(decide (24<p0_n));refine gj ?_;exact kj (a4 _ _ _ pk) kS;refine gj ?_;exact kj (a4 _ _ _ pk) kS;refine gj ?_;exact kj (a4 _ _ _ pk) kS
theorem xk {p0_x p1_y:Int}{r:Int×Int} (hm:mc p0_x p1_y=r) (ht:St B w0 H (M) w):
    Calls prog 167 [.int .u64 (p0_x),.int .u64 (p1_y)].toArray w (eA B w0 λH' M' v=>H=H'/\M=M'/\.tuple #[.int .u64 (r.1),.int .u64 (r.2)]=v):=by
 unfold mc at hm;refine enter func167 G G G ht ?_;refine g2 ?_;refine gs ?_;refine th G G G G (by decide) (g2 ?_)
 refine th G G G G (by decide) (g2 ?_)
 refine th G G G G (by decide) (g2 ?_)
 refine th G G G G (by decide) (g2 ?_)
 refine th G G G G (by decide) (gs ?_)
 obtain rfl:=hm;refine Ew H ?_;exact Bc G G G ⟨G,G,G⟩
theorem uA {p0_x p1_y:Int}{r:Int×Int} (hm:qX p0_x p1_y=r) (ht:St B w0 H (M) w):
    Calls prog 140 [.int .u64 (p0_x),.int .u64 (p1_y)].toArray w (eA B w0 λH' M' v=>H=H'/\M=M'/\.tuple #[.int .u64 (r.1),.int .u64 (r.2)]=v):=by
 unfold qX at hm;refine enter func140 G G G ht ?_;refine g2 ?_;refine cF G ?_;refine gs ?_;refine cz @xk (G:mc p0_x p1_y=_) ?_;refine gs ?_;obtain rfl:=hm;refine Ew H ?_;exact Bc G G G ⟨G,G,G⟩
theorem zd (m:Nat) (hm:m<9223372036854775808):qX (u64.wrap (1:Int)) (u64.wrap (m:Int))=(0,(m:Int)):=by
 have hw:u64.wrap (m:Int)=m:=by rw [IntKind.wrap_u64]; omega
 have h1:u64.wrap (1:Int)=1:=rfl;have hand:u64.wrap ((BitVec.ofInt (u64).bits (m:Int) &&& BitVec.ofInt (u64).bits 4294967295).toNat)=((m%4294967296:Nat):Int):=by
  have h:=bits_and_u64_nat m 4294967295 (by omega) (by omega)
  have e:m &&& 4294967295=m%4294967296:=Se m 32;rw [e] at h;exact h
 have hand2:u64.wrap ((BitVec.ofInt (u64).bits ((m / 4294967296%4294967296:Nat):Int) &&& BitVec.ofInt (u64).bits 4294967295).toNat)=((m / 4294967296%4294967296:Nat):Int):=by
  have h:=bits_and_u64_nat (m / 4294967296%4294967296) 4294967295 (by omega) (by omega)
  have e:(m / 4294967296%4294967296) &&& 4294967295=(m / 4294967296%4294967296)%4294967296:=Se _ 32;rw [e,Nat.mod_mod] at h;exact h
 have hs0:nJ .u64 (1:Int) 32=0:=rfl;have hs00:nJ .u64 (0:Int) 32=0:=rfl;have hand1:u64.wrap ((BitVec.ofInt (u64).bits (1:Int) &&& BitVec.ofInt (u64).bits 4294967295).toNat)=1:=rfl;have hand0:u64.wrap ((BitVec.ofInt (u64).bits (0:Int) &&& BitVec.ofInt (u64).bits 4294967295).toNat)=0:=rfl;have hsm:∀ k:Nat,nJ .u64 (k:Int) 32=((k / 4294967296:Nat):Int):=λk=>E_ k;have e0:((m%4294967296:Nat):Int)=((m%4294967296:Nat):Int):=rfl;have w1:u64.wrap ((m%4294967296:Nat):Int)=((m%4294967296:Nat):Int):=by rw [IntKind.wrap_u64]; omega
 have w2:u64.wrap ((m / 4294967296:Nat):Int)=((m / 4294967296:Nat):Int):=by rw [IntKind.wrap_u64]; omega
 have d1:m%4294967296 / 4294967296=0:=by omega
 have d2:m / 4294967296 / 4294967296=0:=by omega
 have z0:u64.wrap (0:Int)=0:=rfl;unfold qX mc;rw [hw,h1]
 simp only [hs0,hs00,hand1,hand,hsm,Int.zero_mul,Int.one_mul,z0,Int.zero_add,w1,d1,Int.ofNat_zero,Int.natCast_zero,Int.add_zero,hand0,w2,d2,hw]
theorem DP {s:List Int}{v0:Value}{n:Int} (h0:aP H v0 s) (hz:s.length=1/\0<=n/\n*8<=140737488355328) (ht:St B w0 H M w):
  Calls prog 205 [v0,.int .i64 n].toArray w (eA B w0 (Me H M (E5 s n))):=by
 obtain ⟨hs1,hn0,hb⟩:=hz;obtain ⟨a,rfl⟩:=So.1 hs1;obtain ⟨m,rfl⟩:∃ m:Nat,n=m:=⟨n.toNat,by omega⟩
 have hrep:=wW a m;rw [hrep];have hlr:(List.replicate m a).length=m:=Qd;have hmb:m<9223372036854775808:=by omega
 obtain ⟨o,c,hv0,_⟩:=h0.len
 simp only [O6,QO,Pm] at hv0
 subst hv0;refine enter func205 G G G ht ?_;refine bI ?_;refine aN (aJ G G G ?_);refine aZ (aT ?_);refine bI ?_;refine bI ?_;refine aN (bR G G G (vP G G G G G ?_));refine aZ (aT ?_);refine bC (b:=decide ((m:Int)<0)) G (λhb=>absurd (O1 hb) (by omega)) (λ_=>?_)
 refine mf (aT ?_);refine bI ?_;refine aN (bR G G G (BU G G Ql G (rm G G QX R6 G (bR G G G (rm G G QX R6 G ?_)))));refine hO call140 G G G (λw ht=>by have h:=uA (hm:=zd m hmb) ht; exact h) ?_
 rintro _ _ _ ⟨rfl,rfl,rfl⟩;refine bR G G G (rp G G G G (rp G G G G (aJ G G G (aJ G G G ?_))));refine aZ (aT ?_);refine bI ?_;refine bI ?_;refine aN (bR G G G (vP G G G G G (bR G G G (bR G G G (vP G G G G G (BV (b:=false) G G G G ?_))))));refine aZ (aT ?_);refine bC (b:=decide (9223372036854775807<(m:Int))) G (λhb=>absurd (O1 hb) (by omega)) (λ_=>?_)
 refine mf (aT ?_);have hw:i64.wrap (m:Int)=m:=wM (by omega) (by omega)
 refine bI ?_;refine aN (bR G G G (rm G G R6 QX G ?_));rw [hw];refine eS (α:=Int) (ze:=0) (bytes:=8) G G Qx ⟨_,G,G,G,G⟩ G G G G G G (by omega) hb ?_
 intro v1 xR hx1;rw [OX] at hx1 ⊢;refine aJ G G G ?_;refine aZ (aT ?_);generalize hl1:List.replicate m (0:Int)=l1 at hx1 ⊢;have hll:l1.length=m:=by rw [<- hl1]; exact Qd
 refine bI ?_;refine aN (bR G G G (bR G G G (Fl (α:=Int) (l:=l1) (ys:=[a]) G G Qx Qz G G G hx1 h0 (by simp) ?_)))
 rw [PW,hll];generalize hl2:[a].take (min 1 m)++l1.drop (min 1 m)=l2;have hl2l:l2.length=m:=by rw [<- hl2,Pg,Pn,Qv,PW]; omega
 have hl2t:l2.take (min 1 m)=List.replicate (min 1 m) a:=by
  rw [<- hl2];cases m with
  | zero=>rfl
  | succ q=>rw [show min 1 (q+1)=1 by omega]; rfl
 intro sW hx2;refine aJ G G G ?_;refine aZ (aT ?_);obtain ⟨o1,m1,c1,hv1⟩:=hx2.sl;refine bI ?_;refine tl (zC (L':=[(7,v1),(8,.int .i64 ((min 1 m:Nat):Int))]) ⟨G,G,OV⟩ (Rb _) ?_);refine zD (λn H' M' L'=>∃ (q:Nat) (l:List Int) (xs:List Value),m-q=n/\(1<=q\/m=0)/\q<=m/\l.length=m/\l.take q=List.replicate q a/\Rw H' v1 xs l/\H.le H'/\.row v1 3 (aF.sz Int) m xs::M=M'/\[(7,v1),(8,.int .i64 (q:Int))]=L') (m-min 1 m) ⟨min 1 m,l2,sW,G,by omega,by omega,hl2l,hl2t,hx2,PT _,G,G⟩ ?_
 rintro n3 H3 _ _ ⟨q,l3,A3,hn3,hq1,hqm,hl3,ht3,hx3,hle3,rfl,rfl⟩;refine bI ?_;refine bI ?_;refine aN (bR G G G (bR G G G (pV (M':=.row v1 3 (aF.sz Int) l3.length A3::M) (by rw [hl3]) (zN (O0 ..) G G Ql G (vP G G G G G ?_)))))
 refine aZ (aT ?_);refine bC (b:=decide ((q:Int)<(l3.length:Int))) G (λhb=>?_) (λhb=>?_)
 ·have hlt:q<l3.length:=by have:=O1 hb; omega
  refine mf (aT ?_);refine yD (by omega) (λgb off cap hv hcap=>?_)
  subst hv;refine tl (Ho (M':=[[.row (.slice (some ⟨gb,off,none⟩) l3.length cap) 3 (aF.sz Int) l3.length A3]].flatten++M) G ?_);refine qO 8 (yu [(Fe (q:Int)),(λH rs v=>[]=rs/\.slice (some ⟨gb,off,none⟩) l3.length cap=v),(Fe (q:Int)),(λH rs v=>[]=rs/\.slice (some ⟨gb,off+q*aF.sz Int,none⟩) (l3.length-q) (cap-q)=v),(λH rs v=>[]=rs/\.slice (some ⟨gb,off,none⟩) l3.length cap=v),(Fe (q:Int)),(λH rs v=>[]=rs/\.slice (some ⟨gb,off,none⟩) q cap=v),(λH rs v=>∃ yY:List Value,[.row (.slice (some ⟨gb,off,none⟩) l3.length cap) 3 (aF.sz Int) l3.length yY]=rs/\.int .i64 ((min q (l3.length-q):Nat):Int)=v/\Rw H (.slice (some ⟨gb,off,none⟩) l3.length cap) yY (l3.take q++l3.take (min q (l3.length-q))++l3.drop (q+min q (l3.length-q))))]) [[],[],[],[],[],[],[],[8]] [[],[],[],[],[],[],[],[]] [[.row (.slice (some ⟨gb,off,none⟩) l3.length cap) 3 (aF.sz Int) l3.length A3]] [0,1,2,3,4,5,6,7] Fh.mixed (by kernel_rfl) G G G (by kernel_rfl) (tK ⟨fV _ _,fV _ _,fV _ _,fV _ _,fV _ _,fV _ _,fV _ _,(by rintro H1 H2 rs v hle ⟨yY,rfl,rfl,h⟩; exact ⟨yY,G,G,h.mono hle⟩),OV⟩) ⟨?_,?_,?_,?_,?_,?_,?_,?_,OV⟩ ?_
  ·intro HX hX X Rest hR
   intro hU hUp;refine bR G G G ?_;exact aZ (eZ [] (PT _) ⟨G,G⟩)
  ·intro HX hX X Rest hR
   intro hU hUp;refine bR G G G ?_;exact aZ (eZ [] (PT _) ⟨G,G⟩)
  ·intro HX hX X Rest hR
   intro hU hUp;refine bR G G G ?_;exact aZ (eZ [] (PT _) ⟨G,G⟩)
  ·intro HX hX X Rest hR
   rintro _ _ ⟨rfl,rfl⟩;rintro _ _ ⟨rfl,rfl⟩;intro hU hUp;refine sN (m:=cap) (h:=l3.length) (l:=q) G G Ql Qz G (.inl G) (.inl ⟨G,G⟩) (.inl ⟨G,G⟩) (.inr ⟨_,_,_,G,G,by omega,by omega,by omega⟩) (by rw [O2 (by omega),Qo,P5]) ?_
   exact aZ (eZ [] (PT _) ⟨G,G⟩)
  ·intro HX hX X Rest hR
   intro hU hUp;refine bR G G G ?_;exact aZ (eZ [] (PT _) ⟨G,G⟩)
  ·intro HX hX X Rest hR
   intro hU hUp;refine bR G G G ?_;exact aZ (eZ [] (PT _) ⟨G,G⟩)
  ·intro HX hX X Rest hR
   rintro _ _ ⟨rfl,rfl⟩;rintro _ _ ⟨rfl,rfl⟩;intro hU hUp;refine sN (m:=cap) (h:=q) (l:=0) G G Ql Qz G (.inl G) (.inl ⟨G,G⟩) (.inr ⟨_,_,_,G,G,by omega,by omega,by omega⟩) (.inl ⟨G,G⟩) (by rw [O2 (by omega),RT,RT,Qo,P5,Qt,Qs]) ?_
   exact aZ (eZ [] (PT _) ⟨G,G⟩)
  ·intro HX hX X Rest hR
   rintro _ _ ⟨rfl,rfl⟩;rintro _ _ ⟨rfl,rfl⟩;intro hU hUp;refine pV (M':=.row (.slice (some ⟨gb,off,none⟩) l3.length cap) 3 (aF.sz Int) l3.length A3::Rest) G (zM (α:=Int) (l:=l3) (q:=q) G G Qx Qz G (hx3.mono hX) (by omega) G G ?_)
   intro yY hx4;exact aZ (eZ [.row (.slice (some ⟨gb,off,none⟩) l3.length cap) 3 (aF.sz Int) l3.length yY] (PT _) ⟨yY,G,G,hx4⟩)
  intro H5 hle5;rintro _ _ ⟨rfl,rfl⟩;rintro _ _ ⟨rfl,rfl⟩;rintro _ _ ⟨rfl,rfl⟩;rintro _ _ ⟨rfl,rfl⟩;rintro _ _ ⟨rfl,rfl⟩;rintro _ _ ⟨rfl,rfl⟩;rintro _ _ ⟨rfl,rfl⟩;rintro _ _ ⟨yY,rfl,rfl,hx4⟩;refine pV (M':=.row (.slice (some ⟨gb,off,none⟩) l3.length cap) 3 (aF.sz Int) l3.length yY::M) G ?_;have hrs:=DN ht3 (by omega)
  refine vP G G G G G (aJ G G G (aZ (nc ?_)));have hwr:i64.wrap ((q:Int)+((min q (l3.length-q):Nat):Int))=((q+min q (l3.length-q):Nat):Int):=by
   rw [wM (by omega) (by omega)]; omega
  exact BL (wx (by omega:m-(q+min q (l3.length-q))<n3) ⟨q+min q (l3.length-q),_,yY,G,by omega,by omega,by simp only [Pg,Pn,Qv]; omega,hrs,hx4,SD hle3 hle5,by rw [hl3],G⟩) (Rb _) ⟨G,P3 (λz=>some (Value.int .i64 z)) hwr,OV⟩
 ·have hge:q=m:=by have:=O9 hb; omega
  refine tL (fU (fU (nb (aT ?_))));have hfin:l3=List.replicate m a:=by
   have h:=ht3;rw [hge,Pb (by omega)] at h
   exact h
  refine bI ?_;refine aN (bR G G G (aJ G G G ?_));refine aZ (aT ?_);refine mq (D9 hle3 ?_);rw [<- hfin];exact lj G G ⟨G,v1,A3,G,G,hx3.oF⟩
theorem zk {p0_n:Int}{p1_l:(List bU)}{without:Int}{v0:Value}{r:(List Int)} (hm:ox p0_n p1_l without=some r) (h0:aP H v0 p1_l) (ht:St B w0 H (M) w):
    Calls prog 182 [.int .i64 (p0_n),v0,.int .i64 (without)].toArray w (eA B w0 (Me H M r)):=by
 unfold ox at hm;refine enter func182 G G G ht ?_;refine g2 ?_;refine eU (α:=Int) (css:=[[.int .i64 ((-1))]]) (zs:=[.int .i64 (0)]) (out:=[.int .i64 ((-1))]) (ys:=([((-1))]:List Int)) G G G ⟨G,OV⟩ Ql Qz G Re (by kernel_rfl) G G G G ⟨[.int .i64 ((-1))],[],G,G,G⟩ G ?_
 intro cm cn bc;refine go ?_;obtain ⟨bd,hm⟩:=aL hm;refine hO call205 G G G (λw ht=>by obtain ⟨H0_,hl0_,ht0_,hr0_,bk0_⟩:=ht.kG bc G; have h:=DP hr0_ bd ht0_; exact fK bk0_ h) ?_
 rintro _ _ _ ⟨rfl,_,rfl,a4,co,rfl,rfl,an⟩;have an:=an H;refine g2 ?_;refine gs ?_;obtain ⟨be,hm⟩:=aL hm;obtain ⟨b2,bf,bg,hm⟩:=iG hm;refine cl [(1,_),(2,_),(7,_),(18,_)] [] 2 [1] 1 (λu m n H' M' L'=>∃ (a5:Nat) (ab:Nat),∃ ac:List Int,∃ a6:Int,∃ ao:List Value,a5+ab=(p0_n:Int).toNat/\ab=n/\b2 ab a5 (ac,a6)=some r/\Rw H' a4 ao ac/\H.le H'/\.row a4 3 (aF.sz Int) ac.length ao::m=M'/\(8,.int .i64 (a6))::(19,.int .i64 ((a5:Int)))::u=L') _ G ⟨0,_,_,_,_,Pm _,G,hm,an,lE,G,G⟩ ?_;rintro _ b3 _ _ ⟨a5,ab,ac,a6,ao,b4,rfl,hm,cp,cq,rfl,rfl⟩;refine g2 ?_;refine bC G (λap=>?_) (λap=>?_);obtain ⟨bh,rfl,bi,bj⟩:=lv b4 ap;have hm:=(bf _ _ _).symm.trans hm;generalize bk:b2 bh (a5+1)=bl at hm
 try dsimp only at hm
 unfold pM at hm;refine go ?_;refine cj [(1,_),(2,_),(7,_),(18,_),(19,_)] [] 1 (λu m H' M' L'=>∃ ad:List Int,∃ aq:Int,∃ ar:List Value,jE bl ad aq=some r/\Rw H' a4 ar ad/\b3.le H'/\.row a4 3 (aF.sz Int) ad.length ar::m=M'/\(8,.int .i64 (aq))::u=L') ?_ (λb5=>?_);rintro cr _ _ ⟨ad,aq,ar,hm,cs,ct,rfl,rfl⟩;unfold jE at hm;refine gj ?_;exact kj (eb bi bk) (kK (eI bj (eJ be)));refine g2 ?_;refine gs ?_;obtain ⟨cu,cv,cw,hm⟩:=aB hm;refine go ?_;refine cd hm G (λbm hm=>?_) (λbm hm=>?_);refine gj ?_;exact kj (b5 _ _ _ pk);refine gs ?_;obtain ⟨cx,d0,d1,hm⟩:=aB hm;refine go ?_;refine wF 0 0 a6 ?_;intro d2 bn d3;refine g2 ?_;refine eU (α:=Int) (css:=[[.int .i64 ((a5:Int))]]) (zs:=[.int .i64 (0)]) (out:=[.int .i64 ((a5:Int))]) (ys:=([((a5:Int))]:List Int)) G G G ⟨G,OV⟩ Ql Qz G Re (by kernel_rfl) G G G G ⟨[.int .i64 ((a5:Int))],[],G,G,G⟩ G ?_
 intro d4 d5 bo;refine go ?_;obtain ⟨b6,bp,bq,hm⟩:=jO hm;refine cl [(1,_),(2,_),(7,_),(8,_),(18,_),(19,_)] [] 2 [1] 0 (λu m n H' M' L'=>∃ ae aa:List Int,∃ au:List Value,∃ af:Value,∃ av:List Value,b6 n (ae,aa)=some r/\Rw H' a4 au ae/\Rw H' af av aa/\b3.le H'/\.row a4 3 (aF.sz Int) ae.length au::.row af 3 (aF.sz Int) aa.length av::m=M'/\(10,af)::u=L') fC G ⟨_,_,_,_,_,hm,bn,bo,lE,G,G⟩ ?_;rintro aw br _ _ ⟨ae,aa,au,af,av,hm,bs,bt,d6,rfl,rfl⟩
 rcases aw with _ | aw
 exact nomatch (bq _).symm.trans hm;have hm:=(bp _ _).symm.trans hm;generalize bu:b6 aw=d7 at hm
 try dsimp only at hm
 unfold pN at hm;refine g2 ?_;refine cd hm G (λbv hm=>?_) (λbv hm=>?_);refine gs ?_;obtain ⟨a3,d8,d9,hm⟩:=aB hm;refine gs ?_;obtain ⟨da,hm⟩:=aL hm;refine Wp [1] ?_;refine tO (α:=Int) (l:=(1:Int).toNat) (h:=aa.length) G G Ql Qz G G bt (by omega) (by omega) (λm hmm=>(.inl ⟨G,G⟩)) (.inr ⟨_,_,_,G,G,by omega,by omega,G⟩) ?_
 intro db dc bw;refine gs ?_;obtain ⟨b7,bz,c0,hm⟩:=cU hm;refine cl [(1,_),(2,_),(7,_),(8,_),(11,_),(18,_),(19,_),(41,_),(42,_)] [] 2 [1] 0 (λu m n H' M' L'=>∃ (a7:Nat) (ag:List bU),∃ ah a8:List Int,∃ ax:List Value,∃ ai:Value,∃ ay:List Value,(p1_l).drop a7=ag/\ag.length=n/\b7 a7 ag (ah,a8)=some r/\Rw H' a4 ax ah/\Rw H' ai ay a8/\br.le H'/\.row a4 3 (aF.sz Int) ah.length ax::.row ai 3 (aF.sz Int) a8.length ay::m=M'/\(10,ai)::(43,.int .i64 ((a7:Int)))::u=L') _ G ⟨0,_,_,_,_,_,_,G,G,hm,bs,bw,lE,G,G⟩ ?_;rintro _ c1 _ _ ⟨a7,ag,ah,a8,ax,ai,ay,b8,rfl,hm,dd,b9,de,rfl,rfl⟩;refine g2 ?_;refine bC G (λaz=>?_) (λaz=>?_);obtain ⟨a2,c2,rfl,c3,c4⟩:=fP b8 az;have hm:=(bz _ _ _ _).symm.trans hm;generalize c5:b7 (a7+1) c2=c6 at hm
 try dsimp only at hm
 unfold pO at hm;refine go ?_;refine cj [(1,_),(2,_),(7,_),(8,_),(11,_),(18,_),(19,_),(41,_),(42,_),(43,_)] [] 2 (λu m H' M' L'=>∃ aj ak:List Int,∃ b0:List Value,∃ am:Value,∃ b1:List Value,dZ c6 aj ak=some r/\Rw H' a4 b0 aj/\Rw H' am b1 ak/\c1.le H'/\.row a4 3 (aF.sz Int) aj.length b0::.row am 3 (aF.sz Int) ak.length b1::m=M'/\(10,am)::u=L') ?_ (λa9=>?_);rintro df _ _ ⟨aj,ak,b0,am,b1,hm,dg,dh,di,rfl,rfl⟩;unfold dZ at hm;refine gj ?_;exact kj (eb c4 c5) (kK (cB c3 h0.mm.cQ));refine gs ?_;refine al (λdj=>?_);refine go ?_;refine wt 0 ?_;refine g2 ?_;cases ba:(decide ((a7:Int)=without));have hm:=eF ba hm;refine pE G G QK Qz G G (by decide) (by decide) (go ?_)
 cases bb:(decide (a2.a0=a3));have hm:=eF bb hm;refine pE G G QK Qz G G (by decide) (by decide) (go ?_)
 refine cd hm G (λc7 hm=>?_) (λc7 hm=>?_);refine gj ?_;exact kx [1,1] 1 (a9 _ _ _ pk);refine gs ?_;refine pE G G QK Qz G G (by decide) (by decide) (go ?_)
 refine pE G G QK Qz G G (by decide) (by decide) (gs ?_)
 obtain ⟨dk,dl,dm,hm⟩:=aB hm;refine go ?_;refine cd hm G (λc8 hm=>?_) (λc8 hm=>?_);refine gs ?_;obtain ⟨dn,dp,dq,hm⟩:=aB hm;refine go ?_;refine wF 1 0 a6 ?_;intro ds dt du;refine go ?_;refine cZ (α:=Int) (css:=[[.int .i64 (i64.wrap ((i64.wrap (a2.a0+a2.a1))-a3))]]) (zs:=[.int .i64 (0)]) (out:=[.int .i64 (i64.wrap ((i64.wrap (a2.a0+a2.a1))-a3))]) (ys:=([(i64.wrap ((i64.wrap (a2.a0+a2.a1))-a3))]:List Int)) G G G ⟨G,OV⟩ Ql Qz G Re (by kernel_rfl) G G G G ⟨[.int .i64 (i64.wrap ((i64.wrap (a2.a0+a2.a1))-a3))],[],G,G,G⟩ G ?_
 intro dv c9 dw cb dx cc;have dy:Value.nF c9=([(i64.wrap ((i64.wrap (a2.a0+a2.a1))-a3))]:List Int).length:=by rw [cb]; rfl
 obtain ⟨ce,hm⟩:=aL hm;refine Wp [2] ?_;refine cS (α:=Int) (l:=a8) (ys:=([(i64.wrap ((i64.wrap (a2.a0+a2.a1))-a3))]:List Int)) G G Qx ⟨_,G,G,G,G⟩ G G G G G b9.mm cc ce ?_;intro e0 e1 e2;refine gj ?_;exact kx [1,0] 1 (a9 _ _ _ pk);refine gj ?_;exact kx [1,1] 1 (a9 _ _ _ pk);have hm:=eG bb hm;refine go ?_;refine cF G ?_;refine gs ?_;refine pE G G QK Qz G G (by decide) (by decide) (go ?_)
 refine pE G G QK Qz G G (by decide) (by decide) (gs ?_)
 obtain ⟨e3,e4,e5,hm⟩:=aB hm;refine go ?_;refine cd hm G (λcf hm=>?_) (λcf hm=>?_);refine gs ?_;obtain ⟨e6,e7,e8,hm⟩:=aB hm;refine go ?_;refine wF 1 0 a6 ?_;intro e9 ea ec;refine go ?_;refine cZ (α:=Int) (css:=[[.int .i64 (i64.wrap ((i64.wrap (a2.a0+a2.a1))-a3))]]) (zs:=[.int .i64 (0)]) (out:=[.int .i64 (i64.wrap ((i64.wrap (a2.a0+a2.a1))-a3))]) (ys:=([(i64.wrap ((i64.wrap (a2.a0+a2.a1))-a3))]:List Int)) G G G ⟨G,OV⟩ Ql Qz G Re (by kernel_rfl) G G G G ⟨[.int .i64 (i64.wrap ((i64.wrap (a2.a0+a2.a1))-a3))],[],G,G,G⟩ G ?_
 intro ed cg ee ch eg ci;have eh:Value.nF cg=([(i64.wrap ((i64.wrap (a2.a0+a2.a1))-a3))]:List Int).length:=by rw [ch]; rfl
 obtain ⟨ck,hm⟩:=aL hm;refine Wp [2] ?_;refine cS (α:=Int) (l:=a8) (ys:=([(i64.wrap ((i64.wrap (a2.a0+a2.a1))-a3))]:List Int)) G G Qx ⟨_,G,G,G,G⟩ G G G G G b9.mm ci ck ?_;intro ei ej ek;refine gj ?_;exact kx [1,0] 1 (a9 _ _ _ pk);refine gj ?_;exact kx [1,1] 1 (a9 _ _ _ pk);have hm:=eG ba hm;refine go ?_;refine cT G ?_;refine gj ?_;exact kx [1,1] 1 (a9 _ _ _ pk);obtain rfl:=fO b8 az;have hm:=(c0 _ _).symm.trans hm
 try dsimp only at hm
 refine gj ?_;exact kj (Br bu);refine gt ?_;refine gj ?_;exact kx [0] 1 (b5 _ _ _ pk);obtain rfl:=lu b4 ap;have hm:=(bg _ _).symm.trans hm
 try dsimp only at hm
 refine gs ?_;exact ef
theorem sQ {p0_n:Int}{p1_l:(List bU)}{v0:Value}{r:(List Int)×Int} (hm:iI p0_n p1_l=some r) (h0:aP H v0 p1_l) (ht:St B w0 H (M) w):
    Calls prog 154 [.int .i64 (p0_n),v0].toArray w (eA B w0 (Ju H M r.1 r.2)):=by
 unfold iI at hm;refine enter func154 G G G ht ?_;refine g2 ?_;refine gs ?_;obtain ⟨a4,a1,hm⟩:=bind_some hm;refine cz @zj a1 ?_;refine gs ?_;refine cd hm G (λa2 hm=>?_) (λa2 hm=>?_);refine bI (aN (bR G G G (aJ G G G (aJ G G G (aZ (aT ?_))))));refine gj ?_;refine cD 3 (aF.sz Int) ?_;exact ef;refine gs ?_;obtain ⟨a5,a3,hm⟩:=bind_some hm;refine ca @zk a3 ?_;rintro _ _ _ ⟨rfl,a6,a7,rfl,rfl,a0⟩;have a0:=a0 H;refine go ?_;exact ef
theorem yn {p0_n:aD}{v0 v1 v2 v3 v4 v5:Value}{r:(List Int)} (hm:nP p0_n=some r) (h0:aP H v0 p0_n.a_) (h1:aP H v1 p0_n.aH) (h2:aP H v2 p0_n.aG) (h3:aP H v3 p0_n.cR) (h4:aP H v4 p0_n.aY) (h5:aP H v5 p0_n.bM) (ht:St B w0 H (M) w):
    Calls prog 153 [.agg [v0,v1,v2,v3,v4,v5].toArray].toArray w (eA B w0 (Me H M r)):=by
 unfold nP at hm;refine enter func153 G G G ht ?_;refine gs ?_;refine bx (λa5=>?_);refine gs ?_;obtain ⟨a6,a3,hm⟩:=bind_some hm;refine ca @yo a3 ?_;rintro _ _ _ ⟨rfl,a7,a8,a9,aa,rfl,rfl,a0,a1⟩;have a0:=a0 H;have a1:=a1 H;refine gs ?_;obtain ⟨ab,a4,hm⟩:=bind_some hm;refine cy @sQ a4 ?_;rintro _ _ _ ⟨rfl,⟨_,rfl,ac,ad,rfl,rfl,a2⟩⟩;have a2:=a2 H;refine gs ?_;refine Ek [1] 3 ?_;exact ef
theorem oK {p0_n:aD}{v0 v1 v2 v3 v4 v5:Value}{r:aV} (hm:dN p0_n=some r) (h0:aP H v0 p0_n.a_) (h1:aP H v1 p0_n.aH) (h2:aP H v2 p0_n.aG) (h3:aP H v3 p0_n.cR) (h4:aP H v4 p0_n.aY) (h5:aP H v5 p0_n.bM) (ht:St B w0 H (M) w):
    Calls prog 123 [.agg [v0,v1,v2,v3,v4,v5].toArray].toArray w (eA B w0 λH' M' v=>H=H'/\∃ qv0:Value,∃ qxs0:List Value,∃ qv1:Value,∃ qxs1:List Value,.row qv0 3 (aF.sz Int) r.px.length qxs0::.row qv1 3 (aF.sz Int) r.bK.length qxs1::M=M'/\.agg [qv0,qv1].toArray=v/\sB qv0 qxs0 r.px/\sB qv1 qxs1 r.bK):=by
 unfold dN at hm;refine enter func123 G G G ht ?_;refine gs ?_;refine bx (λbi=>?_);refine al (λbj=>?_);refine gs ?_;obtain ⟨an,ao,hm⟩:=bind_some hm;refine ca @yn ao ?_;rintro _ _ _ ⟨rfl,aa,ap,rfl,rfl,a6⟩;have a6:=a6 H;refine dS (css:=[[aa]]) (zs:=[.slice none 0 0,.slice none 0 0]) (out:=[aa,.slice none 0 0]) (places:=[(0,1),(1,1)]) G G G ⟨(Rw.cells a6),OV⟩ zeroValue183 G runUnderlying183 (λw=>by kernel_rfl) G ?_
 refine al (λbk=>?_);refine wt 0 ?_;refine g2 ?_;refine gs ?_;refine sH (.tail _ (.head _)) (λaq=>?_);obtain ⟨ah,ar,au,hm⟩:=cU hm;refine cl [(1,_),(2,_),(3,_),(14,_),(15,_)] [] 0 [] 0 (λu m n H' M' L'=>∃ (a3:Nat) (a7:List Int),∃ ab:Int,(an).drop a3=a7/\a7.length=n/\ah a3 a7 ab=some r/\H.le H'/\m=M'/\(4,.int .i64 (ab))::(16,.int .i64 ((a3:Int)))::u=L') _ G ⟨0,_,_,G,G,hm,lE,G,G⟩ ?_;rintro _ av _ _ ⟨a3,a7,ab,ai,rfl,hm,bl,rfl,rfl⟩;refine g2 ?_;refine bC G (λac=>?_) (λac=>?_);obtain ⟨bm,aw,rfl,ax,ay⟩:=fP ai ac;have hm:=(ar _ _ _ _).symm.trans hm;generalize az:ah (a3+1) aw=bn at hm;unfold rQ at hm;refine g2 ?_;refine Lb G G G G (gt ?_);refine gj ?_;exact kj (eb ay az) (kK (cB ax aq));obtain rfl:=fO ai ac;have hm:=(au _ _).symm.trans hm;refine g2 ?_;refine gs ?_;refine jJ 231 (aF.sz bU) ?_;obtain ⟨aj,b0,b1,hm⟩:=cU hm
 refine cl [(1,_),(2,_),(3,_),(4,_),(26,_),(27,_)] [1,1,1,1] 1 [] 0 (λu m n H' M' L'=>∃ (a4:Nat) (a8:List aO),∃ a5:List bU,∃ a9:Value,∃ ad:List Value,(p0_n.aG).drop a4=a8/\a8.length=n/\aj a4 a8 a5=some r/\Rw H' a9 ad a5/\av.le H'/\.row a9 231 (aF.sz bU) a5.length ad::m=M'/\(7,a9)::(28,.int .i64 ((a4:Int)))::u=L') _ G ⟨0,_,_,_,_,G,G,hm,Rw.nil,lE,G,G⟩ ?_;rintro _ b2 _ _ ⟨a4,a8,a5,a9,ad,ak,rfl,hm,b3,bo,rfl,rfl⟩;refine g2 ?_;refine bC G (λae=>?_) (λae=>?_);obtain ⟨bp,b4,rfl,b5,b6⟩:=fP ak ae;have hm:=(b0 _ _ _ _).symm.trans hm;generalize b7:aj (a4+1) b4=bq at hm;unfold rR at hm;refine g2 ?_;refine al (λbr=>?_);refine wt 0 ?_;refine go ?_;obtain ⟨b8,b9,hm⟩:=bind_some hm;obtain ⟨a0,bs,bt,hm⟩:=aB hm;obtain ⟨ba,bb,hm⟩:=bind_some hm;obtain ⟨a1,bu,bv,hm⟩:=aB hm;refine oz fm 21 [ph _,ph _,ph _,ph _,ph _,ph _,ph _,ph (.int .i64 (b8)),ph _,ph _,ph _,ph _,ph _,ph _,ph _,ph _,ph (.int .i64 (ba)),ph _,ph _,ph (.agg [.int .i64 (a0),.int .i64 (a1)].toArray),(λH rs v=>∃ a2:Value,[]=rs/\a2=v/\aP H a2 ([(bU.mk a0 a1)])/\Value.nF a2=([(bU.mk a0 a1)]).length)] ⟨om,om,om,om,om,om,om,?_,om,om,om,om,om,om,om,om,?_,om,om,?_,?_,OV⟩ ?_
 rintro HX hX X Rest hR _ _ ⟨rfl,rfl⟩ _ _ ⟨rfl,rfl⟩ hU hUp;refine cz @bY b9 ?_;exact o0 ⟨G,G⟩;intro HX hX X Rest hR;refine dr ?_;intro hU hUp;refine cz @bY bb ?_;exact o0 ⟨G,G⟩;rintro HX hX X Rest hR _ _ ⟨rfl,rfl⟩ _ _ ⟨rfl,rfl⟩ hU hUp;refine xA (css:=[[.int .i64 (a0)],[.int .i64 (a1)]]) (zs:=[.int .i64 (0),.int .i64 (0)]) (out:=[.int .i64 (a0),.int .i64 (a1)]) (places:=[(0,1),(1,1)]) G G G ⟨G,G,OV⟩ zeroValue231 G QK Qz G G ?_;exact o0 ⟨G,G⟩;rintro HX hX X Rest hR _ _ ⟨rfl,rfl⟩ hU hUp;refine cZ (α:=bU) (css:=[[.int .i64 (a0),.int .i64 (a1)]]) (zs:=[.int .i64 (0),.int .i64 (0)]) (out:=[.int .i64 (a0),.int .i64 (a1)]) (ys:=[(bU.mk a0 a1)]) G G G ⟨G,OV⟩ runUnderlying230 sizeOf231 G zeroValue231 (by kernel_rfl) G G G G ⟨[.int .i64 (a0),.int .i64 (a1)],[],G,G,G⟩ G ?_
 intro bw a2 bz bc bd af;have am:Value.nF a2=([(bU.mk a0 a1)]).length:=by rw [bc]; rfl
 exact oe [] bd ⟨a2,G,G,(af),(am)⟩;intro c0 c1;refine dr ?_;rintro _ _ ⟨a2,rfl,rfl,af,am⟩;refine uk ?_;obtain ⟨be,hm⟩:=aL hm;refine Wp [1] ?_;refine cS (α:=bU) (l:=a5) (ys:=[(bU.mk a0 a1)]) G G underlying230 ⟨_,G,G,G,G⟩ G G G G G b3.mm af be ?_;intro c2 c3 c4;refine gt ?_;refine gj ?_;exact kx [0,1,1,1,1] 1 (eb b6 b7) G (kK (cB b5 h2.mm.cQ));obtain rfl:=fO ak ae;have hm:=(b1 _ _).symm.trans hm;refine gs ?_;obtain ⟨c5,bf,hm⟩:=bind_some hm;refine cy @sQ bf ?_;rintro _ _ _ ⟨rfl,⟨_,rfl,bg,bh,rfl,rfl,ag⟩⟩;have ag:=ag b2;refine go ?_;refine wt 2 ?_;refine gs ?_;refine wt 4 ?_;refine go ?_;obtain rfl:=OZ hm;exact jT lE G (fD.agg G isAgg183 sizeOf183 (.head _) G) (.cons _ (.cons _ (.cons _ (.cons_cons _ (.cons_cons _ (.cons _ (.refl _))))))) (.swap _ _ _) ⟨G,aa,ap,bg,bh,G,G,a6.mm.oF,(ag).oF⟩
theorem xJ {p0_n:aD}{v0 v1 v2 v3 v4 v5:Value}{r:Int} (hm:lF p0_n=some r) (h0:aP H v0 p0_n.a_) (h1:aP H v1 p0_n.aH) (h2:aP H v2 p0_n.aG) (h3:aP H v3 p0_n.cR) (h4:aP H v4 p0_n.aY) (h5:aP H v5 p0_n.bM) (ht:St B w0 H (M) w):
    Calls prog 155 [.agg [v0,v1,v2,v3,v4,v5].toArray].toArray w (eA B w0 (xS H M r)):=by
 unfold lF at hm;refine enter func155 G G G ht ?_;refine gs ?_;refine bx (λah=>?_);refine g2 ?_;refine gs ?_;obtain ⟨a8,a9,hm⟩:=bind_some hm;refine ca @oK a9 ?_;rintro _ _ _ ⟨rfl,ai,aj,ak,am,rfl,rfl,a4,a5⟩;have a4:=a4 H;have a5:=a5 H;refine wC G G runUnderlying183 G isAgg80 G G (go ?_);refine sH (.tail _ (.head _)) (λaa=>?_);obtain ⟨a6,ab,ac,hm⟩:=cU hm;refine cl [(8,_),(9,_)] [1] 2 [1] 2 (λu m n H' M' L'=>∃ (a0:Nat) (a1:List Int),∃ a2:Int,(a8.bK).drop a0=a1/\a1.length=n/\a6 a0 a1 a2=some r/\H.le H'/\m=M'/\(3,.int .i64 (a2))::(10,.int .i64 ((a0:Int)))::u=L') _ G ⟨0,_,_,G,G,hm,lE,G,G⟩ ?_;rintro _ an _ _ ⟨a0,a1,a2,a7,rfl,hm,ao,rfl,rfl⟩;refine g2 ?_;refine bC G (λa3=>?_) (λa3=>?_);obtain ⟨ap,ad,rfl,ae,af⟩:=fP a7 a3;have hm:=(ab _ _ _ _).symm.trans hm;generalize ag:a6 (a0+1) ad=aq at hm
 unfold qC at hm;refine g2 ?_;refine Lb G G G G (gt ?_);refine gj ?_;exact kj (eb af ag) (kK (cB ae aa));obtain rfl:=fO a7 a3;have hm:=(ac _ _).symm.trans hm;refine gs ?_;refine Ek [] 1 ?_;exact ef
theorem rF {p0_n:aD}{p1_t:aV}{node:ByteArray}{v0 v1 v2 v3 v4 v5 v6 v7:Value}{r:Int} (hm:mh p0_n p1_t node=some r) (h0:aP H v0 p0_n.a_) (h1:aP H v1 p0_n.aH) (h2:aP H v2 p0_n.aG) (h3:aP H v3 p0_n.cR) (h4:aP H v4 p0_n.aY) (h5:aP H v5 p0_n.bM) (h6:aP H v6 p1_t.px) (h7:aP H v7 p1_t.bK) (ht:St B w0 H (M) w):
    Calls prog 125 [.agg [v0,v1,v2,v3,v4,v5].toArray,.agg [v6,v7].toArray,.string (node)].toArray w (eA B w0 (xS H M r)):=by
 unfold mh at hm;refine enter func125 G G G ht ?_;refine gs ?_;refine bx (λa2=>?_);refine bx (λa3=>?_);refine gs ?_;obtain ⟨a0,a1,hm⟩:=bind_some hm;obtain ⟨a4,a5,a6,hm⟩:=aB hm;refine oz fm 10 [ph _,ph _,ph _,ph _,ph _,ph _,ph _,ph (.int .i64 (a0)),ph _,ph _] ⟨om,om,om,om,om,om,om,?_,om,om,OV⟩ ?_;rintro HX hX X Rest hR _ _ ⟨rfl,rfl⟩ _ _ ⟨rfl,rfl⟩ hU hUp;refine cz @bY a1 ?_;exact o0 ⟨G,G⟩;intro a7 a8;refine dz ?_;obtain ⟨a9,aa,ab,hm⟩:=aB hm;refine go ?_;refine Ek [] 2 ?_;exact ef
end Go.Sim
