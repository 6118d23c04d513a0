/-
  The proof, part C1.
-/
import Derived.KernelRfl
import Derived.LoopN
import Derived.Shelf.Strconv.Atoi
import Derived.Shelf.Strconv.Itoa0
import Derived.Shelf.Strconv.Itoa1
import Derived.Shelf.LaysM
import Derived.Shelf.Strconv.Itoa2
import Derived.Shelf.Strconv.Itoa3
import Derived.Shelf.Strconv.AtoiErrFast
import Derived.Shelf.Strconv.ParseIntEmpty
import Derived.Shelf.Strconv.AtoiFail
import Derived.Shelf.Strconv.Clone
import Derived.Shelf.Strconv.SyntaxError
import Derived.Shelf.LaysC
import Derived.Shelf.Strconv.ToError
import Derived.Shelf.Strconv.Lower
import Derived.Shelf.Strconv.ParseUint10
import Derived.Shelf.Strconv.ParseUint10Empty
import Derived.Shelf.Strconv.ParseUint10Any
import Derived.Shelf.Strconv.ParseInt10
import Derived.Shelf.Strconv.AtoiLong
import Derived.Shelf.Strconv.AtoiInnerAll
import Derived.Shelf.Strconv.RangeError
import Derived.Shelf.Strconv.ToErrorRange
import Derived.Shelf.Strconv.AtoiAll
import Derived.Shelf.Strconv.ErrVarAll
import Derived.Shelf.Strconv.ParseUintEmpty
import Derived.Shelf.Strconv.ParseUint10b64
import Derived.Shelf.Strconv.ParseUint10b32
import Derived.Shelf.Strconv.ParseUint10b16
import Derived.Shelf.Strconv.ParseUint10b8
import Derived.Test.YtmdikieloiajeaaGreatDoorProg
import Derived.Test.YtmdikieloiajeaaGreatDoorRows
import Derived.Test.YtmdikieloiajeaaGreatDoorSqA2
set_option linter.unusedVariables false
set_option linter.unusedSimpArgs false
set_option linter.unusedSectionVars false
set_option linter.unnecessarySimpa false
namespace Go.Sim
abbrev UG := @Int.natCast_nonneg
abbrev Uf := @List.Perm.refl
abbrev Vh := @List.length_eq_one_iff
abbrev TM := @List.length_nil
abbrev Vd := @Nat.and_two_pow_sub_one_eq_mod
abbrev VO := @congrFun
abbrev VA := @Go.Proofs.Tryz.isAgg29
abbrev Ta := @Go.Proofs.Tryz.runUnderlying126
abbrev Vv := @Go.Proofs.Tryz.runUnderlying158
abbrev UX := @Go.Proofs.Tryz.runUnderlying198
abbrev SS := @Go.Proofs.Tryz.runUnderlying22
abbrev Wj := @Go.Proofs.Tryz.runUnderlying25
abbrev Vf := @Go.Proofs.Tryz.runUnderlying26
abbrev TI := @Go.Proofs.Tryz.runUnderlying275
abbrev Wl := @Go.Proofs.Tryz.runUnderlying29
abbrev Ui := @Go.Proofs.Tryz.runUnderlying3
abbrev VX := @Go.Proofs.Tryz.runUnderlying4
abbrev VY := @Go.Proofs.Tryz.runUnderlying5
abbrev R6 := @Go.Proofs.Tryz.runUnderlying9
abbrev Vj := @Go.Proofs.Tryz.sizeOf29
abbrev Tu := @Go.Proofs.Tryz.sizeOf3
abbrev TK := @Go.Proofs.Tryz.sizeOf9
abbrev Tk := @Go.Proofs.Tryz.underlying126
abbrev Ua := @Go.Proofs.Tryz.underlying22
abbrev Uj := @Go.Proofs.Tryz.zeroValue3
abbrev TS := @Go.Proofs.Tryz.zeroValue9
end Go.Sim
namespace Go.Sim
open Go
open _root_.Go.IntKind (i64 u64 u32 u8)
theorem G {α : Sort _} {a : α} : a = a := rfl
def Bf:Nat->List bN->Option (bN×List bN)
 | _,[]=>none
 | 0,r::l=>some (r,l)
 | n+1,r::l=>match Bf n l with
  | some (s,l')=>some (s,r::l')
  | none=>none
theorem vw:∀ {n:Nat}{l:List bN}{r:bN}{l':List bN},Bf n l=some (r,l')->l.Perm (r::l')
 | _,[],_,_,h=>by simp [Bf] at h
 | 0,s::l,r,l',h=>by simp only [Bf,Sa,Ue] at h; rw [h.1,h.2]
 | n+1,s::l,r,l',h=>by
  simp only [Bf] at h
  split at h
  ·rename_i q l2 e
   simp only [Sa,Ue] at h;obtain ⟨rfl,rfl⟩:=h;exact ((vw e).cons s).trans (List.Perm.swap _ _ _)
  ·cases h
def A7:List Nat->List bN->Option (List bN)
 | [],l=>some l
 | i::J,l=>match Bf i l with
  | some (r,l')=>(match A7 J l' with
   | some I=>some (r::I)
   | none=>none)
  | none=>none
theorem xI:∀ {ix:List Nat}{l l':List bN},A7 ix l=some l'->l.Perm l'
 | [],l,l',h=>by simp only [A7,Sa] at h; rw [h]
 | i::I,l,l',h=>by
  simp only [A7] at h
  split at h
  ·rename_i r l1 e
   split at h
   ·rename_i l2 e2
    simp only [Sa] at h;subst h;exact (vw e).trans ((xI e2).cons r)
   ·cases h
  ·cases h
def Fw:Nat->List bN->Option (List bN)
 | 0,l=>some l
 | _+1,[]=>none
 | n+1,_::l=>Fw n l
theorem Dr:∀ {n:Nat}{l l':List bN},Fw n l=some l'->l'.Sublist l
 | 0,l,l',h=>by simp only [Fw,Sa] at h; rw [h]; exact T4 _
 | n+1,[],l',h=>by simp [Fw] at h
 | n+1,r::l,l',h=>(Dr (n:=n) (l:=l) h).cons r
def zj:List Nat->Nat->List bN->Option (List bN)
 | [],d,l=>Fw d l
 | i::J,d,l=>match Bf i l with
  | some (r,l')=>(match zj J d l' with
   | some I=>some (r::I)
   | none=>none)
  | none=>none
theorem AP:∀ {ix:List Nat}{d:Nat}{l l':List bN},zj ix d l=some l'->∃ k,l.Perm k/\l'.Sublist k
 | [],d,l,l',h=>⟨l,Uf _,Dr h⟩
 | i::J,d,l,l',h=>by
  simp only [zj] at h
  split at h
  ·rename_i r l1 e
   split at h
   ·rename_i l2 e2
    simp only [Sa] at h;subst h;obtain ⟨k,I,hs⟩:=AP e2;exact ⟨r::k,(vw e).trans (I.cons r),hs.cons_cons r⟩
   ·cases h
  ·cases h
def LJ:List Nat->List bN->Option (List (List bN)×List bN)
 | [],l=>some ([],l)
 | i::J,l=>match Bf i l with
  | some (r,l')=>(match LJ J l' with
   | some (I,m)=>some ([r]::I,m)
   | none=>none)
  | none=>none
theorem DM:∀ {ix:List Nat}{l:List bN}{I:List (List bN)}{m:List bN},LJ ix l=some (I,m)->l.Perm (I.flatten++m)
 | [],l,I,m,h=>by simp only [LJ,Sa,Ue] at h; obtain ⟨rfl,rfl⟩:=h; exact Uf _
 | i::J,l,I,m,h=>by
  simp only [LJ] at h
  split at h
  ·rename_i r l1 e
   split at h
   ·rename_i I2 m2 e2
    simp only [Sa,Ue] at h;obtain ⟨rfl,rfl⟩:=h;simpa using (vw e).trans ((DM e2).cons r)
   ·cases h
  ·cases h
section
variable {x:Cx}{ops:Array Oper}{Q:lU}{rest:List Oper}{H:Hp}{M M':List bN}{L L':Env}{e:Exit}{c:Code}
theorem Wp (ix:List Nat) (k:W x ops Q rest H M' L) (h:A7 ix M=some M':=by rfl):W x ops Q rest H M L:=oB (xI h) k
theorem Cp (ix:List Nat) (k:Sim.C x c Q H M' L) (h:A7 ix M=some M':=by rfl):Sim.C x c Q H M L:=BB (xI h) k
theorem Ep (ix:List Nat) (k:E x e Q H M' L) (h:A7 ix M=some M':=by rfl):E x e Q H M L:=Gn (xI h) k
theorem Ek (ix:List Nat) (d:Nat) (k:E x e Q H M' L) (h:zj ix d M=some M':=by rfl):E x e Q H M L:=by
 obtain ⟨n,I,hs⟩:=AP h;exact Gn I (JN hs k)
theorem Ck (ix:List Nat) (d:Nat) (k:Sim.C x c Q H M' L) (h:zj ix d M=some M':=by rfl):Sim.C x c Q H M L:=by
 obtain ⟨n,I,hs⟩:=AP h;exact BB I (λa w s t=>k a w s (t.sub hs))
theorem kx (ix:List Nat) (d:Nat) (k:E x e Q H M' L') (h:zj ix d M=some M':=by rfl) (hL:Kept L L':=by repeat first | exact RM | refine ⟨rfl,?_⟩):E x e Q H M L:=
 Ek ix d (DN hL (Uf _) k) h
theorem Qr (ix:List Nat) (d:Nat) (S:Di) (n:Nat) (I:S n H M' L') (step:∀ n H M L,S n H M L->Sim.C x c (Exit.then (JL x S n) Q) H M L) (h:zj ix d M=some M':=by rfl) (hL:Kept L L':=by repeat first | exact RM | refine ⟨rfl,?_⟩):Sim.C x (.loop c) Q H M L:=
 Ck ix d (By hL (Uf _) (Bz S n I step)) h
end
def Jx:Nat->RJ->List RJ->Option (List RJ)
 | _,_,[]=>none
 | 0,v,_::l=>some (v::l)
 | n+1,v,u::l=>match Jx n v l with
  | some l'=>some (u::l')
  | none=>none
def A6:List RJ->Nat->List RJ->Option (List RJ)
 | l,_,[]=>some l
 | l,k,v::vs=>match Jx k v l with
  | some l'=>A6 l' (k+1) vs
  | none=>none
theorem Iu:∀ {n:Nat}{v:RJ}{l l':List RJ},Jx n v l=some l'->l.set n v=l'/\n<l.length
 | _,_,[],_,h=>by simp [Jx] at h
 | 0,v,u::l,l',h=>by simp only [Jx,Sa] at h; subst h; exact ⟨rfl,by simp⟩
 | n+1,v,u::l,l',h=>by
  simp only [Jx] at h
  split at h
  ·rename_i l2 e
   simp only [Sa] at h;subst h;obtain ⟨I,J⟩:=Iu e;exact ⟨by simp [I],by simp; omega⟩
  ·cases h
theorem CL:∀ {vs:List RJ}{l:List RJ}{k:Nat}{l':List RJ},A6 l k vs=some l'->over l k vs=l'/\(vs=[]\/k+vs.length<=l.length)
 | [],l,k,l',h=>by simp only [A6,Sa] at h; subst h; exact ⟨rfl,.inl rfl⟩
 | v::vs,l,k,l',h=>by
  simp only [A6] at h
  split at h
  ·rename_i l2 e
   obtain ⟨I,Z⟩:=Iu e;obtain ⟨Y,J⟩:=CL h;refine ⟨by simp only [over]; rw [I]; exact Y,.inr ?_⟩
   have hl:l2.length=l.length:=by rw [<- I]; simp
   rcases J with rfl | J
   ·simp; omega
   ·simp only [RW]; omega
  ·cases h
section
variable {x:Cx}{ops:Array Oper}{Q:lU}{rest:List Oper}{H:Hp}{M M':List bN}{L L':Env}{ty:TypeId}{pos:String}{aft:Array Edge}{g:Option (Nat×Bool)}
theorem ws (i:Nat) {T U n b o:Nat}{y z:Operand}{l cs out:List RJ}{v:RJ}{M1:List bN} (hv:v.cells=cs.toArray)
  (k:W x ops Q rest H (.obj b (.cells out.toArray U (0,0))::M1) L)
  (h1:∀ c ∈ cs,c.oneCell'=true:=by repeat first | exact TB | refine cM rfl ?_)
  (hy:ev L y=some (.pointer (some ⟨b,o,none⟩)):=by rfl) (hz:ev L z=some v:=by rfl) (hM:Bf i M=some (.obj b (.cells l.toArray U (0,0)),M1):=by rfl)
  (Z:gd ops L ⟨none,.store T y z,ty,pos,aft,g⟩=some true:=by rfl) (hn:∀ w,(sizeOf T).run x.P w=.ok n w:=by exact λ_=>rfl) (hl:cs.length=n:=by rfl) (ho:A6 l o cs=some out:=by rfl):
  W x ops Q (⟨none,.store T y z,ty,pos,aft,g⟩::rest) H M L:=by
 refine oB (vw hM) ?_;obtain ⟨I,J⟩:=CL ho;rcases J with rfl | J
 ·have I:l=out:=I
  subst I;exact D1 rfl Z (λa w hs ht=>⟨w,by
   have Y:n=0:=hl.symm;subst Y;simp [execOp,hs.ev hy,hs.ev hz,Instr.storeAt,Instr.sureAddr,storeVar,hn,hv,storeCells],H,_,ht,k⟩)
 ·exact D2 Z hn hy hz hv hl (by simpa [Uh] using J) h1 I k
end
def OD:Nat->List bN->Option (List bN)
 | 0,l=>some l
 | _+1,[]=>none
 | n+1,r::l=>match OD n l with
  | some l'=>some (r::l')
  | none=>none
theorem GU:∀ {n:Nat}{l l':List bN},OD n l=some l'->l=l'
 | 0,l,l',h=>by simpa [OD] using h
 | n+1,[],l',h=>by simp [OD] at h
 | n+1,r::l,l',h=>by
  simp only [OD] at h
  split at h
  ·rename_i l2 e
   simp only [Sa] at h;subst h;rw [GU e]
  ·cases h
section
variable {x:Cx}{ops:Array Oper}{Q:lU}{rest:List Oper}{H:Hp}{M M' M1:List bN}{rs:List bN}{L L':Env}{e:Exit}{c:Code}
theorem Wu (n:Nat) (k:W x ops Q rest H M' L) (h:M=kH rs::M1:=by rfl) (I:OD n (rs++M1)=some M':=by rfl):W x ops Q rest H M L:=λa w hs ht=>k a w hs (by rw [<- GU I]; rw [h] at ht; exact ht.unpack)
theorem Cu (n:Nat) (k:Sim.C x c Q H M' L) (h:M=kH rs::M1:=by rfl) (I:OD n (rs++M1)=some M':=by rfl):Sim.C x c Q H M L:=λa w hs ht=>k a w hs (by rw [<- GU I]; rw [h] at ht; exact ht.unpack)
theorem Wk (rs:List bN) (k:W x ops Q rest H (kH rs::M1) L) (h:rs++M1=M:=by rfl):W x ops Q rest H M L:=λa w hs ht=>k a w hs (by rw [<- h] at ht; exact ht.pack)
theorem yV (rs:List bN) (k:E x e Q H (kH rs::M1) L) (h:rs++M1=M:=by rfl):E x e Q H M L:=λa w hs ht=>k a w hs (by rw [<- h] at ht; exact ht.pack)
end
section
variable {x:Cx}{ops:Array Oper}{Q:lU}{rest:List Oper}{H:Hp}{M:List bN}{L:Env}{e:Exit}{c:Code}
theorem wb (k:W x ops Q rest H M L):W x ops Q rest H M L:=k
theorem PE (k:E x e Q H M L):E x e Q H M L:=k
theorem PD (k:Go.Sim.C x c Q H M L):Go.Sim.C x c Q H M L:=k
end
section
variable {x:Cx}{ops:Array Oper}{Q:lU}{rest:List Oper}{H:Hp}{M:List bN}{L:Env}{d:Nat}{ty:TypeId}{pos:String}{aft:Array Edge}{g:Option (Nat×Bool)}
theorem fq {T:TypeId}{y:Operand}{ad:Addr}{f n o J Y:Nat}{fs:Array Field}{nm tg pp:String}{em:Bool} (k:W x ops Q rest H M ((d,.pointer (some (ad.add o)))::L))
  (hy:ev L y=some (.pointer (some ad)):=by rfl) (Z:∀ w,(underlying T).run x.P w=.ok (.struct fs) w:=by exact λ_=>rfl) (hf:fs[f]? = some ⟨nm,J,o,em,tg,pp,Y⟩:=by rfl) (hn:∀ w,(sizeOf J).run x.P w=.ok n w:=by exact λ_=>rfl)
  (I:Nat.beq n 0=false:=by rfl) (hg:gd ops L ⟨some d,.fieldAddr T y f,ty,pos,aft,g⟩=some true:=by rfl) (hN:Nat.blt d x.N=true:=by rfl):
  W x ops Q (⟨some d,.fieldAddr T y f,ty,pos,aft,g⟩::rest) H M L:=u7 hg hN Z hf hn I rfl hy k
end
section
variable {x:Cx}{ops:Array Oper}{Q:lU}{rest:List Oper}{H:Hp}{M:List bN}{L:Env}{d:Nat}{ty:TypeId}{pos:String}{aft:Array Edge}{g:Option (Nat×Bool)}{y z c:Operand}{T U:TypeId}{n:Nat}{o:Oper}{op:BinOp}{uo:UnOp}{tys:Array TypeId}{fn:Fn}{ys bs:Array Operand}
theorem PF (k:W x ops Q (o::rest) H M L):W x ops Q (o::rest) H M L:=k
theorem p1 (k:W x ops Q (⟨some d,.move y,ty,pos,aft,g⟩::rest) H M L):W x ops Q (⟨some d,.move y,ty,pos,aft,g⟩::rest) H M L:=k
theorem p2 (k:W x ops Q (⟨some d,.assign y,ty,pos,aft,g⟩::rest) H M L):W x ops Q (⟨some d,.assign y,ty,pos,aft,g⟩::rest) H M L:=k
theorem p3 (k:W x ops Q (⟨some d,.fieldAddr T y n,ty,pos,aft,g⟩::rest) H M L):W x ops Q (⟨some d,.fieldAddr T y n,ty,pos,aft,g⟩::rest) H M L:=k
theorem p4 (k:W x ops Q (⟨some d,.load T y,ty,pos,aft,g⟩::rest) H M L):W x ops Q (⟨some d,.load T y,ty,pos,aft,g⟩::rest) H M L:=k
theorem p5 (k:W x ops Q (⟨some d,.binOp op T y z U,ty,pos,aft,g⟩::rest) H M L):W x ops Q (⟨some d,.binOp op T y z U,ty,pos,aft,g⟩::rest) H M L:=k
theorem p6 (k:W x ops Q (⟨some d,.pick c y z,ty,pos,aft,g⟩::rest) H M L):W x ops Q (⟨some d,.pick c y z,ty,pos,aft,g⟩::rest) H M L:=k
theorem p7 (k:W x ops Q (⟨some d,.extract y n,ty,pos,aft,g⟩::rest) H M L):W x ops Q (⟨some d,.extract y n,ty,pos,aft,g⟩::rest) H M L:=k
theorem p8 (k:W x ops Q (⟨some d,.nilCheck y,ty,pos,aft,g⟩::rest) H M L):W x ops Q (⟨some d,.nilCheck y,ty,pos,aft,g⟩::rest) H M L:=k
theorem p9 (k:W x ops Q (⟨some d,.unOp uo T y,ty,pos,aft,g⟩::rest) H M L):W x ops Q (⟨some d,.unOp uo T y,ty,pos,aft,g⟩::rest) H M L:=k
theorem pa (k:W x ops Q (⟨some d,.convert T U y,ty,pos,aft,g⟩::rest) H M L):W x ops Q (⟨some d,.convert T U y,ty,pos,aft,g⟩::rest) H M L:=k
theorem pb (k:W x ops Q (⟨some d,.makeFunc fn ys bs,ty,pos,aft,g⟩::rest) H M L):W x ops Q (⟨some d,.makeFunc fn ys bs,ty,pos,aft,g⟩::rest) H M L:=k
theorem pc (k:W x ops Q (⟨some d,.call ⟨.builtin .len,#[y],#[T]⟩,ty,pos,aft,g⟩::rest) H M L):W x ops Q (⟨some d,.call ⟨.builtin .len,#[y],#[T]⟩,ty,pos,aft,g⟩::rest) H M L:=k
theorem pg {j:Nat}{w:Bool}{J:Op}{I:Option Nat} (k:W x ops Q (⟨I,J,ty,pos,aft,some (j,w)⟩::rest) H M L):W x ops Q (⟨I,J,ty,pos,aft,some (j,w)⟩::rest) H M L:=k
end
abbrev ph (a:RJ):Hp->List bN->RJ->Prop:=λ_ rs v=>[]=rs/\a=v
abbrev aG {a:RJ}:Hp->List bN->RJ->Prop:=ph a
def nn (n:Nat):List (List Nat):=List.replicate n []
section
variable {x:Cx}{ops:Array Oper}{Q:lU}{H H':Hp}{M:List bN}{L:Env}{t:Nat}{ps:Option Nat}{v:RJ}{φ:Hp->List bN->RJ->Prop}
theorem o0 (h:φ H [] v):W x ops (DT x H M L (some t) ps φ) [] H M ((t,v)::L):=a_ (fJ [] (SN _) h)
theorem oe (rs:List bN) (I:H.le H') (h:φ H' rs v):W x ops (DT x H M L (some t) ps φ) [] H' (rs++M) ((t,v)::L):=a_ (fJ rs I h)
end
theorem dr {P Q:Prop} (k:Q) (h:Q->P:=by
  intro k
  repeat (rintro _ _ ⟨rfl,rfl⟩)
  exact k):P:=h k
theorem dz {P Q:Prop} (k:Q) (h:Q->P:=by
  intro k
  repeat (rintro _ _ ⟨rfl,rfl⟩)
  refine wb ?_;exact k):P:=h k
theorem ma {P:Prop} (h:P:=by
    repeat' first
      | exact RM
      | exact gP _ _
      | refine ⟨?_,?_⟩
      | (intro J Y rs v I
         repeat' first
           | exact λh=>h
           | exact λh=>aP.mono I h
           | exact λh=>Rw.mono I h
           | exact λh=>pX.mono I h
           | exact λh=>iK.mono I h
           | exact λh=>Mx.mono h I
           | refine Exists.imp (λ_=>?_)
           | refine And.imp ?_ ?_)):P:=h
theorem QF {x:Cx}{l:List Oper}{Q:lU}{H:Hp}{M:List bN}{L:Env}{id:Nat} (Y:x.P.follows .mixedOrders=true) (m:Nat) (F:List (Hp->List bN->RJ->Prop)) (C U:List (List Nat)) (I:List (List bN)) (live:List Nat)
  (hop:yg x l (Aj F) C U [] (E0 m I) H M L 0 (l.take m))
  (k:∀ H',H.le H'->xp l (Aj F) H' (List.range m) L (E0 m I) (λL' R=>W x l.toArray Q (l.drop m) H' (uH live R M) L'))
  (hB:vY l m=true:=by kernel_rfl) (hml:Nat.ble m l.length=true:=by rfl) (hD:zu l m L=true:=by rfl) (Z:zv l m=true:=by rfl)
  (hT:Hr l m (m+I.length) C U live=true:=by kernel_rfl) (J:BF F:=by exact ma):Go.Sim.C x (.region id l.toArray true) Q H (I.flatten++M) L:=
 sj m (Aj F) C U I live Y hB hml hD Z hT (vx J) hop k
def Qh:Nat->Nat->List (Nat×List Nat)->List (List Nat)
 | 0,_,_=>[]
 | n+1,i,[]=>[]::Qh n (i+1) []
 | n+1,i,(j,c)::l=>bif Nat.beq i j then c::Qh n (i+1) l else []::Qh n (i+1) ((j,c)::l)
def sp (n:Nat) (l:List (Nat×List Nat)):List (List Nat):=Qh n 0 l
theorem A8 {x:Cx}{l:List Oper}{Q:lU}{H:Hp}{M Z:List bN}{L:Env}{id:Nat}{I:List (List bN)} (Y:x.P.follows .mixedOrders=true) (m:Nat) (F:List (Hp->List bN->RJ->Prop)) (C U:List (List Nat)) (ix live:List Nat)
  (hI:LJ ix M=some (I,Z))
  (hop:yg x l (Aj F) C U [] (E0 m I) H Z L 0 (l.take m))
  (k:∀ H',H.le H'->xp l (Aj F) H' (List.range m) L (E0 m I) (λL' R=>W x l.toArray Q (l.drop m) H' (uH live R Z) L'))
  (hB:vY l m=true:=by kernel_rfl) (hml:Nat.ble m l.length=true:=by rfl) (hD:zu l m L=true:=by rfl) (hNd:zv l m=true:=by rfl)
  (hT:Hr l m (m+I.length) C U live=true:=by kernel_rfl) (J:BF F:=by exact ma):Go.Sim.C x (.region id l.toArray true) Q H M L:=
 BB (DM hI) (QF Y m F C U I live hop k hB hml hD hNd hT J)
theorem pD {x:Cx}{l:List Oper}{Q:lU}{H:Hp}{M:List bN}{L:Env}{id:Nat} (J:x.P.follows .mixedOrders=true) (m:Nat) (F:List (Hp->List bN->RJ->Prop))
  (hop:yg x l (Aj F) (nn m) (nn m) [] (E0 m []) H M L 0 (l.take m))
  (k:∀ H',H.le H'->xp l (Aj F) H' (List.range m) L (E0 m []) (λL' R=>W x l.toArray Q (l.drop m) H' (uH (List.range m) R M) L'))
  (hB:vY l m=true:=by kernel_rfl) (Z:Nat.ble m l.length=true:=by rfl) (hD:zu l m L=true:=by rfl) (Y:zv l m=true:=by rfl)
  (hT:Hr l m m (nn m) (nn m) (List.range m)=true:=by kernel_rfl) (I:BF F:=by exact ma):Go.Sim.C x (.region id l.toArray true) Q H M L:=
 sj m (Aj F) (nn m) (nn m) [] (List.range m) J hB Z hD Y hT (vx I) hop k
theorem cO {α I R:Type}{B:Nat->α->I->(I->Option R)->Option R}{K:I->Option R}{l:List α}{s:I}{r:Option R}{i:Nat} (h:dE B K i l s=r):
  ∃ F:Nat->List α->I->Option R,(∀ i y ys s,F i (y::ys) s=B i y s (F (i+1) ys))/\(∀ i s,F i [] s=K s)/\F i l s=r:=⟨dE B K,λ_ _ _ _=>rfl,λ_ _=>rfl,h⟩
theorem iP {I R:Type}{B:Nat->I->(I->Option R)->Option R}{K:I->Option R}{m:Nat}{s:I}{r:Option R}{i:Nat} (h:kz B K m i s=r):
  ∃ F:Nat->Nat->I->Option R,(∀ m i s,F (m+1) i s=B i s (F m (i+1)))/\(∀ i s,F 0 i s=K s)/\F m i s=r:=⟨kz B K,λ_ _ _=>rfl,λ_ _=>rfl,h⟩
theorem gQ {I R:Type}{B:I->(I->Option R)->Option R}{m:Nat}{s:I}{r:Option R} (h:fG B m s=r):
  ∃ F:Nat->I->Option R,(∀ m s,F (m+1) s=B s (F m))/\(∀ s,F 0 s=none)/\F m s=r:=⟨fG B,λ_ _=>rfl,λ_=>rfl,h⟩
section
variable {x:Cx}{Q:lU}{H:Hp}{M M':List bN}{L L':Env}{e:Exit}{c:Code}
theorem kj (k:E x e Q H M L') (hL:Kept L L':=by repeat first | exact RM | refine ⟨rfl,?_⟩):E x e Q H M L:=DN hL (Uf _) k
theorem kp (k:E x e Q H M' L') (I:M.Perm M') (hL:Kept L L':=by repeat first | exact RM | refine ⟨rfl,?_⟩):E x e Q H M L:=DN hL I k
theorem Ot (S:Di) (n:Nat) (I:S n H M L') (step:∀ n H M L,S n H M L->Go.Sim.C x c (Exit.then (JL x S n) Q) H M L) (hL:Kept L L':=by repeat first | exact RM | refine ⟨rfl,?_⟩):Go.Sim.C x (.loop c) Q H M L:=
 By hL (Uf _) (Bz S n I step)
theorem cj {m:List bN}{d:Code} (u:Env) (ix:List Nat) (e:Nat) (S:Env->List bN->Po) (rest:∀ H M L,S u m H M L->Go.Sim.C x d Q H M L)
  (k:(∀ H M L,S u m H M L->E x .normal (Exit.then (d.wp x.P Q) Q) H M L)->Go.Sim.C x c (Exit.then (d.wp x.P Q) Q) H M L) (O:zj ix e M=some m:=by rfl) (I:Kept L u:=by repeat first | exact RM | refine ⟨rfl,?_⟩):Go.Sim.C x (.seq c d) Q H M L:=
 sD (S u m) rest k
theorem cl {m:List bN} (u:Env) (J:List Nat) (e:Nat) (ix:List Nat) (d:Nat) (S:Env->List bN->Di) (n:Nat) (O:zj J e M=some m) (I:S u m n H M' L') (step:∀ n H M L,S u m n H M L->Go.Sim.C x c (Exit.then (JL x (S u m) n) Q) H M L)
  (h:zj ix d M=some M':=by rfl) (Y:Kept L u:=by repeat first | exact RM | refine ⟨rfl,?_⟩) (hL:Kept L L':=by repeat first | exact RM | refine ⟨rfl,?_⟩):Go.Sim.C x (.loop c) Q H M L:=
 Qr ix d (S u m) n I step h hL
theorem cd {α:Type}{o:Operand}{p q:Code}{b:Bool}{u v r:α} (O:(if b=true then u else v)=r) (I:ev L o=some (.bool b)) (J:b=true->u=r->Go.Sim.C x p Q H M L) (Y:b=false->v=r->Go.Sim.C x q Q H M L):Go.Sim.C x (.cond o p q) Q H M L:=
 bC I (λh=>J h (dZ h O)) (λh=>Y h (dY h O))
theorem cT {o:Operand}{p q:Code} (I:ev L o=some (.bool true)) (k:Go.Sim.C x p Q H M L):Go.Sim.C x (.cond o p q) Q H M L:=bC I (λ_=>k) (λh=>Bool.noConfusion h)
theorem cF {o:Operand}{p q:Code} (I:ev L o=some (.bool false)) (k:Go.Sim.C x q Q H M L):Go.Sim.C x (.cond o p q) Q H M L:=bC I (λh=>Bool.noConfusion h) (λ_=>k)
end
theorem sb {a b:Bool} (h:a=b):some (Value.bool a)=some (Value.bool b):=by rw [h]
theorem Oq:(∀ b,(b && true)=b)/\(∀ b,(true && b)=b)/\(∀ b,(false && b)=false)/\(∀ b,(b && false)=false)/\(∀ b,(b || true)=true)/\(∀ b,(true || b)=true)/\(∀ b,(b || false)=b)/\(∀ b,(false || b)=b)/\(!true)=false/\(!false)=true/\(∀ α:Type,(none:Option α).isNone=true)/\(∀ (α:Type) (a:α),(some a).isNone=false):=by
 refine ⟨?_,?_,?_,?_,?_,?_,?_,?_,rfl,rfl,λ_=>rfl,λ_ _=>rfl⟩ <;> intro b <;> cases b <;> rfl
section
variable {x:Cx}{ops:Array Oper}{Q:lU}{rest:List Oper}{H:Hp}{M:List bN}{L:Env}{d:Nat}{ty:TypeId}{pos:String}{aft:Array Edge}{g:Option (Nat×Bool)}
theorem lo {T b i U:Nat}{fz:Nat×Nat}{y:Operand}{l:List RJ}{v:RJ} (I:∀ w,(isAgg T).run x.P w=.ok false w) (Z:ev L y=some (.pointer (some ⟨b,i,none⟩))) (O:bN.obj b (.cells l.toArray U fz) ∈ M) (J:l[i]? = some v)
  (k:W x ops Q rest H M ((d,v)::L)) (Y:gd ops L ⟨some d,.load T y,ty,pos,aft,g⟩=some true:=by rfl) (hN:Nat.blt d x.N=true:=by rfl):W x ops Q (⟨some d,.load T y,ty,pos,aft,g⟩::rest) H M L:=
 pM Y hN I Z (wS O J) k
theorem la {T b U n:Nat}{fz:Nat×Nat}{y:Operand}{l:List RJ} (I:∀ w,(isAgg T).run x.P w=.ok true w) (hn:∀ w,(sizeOf T).run x.P w=.ok n w) (Y:ev L y=some (.pointer (some ⟨b,0,none⟩))) (O:bN.obj b (.cells l.toArray U fz) ∈ M) (hl:l.length=n)
  (k:W x ops Q rest H M ((d,.agg l.toArray)::L)) (J:gd ops L ⟨some d,.load T y,ty,pos,aft,g⟩=some true:=by rfl) (hN:Nat.blt d x.N=true:=by rfl):W x ops Q (⟨some d,.load T y,ty,pos,aft,g⟩::rest) H M L:=
 jN J hN I hn Y (EI O) hl k
theorem fi {T:TypeId}{y:Operand}{ad:Addr}{f n:Nat}{fs:Array Field}{I:Field} (o:Nat) (Y:∀ w,(underlying T).run x.P w=.ok (.struct fs) w) (Z:fs[f]? = some I) (hn:∀ w,(sizeOf I.type).run x.P w=.ok n w) (hy:ev L y=some (.pointer (some ad)))
  (k:W x ops Q rest H M ((d,.pointer (some (ad.add o)))::L)) (ho:I.offset=o:=by rfl) (J:Nat.beq n 0=false:=by rfl) (hg:gd ops L ⟨some d,.fieldAddr T y f,ty,pos,aft,g⟩=some true:=by rfl) (hN:Nat.blt d x.N=true:=by rfl):
  W x ops Q (⟨some d,.fieldAddr T y f,ty,pos,aft,g⟩::rest) H M L:=u7 hg hN Y Z hn J ho hy k
end
theorem lE {H H':Hp} (h:H.le H':=by first | exact SN _ | assumption | ((repeat first | assumption | exact SN _ | refine Vx ?_ (by assumption)); done)):H.le H':=h
section
variable {α:Type}[aF α] {H H':Hp}{v:RJ}{xs:List RJ}{l:List α}{ad:Addr}
theorem aP.mm (h:aP H v l) (e:H.le H':=by exact lE):aP H' v l:=aP.mono e h
theorem Rw.mm (h:Rw H v xs l) (e:H.le H':=by exact lE):Rw H' v xs l:=Rw.mono e h
theorem pX.mm (h:pX H xs l) (e:H.le H':=by exact lE):pX H' xs l:=pX.mono e h
theorem iK.mm (h:iK H ad xs) (e:H.le H':=by exact lE):iK H' ad xs:=iK.mono e h
theorem Mx.mm {T1 T2:TypeId}{hs:List RJ}{mx:List bN}{sg:List Nat}{ls:List (List α)} (h:Mx T1 T2 H v hs mx sg ls) (e:H.le H':=by exact lE):Mx T1 T2 H' v hs mx sg ls:=Mx.mono h e
end
section
variable {x:Cx}{ops:Array Oper}{Q:lU}{rest:List Oper}{H H0:Hp}{M:List bN}{L:Env}{d:Nat}{ty:TypeId}{pos:String}{aft:Array Edge}{g:Option (Nat×Bool)}{ee:Exit}
theorem Ew (H0:Hp) (k:E x ee Q H0 M L) (h:H0.le H:=by exact lE):E x ee Q H M L:=Gp h k
theorem Br {α:Type}[aF α] {t e:TypeId}{y z:Operand}{v:RJ}{xs:List α}{el:α}{kk:IntKind}{i:Int}{n:Nat} (hR:aP H0 v xs) (he:xs[n]? = some el)
  (k:W x ops Q rest H M ((d,.pointer (some ((Value.base v).add (i.toNat*aF.sz α))))::L)) (I:H0.le H:=by exact lE) (hy:ev L y=some v:=by rfl) (hz:ev L z=some (.int kk i):=by rfl) (hn:i.toNat=n:=by rfl)
  (J:0<=i:=by first | exact UG _ | assumption | decide) (Y:∀ w,(underlying t).run x.P w=.ok (.slice e) w:=by exact λ_=>rfl) (hs:∀ w,(sizeOf e).run x.P w=.ok (aF.sz α) w:=by exact λ_=>rfl)
  (Z:gd ops L ⟨some d,.indexAddr t y z,ty,pos,aft,g⟩=some true:=by rfl) (hN:Nat.blt d x.N=true:=by rfl):W x ops Q (⟨some d,.indexAddr t y z,ty,pos,aft,g⟩::rest) H M L:=
 E_ Z hN Y hs hy (aP.mono I hR) hz J (by rw [hn]; exact he) k
theorem lr {α:Type}[aF α] {t e:TypeId}{y:Operand}{v:RJ}{xs:List α} (hR:aP H0 v xs) (k:W x ops Q rest H M ((d,.int .i64 xs.length)::L)) (I:H0.le H:=by exact lE) (Z:ev L y=some v:=by rfl)
  (J:∀ w,(underlying t).run x.P w=.ok (.slice e) w:=by exact λ_=>rfl) (Y:gd ops L ⟨some d,.call ⟨.builtin .len,#[y],#[t]⟩,ty,pos,aft,g⟩=some true:=by rfl) (hN:Nat.blt d x.N=true:=by rfl):
  W x ops Q (⟨some d,.call ⟨.builtin .len,#[y],#[t]⟩,ty,pos,aft,g⟩::rest) H M L:=J3 Y hN J Z (aP.mono I hR) k
theorem uJ {α:Type}{v:RJ}{T:TypeId}{sz n:Nat}{xs:List RJ}{t e:TypeId}{y z:Operand}{kk:IntKind}{i:Int}{l:List α}{el:α} (he:l[n]? = some el)
  (k:W x ops Q rest H M ((d,.pointer (some ((Value.base v).add (i.toNat*sz))))::L)) (Z:ev L y=some v:=by rfl) (hz:ev L z=some (.int kk i):=by rfl) (hn:i.toNat=n:=by rfl)
  (O:bN.row v T sz l.length xs ∈ M:=by first | ((repeat first | exact List.Mem.head _ | refine List.Mem.tail _ ?_); done) | (refine hR _ ?_; (repeat first | exact List.Mem.head _ | refine List.Mem.tail _ ?_); done) | (refine hU _ ?_; (repeat first | exact List.Mem.head _ | refine List.Mem.tail _ ?_); done))
  (I:0<=i:=by first | exact UG _ | assumption | decide) (J:∀ w,(underlying t).run x.P w=.ok (.slice e) w:=by exact λ_=>rfl) (hs:∀ w,(sizeOf e).run x.P w=.ok sz w:=by exact λ_=>rfl)
  (Y:gd ops L ⟨some d,.indexAddr t y z,ty,pos,aft,g⟩=some true:=by rfl) (hN:Nat.blt d x.N=true:=by rfl):W x ops Q (⟨some d,.indexAddr t y z,ty,pos,aft,g⟩::rest) H M L:=
 zO O Y hN J hs Z hz I (by rw [hn]; exact (RP.1 he).1) k
theorem lh {T:TypeId}{y:Operand}{ad:Addr}{cs:List RJ}{v:RJ} (Y:iK H0 ad cs) (o:Nat) (k:W x ops Q rest H M ((d,v)::L)) (I:H0.le H:=by exact lE) (hy:ev L y=some (.pointer (some (ad.add o))):=by rfl) (hv:cs[o]? = some v:=by rfl)
  (J:∀ w,(isAgg T).run x.P w=.ok false w:=by exact λ_=>rfl) (Z:gd ops L ⟨some d,.load T y,ty,pos,aft,g⟩=some true:=by rfl) (hN:Nat.blt d x.N=true:=by rfl):W x ops Q (⟨some d,.load T y,ty,pos,aft,g⟩::rest) H M L:=
 pM Z hN J hy (iK.one (iK.mono I Y) o hv).at k
theorem PH {T:TypeId}{n:Nat}{y:Operand}{ad:Addr}{cs:List RJ} (Y:iK H0 ad cs) (k:W x ops Q rest H M ((d,.agg cs.toArray)::L)) (I:H0.le H:=by exact lE) (hy:ev L y=some (.pointer (some ad)):=by rfl)
  (J:∀ w,(isAgg T).run x.P w=.ok true w:=by exact λ_=>rfl) (hn:∀ w,(sizeOf T).run x.P w=.ok n w:=by exact λ_=>rfl) (hl:cs.length=n:=by rfl) (Z:gd ops L ⟨some d,.load T y,ty,pos,aft,g⟩=some true:=by rfl) (hN:Nat.blt d x.N=true:=by rfl):
  W x ops Q (⟨some d,.load T y,ty,pos,aft,g⟩::rest) H M L:=jN Z hN J hn hy (iK.mono I Y).at hl k
theorem zh {T U:TypeId}{y:Operand}{v w:RJ}{sz n i:Nat}{xs cs:List RJ} (J:∀ j u,cs[j]? = some u->xs[i+j]? = some u) (k:W x ops Q rest H M ((d,w)::L)) (hy:ev L y=some (.pointer (some ((Value.base v).add i))):=by rfl)
  (O:bN.row v U sz n xs ∈ M:=by first | ((repeat first | exact List.Mem.head _ | refine List.Mem.tail _ ?_); done) | (refine hR _ ?_; (repeat first | exact List.Mem.head _ | refine List.Mem.tail _ ?_); done) | (refine hU _ ?_; (repeat first | exact List.Mem.head _ | refine List.Mem.tail _ ?_); done))
  (Y:cs[0]? = some w:=by rfl) (I:∀ w,(isAgg T).run x.P w=.ok false w:=by exact λ_=>rfl) (Z:gd ops L ⟨some d,.load T y,ty,pos,aft,g⟩=some true:=by rfl) (hN:Nat.blt d x.N=true:=by rfl):
  W x ops Q (⟨some d,.load T y,ty,pos,aft,g⟩::rest) H M L:=pM Z hN I hy (CR O J Y) k
theorem QV {T U:TypeId}{m:Nat}{y:Operand}{v:RJ}{sz n i:Nat}{xs cs:List RJ} (J:∀ j u,cs[j]? = some u->xs[i+j]? = some u) (k:W x ops Q rest H M ((d,.agg cs.toArray)::L)) (Z:ev L y=some (.pointer (some ((Value.base v).add i))):=by rfl)
  (O:bN.row v U sz n xs ∈ M:=by first | ((repeat first | exact List.Mem.head _ | refine List.Mem.tail _ ?_); done) | (refine hR _ ?_; (repeat first | exact List.Mem.head _ | refine List.Mem.tail _ ?_); done) | (refine hU _ ?_; (repeat first | exact List.Mem.head _ | refine List.Mem.tail _ ?_); done))
  (I:∀ w,(isAgg T).run x.P w=.ok true w:=by exact λ_=>rfl) (hn:∀ w,(sizeOf T).run x.P w=.ok m w:=by exact λ_=>rfl) (hl:cs.length=m:=by rfl) (Y:gd ops L ⟨some d,.load T y,ty,pos,aft,g⟩=some true:=by rfl) (hN:Nat.blt d x.N=true:=by rfl):
  W x ops Q (⟨some d,.load T y,ty,pos,aft,g⟩::rest) H M L:=jN Y hN I hn Z (yP O J) hl k
theorem bx {T:TypeId}{y:Operand}{v:RJ}{cs:List RJ} (k:∀ b,W x ops Q rest H (.obj b (.cells cs.toArray T (0,0))::M) ((d,.pointer (some ⟨b,0,none⟩))::L)) (Y:ev L y=some v:=by rfl)
  (I:v.cells=cs.toArray:=by first | exact aP.cells (by assumption) | exact Rw.cells (by assumption) | rfl) (J:gd ops L ⟨some d,.box T y,ty,pos,aft,g⟩=some true:=by rfl) (hN:Nat.blt d x.N=true:=by rfl):
  W x ops Q (⟨some d,.box T y,ty,pos,aft,g⟩::rest) H M L:=Ps J hN Y I k
theorem al {T:TypeId}{z:RJ}{cs:List RJ} (k:∀ b,W x ops Q rest H (.obj b (.cells cs.toArray T (0,0))::M) ((d,.pointer (some ⟨b,0,none⟩))::L))
  (Y:∀ w,(zeroValue T).run x.P w=.ok z w:=by exact λ_=>rfl) (I:z.cells=cs.toArray:=by rfl) (J:gd ops L ⟨some d,.alloc T,ty,pos,aft,g⟩=some true:=by rfl) (hN:Nat.blt d x.N=true:=by rfl):
  W x ops Q (⟨some d,.alloc T,ty,pos,aft,g⟩::rest) H M L:=L9 J hN Y I k
theorem wt (i:Nat) {T U n b o:Nat}{y z:Operand}{l cs out:List RJ}{v:RJ}{I:List bN}
  (k:W x ops Q rest H (.obj b (.cells out.toArray U (0,0))::I) L) (hy:ev L y=some (.pointer (some ⟨b,o,none⟩)):=by rfl) (hz:ev L z=some v:=by rfl)
  (hv:v.cells=cs.toArray:=by first | exact aP.cells (by assumption) | exact Rw.cells (by assumption) | rfl)
  (J:∀ c ∈ cs,c.oneCell'=true:=by repeat first | exact TB | refine cM rfl ?_ | refine cM (aP.pA (by assumption)) ?_ | refine cM (Rw.one (by assumption)) ?_)
  (Y:Bf i M=some (.obj b (.cells l.toArray U (0,0)),I):=by rfl)
  (Z:gd ops L ⟨none,.store T y z,ty,pos,aft,g⟩=some true:=by rfl) (hn:∀ w,(sizeOf T).run x.P w=.ok n w:=by exact λ_=>rfl) (hl:cs.length=n:=by rfl) (ho:A6 l o cs=some out:=by rfl):
  W x ops Q (⟨none,.store T y z,ty,pos,aft,g⟩::rest) H M L:=ws i hv k J hy hz Y Z hn hl ho
theorem wr {α:Type}[aF α] (i o:Nat) {T U m:Nat}{y z:Operand}{v u:RJ}{xs c cs out:List RJ}{l:List α}{e:α}{I:Nat}{M1:List bN}{ad:Addr} (e2:α) (h:Rw H0 v xs l) (he:l[I]? = some e) (hg':∀ j w,c[j]? = some w->xs[I*aF.sz α+j]? = some w)
  (hc:aF.E H c e) (hE:aF.E H out e2)
  (k:∀ tJ,Rw H v tJ (l.set I e2)->(l.set I e2)[I]? = some e2->(∀ j w,out[j]? = some w->tJ[I*aF.sz α+j]? = some w)->W x ops Q rest H (.row v U (aF.sz α) (l.set I e2).length tJ::M1) L)
  (hle:H0.le H:=by exact lE) (hy:ev L y=some (.pointer (some ad)):=by rfl) (Y:ad=(Value.base v).add (I*aF.sz α+o):=by first | exact Is _ _ | exact Ls _ _ _) (hz:ev L z=some u:=by rfl)
  (hv:u.cells=cs.toArray:=by first | exact aP.cells (by assumption) | exact Rw.cells (by assumption) | rfl)
  (h1:∀ c ∈ cs,c.oneCell'=true:=by repeat first | exact TB | refine cM rfl ?_ | refine cM (aP.pA (by assumption)) ?_ | refine cM (Rw.one (by assumption)) ?_)
  (hM:Bf i M=some (.row v U (aF.sz α) l.length xs,M1):=by rfl) (hg:gd ops L ⟨none,.store T y z,ty,pos,aft,g⟩=some true:=by rfl) (hn:∀ w,(sizeOf T).run x.P w=.ok m w:=by exact λ_=>rfl) (hl:cs.length=m:=by rfl)
  (ho:A6 c o cs=some out:=by rfl) (hb:Nat.ble (o+cs.length) c.length=true:=by rfl) (Z:Nat.ble (o+cs.length) (aF.sz α)=true:=by rfl) (J:Nat.blt 0 cs.length=true:=by rfl):
  W x ops Q (⟨none,.store T y z,ty,pos,aft,g⟩::rest) H M L:=by
 have h':=Rw.mono hle h;obtain ⟨ho1,_⟩:=CL ho;obtain ⟨p1,p2,p3⟩:=Rw.put h' he hc hg' hb ho1 hE;refine oB (vw hM) ?_;refine IH (n':=(l.set I e2).length) hg hn hy Y hz hv hl (Rw.room h' he Z) J h1 SO ?_;exact k _ p1 p2 p3
end
class xm (α:Type) [aF α] where
 cs:α->List RJ
 eq:∀ {H c x},aF.E H c x->c=cs x
instance:xm Int:=⟨λn=>[.int .i64 n],λh=>h⟩
instance:xm Bool:=⟨λb=>[.bool b],λh=>h⟩
instance:xm RI:=⟨λs=>[.string s],λh=>h⟩
instance:xm U8:=⟨λn=>[.int .u8 n.n],λh=>h⟩
instance:xm Qd:=⟨λn=>[.int .u16 n.n],λh=>h⟩
instance:xm bR:=⟨λn=>[.int .u32 n.n],λh=>h⟩
instance:xm Qe:=⟨λn=>[.int .u64 n.n],λh=>h⟩
instance:xm Qb:=⟨λn=>[.int .i32 n.n],λh=>h⟩
def Ow:List RJ->Option (List RJ)
 | []=>some []
 | v::l=>match Ow l with
  | some m=>some (v::m)
  | none=>none
theorem D8:∀ {l m:List RJ},Ow l=some m->l=m
 | [],m,h=>by simpa [Ow] using h
 | v::l,m,h=>by
  simp only [Ow] at h
  split at h
  ·rename_i k e
   simp only [Sa] at h;rw [D8 e,h]
  ·cases h
theorem mA {P:Prop} (h:P:=by
  first
   | ((repeat first | exact List.Mem.head _ | refine List.Mem.tail _ ?_); done)
   | (refine hR _ ?_; (repeat first | exact List.Mem.head _ | refine List.Mem.tail _ ?_); done)
   | (refine hU _ ?_; (repeat first | exact List.Mem.head _ | refine List.Mem.tail _ ?_); done)):P:=h
section
variable {x:Cx}{ops:Array Oper}{Q:lU}{rest:List Oper}{H H0:Hp}{M:List bN}{L:Env}{d:Nat}{ty:TypeId}{pos:String}{aft:Array Edge}{g:Option (Nat×Bool)}{y z:Operand}{T U:TypeId}
theorem Re {t:TypeId} (k:W x ops Q (⟨some d,.indexAddr t y z,ty,pos,aft,g⟩::rest) H M L):W x ops Q (⟨some d,.indexAddr t y z,ty,pos,aft,g⟩::rest) H M L:=k
theorem iA {α:Type}{iR:aF α}{t e:TypeId}{v:RJ}{xs:List α}{el:α}{kk:IntKind}{i:Int} (k:W x ops Q rest H M ((d,.pointer (some ((Value.base v).add (i.toNat*aF.sz α))))::L))
  (hy:ev L y=some v:=by rfl) (hz:ev L z=some (.int kk i):=by rfl) (hR:aP H0 v xs:=by with_reducible assumption) (he:xs[i.toNat]? = some el:=by first | with_reducible assumption | assumption) (I:H0.le H:=by exact lE)
  (J:0<=i:=by first | exact UG _ | assumption | decide) (Y:∀ w,(underlying t).run x.P w=.ok (.slice e) w:=by exact λ_=>rfl) (hs:∀ w,(sizeOf e).run x.P w=.ok (aF.sz α) w:=by exact λ_=>rfl)
  (Z:gd ops L ⟨some d,.indexAddr t y z,ty,pos,aft,g⟩=some true:=by rfl) (hN:Nat.blt d x.N=true:=by rfl):W x ops Q (⟨some d,.indexAddr t y z,ty,pos,aft,g⟩::rest) H M L:=
 E_ Z hN Y hs hy (aP.mono I hR) hz J he k
theorem iO {α:Type}{v:RJ}{sz:Nat}{xs:List RJ}{t e:TypeId}{kk:IntKind}{i:Int}{l:List α}{el:α}
  (k:W x ops Q rest H M ((d,.pointer (some ((Value.base v).add (i.toNat*sz))))::L)) (Z:ev L y=some v:=by rfl) (hz:ev L z=some (.int kk i):=by rfl)
  (O:bN.row v T sz l.length xs ∈ M:=by exact mA) (he:l[i.toNat]? = some el:=by first | with_reducible assumption | assumption)
  (I:0<=i:=by first | exact UG _ | assumption | decide) (J:∀ w,(underlying t).run x.P w=.ok (.slice e) w:=by exact λ_=>rfl) (hs:∀ w,(sizeOf e).run x.P w=.ok sz w:=by exact λ_=>rfl)
  (Y:gd ops L ⟨some d,.indexAddr t y z,ty,pos,aft,g⟩=some true:=by rfl) (hN:Nat.blt d x.N=true:=by rfl):W x ops Q (⟨some d,.indexAddr t y z,ty,pos,aft,g⟩::rest) H M L:=
 zO O Y hN J hs Z hz I (RP.1 he).1 k
theorem nA {α:Type}{iR:aF α}{e:TypeId}{v:RJ}{xs:List α} (k:W x ops Q rest H M ((d,.int .i64 xs.length)::L)) (Z:ev L y=some v:=by rfl) (hR:aP H0 v xs:=by with_reducible assumption) (I:H0.le H:=by exact lE)
  (J:∀ w,(underlying T).run x.P w=.ok (.slice e) w:=by exact λ_=>rfl) (Y:gd ops L ⟨some d,.call ⟨.builtin .len,#[y],#[T]⟩,ty,pos,aft,g⟩=some true:=by rfl) (hN:Nat.blt d x.N=true:=by rfl):
  W x ops Q (⟨some d,.call ⟨.builtin .len,#[y],#[T]⟩,ty,pos,aft,g⟩::rest) H M L:=J3 Y hN J Z (aP.mono I hR) k
theorem Q1 {ad:Addr}{cs:List RJ}{v:RJ}{o:Nat} (k:W x ops Q rest H M ((d,v)::L)) (hy:ev L y=some (.pointer (some (ad.add o))):=by rfl) (Y:iK H0 ad cs:=by first | with_reducible assumption | assumption) (hv:cs[o]? = some v:=by rfl)
  (J:∀ w,(isAgg T).run x.P w=.ok false w:=by exact λ_=>rfl) (I:H0.le H:=by exact lE) (Z:gd ops L ⟨some d,.load T y,ty,pos,aft,g⟩=some true:=by rfl) (hN:Nat.blt d x.N=true:=by rfl):
  W x ops Q (⟨some d,.load T y,ty,pos,aft,g⟩::rest) H M L:=pM Z hN J hy (iK.one (iK.mono I Y) o hv).at k
theorem Q0 {ad:Addr}{cs:List RJ}{v:RJ} (k:W x ops Q rest H M ((d,v)::L)) (hy:ev L y=some (.pointer (some ad)):=by rfl) (Y:iK H0 ad cs:=by first | with_reducible assumption | assumption) (hv:cs[0]? = some v:=by rfl)
  (J:∀ w,(isAgg T).run x.P w=.ok false w:=by exact λ_=>rfl) (I:H0.le H:=by exact lE) (Z:gd ops L ⟨some d,.load T y,ty,pos,aft,g⟩=some true:=by rfl) (hN:Nat.blt d x.N=true:=by rfl):
  W x ops Q (⟨some d,.load T y,ty,pos,aft,g⟩::rest) H M L:=pM Z hN J hy (iK.one (iK.mono I Y) 0 hv).at k
theorem Q2 {ad:Addr}{cs:List RJ}{n:Nat} (k:W x ops Q rest H M ((d,.agg cs.toArray)::L)) (hy:ev L y=some (.pointer (some ad)):=by rfl) (Y:iK H0 ad cs:=by first | with_reducible assumption | assumption)
  (J:∀ w,(isAgg T).run x.P w=.ok true w:=by exact λ_=>rfl) (hn:∀ w,(sizeOf T).run x.P w=.ok n w:=by exact λ_=>rfl) (hl:cs.length=n:=by rfl) (I:H0.le H:=by exact lE) (Z:gd ops L ⟨some d,.load T y,ty,pos,aft,g⟩=some true:=by rfl) (hN:Nat.blt d x.N=true:=by rfl):
  W x ops Q (⟨some d,.load T y,ty,pos,aft,g⟩::rest) H M L:=jN Z hN J hn hy (iK.mono I Y).at hl k
theorem AB {α:Type}[aF α] [xm α] {v0:RJ}{xs:List α}{el:α}{n:Nat} (hR:aP H0 v0 xs) (he:xs[n]? = some el):iK H0 ((Value.base v0).add (n*aF.sz α)) (xm.cs el):=by
 obtain ⟨c,I,J⟩:=aP.elem hR he;rw [<- xm.eq I]; exact J
theorem Bm {α:Type}[aF α] [xm α] {v0:RJ}{xs:List RJ}{l:List α}{el:α}{n:Nat} (hR:Rw H0 v0 xs l) (he:l[n]? = some el):∀ j u,(xm.cs el)[j]? = some u->xs[n*aF.sz α+j]? = some u:=by
 obtain ⟨c,I,J⟩:=Rw.elem hR he;rw [<- xm.eq I]; exact J
theorem Q4 {α:Type}{iR:aF α}{v0 v:RJ}{xs:List α}{el:α}{n o:Nat} (k:W x ops Q rest H M ((d,v)::L)) (hy:ev L y=some (.pointer (some (((Value.base v0).add (n*@aF.sz α iR)).add o))):=by rfl)
  (hR:aP H0 v0 xs:=by with_reducible assumption) (he:xs[n]? = some el:=by first | with_reducible assumption | assumption) (iC:xm α:=by infer_instance) (Z:(xm.cs el)[o]? = some v:=by rfl) (I:H0.le H:=by exact lE)
  (J:∀ w,(isAgg T).run x.P w=.ok false w:=by exact λ_=>rfl) (Y:gd ops L ⟨some d,.load T y,ty,pos,aft,g⟩=some true:=by rfl) (hN:Nat.blt d x.N=true:=by rfl):
  W x ops Q (⟨some d,.load T y,ty,pos,aft,g⟩::rest) H M L:=pM Y hN J hy (iK.one (iK.mono I (AB hR he)) o Z).at k
theorem Q3 {α:Type}{iR:aF α}{v0 v:RJ}{xs:List α}{el:α}{n:Nat} (k:W x ops Q rest H M ((d,v)::L)) (hy:ev L y=some (.pointer (some ((Value.base v0).add (n*@aF.sz α iR)))):=by rfl)
  (hR:aP H0 v0 xs:=by with_reducible assumption) (he:xs[n]? = some el:=by first | with_reducible assumption | assumption) (iC:xm α:=by infer_instance) (Z:(xm.cs el)[0]? = some v:=by rfl) (I:H0.le H:=by exact lE)
  (J:∀ w,(isAgg T).run x.P w=.ok false w:=by exact λ_=>rfl) (Y:gd ops L ⟨some d,.load T y,ty,pos,aft,g⟩=some true:=by rfl) (hN:Nat.blt d x.N=true:=by rfl):
  W x ops Q (⟨some d,.load T y,ty,pos,aft,g⟩::rest) H M L:=pM Y hN J hy (iK.one (iK.mono I (AB hR he)) 0 Z).at k
theorem Q5 {α:Type}{iR:aF α}{v0:RJ}{cs:List RJ}{xs:List α}{el:α}{n m:Nat} (k:W x ops Q rest H M ((d,.agg cs.toArray)::L)) (hy:ev L y=some (.pointer (some ((Value.base v0).add (n*@aF.sz α iR)))):=by rfl)
  (hR:aP H0 v0 xs:=by with_reducible assumption) (he:xs[n]? = some el:=by first | with_reducible assumption | assumption) (iC:xm α:=by infer_instance) (Z:Ow (xm.cs el)=some cs:=by rfl) (I:H0.le H:=by exact lE)
  (J:∀ w,(isAgg T).run x.P w=.ok true w:=by exact λ_=>rfl) (hn:∀ w,(sizeOf T).run x.P w=.ok m w:=by exact λ_=>rfl) (hl:cs.length=m:=by rfl) (Y:gd ops L ⟨some d,.load T y,ty,pos,aft,g⟩=some true:=by rfl) (hN:Nat.blt d x.N=true:=by rfl):
  W x ops Q (⟨some d,.load T y,ty,pos,aft,g⟩::rest) H M L:=jN Y hN J hn hy (iK.mono I (D8 Z▸AB hR he)).at hl k
theorem Q_ {α:Type}{iR:aF α}{v0 v:RJ}{sz p:Nat}{xs:List RJ}{l:List α}{el:α}{n o:Nat} (k:W x ops Q rest H M ((d,v)::L)) (Z:ev L y=some (.pointer (some (((Value.base v0).add (n*@aF.sz α iR)).add o))):=by rfl)
  (O:bN.row v0 U sz p xs ∈ M:=by exact mA) (hR:Rw H0 v0 xs l:=by with_reducible assumption) (he:l[n]? = some el:=by first | with_reducible assumption | assumption) (iC:xm α:=by infer_instance) (Y:(xm.cs el)[o]? = some v:=by rfl)
  (I:∀ w,(isAgg T).run x.P w=.ok false w:=by exact λ_=>rfl) (J:gd ops L ⟨some d,.load T y,ty,pos,aft,g⟩=some true:=by rfl) (hN:Nat.blt d x.N=true:=by rfl):
  W x ops Q (⟨some d,.load T y,ty,pos,aft,g⟩::rest) H M L:=pM J hN I Z (row_one O (Bm hR he) Y) k
theorem Q9 {α:Type}{iR:aF α}{v0 v:RJ}{sz p:Nat}{xs:List RJ}{l:List α}{el:α}{n:Nat} (k:W x ops Q rest H M ((d,v)::L)) (Z:ev L y=some (.pointer (some ((Value.base v0).add (n*@aF.sz α iR)))):=by rfl)
  (O:bN.row v0 U sz p xs ∈ M:=by exact mA) (hR:Rw H0 v0 xs l:=by with_reducible assumption) (he:l[n]? = some el:=by first | with_reducible assumption | assumption) (iC:xm α:=by infer_instance) (Y:(xm.cs el)[0]? = some v:=by rfl)
  (I:∀ w,(isAgg T).run x.P w=.ok false w:=by exact λ_=>rfl) (J:gd ops L ⟨some d,.load T y,ty,pos,aft,g⟩=some true:=by rfl) (hN:Nat.blt d x.N=true:=by rfl):
  W x ops Q (⟨some d,.load T y,ty,pos,aft,g⟩::rest) H M L:=pM J hN I Z (CR O (Bm hR he) Y) k
theorem Ra {α:Type}{iR:aF α}{v0:RJ}{sz p m:Nat}{xs cs:List RJ}{l:List α}{el:α}{n:Nat} (k:W x ops Q rest H M ((d,.agg cs.toArray)::L)) (Z:ev L y=some (.pointer (some ((Value.base v0).add (n*@aF.sz α iR)))):=by rfl)
  (O:bN.row v0 U sz p xs ∈ M:=by exact mA) (hR:Rw H0 v0 xs l:=by with_reducible assumption) (he:l[n]? = some el:=by first | with_reducible assumption | assumption) (iC:xm α:=by infer_instance) (Y:Ow (xm.cs el)=some cs:=by rfl)
  (I:∀ w,(isAgg T).run x.P w=.ok true w:=by exact λ_=>rfl) (hn:∀ w,(sizeOf T).run x.P w=.ok m w:=by exact λ_=>rfl) (hl:cs.length=m:=by rfl) (J:gd ops L ⟨some d,.load T y,ty,pos,aft,g⟩=some true:=by rfl) (hN:Nat.blt d x.N=true:=by rfl):
  W x ops Q (⟨some d,.load T y,ty,pos,aft,g⟩::rest) H M L:=jN J hN I hn Z (yP O (D8 Y▸Bm hR he)) hl k
theorem Q7 {v0 v:RJ}{sz p i o:Nat}{xs cs:List RJ} (k:W x ops Q rest H M ((d,v)::L)) (hy:ev L y=some (.pointer (some (((Value.base v0).add i).add o))):=by rfl)
  (O:bN.row v0 U sz p xs ∈ M:=by exact mA) (J:∀ j u,cs[j]? = some u->xs[i+j]? = some u:=by assumption) (Z:cs[o]? = some v:=by rfl)
  (I:∀ w,(isAgg T).run x.P w=.ok false w:=by exact λ_=>rfl) (Y:gd ops L ⟨some d,.load T y,ty,pos,aft,g⟩=some true:=by rfl) (hN:Nat.blt d x.N=true:=by rfl):
  W x ops Q (⟨some d,.load T y,ty,pos,aft,g⟩::rest) H M L:=pM Y hN I hy (row_one O J Z) k
theorem Q6 {v0 v:RJ}{sz p i:Nat}{xs cs:List RJ} (k:W x ops Q rest H M ((d,v)::L)) (hy:ev L y=some (.pointer (some ((Value.base v0).add i))):=by rfl)
  (O:bN.row v0 U sz p xs ∈ M:=by exact mA) (J:∀ j u,cs[j]? = some u->xs[i+j]? = some u:=by assumption) (Z:cs[0]? = some v:=by rfl)
  (I:∀ w,(isAgg T).run x.P w=.ok false w:=by exact λ_=>rfl) (Y:gd ops L ⟨some d,.load T y,ty,pos,aft,g⟩=some true:=by rfl) (hN:Nat.blt d x.N=true:=by rfl):
  W x ops Q (⟨some d,.load T y,ty,pos,aft,g⟩::rest) H M L:=pM Y hN I hy (CR O J Z) k
theorem Q8 {v0:RJ}{sz p i m:Nat}{xs cs:List RJ} (k:W x ops Q rest H M ((d,.agg cs.toArray)::L)) (Z:ev L y=some (.pointer (some ((Value.base v0).add i))):=by rfl)
  (O:bN.row v0 U sz p xs ∈ M:=by exact mA) (J:∀ j u,cs[j]? = some u->xs[i+j]? = some u:=by assumption)
  (I:∀ w,(isAgg T).run x.P w=.ok true w:=by exact λ_=>rfl) (hn:∀ w,(sizeOf T).run x.P w=.ok m w:=by exact λ_=>rfl) (hl:cs.length=m:=by rfl) (Y:gd ops L ⟨some d,.load T y,ty,pos,aft,g⟩=some true:=by rfl) (hN:Nat.blt d x.N=true:=by rfl):
  W x ops Q (⟨some d,.load T y,ty,pos,aft,g⟩::rest) H M L:=jN Y hN I hn Z (yP O J) hl k
theorem QT {b i U:Nat}{fz:Nat×Nat}{l:List RJ}{v:RJ} (k:W x ops Q rest H M ((d,v)::L)) (Z:ev L y=some (.pointer (some ⟨b,i,none⟩)):=by rfl)
  (O:bN.obj b (.cells l.toArray U fz) ∈ M:=by exact mA) (J:l[i]? = some v:=by rfl) (I:∀ w,(isAgg T).run x.P w=.ok false w:=by exact λ_=>rfl)
  (Y:gd ops L ⟨some d,.load T y,ty,pos,aft,g⟩=some true:=by rfl) (hN:Nat.blt d x.N=true:=by rfl):W x ops Q (⟨some d,.load T y,ty,pos,aft,g⟩::rest) H M L:=
 pM Y hN I Z (wS O J) k
theorem QU {b U n:Nat}{fz:Nat×Nat}{l:List RJ} (k:W x ops Q rest H M ((d,.agg l.toArray)::L)) (Y:ev L y=some (.pointer (some ⟨b,0,none⟩)):=by rfl)
  (O:bN.obj b (.cells l.toArray U fz) ∈ M:=by exact mA) (I:∀ w,(isAgg T).run x.P w=.ok true w:=by exact λ_=>rfl) (hn:∀ w,(sizeOf T).run x.P w=.ok n w:=by exact λ_=>rfl) (hl:l.length=n:=by rfl)
  (J:gd ops L ⟨some d,.load T y,ty,pos,aft,g⟩=some true:=by rfl) (hN:Nat.blt d x.N=true:=by rfl):W x ops Q (⟨some d,.load T y,ty,pos,aft,g⟩::rest) H M L:=
 jN J hN I hn Y (EI O) hl k
theorem QS {v:RJ}{sz n:Nat}{xs:List RJ}{t e:TypeId} (k:W x ops Q rest H M ((d,.int .i64 n)::L)) (Y:ev L y=some v:=by rfl) (O:bN.row v T sz n xs ∈ M:=by exact mA)
  (I:∀ w,(underlying t).run x.P w=.ok (.slice e) w:=by exact λ_=>rfl) (J:gd ops L ⟨some d,.call ⟨.builtin .len,#[y],#[t]⟩,ty,pos,aft,g⟩=some true:=by rfl) (hN:Nat.blt d x.N=true:=by rfl):
  W x ops Q (⟨some d,.call ⟨.builtin .len,#[y],#[t]⟩,ty,pos,aft,g⟩::rest) H M L:=BP O J hN I Y k
end
structure Kp (Q:Prop):Prop where
 o:Q
theorem NH {P Q:Prop} (k:Q) (h:Kp Q->P:=by
  intro k;refine PF ?_; first
   | (with_reducible refine p1 ?_); refine bT rfl rfl rfl ?_
   | (with_reducible refine p2 ?_); refine aK rfl rfl rfl ?_
   | (with_reducible refine p3 ?_); refine fq ?_
   | (with_reducible refine p4 ?_); first
    | refine QT ?_
    | refine QU ?_
    | refine Q1 ?_
    | refine Q0 ?_
    | refine Q2 ?_
    | refine Q4 ?_
    | refine Q3 ?_
    | refine Q5 ?_
    | refine Q_ ?_
    | refine Q9 ?_
    | refine Ra ?_
    | refine Q7 ?_
    | refine Q6 ?_
    | refine Q8 ?_
   | (with_reducible refine p5 ?_); refine wi rfl rfl rfl rfl rfl ?_
   | (with_reducible refine p8 ?_); refine qk rfl rfl rfl ?_
   | (with_reducible refine p7 ?_); refine sT rfl rfl rfl rfl ?_
   | (with_reducible refine p6 ?_); refine DZ rfl rfl rfl rfl ?_
   | (with_reducible refine p9 ?_); refine Pu rfl rfl rfl rfl ?_
   | (with_reducible refine pa ?_); refine rK rfl rfl (λ_=>rfl) (λ_=>rfl) rfl ?_
   | (with_reducible refine pb ?_); refine BR rfl rfl rfl rfl ?_
   | (with_reducible refine pc ?_); first
    | refine QS ?_
    | refine nA ?_
   | (with_reducible refine Re ?_); first
    | refine iO ?_
    | refine iA ?_
   | (with_reducible refine pg ?_); first
    | refine Pt rfl rfl rfl ?_
    | refine N0 rfl rfl ?_
  exact k.o):P:=h ⟨k⟩
theorem Pg {P Q:Prop} (k:Q) (h:Kp Q->P:=by
  intro k
  first
   | refine a_ ?_
   | (with_reducible refine PE ?_); first
    | with_reducible refine aS ?_
    | with_reducible refine gO ?_
    | with_reducible refine my ?_
    | with_reducible refine jB ?_
    | with_reducible refine ur ?_
    | with_reducible refine nT ?_
    | refine uq rfl ?_
   | (with_reducible refine PD ?_); first
    | with_reducible refine aM ?_
    | with_reducible refine mw ?_
    | with_reducible refine vy ?_
    | with_reducible refine mu ?_
    | with_reducible refine u5 ?_
  exact k.o):P:=h ⟨k⟩
theorem wo {P Q:Prop} (k:Q) (h:Kp Q->P:=by
  intro k
  repeat first
   | refine NH ?_
  exact k.o):P:=h ⟨k⟩
theorem go {P Q:Prop} (k:Q) (h:Kp Q->P:=by
  intro k
  repeat first
   | refine NH ?_
   | refine Pg ?_
  exact k.o):P:=h ⟨k⟩
theorem gj {P Q:Prop} (k:Q) (h:Kp Q->P:=by
  intro k
  repeat first
   | refine NH ?_
   | refine a_ ?_
   | (with_reducible refine PE ?_); first
    | with_reducible refine gO ?_
    | with_reducible refine my ?_
    | with_reducible refine jB ?_
    | with_reducible refine ur ?_
    | with_reducible refine nT ?_
    | refine uq rfl ?_
   | (with_reducible refine PD ?_); first
    | with_reducible refine aM ?_
    | with_reducible refine mw ?_
    | with_reducible refine vy ?_
    | with_reducible refine mu ?_
    | with_reducible refine u5 ?_
  exact k.o):P:=h ⟨k⟩
theorem gt {P Q:Prop} (k:Q) (h:Kp Q->P:=by
  intro k
  repeat first
   | refine NH ?_
   | refine a_ ?_
   | (with_reducible refine PE ?_); first
    | with_reducible refine gO ?_
    | with_reducible refine my ?_
    | with_reducible refine jB ?_
    | with_reducible refine ur ?_
    | with_reducible refine nT ?_
    | refine uq rfl ?_
   | (with_reducible refine PD ?_); first
    | with_reducible refine aM ?_
    | with_reducible refine mw ?_
    | with_reducible refine vy ?_
    | with_reducible refine mu ?_
    | with_reducible refine u5 ?_
  with_reducible refine aS ?_
  exact k.o):P:=h ⟨k⟩
theorem gs {P Q:Prop} (k:Q) (h:Kp Q->P:=by
  intro k
  repeat first
   | refine NH ?_
   | refine Pg ?_
  refine bK ?_
  repeat first
   | refine NH ?_
   | refine Pg ?_
  exact k.o):P:=h ⟨k⟩
theorem g2 {P Q:Prop} (k:Q) (h:Kp Q->P:=by
  intro k;refine gs ?_;refine gs ?_;exact k.o):P:=h ⟨k⟩
theorem om {P:Prop} (h:P:=by
  intro J Y X Rest hR
  repeat (rintro _ _ ⟨rfl,rfl⟩)
  intro hU I
  repeat refine NH ?_
  exact o0 ⟨rfl,rfl⟩):P:=h
theorem Pk {P q:Prop} (I:q) (h:q->P:=by
  intro I;intro Y Z X Rest hR
  repeat (rintro _ _ ⟨rfl,rfl⟩)
  intro hU J
  repeat refine NH ?_
  exact o0 ⟨rfl,(by first | rfl | (rw [I]; try rfl))⟩):P:=h I
theorem N_ {P Q:Prop} (k:Q) (h:Kp Q->P:=by
  intro k;refine PF ?_; first
   | (with_reducible refine p1 ?_); refine bT rfl rfl rfl ?_
   | (with_reducible refine p2 ?_); refine aK rfl rfl rfl ?_
   | (with_reducible refine p3 ?_); refine fq ?_
   | (with_reducible refine p4 ?_); first
    | refine QT ?_
    | refine QU ?_
   | (with_reducible refine p5 ?_); refine wi rfl rfl rfl rfl rfl ?_
   | (with_reducible refine p8 ?_); refine qk rfl rfl rfl ?_
   | (with_reducible refine p7 ?_); refine sT rfl rfl rfl rfl ?_
   | (with_reducible refine p6 ?_); refine DZ rfl rfl rfl rfl ?_
   | (with_reducible refine p9 ?_); refine Pu rfl rfl rfl rfl ?_
   | (with_reducible refine pa ?_); refine rK rfl rfl (λ_=>rfl) (λ_=>rfl) rfl ?_
   | (with_reducible refine pb ?_); refine BR rfl rfl rfl rfl ?_
   | (with_reducible refine pc ?_); first
    | refine QS ?_
   | (with_reducible refine pg ?_); first
    | refine Pt rfl rfl rfl ?_
    | refine N0 rfl rfl ?_
  exact k.o):P:=h ⟨k⟩
theorem qo {P Q:Prop} (k:Q) (h:Kp Q->P:=by
  intro k
  repeat first
   | refine N_ ?_
  exact k.o):P:=h ⟨k⟩
theorem qg {P Q:Prop} (k:Q) (h:Kp Q->P:=by
  intro k
  repeat first
   | refine N_ ?_
   | refine Pg ?_
  exact k.o):P:=h ⟨k⟩
theorem qj {P Q:Prop} (k:Q) (h:Kp Q->P:=by
  intro k
  repeat first
   | refine N_ ?_
   | refine a_ ?_
   | (with_reducible refine PE ?_); first
    | with_reducible refine gO ?_
    | with_reducible refine my ?_
    | with_reducible refine jB ?_
    | with_reducible refine ur ?_
    | with_reducible refine nT ?_
    | refine uq rfl ?_
   | (with_reducible refine PD ?_); first
    | with_reducible refine aM ?_
    | with_reducible refine mw ?_
    | with_reducible refine vy ?_
    | with_reducible refine mu ?_
    | with_reducible refine u5 ?_
  exact k.o):P:=h ⟨k⟩
theorem qt {P Q:Prop} (k:Q) (h:Kp Q->P:=by
  intro k
  repeat first
   | refine N_ ?_
   | refine a_ ?_
   | (with_reducible refine PE ?_); first
    | with_reducible refine gO ?_
    | with_reducible refine my ?_
    | with_reducible refine jB ?_
    | with_reducible refine ur ?_
    | with_reducible refine nT ?_
    | refine uq rfl ?_
   | (with_reducible refine PD ?_); first
    | with_reducible refine aM ?_
    | with_reducible refine mw ?_
    | with_reducible refine vy ?_
    | with_reducible refine mu ?_
    | with_reducible refine u5 ?_
  with_reducible refine aS ?_
  exact k.o):P:=h ⟨k⟩
theorem qs {P Q:Prop} (k:Q) (h:Kp Q->P:=by
  intro k
  repeat first
   | refine N_ ?_
   | refine Pg ?_
  refine bK ?_
  repeat first
   | refine N_ ?_
   | refine Pg ?_
  exact k.o):P:=h ⟨k⟩
theorem q2 {P Q:Prop} (k:Q) (h:Kp Q->P:=by
  intro k;refine qs ?_;refine qs ?_;exact k.o):P:=h ⟨k⟩
theorem qm {P:Prop} (h:P:=by
  intro J Y X Rest hR
  repeat (rintro _ _ ⟨rfl,rfl⟩)
  intro hU I
  repeat refine N_ ?_
  exact o0 ⟨rfl,rfl⟩):P:=h
theorem qn {P q:Prop} (I:q) (h:q->P:=by
  intro I;intro Y Z X Rest hR
  repeat (rintro _ _ ⟨rfl,rfl⟩)
  intro hU J
  repeat refine N_ ?_
  exact o0 ⟨rfl,(by first | rfl | (rw [I]; try rfl))⟩):P:=h I
section
variable {x:Cx}{ops:Array Oper}{Q:lU}{rest:List Oper}{H H0:Hp}{M:List bN}{L:Env}{ty:TypeId}{pos:String}{aft:Array Edge}{g:Option (Nat×Bool)}
theorem wF {α:Type}{iR:aF α} (i o:Nat) {T U m:Nat}{y z:Operand}{v u:RJ}{xs cs out:List RJ}{l:List α}{e:α}{I:Nat}{M1:List bN}{ad:Addr} (e2:α)
  (k:∀ tJ,Rw H v tJ (l.set I e2)->(l.set I e2)[I]? = some e2->W x ops Q rest H (.row v U (aF.sz α) (l.set I e2).length tJ::M1) L)
  (hy:ev L y=some (.pointer (some ad)):=by rfl) (hM:Bf i M=some (.row v U (aF.sz α) l.length xs,M1):=by rfl) (Z:ad=(Value.base v).add (I*aF.sz α+o):=by first | exact Is _ _ | exact Ls _ _ _)
  (h:Rw H0 v xs l:=by with_reducible assumption) (he:l[I]? = some e:=by first | with_reducible assumption | assumption) (iC:xm α:=by infer_instance) (hle:H0.le H:=by exact lE) (hz:ev L z=some u:=by rfl)
  (hv:u.cells=cs.toArray:=by first | exact aP.cells (by assumption) | exact Rw.cells (by assumption) | rfl)
  (h1:∀ c ∈ cs,c.oneCell'=true:=by repeat first | exact TB | refine cM rfl ?_ | refine cM (aP.pA (by assumption)) ?_ | refine cM (Rw.one (by assumption)) ?_)
  (hg:gd ops L ⟨none,.store T y z,ty,pos,aft,g⟩=some true:=by rfl) (hn:∀ w,(sizeOf T).run x.P w=.ok m w:=by exact λ_=>rfl) (hl:cs.length=m:=by rfl)
  (ho:A6 (xm.cs e) o cs=some out:=by rfl) (hE:aF.E H out e2:=by rfl) (Y:aF.E H (xm.cs e) e:=by rfl) (hb:Nat.ble (o+cs.length) (xm.cs e).length=true:=by rfl) (hb2:Nat.ble (o+cs.length) (aF.sz α)=true:=by rfl) (J:Nat.blt 0 cs.length=true:=by rfl):
  W x ops Q (⟨none,.store T y z,ty,pos,aft,g⟩::rest) H M L:=
 wr i o e2 h he (Bm h he) Y hE (λtJ a b _=>k tJ a b) hle hy Z hz hv h1 hM hg hn hl ho hb hb2 J
end
theorem fc {P:Prop} (h:P:=by
  first
   | with_reducible assumption
   | exact aP.mm (by with_reducible assumption)
   | exact Rw.mm (by with_reducible assumption)
   | exact Rw.pY (by with_reducible assumption)
   | exact aP.nil
   | exact Rw.nil
   | exact (Rw.nil (H:=H)).pY
   | exact lE
   | exact pX.mm (by assumption)
   | exact iK.mm (by assumption)
   | exact Mx.mm (by assumption)
   | exact pX.pY (by assumption)
   | exact cR.mm (by with_reducible assumption)
   | exact aP.mm (by assumption)
   | exact Rw.mm (by assumption)
   | exact Rw.pY (by assumption)
   | assumption
   | rfl):P:=h
theorem pk {P:Prop} (h:P:=by
  repeat apply Exists.intro
  repeat' first
   | refine And.intro ?_ ?_
   | exact rfl
   | exact O
  all_goals first | exact fc | skip):P:=h
section
variable {x:Cx}{ops:Array Oper}{Q:lU}{rest:List Oper}{H H0:Hp}{M:List bN}{L:Env}{d:Nat}{ty:TypeId}{pos:String}{aft:Array Edge}{g:Option (Nat×Bool)}
theorem Bl {P:Program}{f:FuncId}{J:Array RJ}{B:Nat}{w0 w:World}{Y I:Hp->List bN->RJ->Prop} (h:Calls P f J w (uX B w0 I)) (e:I=Y):Calls P f J w (uX B w0 Y):=e▸h
theorem ca {C:Prop}{f:FuncId}{args:List Operand}{J:Array TypeId}{vs:List RJ}{A:Prop}{Z:Hp->List bN->RJ->Prop} (c:C) (a:A)
  (k:∀ v H' M',Z H' M' v->W x ops Q rest H' M' ((d,v)::L)) (I:∀ Y w,(callFunc f Y).run x.P w=.ok (.enter f Y) w:=by exact λ_ _=>rfl) (hv:zw L args=some vs:=by rfl)
  (hc:C->A->∀ w,St x.B x.w0 H M w->Calls x.P f vs.toArray w (uX x.B x.w0 Z):=by
   intro c a w ht;apply Bl;apply c a
   all_goals first | exact ht | skip
   all_goals first | exact fc | exact rfl) (hg:gd ops L ⟨some d,.call ⟨.value (.func f),args.toArray,J⟩,ty,pos,aft,g⟩=some true:=by rfl) (hN:Nat.blt d x.N=true:=by rfl):
  W x ops Q (⟨some d,.call ⟨.value (.func f),args.toArray,J⟩,ty,pos,aft,g⟩::rest) H M L:=f_ I hg hN hv (hc c a) k
theorem cy {C:Prop}{f:FuncId}{args:List Operand}{Z:Array TypeId}{vs:List RJ}{A:Prop}{Φ:Hp->List bN->RJ->Prop} (c:C) (a:A)
  (k:∀ v H' M',Φ H' M' v->W x ops Q rest H' M' ((d,v)::L)) (I:∀ bs w,(callFunc f bs).run x.P w=.ok (.enter f bs) w:=by exact λ_ _=>rfl) (hv:zw L args=some vs:=by rfl)
  (hc:C->A->∀ w,St x.B x.w0 H M w->Calls x.P f vs.toArray w (uX x.B x.w0 Φ):=by
   intro c a w ht;apply Bl;obtain ⟨H0_,hl0_,Y,hr0_,J⟩:=St.lx ht (by exact fc) rfl
   apply gC J;apply c a
   all_goals first | exact Y | skip
   all_goals first | exact fc | exact rfl) (hg:gd ops L ⟨some d,.call ⟨.value (.func f),args.toArray,Z⟩,ty,pos,aft,g⟩=some true:=by rfl) (hN:Nat.blt d x.N=true:=by rfl):
  W x ops Q (⟨some d,.call ⟨.value (.func f),args.toArray,Z⟩,ty,pos,aft,g⟩::rest) H M L:=f_ I hg hN hv (hc c a) k
theorem cY {C:Prop}{f:FuncId}{args:List Operand}{tys:Array TypeId}{vs:List RJ}{A:Prop}{Φ:Hp->List bN->RJ->Prop} (c:C) (a:A)
  (k:∀ v H' M',Φ H' M' v->W x ops Q rest H' M' ((d,v)::L)) (I:∀ bs w,(callFunc f bs).run x.P w=.ok (.enter f bs) w:=by exact λ_ _=>rfl) (hv:zw L args=some vs:=by rfl)
  (hc:C->A->∀ w,St x.B x.w0 H M w->Calls x.P f vs.toArray w (uX x.B x.w0 Φ):=by
   intro c a w ht;apply Bl;obtain ⟨H0_,hl0_,Z,hr0_,J⟩:=St.lx ht (by exact fc) rfl
   apply gC J;obtain ⟨H1_,hl1_,ht1_,hr1_,Y⟩:=St.lx Z (by exact fc) rfl
   apply gC Y;apply c a
   all_goals first | exact ht1_ | skip
   all_goals first | exact fc | exact rfl) (hg:gd ops L ⟨some d,.call ⟨.value (.func f),args.toArray,tys⟩,ty,pos,aft,g⟩=some true:=by rfl) (hN:Nat.blt d x.N=true:=by rfl):
  W x ops Q (⟨some d,.call ⟨.value (.func f),args.toArray,tys⟩,ty,pos,aft,g⟩::rest) H M L:=f_ I hg hN hv (hc c a) k
theorem cz {C:Prop}{f:FuncId}{args:List Operand}{J:Array TypeId}{vs:List RJ}{A:Prop}{u:RJ} (c:C) (a:A)
  (k:W x ops Q rest H M ((d,u)::L)) (I:∀ Y w,(callFunc f Y).run x.P w=.ok (.enter f Y) w:=by exact λ_ _=>rfl) (hv:zw L args=some vs:=by rfl)
  (Z:C->A->∀ w,St x.B x.w0 H M w->Calls x.P f vs.toArray w (uX x.B x.w0 λH' M' v=>H=H'/\M=M'/\u=v):=by
   intro c a w ht;apply Bl;apply c a
   all_goals first | exact ht | skip
   all_goals first | exact fc | exact rfl) (hg:gd ops L ⟨some d,.call ⟨.value (.func f),args.toArray,J⟩,ty,pos,aft,g⟩=some true:=by rfl) (hN:Nat.blt d x.N=true:=by rfl):
  W x ops Q (⟨some d,.call ⟨.value (.func f),args.toArray,J⟩,ty,pos,aft,g⟩::rest) H M L:=f_ I hg hN hv (Z c a) (by rintro _ _ _ ⟨rfl,rfl,rfl⟩; exact k)
end
theorem ki {a b:Int} (h:a=b):some (Value.int .i64 a)=some (Value.int .i64 b):=by rw [h]
theorem kS {P:Prop} (h:P:=by
  repeat first
   | exact RM
   | refine ⟨rfl,?_⟩
   | refine ⟨sb (by simp only [Oq, *]),?_⟩):P:=h
theorem kK {a b:Int}{P:Prop} (e:a=b) (h:a=b->P:=by
  intro e
  repeat first
   | exact RM
   | refine ⟨rfl,?_⟩
   | refine ⟨ki e,?_⟩
   | refine ⟨sb (by simp only [Oq, *]),?_⟩):P:=h e
theorem eb {A B P:Prop} (a:A) (b:B) (h:A->B->P:=by
  intro a b;apply uK (Tq _)
  repeat apply Exists.intro
  refine And.intro a ?_;refine And.intro rfl ?_;refine And.intro ((VO b _).trans O) ?_
  repeat' first
   | refine And.intro ?_ ?_
   | exact rfl
  all_goals first | exact fc | skip):P:=h a b
theorem A9 {B P:Prop} (b:B) (h:B->P:=by
  intro b;apply uK (Tq _)
  repeat apply Exists.intro
  refine And.intro ((VO b _).trans O) ?_
  repeat' first
   | refine And.intro ?_ ?_
   | exact rfl
  all_goals first | exact fc | skip):P:=h b
theorem en {P:Prop} (h:P:=by
  obtain rfl:=RQ O
  first
   | refine lf rfl rfl ?_
   | refine C8 rfl rfl rfl ?_
   | refine Fx rfl rfl rfl rfl ?_
   | refine I8 rfl ?_
  refine And.intro lE ?_
  repeat apply Exists.intro
  refine And.intro rfl ?_
  repeat' first
   | refine And.intro ?_ ?_
   | exact rfl
  all_goals first | exact fc | skip):P:=h
theorem ef {P:Prop} (h:P:=by
  obtain rfl:=RQ O;refine Ew H ?_
  first
   | refine lf rfl rfl ?_
   | refine C8 rfl rfl rfl ?_
   | refine Fx rfl rfl rfl rfl ?_
   | refine I8 rfl ?_
  refine And.intro rfl ?_
  repeat apply Exists.intro
  refine And.intro rfl ?_
  repeat' first
   | refine And.intro ?_ ?_
   | exact rfl
  all_goals first | exact fc | skip):P:=h
section
variable {x:Cx}{ops:Array Oper}{Q:lU}{rest:List Oper}{H:Hp}{M:List bN}{L:Env}{d:Nat}{ty:TypeId}{pos:String}{aft:Array Edge}{g:Option (Nat×Bool)}{y:Operand}{T:TypeId}
theorem Rb {b i U n:Nat}{fz:Nat×Nat}{l cs:List RJ} (k:W x ops Q rest H M ((d,.agg cs.toArray)::L)) (Z:ev L y=some (.pointer (some ⟨b,i,none⟩)):=by rfl)
  (O:bN.obj b (.cells l.toArray U fz) ∈ M:=by exact mA) (I:∀ w,(isAgg T).run x.P w=.ok true w:=by exact λ_=>rfl) (hn:∀ w,(sizeOf T).run x.P w=.ok n w:=by exact λ_=>rfl)
  (J:Ow ((l.drop i).take n)=some cs:=by rfl) (hl:cs.length=n:=by rfl) (Y:gd ops L ⟨some d,.load T y,ty,pos,aft,g⟩=some true:=by rfl) (hN:Nat.blt d x.N=true:=by rfl):
  W x ops Q (⟨some d,.load T y,ty,pos,aft,g⟩::rest) H M L:=
 jN Y hN I hn Z (sr O (by rw [hl]; exact D8 J)) hl k
end
theorem QZ {F:RJ->List bN->Prop} (k:∀ v rs,F v rs):∀ v rs,F v rs:=k
structure Ix (l:List Nat):Prop where
 o:True
theorem ix (l:List Nat):Ix l:=⟨RM⟩
theorem Wi {x:Cx}{ops:Array Oper}{Q:lU}{rest:List Oper}{H:Hp}{M M':List bN}{L:Env}{l:List Nat} (i:Ix l) (k:W x ops Q rest H M' L) (h:A7 l M=some M':=by rfl):W x ops Q rest H M L:=Wp l k h
theorem rz {P:Prop} (h:P:=by
  first
   | exact o0 ⟨rfl,rfl⟩
   | exact o0 pk
   | exact oe [] lE pk
   | exact oe [_] lE pk
   | exact oe [_,_] lE pk
   | exact oe [_,_,_] lE pk
   | exact oe [_,_,_,_,_,_] lE pk
   | exact oe [_,_,_,_,_,_,_] lE pk
   | exact a_ (Dj [_] lE pk)):P:=h
theorem rk {C A I P:Prop} (i:I) (c:C) (a:A) (h:I->C->A->P:=by
  intro i c a Z hX X Rest hR
  repeat (refine QZ ?_; (first | rintro _ _ ⟨rfl,rfl⟩ | rintro _ _ ⟨_,rfl,rfl⟩ | rintro _ _ ⟨_,_,rfl,rfl⟩ | rintro _ _ ⟨_,_,_,rfl,rfl⟩ | rintro _ _ ⟨_,_,_,_,rfl,rfl⟩ | rintro _ _ ⟨_,_,_,_,_,rfl,rfl⟩ | rintro _ _ ⟨_,_,_,_,_,_,rfl,rfl⟩ | rintro _ _ ⟨_,_,_,_,_,_,_,rfl,rfl⟩ | rintro _ _ ⟨_,_,_,_,_,_,_,_,rfl,rfl⟩ | rintro _ _ ⟨_,_,_,_,_,_,_,_,_,_,rfl,rfl⟩ | rintro _ _ ⟨_,_,_,_,_,_,_,_,_,_,_,_,rfl,rfl⟩ | rintro _ _ ⟨_,_,_,_,_,_,_,_,_,_,_,_,_,_,rfl,rfl⟩ | rintro _ _ ⟨rfl,rfl,J⟩ | rintro _ _ ⟨_,rfl,rfl,J⟩ | rintro _ _ ⟨_,_,rfl,rfl,J⟩ | rintro _ _ ⟨_,_,_,rfl,rfl,J⟩ | rintro _ _ ⟨_,_,_,_,rfl,rfl,J⟩ | rintro _ _ ⟨_,_,_,_,_,rfl,rfl,J⟩ | rintro _ _ ⟨_,_,_,_,_,_,rfl,rfl,J⟩ | rintro _ _ ⟨_,_,_,_,_,_,_,rfl,rfl,J⟩ | rintro _ _ ⟨_,_,_,_,_,_,_,_,rfl,rfl,J⟩ | rintro _ _ ⟨_,_,_,_,_,_,_,_,_,_,rfl,rfl,J⟩ | rintro _ _ ⟨_,_,_,_,_,_,_,_,_,_,_,_,rfl,rfl,J⟩ | rintro _ _ ⟨_,_,_,_,_,_,_,_,_,_,_,_,_,_,rfl,rfl,J⟩); repeat (with_reducible refine And.elim (λ_ J=>?_) J))
  intro hU Y
  first | refine Wi i ?_ | skip
  repeat first
   | refine NH ?_
   | refine Rb ?_
   | (refine ca c a ?_; (first | rintro _ _ _ ⟨rfl,rfl,rfl⟩ | rintro _ _ _ ⟨rfl,_,rfl,rfl⟩ | rintro _ _ _ ⟨rfl,_,_,rfl,rfl⟩ | rintro _ _ _ ⟨rfl,_,_,_,rfl,rfl⟩ | rintro _ _ _ ⟨rfl,_,_,_,_,rfl,rfl⟩ | rintro _ _ _ ⟨rfl,_,_,_,_,_,rfl,rfl⟩ | rintro _ _ _ ⟨rfl,_,_,_,_,_,_,rfl,rfl⟩ | rintro _ _ _ ⟨rfl,_,_,_,_,_,_,_,rfl,rfl⟩ | rintro _ _ _ ⟨rfl,_,_,_,_,_,_,_,_,rfl,rfl⟩ | rintro _ _ _ ⟨rfl,_,_,_,_,_,_,_,_,_,_,rfl,rfl⟩ | rintro _ _ _ ⟨rfl,_,_,_,_,_,_,_,_,_,_,_,_,rfl,rfl⟩ | rintro _ _ _ ⟨rfl,_,_,_,_,_,_,_,_,_,_,_,_,_,_,rfl,rfl⟩ | rintro _ _ _ ⟨rfl,rfl,rfl,J⟩ | rintro _ _ _ ⟨rfl,_,rfl,rfl,J⟩ | rintro _ _ _ ⟨rfl,_,_,rfl,rfl,J⟩ | rintro _ _ _ ⟨rfl,_,_,_,rfl,rfl,J⟩ | rintro _ _ _ ⟨rfl,_,_,_,_,rfl,rfl,J⟩ | rintro _ _ _ ⟨rfl,_,_,_,_,_,rfl,rfl,J⟩ | rintro _ _ _ ⟨rfl,_,_,_,_,_,_,rfl,rfl,J⟩ | rintro _ _ _ ⟨rfl,_,_,_,_,_,_,_,rfl,rfl,J⟩ | rintro _ _ _ ⟨rfl,_,_,_,_,_,_,_,_,rfl,rfl,J⟩ | rintro _ _ _ ⟨rfl,_,_,_,_,_,_,_,_,_,_,rfl,rfl,J⟩ | rintro _ _ _ ⟨rfl,_,_,_,_,_,_,_,_,_,_,_,_,rfl,rfl,J⟩ | rintro _ _ _ ⟨rfl,_,_,_,_,_,_,_,_,_,_,_,_,_,_,rfl,rfl,J⟩ | rintro _ _ _ ⟨_,rfl,rfl⟩ | rintro _ _ _ ⟨_,_,rfl,rfl⟩ | rintro _ _ _ ⟨_,_,_,rfl,rfl⟩ | rintro _ _ _ ⟨_,_,_,_,rfl,rfl⟩ | rintro _ _ _ ⟨_,_,_,_,_,rfl,rfl⟩ | rintro _ _ _ ⟨_,_,_,_,_,_,rfl,rfl⟩ | rintro _ _ _ ⟨_,_,_,_,_,_,_,rfl,rfl⟩ | rintro _ _ _ ⟨_,_,_,_,_,_,_,_,rfl,rfl⟩ | rintro _ _ _ ⟨_,_,_,_,_,_,_,_,_,rfl,rfl⟩ | rintro _ _ _ ⟨_,_,_,_,_,_,_,_,_,_,_,rfl,rfl⟩ | rintro _ _ _ ⟨_,_,_,_,_,_,_,_,_,_,_,_,_,rfl,rfl⟩ | rintro _ _ _ ⟨_,_,_,_,_,_,_,_,_,_,_,_,_,_,_,rfl,rfl⟩ | rintro _ _ _ ⟨_,rfl,rfl,J⟩ | rintro _ _ _ ⟨_,_,rfl,rfl,J⟩ | rintro _ _ _ ⟨_,_,_,rfl,rfl,J⟩ | rintro _ _ _ ⟨_,_,_,_,rfl,rfl,J⟩ | rintro _ _ _ ⟨_,_,_,_,_,rfl,rfl,J⟩ | rintro _ _ _ ⟨_,_,_,_,_,_,rfl,rfl,J⟩ | rintro _ _ _ ⟨_,_,_,_,_,_,_,rfl,rfl,J⟩ | rintro _ _ _ ⟨_,_,_,_,_,_,_,_,rfl,rfl,J⟩ | rintro _ _ _ ⟨_,_,_,_,_,_,_,_,_,rfl,rfl,J⟩ | rintro _ _ _ ⟨_,_,_,_,_,_,_,_,_,_,_,rfl,rfl,J⟩ | rintro _ _ _ ⟨_,_,_,_,_,_,_,_,_,_,_,_,_,rfl,rfl,J⟩ | rintro _ _ _ ⟨_,_,_,_,_,_,_,_,_,_,_,_,_,_,_,rfl,rfl,J⟩); repeat (with_reducible refine And.elim (λ_ J=>?_) J))
  exact rz):P:=h i c a
theorem tt:True:=RM
theorem ro {P:Prop} (h:P:=by exact rk tt tt tt):P:=h
end Go.Sim
namespace Go.Proofs
open Go.Shelf
open _root_.Go.IntKind (i64 u64 u32 u8)
def Tryz.FK:Go.Shelf.Ren:=⟨fun | 283=>116 | n=>n,fun | 3=>3 | 9=>9 | 4=>4 | n=>n,fun | n=>n⟩
theorem Tryz.MD:Go.Proofs.Lays.n283 Tryz.prog Tryz.FK:={
 mixed:=by kernel_rfl
 f283:=Tryz.func116.trans (congrArg some (by kernel_rfl))
 t3:=Tryz.underlying3
 a3:=Tryz.isAgg3
 z3:=Tryz.sizeOf3
 v3:=Tryz.zeroValue3
 t4:=Tryz.underlying4
 a4:=Tryz.isAgg4
 z4:=Tryz.sizeOf4
 v4:=Tryz.zeroValue4
 t9:=Tryz.underlying9
 a9:=Tryz.isAgg9
 z9:=Tryz.sizeOf9
 v9:=Tryz.zeroValue9 }
open Go.Lib in
theorem Tryz.internal_strconv_small (i:Nat) (h:i<100) (w:World):
  Calls Tryz.prog 116 #[.int .i64 i] w λe w'=>e=.returned (.string ⟨(Lib.decDigits i).toArray⟩)/\w'=w:=Any.internal_strconv_small Tryz.MD i h w
def Tryz.Ex:Go.Shelf.Ren:=⟨fun | 284=>117 | 129=>155 | 317=>154 | 318=>156 | n=>n,fun | 53=>52 | 3=>3 | 212=>231 | 0=>0 | 4=>4 | 46=>198 | 5=>5 | 9=>9 | n=>n,fun | 17=>3 | n=>n⟩
theorem Tryz.KY:Go.Proofs.LaysM.n284 Tryz.prog Tryz.Ex:={
 mixed:=by kernel_rfl
 f129:=Tryz.func155.trans (congrArg some (by kernel_rfl))
 f284:=Tryz.func117.trans (congrArg some (by kernel_rfl))
 f317:=Tryz.func154.trans (congrArg some (by kernel_rfl))
 f318:=Tryz.func156.trans (congrArg some (by kernel_rfl))
 t0:=Tryz.underlying0
 a0:=Tryz.isAgg0
 z0:=Tryz.sizeOf0
 v0:=Tryz.zeroValue0
 t3:=Tryz.underlying3
 a3:=Tryz.isAgg3
 z3:=Tryz.sizeOf3
 v3:=Tryz.zeroValue3
 t4:=Tryz.underlying4
 a4:=Tryz.isAgg4
 z4:=Tryz.sizeOf4
 v4:=Tryz.zeroValue4
 t5:=Tryz.underlying5
 a5:=Tryz.isAgg5
 z5:=Tryz.sizeOf5
 v5:=Tryz.zeroValue5
 t9:=Tryz.underlying9
 a9:=Tryz.isAgg9
 z9:=Tryz.sizeOf9
 v9:=Tryz.zeroValue9
 t46:=Tryz.underlying198
 a46:=Tryz.isAgg198
 z46:=Tryz.sizeOf198
 v46:=Tryz.zeroValue198
 t53:=Tryz.underlying52
 a53:=Tryz.isAgg52
 z53:=Tryz.sizeOf52
 v53:=Tryz.zeroValue52
 t212:=Tryz.underlying231
 a212:=Tryz.isAgg231
 z212:=Tryz.sizeOf231
 v212:=Tryz.zeroValue231
 g17:=by kernel_rfl
 i0:=by kernel_rfl
 i3:=by kernel_rfl
 i4:=by kernel_rfl
 i5:=by kernel_rfl
 i9:=by kernel_rfl
 i46:=by kernel_rfl
 i53:=by kernel_rfl
 i212:=by kernel_rfl
 m17:=by kernel_rfl }
open Go.Lib in
theorem Tryz.internal_strconv_numDigits (u:Nat) (h1:1<=u) (h2:u<18446744073709551616) (w:World) (htab:Lib.TabIs Tryz.prog w "internal/strconv.uint64pow10" .u64 Lib.pow10Tab):
  Calls Tryz.prog 117 #[.int .u64 u] w λe w'=>e=.returned (.int .i64 (Lib.nDigits u))/\w'=w:=Any.internal_strconv_numDigits Tryz.KY u h1 h2 w htab
def Tryz.FL:Go.Shelf.Ren:=⟨fun | 285=>118 | n=>n,fun | 37=>158 | 53=>52 | 3=>3 | 4=>4 | 51=>218 | 9=>9 | 5=>5 | 0=>0 | n=>n,fun | n=>n⟩
theorem Tryz.ME:Go.Proofs.Lays.n285 Tryz.prog Tryz.FL:={
 mixed:=by kernel_rfl
 f285:=Tryz.func118.trans (congrArg some (by kernel_rfl))
 t0:=Tryz.underlying0
 a0:=Tryz.isAgg0
 z0:=Tryz.sizeOf0
 v0:=Tryz.zeroValue0
 t3:=Tryz.underlying3
 a3:=Tryz.isAgg3
 z3:=Tryz.sizeOf3
 v3:=Tryz.zeroValue3
 t4:=Tryz.underlying4
 a4:=Tryz.isAgg4
 z4:=Tryz.sizeOf4
 v4:=Tryz.zeroValue4
 t5:=Tryz.underlying5
 a5:=Tryz.isAgg5
 z5:=Tryz.sizeOf5
 v5:=Tryz.zeroValue5
 t9:=Tryz.underlying9
 a9:=Tryz.isAgg9
 z9:=Tryz.sizeOf9
 v9:=Tryz.zeroValue9
 t37:=Tryz.underlying158
 a37:=Tryz.isAgg158
 z37:=Tryz.sizeOf158
 v37:=Tryz.zeroValue158
 t51:=Tryz.underlying218
 a51:=Tryz.isAgg218
 z51:=Tryz.sizeOf218
 v51:=Tryz.zeroValue218
 t53:=Tryz.underlying52
 a53:=Tryz.isAgg52
 z53:=Tryz.sizeOf52
 v53:=Tryz.zeroValue52 }
open Go.RowKit Go.Sort Go.Lib in
theorem Tryz.internal_strconv_formatBase10 (blk off cap:Nat) (u:Nat) (d:Array UInt8) (w:World) (hH:Holds (λ(b:UInt8)=>Value.int .u8 (b.toNat:Int)) w blk off d) (hu:u<10 ^ d.size) (hu64:u<18446744073709551616) (hsz:d.size<4611686018427387904):
  Calls Tryz.prog 118 #[.slice (some ⟨blk,off,none⟩) d.size cap,.int .u64 u] w λe w'=>
   e=.returned (.tuple #[])/\∃ (n v':Nat) (dk:Array UInt8),w'=(putRow (λ(b:UInt8)=>Value.int .u8 (b.toNat:Int)) w blk off dk).drewN n/\FmtInv d.size u 0 v' dk:=Any.internal_strconv_formatBase10 Tryz.ME blk off cap u d w hH hu hu64 hsz
def Tryz.Eu:Go.Shelf.Ren:=⟨fun | 171=>82 | 243=>115 | 246=>153 | 283=>116 | 284=>117 | 285=>118 | 286=>119 | 129=>155 | 317=>154 | 318=>156 | 319=>157 | 320=>158 | 337=>190 | 338=>191 | n=>n,fun | 3=>3 | 9=>9 | 2=>2 | 4=>4 | 171=>193 | 0=>0 | 53=>52 | 37=>158 | 5=>5 | 173=>196 | 212=>231 | 51=>218 | 20=>20 | 213=>232 | 46=>198 | 232=>296 | 233=>297 | n=>n,fun | 17=>3 | 18=>6 | 19=>7 | n=>n⟩
theorem Tryz.KX:Go.Proofs.LaysM.n171 Tryz.prog Tryz.Eu:={
 mixed:=by kernel_rfl
 f129:=Tryz.func155.trans (congrArg some (by kernel_rfl))
 f171:=Tryz.func82.trans (congrArg some (by kernel_rfl))
 f243:=Tryz.func115.trans (congrArg some (by kernel_rfl))
 f246:=Tryz.func153.trans (congrArg some (by kernel_rfl))
 f283:=Tryz.func116.trans (congrArg some (by kernel_rfl))
 f284:=Tryz.func117.trans (congrArg some (by kernel_rfl))
 f285:=Tryz.func118.trans (congrArg some (by kernel_rfl))
 f286:=Tryz.func119.trans (congrArg some (by kernel_rfl))
 f317:=Tryz.func154.trans (congrArg some (by kernel_rfl))
 f318:=Tryz.func156.trans (congrArg some (by kernel_rfl))
 f319:=Tryz.func157.trans (congrArg some (by kernel_rfl))
 f320:=Tryz.func158.trans (congrArg some (by kernel_rfl))
 f337:=Tryz.func190.trans (congrArg some (by kernel_rfl))
 f338:=Tryz.func191.trans (congrArg some (by kernel_rfl))
 t0:=Tryz.underlying0
 a0:=Tryz.isAgg0
 z0:=Tryz.sizeOf0
 v0:=Tryz.zeroValue0
 t2:=Tryz.underlying2
 a2:=Tryz.isAgg2
 z2:=Tryz.sizeOf2
 v2:=Tryz.zeroValue2
 t3:=Tryz.underlying3
 a3:=Tryz.isAgg3
 z3:=Tryz.sizeOf3
 v3:=Tryz.zeroValue3
 t4:=Tryz.underlying4
 a4:=Tryz.isAgg4
 z4:=Tryz.sizeOf4
 v4:=Tryz.zeroValue4
 t5:=Tryz.underlying5
 a5:=Tryz.isAgg5
 z5:=Tryz.sizeOf5
 v5:=Tryz.zeroValue5
 t9:=Tryz.underlying9
 a9:=Tryz.isAgg9
 z9:=Tryz.sizeOf9
 v9:=Tryz.zeroValue9
 t20:=Tryz.underlying20
 a20:=Tryz.isAgg20
 z20:=Tryz.sizeOf20
 v20:=Tryz.zeroValue20
 t37:=Tryz.underlying158
 a37:=Tryz.isAgg158
 z37:=Tryz.sizeOf158
 v37:=Tryz.zeroValue158
 t46:=Tryz.underlying198
 a46:=Tryz.isAgg198
 z46:=Tryz.sizeOf198
 v46:=Tryz.zeroValue198
 t51:=Tryz.underlying218
 a51:=Tryz.isAgg218
 z51:=Tryz.sizeOf218
 v51:=Tryz.zeroValue218
 t53:=Tryz.underlying52
 a53:=Tryz.isAgg52
 z53:=Tryz.sizeOf52
 v53:=Tryz.zeroValue52
 t171:=Tryz.underlying193
 a171:=Tryz.isAgg193
 z171:=Tryz.sizeOf193
 v171:=Tryz.zeroValue193
 t173:=Tryz.underlying196
 a173:=Tryz.isAgg196
 z173:=Tryz.sizeOf196
 v173:=Tryz.zeroValue196
 t212:=Tryz.underlying231
 a212:=Tryz.isAgg231
 z212:=Tryz.sizeOf231
 v212:=Tryz.zeroValue231
 t213:=Tryz.underlying232
 a213:=Tryz.isAgg232
 z213:=Tryz.sizeOf232
 t232:=Tryz.underlying296
 a232:=Tryz.isAgg296
 z232:=Tryz.sizeOf296
 v232:=Tryz.zeroValue296
 t233:=Tryz.underlying297
 a233:=Tryz.isAgg297
 z233:=Tryz.sizeOf297
 v233:=Tryz.zeroValue297
 g17:=by kernel_rfl
 g18:=by kernel_rfl
 g19:=by kernel_rfl
 i0:=by kernel_rfl
 i2:=by kernel_rfl
 i3:=by kernel_rfl
 i4:=by kernel_rfl
 i5:=by kernel_rfl
 i9:=by kernel_rfl
 i20:=by kernel_rfl
 i37:=by kernel_rfl
 i46:=by kernel_rfl
 i51:=by kernel_rfl
 i53:=by kernel_rfl
 i171:=by kernel_rfl
 i173:=by kernel_rfl
 i212:=by kernel_rfl
 i232:=by kernel_rfl
 i233:=by kernel_rfl
 m17:=by kernel_rfl
 m18:=by kernel_rfl
 m19:=by kernel_rfl }
open Go.RowKit Go.Sort Go.Lib in
theorem Tryz.strconv_Itoa (n:Int) (h0:-9223372036854775808<=n) (h1:n<=9223372036854775807) (w:World) (htab:Lib.TabIs Tryz.prog w "internal/strconv.uint64pow10" .u64 Lib.pow10Tab):
  Calls Tryz.prog 82 #[.int .i64 n] w λe w'=>e=.returned (.string ⟨(Lib.itoa n).toArray⟩)/\∃ k os,w'=grow (w.drewN k) os:=Any.strconv_Itoa Tryz.KX n h0 h1 w htab
def Tryz.FM:Go.Shelf.Ren:=⟨fun | 287=>150 | 321=>188 | 322=>189 | n=>n,fun | 9=>9 | 3=>3 | 53=>52 | 75=>101 | 4=>4 | 167=>187 | 5=>5 | 46=>198 | 37=>158 | 0=>0 | 21=>21 | 80=>51 | n=>n,fun | n=>n⟩
theorem Tryz.MF:Go.Proofs.Lays.n287 Tryz.prog Tryz.FM:={
 mixed:=by kernel_rfl
 f287:=Tryz.func150.trans (congrArg some (by kernel_rfl))
 f321:=Tryz.func188.trans (congrArg some (by kernel_rfl))
 f322:=Tryz.func189.trans (congrArg some (by kernel_rfl))
 t0:=Tryz.underlying0
 a0:=Tryz.isAgg0
 z0:=Tryz.sizeOf0
 v0:=Tryz.zeroValue0
 t3:=Tryz.underlying3
 a3:=Tryz.isAgg3
 z3:=Tryz.sizeOf3
 v3:=Tryz.zeroValue3
 t4:=Tryz.underlying4
 a4:=Tryz.isAgg4
 z4:=Tryz.sizeOf4
 v4:=Tryz.zeroValue4
 t5:=Tryz.underlying5
 a5:=Tryz.isAgg5
 z5:=Tryz.sizeOf5
 v5:=Tryz.zeroValue5
 t9:=Tryz.underlying9
 a9:=Tryz.isAgg9
 z9:=Tryz.sizeOf9
 v9:=Tryz.zeroValue9
 t21:=Tryz.underlying21
 a21:=Tryz.isAgg21
 z21:=Tryz.sizeOf21
 v21:=Tryz.zeroValue21
 t37:=Tryz.underlying158
 a37:=Tryz.isAgg158
 z37:=Tryz.sizeOf158
 v37:=Tryz.zeroValue158
 t46:=Tryz.underlying198
 a46:=Tryz.isAgg198
 z46:=Tryz.sizeOf198
 v46:=Tryz.zeroValue198
 t53:=Tryz.underlying52
 a53:=Tryz.isAgg52
 z53:=Tryz.sizeOf52
 v53:=Tryz.zeroValue52
 t75:=Tryz.underlying101
 a75:=Tryz.isAgg101
 z75:=Tryz.sizeOf101
 v75:=Tryz.zeroValue101
 t167:=Tryz.underlying187
 a167:=Tryz.isAgg187
 z167:=Tryz.sizeOf187
 v167:=Tryz.zeroValue187 }
def Tryz.Et:Go.Shelf.Ren:=⟨fun | 172=>42 | 244=>80 | 245=>81 | 247=>110 | 279=>111 | 280=>112 | 281=>113 | 282=>114 | 287=>150 | 316=>151 | 171=>82 | 205=>152 | 321=>188 | 322=>189 | 243=>115 | 246=>153 | 283=>116 | 284=>117 | 285=>118 | 286=>119 | 129=>155 | 317=>154 | 318=>156 | 319=>157 | 320=>158 | 337=>190 | 338=>191 | n=>n,fun | 9=>9 | 3=>3 | 75=>101 | 76=>102 | 4=>4 | 5=>5 | 167=>187 | 37=>158 | 0=>0 | 85=>188 | 2=>2 | 168=>190 | 53=>52 | 175=>215 | 46=>198 | 210=>227 | 127=>268 | 145=>271 | 143=>269 | 21=>21 | 171=>193 | 173=>196 | 212=>231 | 51=>218 | 20=>20 | 213=>232 | 232=>296 | 233=>297 | 80=>51 | n=>n,fun | 15=>1 | 16=>2 | 17=>3 | 18=>6 | 19=>7 | n=>n⟩
theorem Tryz.Cm:Go.Proofs.LaysC.n172 Tryz.prog Tryz.Et:={
 mixed:=by kernel_rfl
 f129:=Tryz.func155.trans (congrArg some (by kernel_rfl))
 f171:=Tryz.func82.trans (congrArg some (by kernel_rfl))
 f172:=Tryz.func42.trans (congrArg some (by kernel_rfl))
 f205:=Tryz.func152.trans (congrArg some (by kernel_rfl))
 f243:=Tryz.func115.trans (congrArg some (by kernel_rfl))
 f244:=Tryz.func80.trans (congrArg some (by kernel_rfl))
 f245:=Tryz.func81.trans (congrArg some (by kernel_rfl))
 f246:=Tryz.func153.trans (congrArg some (by kernel_rfl))
 f247:=Tryz.func110.trans (congrArg some (by kernel_rfl))
 f279:=Tryz.func111.trans (congrArg some (by kernel_rfl))
 f280:=Tryz.func112.trans (congrArg some (by kernel_rfl))
 f281:=Tryz.func113.trans (congrArg some (by kernel_rfl))
 f282:=Tryz.func114.trans (congrArg some (by kernel_rfl))
 f283:=Tryz.func116.trans (congrArg some (by kernel_rfl))
 f284:=Tryz.func117.trans (congrArg some (by kernel_rfl))
 f285:=Tryz.func118.trans (congrArg some (by kernel_rfl))
 f286:=Tryz.func119.trans (congrArg some (by kernel_rfl))
 f287:=Tryz.func150.trans (congrArg some (by kernel_rfl))
 f316:=Tryz.func151.trans (congrArg some (by kernel_rfl))
 f317:=Tryz.func154.trans (congrArg some (by kernel_rfl))
 f318:=Tryz.func156.trans (congrArg some (by kernel_rfl))
 f319:=Tryz.func157.trans (congrArg some (by kernel_rfl))
 f320:=Tryz.func158.trans (congrArg some (by kernel_rfl))
 f321:=Tryz.func188.trans (congrArg some (by kernel_rfl))
 f322:=Tryz.func189.trans (congrArg some (by kernel_rfl))
 f337:=Tryz.func190.trans (congrArg some (by kernel_rfl))
 f338:=Tryz.func191.trans (congrArg some (by kernel_rfl))
 t0:=Tryz.underlying0
 a0:=Tryz.isAgg0
 z0:=Tryz.sizeOf0
 v0:=Tryz.zeroValue0
 t2:=Tryz.underlying2
 a2:=Tryz.isAgg2
 z2:=Tryz.sizeOf2
 v2:=Tryz.zeroValue2
 t3:=Tryz.underlying3
 a3:=Tryz.isAgg3
 z3:=Tryz.sizeOf3
 v3:=Tryz.zeroValue3
 t4:=Tryz.underlying4
 a4:=Tryz.isAgg4
 z4:=Tryz.sizeOf4
 v4:=Tryz.zeroValue4
 t5:=Tryz.underlying5
 a5:=Tryz.isAgg5
 z5:=Tryz.sizeOf5
 v5:=Tryz.zeroValue5
 t9:=Tryz.underlying9
 a9:=Tryz.isAgg9
 z9:=Tryz.sizeOf9
 v9:=Tryz.zeroValue9
 t20:=Tryz.underlying20
 a20:=Tryz.isAgg20
 z20:=Tryz.sizeOf20
 v20:=Tryz.zeroValue20
 t21:=Tryz.underlying21
 a21:=Tryz.isAgg21
 z21:=Tryz.sizeOf21
 v21:=Tryz.zeroValue21
 t37:=Tryz.underlying158
 a37:=Tryz.isAgg158
 z37:=Tryz.sizeOf158
 v37:=Tryz.zeroValue158
 t46:=Tryz.underlying198
 a46:=Tryz.isAgg198
 z46:=Tryz.sizeOf198
 v46:=Tryz.zeroValue198
 t51:=Tryz.underlying218
 a51:=Tryz.isAgg218
 z51:=Tryz.sizeOf218
 v51:=Tryz.zeroValue218
 t53:=Tryz.underlying52
 a53:=Tryz.isAgg52
 z53:=Tryz.sizeOf52
 v53:=Tryz.zeroValue52
 t75:=Tryz.underlying101
 a75:=Tryz.isAgg101
 z75:=Tryz.sizeOf101
 v75:=Tryz.zeroValue101
 t76:=Tryz.underlying102
 a76:=Tryz.isAgg102
 z76:=Tryz.sizeOf102
 v76:=Tryz.zeroValue102
 t85:=Tryz.underlying188
 a85:=Tryz.isAgg188
 z85:=Tryz.sizeOf188
 v85:=Tryz.zeroValue188
 t127:=Tryz.underlying268
 a127:=Tryz.isAgg268
 z127:=Tryz.sizeOf268
 v127:=Tryz.zeroValue268
 t143:=Tryz.underlying269
 a143:=Tryz.isAgg269
 z143:=Tryz.sizeOf269
 v143:=Tryz.zeroValue269
 t145:=Tryz.underlying271
 a145:=Tryz.isAgg271
 z145:=Tryz.sizeOf271
 v145:=Tryz.zeroValue271
 t167:=Tryz.underlying187
 a167:=Tryz.isAgg187
 z167:=Tryz.sizeOf187
 v167:=Tryz.zeroValue187
 t168:=Tryz.underlying190
 a168:=Tryz.isAgg190
 z168:=Tryz.sizeOf190
 v168:=Tryz.zeroValue190
 t171:=Tryz.underlying193
 a171:=Tryz.isAgg193
 z171:=Tryz.sizeOf193
 v171:=Tryz.zeroValue193
 t173:=Tryz.underlying196
 a173:=Tryz.isAgg196
 z173:=Tryz.sizeOf196
 v173:=Tryz.zeroValue196
 t175:=Tryz.underlying215
 a175:=Tryz.isAgg215
 z175:=Tryz.sizeOf215
 v175:=Tryz.zeroValue215
 t210:=Tryz.underlying227
 a210:=Tryz.isAgg227
 z210:=Tryz.sizeOf227
 v210:=Tryz.zeroValue227
 t212:=Tryz.underlying231
 a212:=Tryz.isAgg231
 z212:=Tryz.sizeOf231
 v212:=Tryz.zeroValue231
 t213:=Tryz.underlying232
 a213:=Tryz.isAgg232
 z213:=Tryz.sizeOf232
 t232:=Tryz.underlying296
 a232:=Tryz.isAgg296
 z232:=Tryz.sizeOf296
 v232:=Tryz.zeroValue296
 t233:=Tryz.underlying297
 a233:=Tryz.isAgg297
 z233:=Tryz.sizeOf297
 v233:=Tryz.zeroValue297
 g15:=by kernel_rfl
 g16:=by kernel_rfl
 g17:=by kernel_rfl
 g18:=by kernel_rfl
 g19:=by kernel_rfl
 t80:=Tryz.underlying51
 a80:=Tryz.isAgg51
 z80:=Tryz.sizeOf51
 v80:=Tryz.zeroValue51
 i0:=by kernel_rfl
 i2:=by kernel_rfl
 i3:=by kernel_rfl
 i4:=by kernel_rfl
 i5:=by kernel_rfl
 i9:=by kernel_rfl
 i20:=by kernel_rfl
 i21:=by kernel_rfl
 i37:=by kernel_rfl
 i46:=by kernel_rfl
 i51:=by kernel_rfl
 i53:=by kernel_rfl
 i75:=by kernel_rfl
 i76:=by kernel_rfl
 i80:=by kernel_rfl
 i85:=by kernel_rfl
 i127:=by kernel_rfl
 i143:=by kernel_rfl
 i145:=by kernel_rfl
 i167:=by kernel_rfl
 i168:=by kernel_rfl
 i171:=by kernel_rfl
 i173:=by kernel_rfl
 i175:=by kernel_rfl
 i210:=by kernel_rfl
 i212:=by kernel_rfl
 i232:=by kernel_rfl
 i233:=by kernel_rfl
 m15:=by kernel_rfl
 m16:=by kernel_rfl
 m17:=by kernel_rfl
 m18:=by kernel_rfl
 m19:=by kernel_rfl
 c0:=by kernel_rfl
 c2:=by kernel_rfl
 c3:=by kernel_rfl
 c4:=by kernel_rfl
 c5:=by kernel_rfl
 c9:=by kernel_rfl
 c20:=by kernel_rfl
 c21:=by kernel_rfl
 c37:=by kernel_rfl
 c46:=by kernel_rfl
 c51:=by kernel_rfl
 c53:=by kernel_rfl
 c75:=by kernel_rfl
 c76:=by kernel_rfl
 c80:=by kernel_rfl
 c85:=by kernel_rfl
 c127:=by kernel_rfl
 c143:=by kernel_rfl
 c145:=by kernel_rfl
 c167:=by kernel_rfl
 c168:=by kernel_rfl
 c171:=by kernel_rfl
 c173:=by kernel_rfl
 c175:=by kernel_rfl
 c210:=by kernel_rfl
 c212:=by kernel_rfl
 c213:=by kernel_rfl
 c232:=by kernel_rfl
 c233:=by kernel_rfl }
open Go.RowKit in
theorem Tryz.strconv_Atoi_ok (s:ByteArray) (hmax:s.size<=9223372036854775806) (v:Int) (h:Lib.atoiAll s.data.toList=.ok v) (w:World):
  Calls Tryz.prog 42 #[.string s] w λe w'=>e=.returned (.tuple #[.int .i64 v,.nilIface])/\(w'=w\/∃ t,w'=Lib.bytesWorld w 5 t):=Any.strconv_Atoi_ok Tryz.Cm s hmax v h w
open Go.RowKit in
theorem Tryz.strconv_Atoi_syntax_var (s:ByteArray) (hlim:s.size<=281474976710656) (h:Lib.atoiAll s.data.toList=.syntax) (tp:TypeId) (p:Value) (w:World) (hvar:w.var? Tryz.prog "strconv.ErrSyntax" = some #[.iface tp p]):
  Calls Tryz.prog 42 #[.string s] w λe w'=>∃ N,e=.returned (.tuple #[.int .i64 0,.iface 190 (.pointer (some ⟨N,0,none⟩))])/\w.heap.size<=N/\w'.heap[N]? = some (.cells #[.string ⟨#[65,116,111,105]⟩,.string s,.iface tp p] 227 (0,0))/\Below w.heap.size w w':=Any.strconv_Atoi_syntax_var Tryz.Cm s hlim h tp p w hvar
open Go.RowKit in
theorem Tryz.strconv_Atoi_range_var (s:ByteArray) (hlim:s.size<=281474976710656) (h:Lib.atoiAll s.data.toList=.range) (tp:TypeId) (p:Value) (w:World) (hvar:w.var? Tryz.prog "strconv.ErrRange" = some #[.iface tp p]):
  Calls Tryz.prog 42 #[.string s] w λe w'=>∃ N,e=.returned (.tuple #[.int .i64 (Lib.atoiSat s.data.toList),.iface 190 (.pointer (some ⟨N,0,none⟩))])/\w.heap.size<=N/\w'.heap[N]? = some (.cells #[.string ⟨#[65,116,111,105]⟩,.string s,.iface tp p] 227 (0,0))/\Below w.heap.size w w':=Any.strconv_Atoi_range_var Tryz.Cm s hlim h tp p w hvar
open Go.RowKit in
theorem Tryz.internal_strconv_ParseUint_10_b32 (t:ByteArray) (hne:t.size≠0) (hmax:t.size<=9223372036854775806) (w:World):
  Calls Tryz.prog 150 #[.string t,.int .i64 10,.int .i64 32] w λe w'=>e=.returned (Lib.uintTupleM 187 4294967295 (Lib.parseUintM 4294967295 0 t.data.toList))/\w'=Lib.bytesWorld w 5 t:=Any.internal_strconv_ParseUint_10_b32 Tryz.MF t hne hmax w
end Go.Proofs
namespace Go.Sim
open Go Go.Proofs.Tryz
open _root_.Go.IntKind (i64 u64 u32 u8)
set_option maxRecDepth 100000
set_option maxHeartbeats 4000000
instance:xm aZ:=⟨λx=>[.string (x.Name),.string (x.A),.string (x.B_),.bool (x.xo),.bool (x.Open)],λh=>h⟩
instance:xm aQ:=⟨λx=>[.string (x.Name),.string (x.qe),.string (x.To),.int .i64 (x.X),.int .i64 (x.C1),.int .i64 (x.Shift),.int .i64 (x.uu),.int .i64 (x.yh),.int .i64 (x.DR)],λh=>h⟩
instance:xm bH:=⟨λx=>[.string (x.Name),.string (x.Node),.int .i64 (x.jC),.int .i64 (x.rr),.int .i64 (x.C5)],λh=>h⟩
instance:xm aH:=⟨λx=>[.string (x.Name),.string (x.Node),.int .i64 (x.c_)],λh=>h⟩
instance:xm cJ:=⟨λx=>[.string (x.Name),.string (x.Node),.int .i64 (x.sZ),.int .i64 (x.Discharge),.int .i64 (x.vz)],λh=>h⟩
instance:xm aE:=⟨λx=>[.int .i64 (x.Time),.string (x.Kind),.string (x.Name),.int .i64 (x.Value)],λh=>h⟩
instance:xm bM:=⟨λx=>[.int .i64 (x.Kind),.string (x.Name),.int .i64 (x.A),.int .i64 (x.B_)],λh=>h⟩
instance:xm bY:=⟨λx=>[.int .i64 (x.a0),.int .i64 (x.a1)],λh=>h⟩
instance:xm bL:=⟨λx=>[.int .i64 (x.jC),.int .i64 (x.rr),.int .i64 (x.c_)],λh=>h⟩
instance:xm aN:=⟨λx=>[.string (x.Name),.bool (x.zm)],λh=>h⟩
structure d_ where
 v0:RJ
 v1:RJ
 v2:RJ
 v3:RJ
 v4:RJ
 v5:RJ
 v6:RJ
 v7:RJ
 sX:List RJ
 v8:RJ
 v9:RJ
 v10:RJ
 yU:List RJ
 v11:RJ
 tJ:List RJ
 v12:RJ
 Bi:List RJ
 OX:RJ
 OY:RJ
 Of:RJ
 Au:List RJ
 OZ:RJ
abbrev bS {v0 v1 v2 v3 v4 v5 v6 v7:RJ}{sX:List RJ}{v8 v9 v10:RJ}{yU:List RJ}{v11:RJ}{tJ:List RJ}{v12:RJ}{Bi:List RJ}{OX OY Of:RJ}{Au:List RJ}{OZ:RJ}:d_:=⟨v0,v1,v2,v3,v4,v5,v6,v7,sX,v8,v9,v10,yU,v11,tJ,v12,Bi,OX,OY,Of,Au,OZ⟩
def aV (b I J:Nat):d_->aT->List bN
 | ⟨v0,v1,v2,v3,v4,v5,v6,v7,sX,v8,v9,v10,yU,v11,tJ,v12,Bi,OX,OY,Of,Au,OZ⟩,x=>[.obj b (.cells [v0,v1,v2,v3,v4,v5,v6,v7,v8,.pointer (some ⟨I,0,none⟩),OX,OY,.int .i64 (x.time),.pointer (some ⟨J,0,none⟩),OZ].toArray 72 (0,0)),.row v7 9 (aF.sz RI) x.on.length sX,.obj I (.cells [v9,v10,v11,v12,.int .i64 (x.watch.time)].toArray 129 (0,0)),.row v10 148 (aF.sz aA) x.watch.mr.length yU,.row v11 3 (aF.sz Int) x.watch.sU.length tJ,.row v12 4 (aF.sz Bool) x.watch.over.length Bi,.obj J (.cells [Of].toArray 96 (0,0)),.row Of 42 (aF.sz aE) x.log.eV.length Au]
def cR (H:Hp):d_->aT->Prop
 | ⟨v0,v1,v2,v3,v4,v5,v6,v7,sX,v8,v9,v10,yU,v11,tJ,v12,Bi,OX,OY,Of,Au,OZ⟩,x=>aP H v0 x.cG.bF/\aP H v1 x.cG.aO/\aP H v2 x.cG.aJ/\aP H v3 x.cG.dS/\aP H v4 x.cG.bE/\aP H v5 x.cG.bW/\aP H v6 x.rules/\Rw H v7 sX x.on/\aP H v8 x.held/\aP H v9 x.watch.lv/\Rw H v10 yU x.watch.mr/\Rw H v11 tJ x.watch.sU/\Rw H v12 Bi x.watch.over/\aP H OX x.state.fP/\aP H OY x.state.iI/\Rw H Of Au x.log.eV/\aP H OZ x.over
theorem cR.mono {H H2:Hp}{g:d_}{x:aT} (h:cR H g x) (I:H.le H2):cR H2 g x:=by
 obtain ⟨v0,v1,v2,v3,v4,v5,v6,v7,sX,v8,v9,v10,yU,v11,tJ,v12,Bi,OX,OY,Of,Au,OZ⟩:=g;obtain ⟨z0,z1,z2,z3,z4,z5,z6,z7,z8,z9,J,Y,Z,z13,z14,z15,z16⟩:=h;exact ⟨z0.mono I,z1.mono I,z2.mono I,z3.mono I,z4.mono I,z5.mono I,z6.mono I,z7.mono I,z8.mono I,z9.mono I,J.mono I,Y.mono I,Z.mono I,z13.mono I,z14.mono I,z15.mono I,z16.mono I⟩
theorem cR.mm {H I:Hp}{g:d_}{x:aT} (h:cR H g x) (e:H.le I:=by exact lE):cR I g x:=h.mono e
theorem fm:Proofs.Tryz.prog.follows .mixedOrders=true:=by kernel_rfl
theorem Hx.mixed:Proofs.Tryz.prog.follows .mixedOrders=true:=fm
class uL (B:Nat) (w0:World):Prop where
 lt:8<=B
 e1:∃ T p,w0.var? Proofs.Tryz.prog "strconv.ErrSyntax" = some #[.iface T p]
 e2:∃ T p,w0.var? Proofs.Tryz.prog "strconv.ErrRange" = some #[.iface T p]
 t3:Lib.TabIs Proofs.Tryz.prog w0 "internal/strconv.uint64pow10" .u64 Pj
 t6:Lib.TabIs Proofs.Tryz.prog w0 "math/bits.deBruijn32tab" .u8 Qx
 t7:Lib.TabIs Proofs.Tryz.prog w0 "math/bits.deBruijn64tab" .u8 Qg
theorem uL.below {B:Nat}{w0:World}[h:uL B w0] {g:Nat} (I:Nat.blt g 8=true):g<B:=by
 have:=h.lt;have:g<8:=by simpa [SY] using I
 omega
theorem QQ:Proofs.Tryz.prog.globalNamed "strconv.ErrSyntax" = some 1:=by kernel_rfl
theorem QR:Proofs.Tryz.prog.globalNamed "strconv.ErrRange" = some 2:=by kernel_rfl
theorem Qf:Proofs.Tryz.prog.globalNamed "internal/strconv.uint64pow10" = some 3:=by kernel_rfl
theorem QY:Proofs.Tryz.prog.globalNamed "math/bits.deBruijn32tab" = some 6:=by kernel_rfl
theorem Qw:Proofs.Tryz.prog.globalNamed "math/bits.deBruijn64tab" = some 7:=by kernel_rfl
abbrev Ht (d:Bool) (a:Hp) (c:List bN):Hp->List bN->RJ->Prop:=λf g h=>a=f/\c=g/\.bool (d)=h
abbrev QK {I:Type} (a:List U8) (c:Nat->List U8->Unit->Option I) (d:I) (e:Hp) (l:Nat):Env->List bN->Nat->Hp->List bN->Env->Prop:=λf g h i j k=>∃ b0:Nat,∃ b1:List U8,(a).drop b0=b1/\b1.length=h/\c b0 b1 ()=some d/\e.le i/\g=j/\(l,.int .i64 (b0:Int))::f=k
abbrev xS (d:Int) (a:Hp) (c:List bN):Hp->List bN->RJ->Prop:=λf g h=>a=f/\c=g/\.int .i64 (d)=h
abbrev Gi {I:Type} (a:Nat) (c:Nat->Nat->Unit->Option I) (d:I) (e:Hp) (l:Nat):Env->List bN->Nat->Hp->List bN->Env->Prop:=λf g h i j k=>∃ b0 b1:Nat,b0+b1=a/\b1=h/\c b1 b0 ()=some d/\e.le i/\g=j/\(l,.int .i64 (b0:Int))::f=k
abbrev QL {I:Type} (a:List RI) (c:Nat->List RI->Unit->Option I) (d:I) (e:Hp) (l:Nat):Env->List bN->Nat->Hp->List bN->Env->Prop:=λf g h i j k=>∃ b0:Nat,∃ b1:List RI,(a).drop b0=b1/\b1.length=h/\c b0 b1 ()=some d/\e.le i/\g=j/\(l,.int .i64 (b0:Int))::f=k
abbrev P7 {α:Type}[aF α] (d:List α) (a:Hp) (c:List bN):Hp->List bN->RJ->Prop:=λf g h=>a=f/\∃ b0:RJ,∃ b1:List RJ,.row b0 9 (aF.sz RI) d.length b1::c=g/\b0=h/\uI b0 b1 d
abbrev Qi (d:Nat) (e:RI) (l:Bool) (a:Hp) (c:List bN):Hp->List bN->RJ->Prop:=λf g h=>a=f/\.obj d (.cells ([.string (e)]:List RJ).toArray 9 (0,0))::c=g/\.bool (l)=h
abbrev QM (d:Nat) (e:RI) (l:Int) (a:Hp) (c:List bN):Hp->List bN->RJ->Prop:=λf g h=>a=f/\.obj d (.cells ([.string (e)]:List RJ).toArray 9 (0,0))::c=g/\.int .i64 (l)=h
abbrev QN (d:aD) (a:Hp) (c:List bN):Hp->List bN->RJ->Prop:=λf g h=>a=f/\∃ b0:RJ,∃ b1:List RJ,∃ Y:RJ,∃ b3:List RJ,∃ Z:RJ,∃ b5:List RJ,∃ b6:RJ,∃ b7:List RJ,∃ b8:RJ,∃ b9:List RJ,∃ I:RJ,∃ J:List RJ,.row b0 9 (aF.sz RI) d.bF.length b1::.row Y 111 (aF.sz aZ) d.aO.length b3::.row Z 114 (aF.sz aQ) d.aJ.length b5::.row b6 117 (aF.sz bH) d.dS.length b7::.row b8 120 (aF.sz aH) d.bE.length b9::.row I 123 (aF.sz cJ) d.bW.length J::c=g/\.agg [b0,Y,Z,b6,b8,I].toArray=h/\uI b0 b1 d.bF/\uI Y b3 d.aO/\uI Z b5 d.aJ/\uI b6 b7 d.dS/\uI b8 b9 d.bE/\uI I J d.bW
abbrev NI {α:Type}[aF α] (a:List α):Hp->List bN->RJ->Prop:=λf g h=>∃ b0:RJ,∃ b1:List RJ,[.row b0 9 (aF.sz RI) a.length b1]=g/\b0=h/\Rw f b0 b1 a
abbrev NJ (d:Nat) (e:RJ) (l:Bool) (a:Hp) (c:List bN):Hp->List bN->RJ->Prop:=λf g h=>a=f/\.obj d (.cells ([e]:List RJ).toArray 22 (0,0))::c=g/\.bool (l)=h
abbrev NK (d:Nat) (e:RJ) (l:Int) (a:Hp) (c:List bN):Hp->List bN->RJ->Prop:=λf g h=>a=f/\.obj d (.cells ([e]:List RJ).toArray 22 (0,0))::c=g/\.int .i64 (l)=h
abbrev O1 {α:Type}[aF α] (d:List α) (a:Hp) (c:List bN):Hp->List bN->RJ->Prop:=λf g h=>a=f/\∃ b0:RJ,∃ b1:List RJ,.row b0 3 (aF.sz Int) d.length b1::c=g/\b0=h/\uI b0 b1 d
abbrev Hu (a:Int):Hp->List bN->RJ->Prop:=λf g h=>[]=g/\.int .i64 (a)=h
abbrev LY {α:Type}[aF α] (d:List α) (e:Int) (a:Hp) (c:List bN):Hp->List bN->RJ->Prop:=λf g h=>a=f/\∃ b0:RJ,∃ b1:List RJ,.row b0 3 (aF.sz Int) d.length b1::c=g/\.tuple #[b0,.int .i64 (e)]=h/\uI b0 b1 d
abbrev NM {α:Type}[aF α] (a:List α):Hp->List bN->RJ->Prop:=λf g h=>∃ b0:RJ,∃ b1:List RJ,[.row b0 3 (aF.sz Int) a.length b1]=g/\b0=h/\Rw f b0 b1 a
abbrev Gg (d:aC) (a:Hp) (c:List bN):Hp->List bN->RJ->Prop:=λf g h=>a.le f/\∃ b0:RJ,c=g/\.agg [.bool (d.minus),b0].toArray=h/\aP f b0 d.words
abbrev O2 {I:Type} (a:Int->Option I) (c:I) (d:Hp) (e:Nat):Env->List bN->Hp->List bN->Env->Prop:=λf g h i j=>∃ b0:Int,a b0=some c/\d=h/\g=i/\(e,.int .u64 (b0))::f=j
abbrev NN {I:Type} (a:Nat->Int->Option I) (c:I) (d:Hp) (e:Nat):Env->List bN->Nat->Hp->List bN->Env->Prop:=λf g h i j k=>∃ b0:Int,a h b0=some c/\d.le i/\g=j/\(e,.int .i64 (b0))::f=k
abbrev NO {α:Type}[aF α] (d:List α) (a:Hp) (c:List bN):Hp->List bN->RJ->Prop:=λf g h=>a=f/\∃ b0:RJ,∃ b1:List RJ,.row b0 218 (aF.sz bR) d.length b1::c=g/\b0=h/\uI b0 b1 d
abbrev PS {Z:Type} (a:List bR) (c:Nat->List bR->((List bR)×Int)->Option Z) (d:Z) (e:RJ) (l:Hp) (m:Nat) (n:Nat):Env->List bN->Nat->Hp->List bN->Env->Prop:=λf g h i j k=>∃ b0:Nat,∃ b1 I:List bR,∃ J:Int,∃ Y:List RJ,(a).drop b0=b1/\b1.length=h/\c b0 b1 (I,J)=some d/\Rw i e Y I/\l.le i/\.row e 218 (aF.sz bR) I.length Y::g=j/\(m,.int .u64 (J))::(n,.int .i64 (b0:Int))::f=k
abbrev Df {α:Type}[aF α] (a:List α):Hp->List bN->RJ->Prop:=λf g h=>∃ b0:RJ,∃ b1:List RJ,[.row b0 218 (aF.sz bR) a.length b1]=g/\b0=h/\Rw f b0 b1 a
abbrev PT {Z:Type} (a:Nat) (c:Nat->Nat->((List bR)×Int)->Option Z) (d:Z) (e:RJ) (l:Hp) (m:Nat) (n:Nat):Env->List bN->Nat->Hp->List bN->Env->Prop:=λf g h i j k=>∃ b0 b1:Nat,∃ I:List bR,∃ J:Int,∃ Y:List RJ,b0+b1=a/\b1=h/\c b1 b0 (I,J)=some d/\Rw i e Y I/\l.le i/\.row e 218 (aF.sz bR) I.length Y::g=j/\(m,.int .u64 (J))::(n,.int .i64 (b0:Int))::f=k
abbrev O3 {α:Type}[aF α] (a:aC) (c:List α):Hp->List bN->RJ->Prop:=λf g h=>∃ b0:RJ,∃ b1:List RJ,∃ I:RJ,[]=g/\.agg [.bool (a.minus),I].toArray=h/\Rw f b0 b1 c/\aP f b0 c/\aP f I a.words
abbrev O4 {I:Type} (a:Int->Option I) (c:I) (d:Hp) (e:Nat):Env->List bN->Hp->List bN->Env->Prop:=λf g h i j=>∃ b0:Int,a b0=some c/\d=h/\g=i/\(e,.int .i64 (b0))::f=j
abbrev AX (a:aC):Hp->List bN->RJ->Prop:=λf g h=>∃ b0:RJ,[]=g/\.agg [.bool (a.minus),b0].toArray=h/\aP f b0 a.words
abbrev PU:Hp->List bN->RJ->Prop:=λf g h=>∃ b0:Nat,[.obj b0 (.cells ([.bool (false),.slice none 0 0]:List RJ).toArray 146 (0,0))]=g/\.pointer (some ⟨b0,0,none⟩)=h
abbrev PV {ρ:Type} (a:Bool->(List bR)->Bool->(List bR)->Option ρ) (c:ρ) (d:Hp) (e:Nat) (l:Nat):Env->List bN->Hp->List bN->Env->Prop:=λf g h i j=>∃ b0:Bool,∃ b1:(List bR),∃ I:Bool,∃ J:(List bR),∃ Y Z:RJ,a b0 b1 I J=some c/\aP h Y b1/\aP h Z J/\d.le h/\.obj e (.cells ([.bool (b0),Y]:List RJ).toArray 146 (0,0))::.obj l (.cells ([.bool (I),Z]:List RJ).toArray 146 (0,0))::g=i/\f=j
abbrev C0 (d:aA) (a:Hp) (c:List bN):Hp->List bN->RJ->Prop:=λf g h=>a.le f/\∃ b0 b1:RJ,c=g/\.agg [.bool (d.N.minus),b0,.bool (d.D.minus),b1].toArray=h/\aP f b0 d.N.words/\aP f b1 d.D.words
abbrev tK (a:aA):Hp->List bN->RJ->Prop:=λf g h=>∃ b0 b1:RJ,[]=g/\.agg [.bool (a.N.minus),b0,.bool (a.D.minus),b1].toArray=h/\aP f b0 a.N.words/\aP f b1 a.D.words
abbrev O5 {α:Type}[aF α] (a:List α):Hp->List bN->RJ->Prop:=λf g h=>∃ b0:RJ,∃ b1:List RJ,[.row b0 148 (aF.sz aA) a.length b1]=g/\b0=h/\Rw f b0 b1 a
abbrev NP {α:Type}[aF α] (d:List α) (e:Nat) (l:RJ) (m:RJ) (n:RJ) (o:RJ) (p:RJ) (q:RJ) (r:RJ) (s:RJ) (a:Hp) (c:List bN):Hp->List bN->RJ->Prop:=λf g h=>a.le f/\∃ b0:RJ,∃ b1:List RJ,.row b0 148 (aF.sz aA) d.length b1::.obj e (.cells ([l,m,n,o,p,q,r,s]:List RJ).toArray 252 (0,0))::c=g/\b0=h/\Rw f b0 b1 d
abbrev PW {Y:Type} (a:List Int) (c:Nat->List Int->List aA->Option Y) (d:Y) (e:RJ) (l:Hp) (m:Nat):Env->List bN->Nat->Hp->List bN->Env->Prop:=λf g h i j k=>∃ b0:Nat,∃ b1:List Int,∃ I:List aA,∃ J:List RJ,(a).drop b0=b1/\b1.length=h/\c b0 b1 I=some d/\Rw i e J I/\l.le i/\.row e 148 (aF.sz aA) I.length J::g=j/\(m,.int .i64 (b0:Int))::f=k
abbrev Gh (d:RI) (a:Hp) (c:List bN):Hp->List bN->RJ->Prop:=λf g h=>a=f/\c=g/\.string (d)=h
abbrev NQ (a:Nat):Hp->List bN->RJ->Prop:=λf g h=>[]=g/\.pointer (some ⟨a,0,none⟩)=h
abbrev PX {Z:Type} (a:List aQ) (c:Nat->List aQ->List RI->Option Z) (d:Z) (e:Hp) (l:Nat) (m:Nat):Env->List bN->Nat->Hp->List bN->Env->Prop:=λf g h i j k=>∃ b0:Nat,∃ b1:List aQ,∃ I:List RI,∃ J:RJ,∃ Y:List RJ,(a).drop b0=b1/\b1.length=h/\c b0 b1 I=some d/\Rw i J Y I/\e.le i/\.row J 9 (aF.sz RI) I.length Y::g=j/\(l,J)::(m,.int .i64 (b0:Int))::f=k
abbrev PY {J:Type} (a:List RI->Option J) (c:J) (d:Hp) (e:Nat):Env->List bN->Hp->List bN->Env->Prop:=λf g h i j=>∃ b0:List RI,∃ b1:RJ,∃ I:List RJ,a b0=some c/\Rw h b1 I b0/\d.le h/\.row b1 9 (aF.sz RI) b0.length I::g=i/\(e,b1)::f=j
abbrev PZ {α:Type}[aF α] (d:cH) (e:List α) (l:Int) (a:Hp) (c:List bN):Hp->List bN->RJ->Prop:=λf g h=>a=f/\∃ b0:RJ,∃ b1:List RJ,∃ I:RJ,∃ Y:List RJ,∃ J:RJ,∃ Z:List RJ,.row b0 59 (aF.sz RI) d.fP.length b1::.row I 59 (aF.sz RI) d.iI.length Y::.row J 9 (aF.sz RI) e.length Z::c=g/\.tuple #[.agg [b0,I].toArray,J,.int .i64 (l)]=h/\uI b0 b1 d.fP/\uI I Y d.iI/\uI J Z e
abbrev LZ (a:cH):Hp->List bN->RJ->Prop:=λf g h=>∃ b0 b1:RJ,∃ I J:List RJ,[]=g/\.agg [b0,b1].toArray=h/\Rw f b0 I a.fP/\Rw f b1 J a.iI/\aP f b0 a.fP/\aP f b1 a.iI
abbrev P0 {α:Type}[aF α] {Y:Type}[aF Y] (a:List α) (c:List Y):Hp->List bN->RJ->Prop:=λf g h=>∃ b0:RJ,∃ b1:List RJ,∃ I:RJ,∃ J:List RJ,[.row b0 9 (aF.sz RI) a.length b1,.row I 9 (aF.sz RI) c.length J]=g/\I=h/\Rw f b0 b1 a/\Rw f I J c
abbrev P1:Hp->List bN->RJ->Prop:=λf g h=>∃ b0:Nat,[.obj b0 (.cells ([.slice none 0 0,.slice none 0 0]:List RJ).toArray 61 (0,0))]=g/\.pointer (some ⟨b0,0,none⟩)=h
abbrev P2 (a:cH):Hp->List bN->RJ->Prop:=λf g h=>∃ b0 b1:RJ,∃ I:Nat,∃ J Y:List RJ,[.obj I (.cells ([b0,b1]:List RJ).toArray 61 (0,0))]=g/\.pointer (some ⟨I,0,none⟩)=h/\Rw f b0 J a.fP/\Rw f b1 Y a.iI/\aP f b0 a.fP/\aP f b1 a.iI
abbrev O6 (a:aD):Hp->List bN->RJ->Prop:=λf g h=>∃ b0:RJ,∃ b1:List RJ,∃ Y:RJ,∃ b3:List RJ,∃ Z:RJ,∃ b5:List RJ,∃ b6:RJ,∃ b7:List RJ,∃ b8:RJ,∃ b9:List RJ,∃ I:RJ,∃ J:List RJ,[.row b0 9 (aF.sz RI) a.bF.length b1,.row Y 111 (aF.sz aZ) a.aO.length b3,.row Z 114 (aF.sz aQ) a.aJ.length b5,.row b6 117 (aF.sz bH) a.dS.length b7,.row b8 120 (aF.sz aH) a.bE.length b9,.row I 123 (aF.sz cJ) a.bW.length J]=g/\.agg [b0,Y,Z,b6,b8,I].toArray=h/\Rw f b0 b1 a.bF/\Rw f Y b3 a.aO/\Rw f Z b5 a.aJ/\Rw f b6 b7 a.dS/\Rw f b8 b9 a.bE/\Rw f I J a.bW
abbrev O7 {α:Type}[aF α] {Z:Type}[aF Z] (a:RJ) (c:List α) (d:List RJ) (e:List Z) (l:Int) (m:cH):Hp->List bN->RJ->Prop:=λf g h=>∃ b0:RJ,∃ b1:List RJ,∃ I:RJ,∃ b3:List RJ,∃ J:RJ,∃ Y:List RJ,[.row a 9 (aF.sz RI) c.length d,.row J 9 (aF.sz RI) e.length Y]=g/\.tuple #[.agg [b0,I].toArray,J,.int .i64 (l)]=h/\Rw f b0 b1 m.fP/\Rw f I b3 m.iI/\Rw f J Y e/\aP f b0 m.fP/\aP f I m.iI
abbrev O8 {α:Type}[aF α] {Y:Type}[aF Y] (a:RJ) (c:List α) (d:List RJ) (e:List Y) (l:Int) (m:cH):Hp->List bN->RJ->Prop:=λf g h=>∃ b0 b1 I:RJ,∃ J Z b5:List RJ,[.row a 9 (aF.sz RI) c.length d,.row I 9 (aF.sz RI) e.length J]=g/\.tuple #[.agg [b0,b1].toArray,I,.int .i64 (l)]=h/\Rw f b0 Z m.fP/\Rw f b1 b5 m.iI/\Rw f I J e/\aP f b0 m.fP/\aP f b1 m.iI
abbrev O9 {α:Type}[aF α] {I:Type}[aF I] (a:RJ) (c:List α) (d:List RJ) (e:List I):Hp->List bN->RJ->Prop:=λf g h=>∃ b0:RJ,∃ b1:List RJ,[.row a 9 (aF.sz RI) c.length d,.row b0 9 (aF.sz RI) e.length b1]=g/\b0=h/\Rw f b0 b1 e
abbrev O_ (d:Nat) (e:aE) (l:Bool) (a:Hp) (c:List bN):Hp->List bN->RJ->Prop:=λf g h=>a=f/\.obj d (.cells ([.int .i64 (e.Time),.string (e.Kind),.string (e.Name),.int .i64 (e.Value)]:List RJ).toArray 42 (0,0))::c=g/\.bool (l)=h
abbrev Pa (d:Nat) (e:aE) (l:Int) (a:Hp) (c:List bN):Hp->List bN->RJ->Prop:=λf g h=>a=f/\.obj d (.cells ([.int .i64 (e.Time),.string (e.Kind),.string (e.Name),.int .i64 (e.Value)]:List RJ).toArray 42 (0,0))::c=g/\.int .i64 (l)=h
abbrev P3 (d:Nat) (e:Nat) (l:Nat) (m:d_) (n:aT) (o:Nat) (p:cS) (q:Int) (a:Hp) (c:List bN):Hp->List bN->RJ->Prop:=λf g h=>a.le f/\∃ b0 b1:RJ,∃ b2:List RJ,∃ b3 J:RJ,∃ b5:List RJ,∃ Y:RJ,∃ b7:List RJ,∃ b8 Z:RJ,∃ I:List RJ,kH (aV d e l m n)::.obj o (.cells ([b0,b1,b3,J,Y,b8,Z]:List RJ).toArray 87 (0,0))::.row b1 111 (aF.sz aZ) p.n.aO.length b2::.row J 117 (aF.sz bH) p.n.dS.length b5::.row Y 120 (aF.sz aH) p.n.bE.length b7::.row Z 9 (aF.sz RI) p.on.length I::c=g/\.int .i64 (q)=h/\aP f b0 p.n.bF/\Rw f b1 b2 p.n.aO/\aP f b3 p.n.aJ/\Rw f J b5 p.n.dS/\Rw f Y b7 p.n.bE/\aP f b8 p.n.bW/\Rw f Z I p.on
abbrev P4 {α:Type}[aF α] (a:List α):Hp->List bN->RJ->Prop:=λf g h=>∃ b0:RJ,∃ b1:List RJ,[.row b0 42 (aF.sz aE) a.length b1]=g/\b0=h/\Rw f b0 b1 a
abbrev Pb {α:Type}[aF α] (d:List α) (e:Nat) (l:RJ) (a:Hp) (c:List bN):Hp->List bN->RJ->Prop:=λf g h=>a=f/\∃ b0:RJ,∃ b1:List RJ,.row b0 9 (aF.sz RI) d.length b1::.obj e (.cells ([l]:List RJ).toArray 22 (0,0))::c=g/\b0=h/\uI b0 b1 d
abbrev NR {Y:Type} (a:Nat->((List RI)×Int×Int)->Option Y) (c:Y) (d:RJ) (e:Hp) (l:Nat) (m:Nat):Env->List bN->Nat->Hp->List bN->Env->Prop:=λf g h i j k=>∃ b0:List RI,∃ b1 I:Int,∃ J:List RJ,a h (b0,b1,I)=some c/\Rw i d J b0/\e.le i/\.row d 9 (aF.sz RI) b0.length J::g=j/\(l,.int .i64 (b1))::(m,.int .i64 (I))::f=k
abbrev NS {J:Type} (a:List RI->Int->Option J) (c:J) (d:RJ) (e:Hp) (l:Nat):Env->List bN->Hp->List bN->Env->Prop:=λf g h i j=>∃ b0:List RI,∃ b1:Int,∃ I:List RJ,a b0 b1=some c/\Rw h d I b0/\e=h/\.row d 9 (aF.sz RI) b0.length I::g=i/\(l,.int .i64 (b1))::f=j
abbrev NT {α:Type}[aF α] (d:List α) (e:Nat) (l:RJ) (m:Nat) (n:RJ) (o:RJ) (p:RJ) (q:RJ) (r:RJ) (s:RJ) (t:Bool) (a:Hp) (c:List bN):Hp->List bN->RJ->Prop:=λf g h=>a=f/\∃ b0:RJ,∃ b1:List RJ,.row b0 9 (aF.sz RI) d.length b1::.obj e (.cells ([l]:List RJ).toArray 22 (0,0))::.obj m (.cells ([n,o,p,q,r,s]:List RJ).toArray 29 (0,0))::c=g/\.tuple #[b0,.bool (t)]=h/\uI b0 b1 d
abbrev P5 {Z:Type} (a:List RI) (c:Nat->List RI->List aE->Option Z) (d:Z) (e:Hp) (l:Nat) (m:Nat):Env->List bN->Nat->Hp->List bN->Env->Prop:=λf g h i j k=>∃ b0:Nat,∃ b1:List RI,∃ I:List aE,∃ J:RJ,∃ Y:List RJ,(a).drop b0=b1/\b1.length=h/\c b0 b1 I=some d/\Rw i J Y I/\e.le i/\.row J 42 (aF.sz aE) I.length Y::.obj l (.cells ([J]:List RJ).toArray 96 (0,0))::g=j/\(m,.int .i64 (b0:Int))::f=k
abbrev P6 {α:Type}[aF α] (a:RJ) (c:cS) (d:List RJ) (e:RJ) (l:List RJ) (m:RJ) (n:List RJ) (o:RJ) (p:List RJ) (q:List α):Hp->List bN->RJ->Prop:=λf g h=>∃ b0:RJ,∃ b1:List RJ,[.row a 111 (aF.sz aZ) c.n.aO.length d,.row e 117 (aF.sz bH) c.n.dS.length l,.row m 120 (aF.sz aH) c.n.bE.length n,.row o 9 (aF.sz RI) c.on.length p,.row b0 9 (aF.sz RI) q.length b1]=g/\b0=h/\Rw f b0 b1 q
abbrev Pc {I:Type} (a:Int->Int->Option I) (c:I) (d:Hp) (e:Nat) (l:Nat):Env->List bN->Hp->List bN->Env->Prop:=λf g h i j=>∃ b0 b1:Int,a b0 b1=some c/\d=h/\g=i/\(e,.int .u64 (b0))::(l,.int .i64 (b1))::f=j
abbrev Cq (B:Nat) (w0:World) (n:FuncId) (a:List RJ) (H:Hp) (M:List bN) (F:Hp->List bN->Hp->List bN->RJ->Prop):Prop:=∀ ⦃w⦄,St B w0 H M w->Calls Proofs.Tryz.prog n a.toArray w (uX B w0 (F H M))
theorem fF {n:FuncId}{I:Func}{c:Code}{vs:List RJ}{N B:Nat}{w0:World}{H:Hp}{M:List bN}{F:Hp->List bN->Hp->List bN->RJ->Prop} (Z:Proofs.Tryz.prog.funcs[n]? = some I)
  (k:C ⟨Proofs.Tryz.prog,N,B,w0⟩ c (bodyPost Proofs.Tryz.prog I (uX B w0 (F H M))) H M (Dt 0 vs)) (Y:I.body=some c:=by rfl) (hN:I.ntmps=N:=by rfl) (J:Nat.ble vs.length N=true:=by rfl):Cq B w0 n vs H M F:=λ_ ht=>enter Z Y hN J ht k
variable {B:Nat}{w0 w:World}[uL B w0] {H:Hp}{M:List bN}
theorem yv {a0:cK}{v0 v1 v2 v3 v4 v5 v6:RJ}{r:cK} (O:nZ a0=some r) (h0:aP H v0 a0.bU.bF) (h1:aP H v1 a0.bU.aO) (h2:aP H v2 a0.bU.aJ) (h3:aP H v3 a0.bU.dS) (h4:aP H v4 a0.bU.bE) (h5:aP H v5 a0.bU.bW) (h6:aP H v6 a0.pL):
  Cq B w0 4 [.agg [v0,v1,v2,v3,v4,v5,v6].toArray] H M (λH M H' M' v=>H.le H'/\∃ J Y Z qv3 qv4 qv5 qv6:RJ,M=M'/\.agg [J,Y,Z,qv3,qv4,qv5,qv6].toArray=v/\aP H' J r.bU.bF/\aP H' Y r.bU.aO/\aP H' Z r.bU.aJ/\aP H' qv3 r.bU.dS/\aP H' qv4 r.bU.bE/\aP H' qv5 r.bU.bW/\aP H' qv6 r.pL):=by
 unfold nZ at O;refine fF func4 ?_;refine gs ?_;refine bx (λa5=>?_);refine al (λa6=>?_);refine gs ?_;refine Fa G G G G ?_;obtain ⟨a7,O⟩:=aI O;refine vB (α:=aH) (l:=0) (h:=(min (a0.bU.bE.length:Int) 3:Int).toNat) (xs:=a0.bU.bE) G G Vf sizeOf120 G h4 (by omega) (by omega) (.inl G) (λcap I=>by rw [RU G]; exact (.inl ⟨G,G⟩)) (λm hmm=>(.inr ⟨_,_,_,G,G,by omega,by omega,G⟩)) (.inl ⟨G,G⟩) ?_
 intro a1 a2 a8;refine go ?_;refine wt 1 ?_;refine gs ?_;refine Fa G G G G ?_;obtain ⟨a9,O⟩:=aI O;refine vB (α:=bH) (l:=0) (h:=(min (a0.bU.dS.length:Int) 4:Int).toNat) (xs:=a0.bU.dS) G G Wj sizeOf117 G h3 (by omega) (by omega) (.inl G) (λcap I=>by rw [RU G]; exact (.inl ⟨G,G⟩)) (λm hmm=>(.inr ⟨_,_,_,G,G,by omega,by omega,G⟩)) (.inl ⟨G,G⟩) ?_
 intro a3 a4 aa;refine go ?_;refine wt 0 ?_;refine gs ?_;refine wt 1 ?_;refine go ?_;obtain rfl:=RQ O;exact kP lE G (fV.agg G isAgg32 sizeOf32 (.head _) G) (.cons _ (.cons _ (.refl _))) (.refl _) ⟨lE,v0,v1,v2,a3,a1,v5,v6,G,G,h0,h1,h2,a4,a2,h5,h6⟩
theorem pn {J:RI}{r:Bool} (O:bB J=some r):
  Cq B w0 60 [.string (J)] H M (Ht r):=by
 unfold bB at O;refine fF func60 ?_;refine g2 ?_;refine gs ?_;obtain ⟨aa,O⟩:=aI O;refine wm G G R6 Vv VY G aa ?_;intro ak ab am ac;refine go ?_;obtain ⟨Z,ad,ae,O⟩:=cO O;refine cl [(0,_),(6,_),(7,_)] [] 0 [] 0 (QK (fQ J) Z r ab 8) _ G ⟨0,_,G,G,O,lE,G,G⟩ ?_;rintro _ a7 _ _ ⟨a0,a4,a8,rfl,O,an,rfl,rfl⟩;refine g2 ?_;refine bC G (λY=>?_) (λY=>?_);obtain ⟨a1,af,rfl,ag,ah⟩:=fI a8 Y;have O:=(ad _ _ _ _).symm.trans O;generalize ai:Z (a0+1) af=ao at O;unfold mi at O;refine g2 ?_;refine cj [(0,_),(6,_),(7,_),(8,_)] [] 0 (λu m H' M' L'=>a7=H'/\m=M'/\(31,.bool (!(((decide (65<=a1.n)) && (decide (a1.n<=90))) || (((decide (0<(a0:Int))) && (decide (48<=a1.n))) && (decide (a1.n<=57))))))::u=L') ?_ (λI=>?_);rintro _ _ _ ⟨rfl,rfl,rfl⟩;refine cd O G (λaj O=>?_) (λaj O=>?_)
 refine gs ?_;exact ef;refine gt ?_;refine gj ?_;exact kj (eb ah ai) (kK (bV ag ac.mm.cU));refine go ?_;cases ap:(decide (65<=a1.n));refine go ?_;cases aq:(decide (0<(a0:Int)));refine gj ?_;exact kj (I _ _ _ pk) kS;refine go ?_;cases ar:(decide (48<=a1.n));refine gj ?_;exact kj (I _ _ _ pk) kS;refine gj ?_;exact kj (I _ _ _ pk) kS;refine go ?_;cases au:(decide (a1.n<=90));refine go ?_;cases av:(decide (0<(a0:Int)));refine gj ?_;exact kj (I _ _ _ pk) kS;refine go ?_;cases aw:(decide (48<=a1.n));refine gj ?_;exact kj (I _ _ _ pk) kS;refine gj ?_;exact kj (I _ _ _ pk) kS;refine gj ?_;exact kj (I _ _ _ pk) kS;obtain rfl:=fH a8 Y;have O:=(ae _ _).symm.trans O;refine go ?_;refine cj [] [] 0 (λu m H' M' L'=>a7=H'/\m=M'/\(2,.bool ((decide (1<=(J.size:Int))) && (decide ((J.size:Int)<=8))))::u=L') ?_ (λa9=>?_);rintro _ _ _ ⟨rfl,rfl,rfl⟩
 refine go ?_;exact ef;refine go ?_;refine fK G G R6 G (go ?_);cases ax:(decide (1<=(J.size:Int)));refine gj ?_;exact kj (a9 _ _ _ pk) kS;refine go ?_;refine fK G G R6 G (gj ?_);exact kj (a9 _ _ _ pk) kS
theorem cA {I:(List RI)}{Y:RI}{v0:RJ}{r:Int} (O:bD I Y=some r) (h0:aP H v0 I):
  Cq B w0 74 [v0,.string (Y)] H M (xS r):=by
 unfold bD at O;refine fF func74 ?_;refine g2 ?_;refine gs ?_;obtain ⟨Z,a7,a8,O⟩:=iP O;refine cl [(0,_),(1,_),(7,_)] [] 0 [] 0 (Gi (((I.length:Int):Int).toNat) Z r H 8) _ G ⟨0,_,Se _,G,O,lE,G,G⟩ ?_;rintro _ ae _ _ ⟨a0,a1,a6,rfl,O,af,rfl,rfl⟩;refine g2 ?_;refine bC G (λJ=>?_) (λJ=>?_);obtain ⟨a9,rfl,aa,ab⟩:=lF a6 J;have O:=(a7 _ _ _).symm.trans O;generalize ac:Z a9 (a0+1)=ag at O;unfold lW at O;refine g2 ?_;refine gs ?_;obtain ⟨ah,ai,aj,O⟩:=aB O;refine go ?_;refine cd O G (λad O=>?_) (λad O=>?_);refine gs ?_;exact ef;refine gt ?_;refine gj ?_;exact kj (eb aa ac) (kK (eJ ab (eM (k_ (h0).cU))));obtain rfl:=lD a6 J;have O:=(a8 _ _).symm.trans O;refine gs ?_;exact ef
theorem cD {a0:(List RI)}{a1:RI}{v0:RJ}{r:Bool} (O:bJ a0 a1=some r) (Y:aP H v0 a0):
  Cq B w0 38 [v0,.string (a1)] H M (Ht r):=by
 unfold bJ at O;refine fF func38 ?_;refine g2 ?_;obtain ⟨J,I,O⟩:=aR O;refine cz @cA I ?_;refine go ?_;exact ef
theorem fU {a3:aU}{name:RI}{nodes:(List RI)}{b0:Nat}{J:Array MapEntry}{c0:Nat}{v0 v1:RJ}{r:Int×aU} (O:cC a3 name nodes=some r) (h0:s6 J c0 a3.seen) (h1:aP H v0 a3.nodes) (h2:aP H v1 nodes):
  Cq B w0 57 [.agg [.map (some b0),v0].toArray,.string (name),v1] H (.obj b0 (.map J c0)::M) (λH _ H' M' v=>H.le H'/\∃ I:Array MapEntry,∃ Y:Nat,∃ qv0:RJ,.obj b0 (.map I Y)::M=M'/\.int .i64 (r.1)=v/\s6 I Y r.2.seen/\aP H' qv0 r.2.nodes):=by
 unfold cC at O;refine fF func57 ?_;refine gs ?_;refine bx (λaj=>?_);refine g2 ?_;obtain ⟨ak,a7,O⟩:=aR O;refine cz @pn a7 ?_;refine go ?_;refine cd O G (λa8 O=>?_) (λa8 O=>?_);refine gs ?_;refine Ek [1] 1 ?_;exact en;refine gs ?_;refine BQ (z:=false) (k:=name) (.tail _ (.head _)) h0 G G runUnderlying133 R6 zeroValue4 G G G G (go ?_);refine cd O G (λa9 O=>?_) (λa9 O=>?_);refine gs ?_;refine Ek [1] 1 ?_;exact en;refine gs ?_;refine Wp [1] ?_;refine yj (k:=name) (v:=true) h0 G runUnderlying133 R6 G G G G G ?_;intro am an ao;refine g2 ?_;obtain ⟨a5,aa,ab,O⟩:=cO O;refine cl [(2,_),(3,_),(21,_),(22,_)] [] 0 [] 0 (QL nodes a5 r H 23) _ G ⟨0,_,G,G,O,lE,G,G⟩ ?_;rintro _ ap _ _ ⟨a0,a1,a6,rfl,O,aq,rfl,rfl⟩;refine g2 ?_;refine bC G (λa4=>?_) (λa4=>?_);obtain ⟨ar,ac,rfl,ad,ae⟩:=fI a6 a4;have O:=(aa _ _ _ _).symm.trans O
 generalize af:a5 (a0+1) ac=au at O;unfold iD at O;refine g2 ?_;refine gs ?_;obtain ⟨av,ag,O⟩:=aR O;refine cz @cD ag ?_;refine go ?_;refine cd O G (λah O=>?_) (λah O=>?_);refine gs ?_;refine Ek [0] 1 ?_;exact en;refine gt ?_;refine gj ?_;exact kj (eb ae af) (kK (bV ad h2.mm.cU));obtain rfl:=fH a6 a4;have O:=(ab _ _).symm.trans O;refine g2 ?_;cases Z:(decide ((nodes.length:Int)=2));have O:=dY Z O;refine pD fm 10 [aG,aG,ph (.bool (false)),aG,aG,aG,aG,aG,aG,aG] ⟨om,om,Pk Z,om,om,om,om,om,om,om,RM⟩ ?_;intro aw ax;refine dz ?_;refine go ?_;refine cF G ?_;refine gs ?_;refine Ek [0] 1 ?_;exact en;have O:=dZ Z O;obtain ⟨ay,az,b1,O⟩:=aB O;obtain ⟨b2,b3,b4,O⟩:=aB O;refine pD fm 10 [aG,aG,ph (.bool (true)),aG,aG,aG,aG,aG,aG,aG] ⟨om,om,Pk Z,om,om,om,om,om,om,om,RM⟩ ?_;intro b5 b6;refine dz ?_;refine go ?_
 refine cd O G (λai O=>?_) (λai O=>?_);refine gs ?_;refine Ek [0] 1 ?_;exact en;refine gs ?_;refine Ek [0] 1 ?_;exact en
theorem kY {a0 a1 I:Int}{r:Bool} (O:bI a0 a1 I=r):
  Cq B w0 90 [.int .i64 (a0),.int .i64 (a1),.int .i64 (I)] H M (Ht r):=by
 unfold bI at O;refine fF func90 ?_;refine gs ?_;refine cj [] [] 0 (λu m H' M' L'=>H=H'/\m=M'/\(6,.bool ((decide (a0<a1)) || (decide (I<a0))))::u=L') ?_ (λJ=>?_);rintro _ _ _ ⟨rfl,rfl,rfl⟩;refine go ?_;obtain rfl:=O;refine Ew H ?_;exact lf G G ⟨G,G,G⟩;refine go ?_;cases Y:(decide (a0<a1));refine gj ?_;exact kj (J _ _ _ pk) kS;refine gj ?_;exact kj (J _ _ _ pk) kS
theorem y9 {a0:aQ}{r:Int} (O:iS a0=r):
  Cq B w0 58 [.agg [.string (a0.Name),.string (a0.qe),.string (a0.To),.int .i64 (a0.X),.int .i64 (a0.C1),.int .i64 (a0.Shift),.int .i64 (a0.uu),.int .i64 (a0.yh),.int .i64 (a0.DR)].toArray] H M (xS r):=by
 unfold iS at O;refine fF func58 ?_;refine gs ?_;refine bx (λJ=>?_);refine gs ?_;refine cj [] [] 1 (λu m H' M' L'=>H=H'/\m=M'/\(32,.bool ((((((bI a0.X 1 10000) || (bI a0.C1 500 1500)) || (bI a0.Shift (-1000) 1000)) || (bI a0.uu 0 100000)) || (bI a0.yh a0.uu 100000)) || (bI a0.DR 0 200000)))::u=L') ?_ (λa1=>?_);rintro _ _ _ ⟨rfl,rfl,rfl⟩;refine cd O G (λI O=>?_) (λI O=>?_);refine gs ?_;obtain rfl:=O;refine Ew H ?_;exact lf G G ⟨G,G,G⟩;refine gs ?_;obtain rfl:=O;refine Ew H ?_;exact lf G G ⟨G,G,G⟩;refine go ?_;refine cz @kY (G:bI a0.X 1 10000=_) ?_;refine go ?_;cases Y:((bI a0.X 1 10000));refine go ?_;refine cz @kY (G:bI a0.C1 500 1500=_) ?_;refine go ?_;cases Z:((bI a0.C1 500 1500));refine go ?_;refine cz @kY (G:bI a0.Shift (-1000) 1000=_) ?_;refine go ?_;cases a6:((bI a0.Shift (-1000) 1000));refine go ?_;refine cz @kY (G:bI a0.uu 0 100000=_) ?_
 refine go ?_;cases a7:((bI a0.uu 0 100000));refine go ?_;refine cz @kY (G:bI a0.yh a0.uu 100000=_) ?_;refine go ?_;cases a8:((bI a0.yh a0.uu 100000));refine go ?_;refine cz @kY (G:bI a0.DR 0 200000=_) ?_;refine gj ?_;exact kx [] 1 (a1 _ _ _ pk) G kS;refine gj ?_;exact kx [] 1 (a1 _ _ _ pk) G kS;refine gj ?_;exact kx [] 1 (a1 _ _ _ pk) G kS;refine gj ?_;exact kx [] 1 (a1 _ _ _ pk) G kS;refine gj ?_;exact kx [] 1 (a1 _ _ _ pk) G kS;refine gj ?_;exact kx [] 1 (a1 _ _ _ pk) G kS
theorem jP {a0:Int}{r:Bool} (O:aW a0=r):
  Cq B w0 91 [.int .i64 (a0)] H M (Ht r):=by
 unfold aW at O;refine fF func91 ?_;refine g2 ?_;refine cz @kY (G:bI a0 0 100000=_) ?_;refine go ?_;obtain rfl:=O;refine Ew H ?_;exact lf G G ⟨G,G,G⟩
theorem wg {aa:aU}{I:aD}{b0:Nat}{es0:Array MapEntry}{c0:Nat}{v0 v1 v2 v3 v4 v5 v6:RJ}{r:Int×aU} (O:gG aa I=some r) (h0:s6 es0 c0 aa.seen) (h1:aP H v0 aa.nodes) (h2:aP H v1 I.bF) (h3:aP H v2 I.aO) (h4:aP H v3 I.aJ) (h5:aP H v4 I.dS) (h6:aP H v5 I.bE) (h7:aP H v6 I.bW):
  Cq B w0 59 [.agg [.map (some b0),v0].toArray,.agg [v1,v2,v3,v4,v5,v6].toArray] H (.obj b0 (.map es0 c0)::M) (λH _ H' M' v=>H.le H'/\∃ J:Array MapEntry,∃ qc0:Nat,∃ qv0:RJ,.obj b0 (.map J qc0)::M=M'/\.int .i64 (r.1)=v/\s6 J qc0 r.2.seen/\aP H' qv0 r.2.nodes):=by
 unfold gG at O;refine fF func59 ?_;refine gs ?_;refine bx (λc2=>?_);refine bx (λc3=>?_);refine g2 ?_;obtain ⟨aq,ay,az,O⟩:=cO O;refine cl [(2,_),(3,_),(15,_),(16,_)] [0,0] 1 [2] 0 (λu m n H' M' L'=>∃ (Y:Nat) (a7:List bH),∃ ab:(List (RI×Bool)),∃ ac:Array MapEntry,∃ ad:Nat,(I.dS).drop Y=a7/\a7.length=n/\aq Y a7 ab=some r/\s6 ac ad ab/\H.le H'/\.obj b0 (.map ac ad)::m=M'/\(17,.int .i64 ((Y:Int)))::u=L') _ G ⟨0,_,_,_,_,G,G,O,h0,lE,G,G⟩ ?_;rintro _ b1 _ _ ⟨Y,a7,ab,ac,ad,ar,rfl,O,b2,c4,rfl,rfl⟩;refine g2 ?_;refine bC G (λae=>?_) (λae=>?_);obtain ⟨a0,b3,rfl,b4,b5⟩:=fI ar ae;have O:=(ay _ _ _ _).symm.trans O;generalize b6:aq (Y+1) b3=c5 at O;unfold jG at O;refine g2 ?_;refine al (λc6=>?_);refine wt 0 ?_;refine g2 ?_;refine gH (α:=RI) (css:=[[.string (a0.Node)]]) (zs:=[.string (⟨#[]⟩)]) (out:=[.string (a0.Node)]) (ys:=[a0.Node]) G G G ⟨G,RM⟩ SS TK G TS (by kernel_rfl) G G G G ⟨[.string (a0.Node)],[],G,G,G⟩ G ?_
 intro c7 c8 b7;refine bZ (b7).rd G (λc9 cb cc=>?_);refine Wp [1] ?_;obtain ⟨ce,b8,O⟩:=aR O;refine ca @fU b8 ?_;rintro _ b9 _ ⟨cf,cg,ch,ci,rfl,rfl,ck,cm⟩;refine gs ?_;refine cd O G (λba O=>?_) (λba O=>?_);refine gs ?_;refine Ek [0] 3 ?_;exact en;refine go ?_;refine cj [(2,_),(3,_),(15,_),(16,_),(17,_)] [0,1,1] 1 (λu m H' M' L'=>b9=H'/\m=M'/\(47,.bool (((!(aW a0.jC)) || (bI a0.rr a0.jC 100000)) || (!(aW a0.C5))))::u=L') ?_ (λaf=>?_);rintro _ _ _ ⟨rfl,rfl,rfl⟩;refine cd O G (λbb O=>?_) (λbb O=>?_);refine gs ?_;refine Ek [0] 2 ?_;exact en;refine gt ?_;refine gj ?_;exact kj (eb b5 b6) (kK (bV b4 h5.mm.cU));refine go ?_;refine cz @jP (G:aW a0.jC=_) ?_;refine go ?_;cases cn:(aW a0.jC);refine gj ?_;exact kx [0,1,1] 1 (af _ _ _ pk) G kS;refine go ?_;refine cz @kY (G:bI a0.rr a0.jC 100000=_) ?_;refine go ?_;cases co:((bI a0.rr a0.jC 100000))
 refine go ?_;refine cz @jP (G:aW a0.C5=_) ?_;refine gj ?_;exact kx [0,1,1] 1 (af _ _ _ pk) G kS;refine gj ?_;exact kx [0,1,1] 1 (af _ _ _ pk) G kS;obtain rfl:=fH ar ae;have O:=(az _ _).symm.trans O;refine g2 ?_;obtain ⟨au,bc,bd,O⟩:=cO O;refine cl [(2,_),(3,_),(50,_),(51,_)] [1,1] 1 [] 0 (λu m n H' M' L'=>∃ (Z:Nat) (a8:List aH),∃ ag:(List (RI×Bool)),∃ ah:Array MapEntry,∃ ai:Nat,(I.bE).drop Z=a8/\a8.length=n/\au Z a8 ag=some r/\s6 ah ai ag/\b1.le H'/\.obj b0 (.map ah ai)::m=M'/\(52,.int .i64 ((Z:Int)))::u=L') _ G ⟨0,_,_,_,_,G,G,O,b2,lE,G,G⟩ ?_;rintro _ be _ _ ⟨Z,a8,ag,ah,ai,av,rfl,O,bf,cp,rfl,rfl⟩;refine g2 ?_;refine bC G (λaj=>?_) (λaj=>?_);obtain ⟨a5,bg,rfl,bh,bi⟩:=fI av aj;have O:=(bc _ _ _ _).symm.trans O;generalize bj:au (Z+1) bg=cq at O;unfold jH at O;refine g2 ?_
 refine al (λcr=>?_);refine wt 0 ?_;refine g2 ?_;refine gH (α:=RI) (css:=[[.string (a5.Node)]]) (zs:=[.string (⟨#[]⟩)]) (out:=[.string (a5.Node)]) (ys:=[a5.Node]) G G G ⟨G,RM⟩ SS TK G TS (by kernel_rfl) G G G G ⟨[.string (a5.Node)],[],G,G,G⟩ G ?_
 intro cs ct bk;refine bZ (bk).rd G (λcu cv cw=>?_);refine Wp [1] ?_;obtain ⟨cx,bl,O⟩:=aR O;refine ca @fU bl ?_;rintro _ d0 _ ⟨d1,d2,d3,d4,rfl,rfl,d5,d6⟩;refine gs ?_;refine cd O G (λbm O=>?_) (λbm O=>?_);refine gs ?_;refine Ek [0] 3 ?_;exact en;refine gs ?_;refine cz @jP (G:aW a5.c_=_) ?_;refine go ?_;refine cd O G (λbn O=>?_) (λbn O=>?_);refine gs ?_;refine Ek [0] 3 ?_;exact en;refine gt ?_;refine gj ?_;exact kx [0,1,1] 1 (eb bi bj) G (kK (bV bh h6.mm.cU));obtain rfl:=fH av aj;have O:=(bd _ _).symm.trans O;refine g2 ?_;obtain ⟨aw,bo,bp,O⟩:=cO O;refine cl [(2,_),(72,_),(73,_)] [2] 2 [0,1] 1 (λu m n H' M' L'=>∃ (a6:Nat) (a9:List cJ),∃ ak:(List (RI×Bool)),∃ am:Array MapEntry,∃ an:Nat,(I.bW).drop a6=a9/\a9.length=n/\aw a6 a9 ak=some r/\s6 am an ak/\be.le H'/\.obj b0 (.map am an)::m=M'/\(74,.int .i64 ((a6:Int)))::u=L') _ G ⟨0,_,_,_,_,G,G,O,bf,lE,G,G⟩ ?_
 rintro _ d7 _ _ ⟨a6,a9,ak,am,an,ax,rfl,O,d8,d9,rfl,rfl⟩;refine g2 ?_;refine bC G (λao=>?_) (λao=>?_);obtain ⟨a1,bq,rfl,br,bs⟩:=fI ax ao;have O:=(bo _ _ _ _).symm.trans O;generalize bt:aw (a6+1) bq=da at O;unfold jI at O;refine g2 ?_;refine al (λdb=>?_);refine wt 0 ?_;refine g2 ?_;refine gH (α:=RI) (css:=[[.string (a1.Node)]]) (zs:=[.string (⟨#[]⟩)]) (out:=[.string (a1.Node)]) (ys:=[a1.Node]) G G G ⟨G,RM⟩ SS TK G TS (by kernel_rfl) G G G G ⟨[.string (a1.Node)],[],G,G,G⟩ G ?_
 intro dc dd bu;refine bZ (bu).rd G (λde df dg=>?_);refine Wp [1] ?_;obtain ⟨dh,bv,O⟩:=aR O;refine ca @fU bv ?_;rintro _ bw _ ⟨di,dj,dk,dl,rfl,rfl,dm,dn⟩;refine gs ?_;refine cd O G (λbz O=>?_) (λbz O=>?_);refine gs ?_;refine Ek [0] 2 ?_;exact en;refine go ?_;refine cj [(2,_),(72,_),(73,_),(74,_)] [0,1] 1 (λu m H' M' L'=>bw=H'/\m=M'/\(103,.bool (((!(aW a1.sZ)) || (!(aW a1.Discharge))) || (!(aW a1.vz))))::u=L') ?_ (λap=>?_);rintro _ _ _ ⟨rfl,rfl,rfl⟩;refine cd O G (λc1 O=>?_) (λc1 O=>?_);refine gs ?_;refine Ek [0] 1 ?_;exact en;refine gt ?_;refine gj ?_;exact kj (eb bs bt) (kK (bV br h7.mm.cU));refine go ?_;refine cz @jP (G:aW a1.sZ=_) ?_;refine go ?_;cases dp:(aW a1.sZ);refine gj ?_;exact kx [0,1] 1 (ap _ _ _ pk) G kS;refine go ?_;refine cz @jP (G:aW a1.Discharge=_) ?_;refine go ?_;cases dq:(aW a1.Discharge);refine gj ?_
 exact kx [0,1] 1 (ap _ _ _ pk) G kS;refine go ?_;refine cz @jP (G:aW a1.vz=_) ?_;refine gj ?_;exact kx [0,1] 1 (ap _ _ _ pk) G kS;obtain rfl:=fH ax ao;have O:=(bp _ _).symm.trans O;refine gs ?_;refine Ek [0] 1 ?_;exact en
theorem mh {a0:aD}{v0 v1 v2 v3 v4 v5:RJ}{r:Int} (O:bX a0=some r) (h0:aP H v0 a0.bF) (h1:aP H v1 a0.aO) (h2:aP H v2 a0.aJ) (h3:aP H v3 a0.dS) (h4:aP H v4 a0.bE) (h5:aP H v5 a0.bW):
  Cq B w0 29 [.agg [v0,v1,v2,v3,v4,v5].toArray] H M (xS r):=by
 unfold bX at O;refine fF func29 ?_;refine gs ?_;refine bx (λbt=>?_);refine gs ?_;refine cj [(1,_)] [] 0 (λu m H' M' L'=>H=H'/\m=M'/\(47,.bool ((((((decide (24<(a0.bF.length:Int))) || (decide (32<(a0.aO.length:Int)))) || (decide (24<(a0.aJ.length:Int)))) || (decide (10<(a0.dS.length:Int)))) || (decide (12<(a0.bE.length:Int)))) || (decide (4<(a0.bW.length:Int)))))::u=L') ?_ (λJ=>?_);rintro _ _ _ ⟨rfl,rfl,rfl⟩;refine cd O G (λaw O=>?_) (λaw O=>?_);refine gs ?_;refine Ek [] 1 ?_;exact ef;refine gs ?_;refine Az G G (λY=>?_);refine go ?_;refine eB (css:=[[.map (some Y)],[v0]]) (zs:=[.map none,.slice none 0 0]) (out:=[.map (some Y),v0]) (places:=[(0,1),(1,1)]) G G G ⟨G,(aP.cells h0),RM⟩ zeroValue135 G runUnderlying135 (λw=>by kernel_rfl) G ?_
 refine al (λbu=>?_);refine wt 0 ?_;refine g2 ?_;obtain ⟨ao,ax,ay,O⟩:=cO O;refine cl [(1,_),(3,_),(53,_),(54,_)] [0,1] 1 [1] 0 (λu m n H' M' L'=>∃ (Z:Nat) (a8:List RI),∃ ab:(List (RI×Bool)),∃ ac:Array MapEntry,∃ ad:Nat,(a0.bF).drop Z=a8/\a8.length=n/\ao Z a8 ab=some r/\s6 ac ad ab/\H.le H'/\.obj Y (.map ac ad)::m=M'/\(55,.int .i64 ((Z:Int)))::u=L') _ G ⟨0,_,_,_,_,G,G,O,(s6.nil (κ:=RI) (ν:=Bool)),lE,G,G⟩ ?_;rintro _ az _ _ ⟨Z,a8,ab,ac,ad,ap,rfl,O,b0,bv,rfl,rfl⟩;refine g2 ?_;refine bC G (λae=>?_) (λae=>?_);obtain ⟨bw,b1,rfl,b2,b3⟩:=fI ap ae;have O:=(ax _ _ _ _).symm.trans O;generalize b4:ao (Z+1) b1=bz at O;unfold nk at O;refine g2 ?_;refine gs ?_;obtain ⟨c0,b5,O⟩:=aR O;refine ca @fU b5 ?_;rintro _ c1 _ ⟨c2,c3,c4,c5,rfl,rfl,c6,c7⟩;refine gs ?_
 refine cd O G (λb6 O=>?_) (λb6 O=>?_);refine gs ?_;refine Ek [] 3 ?_;exact ef;refine gt ?_;refine gj ?_;exact kj (eb b3 b4) (kK (bV b2 h0.mm.cU));obtain rfl:=fH ap ae;have O:=(ay _ _).symm.trans O;refine g2 ?_;obtain ⟨aq,b7,b8,O⟩:=cO O;refine cl [(1,_),(3,_),(67,_),(68,_)] [1,1] 1 [] 0 (λu m n H' M' L'=>∃ (a6:Nat) (a9:List aZ),∃ af:(List (RI×Bool)),∃ ag:Array MapEntry,∃ ah:Nat,(a0.aO).drop a6=a9/\a9.length=n/\aq a6 a9 af=some r/\s6 ag ah af/\az.le H'/\.obj Y (.map ag ah)::m=M'/\(69,.int .i64 ((a6:Int)))::u=L') _ G ⟨0,_,_,_,_,G,G,O,b0,lE,G,G⟩ ?_;rintro _ b9 _ _ ⟨a6,a9,af,ag,ah,ar,rfl,O,ba,c8,rfl,rfl⟩;refine g2 ?_;refine bC G (λai=>?_) (λai=>?_);obtain ⟨I,bb,rfl,bc,bd⟩:=fI ar ai;have O:=(b7 _ _ _ _).symm.trans O;generalize be:aq (a6+1) bb=c9 at O;unfold np at O;refine g2 ?_
 refine al (λcb=>?_);refine wt 0 ?_;refine gs ?_;refine gH (α:=RI) (css:=[[.string (I.A)],[.string (I.B_)]]) (zs:=[.string (⟨#[]⟩),.string (⟨#[]⟩)]) (out:=[.string (I.A),.string (I.B_)]) (ys:=[I.A,I.B_]) G G G ⟨G,G,RM⟩ SS TK G TS (by kernel_rfl) G G G G ⟨[.string (I.A)],[.string (I.B_)],G,G,⟨[.string (I.B_)],[],G,G,G⟩⟩ G ?_
 intro cc ce bf;refine bZ (bf).rd G (λcf cg ch=>?_);refine Wp [1] ?_;obtain ⟨ci,bg,O⟩:=aR O;refine ca @fU bg ?_;rintro _ ck _ ⟨cm,cn,co,cp,rfl,rfl,cq,cr⟩;refine gs ?_;refine cd O G (λbh O=>?_) (λbh O=>?_);refine gs ?_;refine Ek [] 4 ?_;exact ef;refine gt ?_;refine gj ?_;exact kx [0,1,1] 1 (eb bd be) G (kK (bV bc h1.mm.cU));obtain rfl:=fH ar ai;have O:=(b8 _ _).symm.trans O;refine g2 ?_;obtain ⟨au,bi,bj,O⟩:=cO O;refine cl [(1,_),(3,_),(87,_),(88,_)] [1,1] 1 [] 0 (λu m n H' M' L'=>∃ (a7:Nat) (aa:List aQ),∃ aj:(List (RI×Bool)),∃ ak:Array MapEntry,∃ am:Nat,(a0.aJ).drop a7=aa/\aa.length=n/\au a7 aa aj=some r/\s6 ak am aj/\b9.le H'/\.obj Y (.map ak am)::m=M'/\(89,.int .i64 ((a7:Int)))::u=L') _ G ⟨0,_,_,_,_,G,G,O,ba,lE,G,G⟩ ?_;rintro _ cs _ _ ⟨a7,aa,aj,ak,am,av,rfl,O,ct,cu,rfl,rfl⟩
 refine g2 ?_;refine bC G (λan=>?_) (λan=>?_);obtain ⟨a1,bk,rfl,bl,bm⟩:=fI av an;have O:=(bi _ _ _ _).symm.trans O;generalize bn:au (a7+1) bk=cv at O;unfold nq at O;refine g2 ?_;refine al (λcw=>?_);refine wt 0 ?_;refine g2 ?_;refine gH (α:=RI) (css:=[[.string (a1.qe)],[.string (a1.To)]]) (zs:=[.string (⟨#[]⟩),.string (⟨#[]⟩)]) (out:=[.string (a1.qe),.string (a1.To)]) (ys:=[a1.qe,a1.To]) G G G ⟨G,G,RM⟩ SS TK G TS (by kernel_rfl) G G G G ⟨[.string (a1.qe)],[.string (a1.To)],G,G,⟨[.string (a1.To)],[],G,G,G⟩⟩ G ?_
 intro cx d0 bo;refine bZ (bo).rd G (λd1 d2 d3=>?_);refine Wp [1] ?_;obtain ⟨d4,bp,O⟩:=aR O;refine ca @fU bp ?_;rintro _ d5 _ ⟨d6,d7,d8,d9,rfl,rfl,da,db⟩;refine gs ?_;refine cd O G (λbq O=>?_) (λbq O=>?_);refine gs ?_;refine Ek [] 4 ?_;exact ef;refine gs ?_;refine cz @y9 (G:iS a1=_) ?_;refine gs ?_;refine cd O G (λbr O=>?_) (λbr O=>?_);refine gs ?_;refine Ek [] 4 ?_;exact ef;refine gt ?_;refine gj ?_;exact kx [0,1,1] 1 (eb bm bn) G (kK (bV bl h2.mm.cU));obtain rfl:=fH av an;have O:=(bj _ _).symm.trans O;refine gs ?_;obtain ⟨dc,bs,O⟩:=aR O;refine ca @wg bs ?_;rintro _ dd _ ⟨de,df,dg,dh,rfl,rfl,di,dj⟩;refine go ?_;refine Ek [] 3 ?_;exact ef;refine go ?_;cases dk:(decide (24<(a0.bF.length:Int)));refine go ?_;cases dl:(decide (32<(a0.aO.length:Int)));refine go ?_;cases dm:(decide (24<(a0.aJ.length:Int)));refine go ?_;cases dn:(decide (10<(a0.dS.length:Int)))
 refine go ?_;cases dp:(decide (12<(a0.bE.length:Int)));refine gj ?_;exact kj (J _ _ _ pk) kS;refine gj ?_;exact kj (J _ _ _ pk) kS;refine gj ?_;exact kj (J _ _ _ pk) kS;refine gj ?_;exact kj (J _ _ _ pk) kS;refine gj ?_;exact kj (J _ _ _ pk) kS;refine gj ?_;exact kj (J _ _ _ pk) kS
theorem xa {ah:(List bM)}{v0:RJ}{r:Int} (O:kA ah=some r) (h0:aP H v0 ah):
  Cq B w0 61 [v0] H M (xS r):=by
 unfold kA at O;refine fF func61 ?_;refine q2 ?_;refine qs ?_;refine lr h0 ?_;refine qg ?_;refine cd O G (λbn O=>?_) (λbn O=>?_);refine qs ?_;exact ef;refine qs ?_;refine lr h0 ?_;refine qg ?_;refine cd O G (λbo O=>?_) (λbo O=>?_);refine qs ?_;exact ef;refine qs ?_;refine lr h0 ?_;obtain ⟨b4,O⟩:=aI O;refine eT (α:=Int) (zs:=[.int .i64 (0)]) (ze:=0) G G Tk ⟨_,G,G,G,G⟩ G G G G G G b4.1 b4.2 ?_;intro a3 d6 bp;refine q2 ?_;refine lr h0 ?_;refine qg ?_;obtain ⟨b5,bq,br,O⟩:=cO O;refine cl [(0,_),(3,_),(18,_),(19,_)] [] 1 [] 0 (λu m n H' M' L'=>∃ (a0:Nat) (ad:List bM),∃ a6:List Int,∃ ai:List RJ,(ah).drop a0=ad/\ad.length=n/\b5 a0 ad a6=some r/\Rw H' a3 ai a6/\H.le H'/\.row a3 3 (aF.sz Int) a6.length ai::m=M'/\(20,.int .i64 ((a0:Int)))::u=L') _ G ⟨0,_,_,_,G,G,O,bp,lE,G,G⟩ ?_;rintro _ Y _ _ ⟨a0,ad,a6,ai,b6,rfl,O,aa,d7,rfl,rfl⟩
 refine q2 ?_;refine bC G (λaj=>?_) (λaj=>?_);obtain ⟨a1,bs,rfl,ak,bt⟩:=fI b6 aj;have O:=(bq _ _ _ _).symm.trans O;generalize bu:b5 (a0+1) bs=am at O;unfold oE at O;refine qg ?_;refine cj [(0,_),(3,_),(18,_),(19,_),(20,_)] [] 1 (λu m H' M' L'=>∃ ae:List Int,∃ an:List RJ,dT am ae=some r/\Rw H' a3 an ae/\Y.le H'/\.row a3 3 (aF.sz Int) ae.length an::m=M'/\u=L') ?_ (λa7=>?_);rintro d8 _ _ ⟨ae,an,O,d9,da,rfl,rfl⟩;unfold dT at O;refine qj ?_;exact kj (eb bt bu) (kK (bV ak h0.mm.cU));refine qs ?_;obtain ⟨_,⟨rfl⟩,bv⟩:=(h0).elem ak;refine Br h0 ak ?_;refine PH bv ?_;refine al (λdb=>?_);refine qg ?_;refine wt 0 ?_;refine qg ?_;refine cj [(0,_),(3,_),(4,_),(5,_),(18,_),(19,_),(20,_)] [] 0 (λu m H' M' L'=>Y=H'/\m=M'/\(6,.bool ((decide (a1.Kind=2)) || (decide (a1.Kind=3))))::u=L') ?_ (λb7=>?_)
 rintro _ _ _ ⟨rfl,rfl,rfl⟩;refine qs ?_;refine cj [(0,_),(3,_),(4,_),(5,_),(6,_),(18,_),(19,_),(20,_)] [] 0 (λu m H' M' L'=>Y=H'/\m=M'/\(33,.bool ((decide (a1.Kind<0)) || (decide (6<a1.Kind))))::u=L') ?_ (λb8=>?_);rintro _ _ _ ⟨rfl,rfl,rfl⟩;refine cd O G (λbw O=>?_) (λbw O=>?_);refine qs ?_;refine Ek [] 2 ?_;exact ef;refine qs ?_;cases b9:((decide (a1.Kind=2)) || (decide (a1.Kind=3)));have O:=dY b9 O;refine qg ?_;refine cF G ?_;refine cj [(0,_),(3,_),(4,_),(5,_),(18,_),(19,_),(20,_)] [] 0 (λu m H' M' L'=>Y=H'/\m=M'/\(50,.bool (!decide (a1.Name=(⟨#[]⟩))))::u=L') ?_ (λbz=>?_);rintro _ _ _ ⟨rfl,rfl,rfl⟩;refine cd O G (λc0 O=>?_) (λc0 O=>?_);refine qs ?_;refine Ek [] 2 ?_;exact ef;refine qs ?_;obtain ⟨dc,dd,ao,O⟩:=aB O;refine uJ ao ?_;obtain ⟨_,rfl,c1⟩:=(aa).elem ao;refine wr 1 0 ((a0:Int)) aa ao c1 G G ?_
 intro de a4 df dg;refine q2 ?_;refine cd O G (λc2 O=>?_) (λc2 O=>?_);refine qs ?_;refine cj [(0,_),(3,_),(4,_),(5,_),(18,_),(19,_),(20,_)] [] 0 (λu m H' M' L'=>Y=H'/\m=M'/\(87,.bool (((decide ((a0:Int)=0)) || (!decide (a1.A=(i64.wrap ((a0:Int)-1))))) || (!decide (a1.B_=0))))::u=L') ?_ (λap=>?_);rintro _ _ _ ⟨rfl,rfl,rfl⟩;refine cd O G (λc3 O=>?_) (λc3 O=>?_);refine qs ?_;refine Ek [] 2 ?_;exact ef;refine qg ?_;obtain ⟨c4,dh,ba,O⟩:=aB O;refine uJ ba ?_;obtain ⟨_,rfl,c5⟩:=(a4).elem ba;refine zh c5 ?_;obtain ⟨di,dj,aq,O⟩:=aB O;refine uJ aq ?_;obtain ⟨_,rfl,c6⟩:=(a4).elem aq;refine wr 0 0 c4 a4 aq c6 G G ?_;intro dk dl dm dn;refine qj ?_;exact kx [0] 1 (a7 _ _ _ pk);refine qg ?_;cases dp:(decide ((a0:Int)=0));refine qg ?_;cases dq:(decide (a1.A=(i64.wrap ((a0:Int)-1))));refine qj ?_;exact kj (ap _ _ _ pk) kS
 refine qj ?_;exact kj (ap _ _ _ pk) kS;refine qj ?_;exact kj (ap _ _ _ pk) kS;refine cj [(0,_),(3,_),(4,_),(5,_),(18,_),(19,_),(20,_)] [] 0 (λu m H' M' L'=>∃ ar:Bool,eE a6 am a1 a0 ar=some r/\Y=H'/\m=M'/\(96,.bool (ar))::u=L') ?_ (λbb=>?_);rintro _ _ _ ⟨ar,O,rfl,rfl,rfl⟩;unfold eE at O;refine cd O G (λc7 O=>?_) (λc7 O=>?_);refine q2 ?_;cases a8:(decide ((a0:Int)=0));have O:=dY a8 O;cases ab:(decide (a1.B_=(i64.wrap ((a0:Int)-1))));have O:=dY ab O;refine pD fm 26 [aG,ph (.bool (false)),aG,aG,aG,aG,aG,ph (.bool (true)),aG,aG,aG,aG,aG,aG,aG,aG,aG,aG,aG,aG,aG,aG,aG,aG,aG,aG] ⟨qm,qn a8,qm,qm,qm,qm,qm,qn ab,qm,qm,qm,qm,qm,qm,qm,qm,qm,qm,qm,qm,qm,qm,qm,qm,qm,qm,RM⟩ ?_;intro ds dt;refine dz ?_;refine qg ?_;refine cT G ?_;refine qs ?_;refine Ek [] 2 ?_;exact ef;have O:=dZ ab O
 obtain ⟨au,du,av,O⟩:=aB O;obtain ⟨_,rfl,bc⟩:=(a4).elem av;cases af:(decide (au=0));have O:=dY af O;obtain ⟨c8,dv,bd,O⟩:=aB O;obtain ⟨_,rfl,c9⟩:=(a4).elem bd;refine pD fm 26 [aG,ph (.bool (false)),aG,aG,aG,aG,aG,ph (.bool (false)),aG,aG,aG,aG,aG,ph (.pointer (some ((Value.base (a3)).add ((i64.wrap ((a0:Int)-1):Int).toNat*aF.sz Int)))),ph (.int .i64 (au)),ph (.bool (false)),aG,aG,aG,aG,aG,aG,aG,ph (.pointer (some ((Value.base (a3)).add ((i64.wrap ((a0:Int)-1):Int).toNat*aF.sz Int)))),ph (.int .i64 (c8)),aG] ⟨qm,qn a8,qm,qm,qm,qm,qm,qn ab,qm,qm,qm,qm,qm,?_,?_,qn af,qm,qm,qm,qm,qm,qm,qm,?_,?_,qm,RM⟩ ?_;intro J Z X Rest hR;refine dr ?_;intro hU I;refine uJ av ?_;exact o0 ⟨G,G⟩;rintro J Z X Rest hR _ _ ⟨rfl,rfl⟩ _ _ ⟨rfl,rfl⟩ hU I;refine zh bc ?_;exact o0 ⟨G,G⟩;intro J Z X Rest hR;refine dr ?_
 intro hU I;refine uJ bd ?_;exact o0 ⟨G,G⟩;rintro J Z X Rest hR _ _ ⟨rfl,rfl⟩ _ _ ⟨rfl,rfl⟩ hU I;refine zh c9 ?_;exact o0 ⟨G,G⟩;intro dw dx;refine dz ?_;refine qg ?_;refine cd O G (λcb O=>?_) (λcb O=>?_);refine qs ?_;refine Ek [] 2 ?_;exact ef;refine qg ?_;obtain ⟨cc,dy,be,O⟩:=aB O;refine uJ be ?_;obtain ⟨_,rfl,ce⟩:=(a4).elem be;refine zh ce ?_;obtain ⟨e0,e1,aw,O⟩:=aB O;refine uJ aw ?_;obtain ⟨_,rfl,cf⟩:=(a4).elem aw;refine wr 0 0 cc a4 aw cf G G ?_;intro e2 e3 e4 e5;refine qj ?_;exact kx [0] 1 (a7 _ _ _ pk);have O:=dZ af O;refine pD fm 26 [aG,ph (.bool (false)),aG,aG,aG,aG,aG,ph (.bool (false)),aG,aG,aG,aG,aG,ph (.pointer (some ((Value.base (a3)).add ((i64.wrap ((a0:Int)-1):Int).toNat*aF.sz Int)))),ph (.int .i64 (au)),ph (.bool (true)),aG,aG,aG,aG,aG,aG,aG,aG,aG,aG] ⟨qm,qn a8,qm,qm,qm,qm,qm,qn ab,qm,qm,qm,qm,qm,?_,?_,qn af,qm,qm,qm,qm,qm,qm,qm,qm,qm,qm,RM⟩ ?_
 intro J Z X Rest hR;refine dr ?_;intro hU I;refine uJ av ?_;exact o0 ⟨G,G⟩;rintro J Z X Rest hR _ _ ⟨rfl,rfl⟩ _ _ ⟨rfl,rfl⟩ hU I;refine zh bc ?_;exact o0 ⟨G,G⟩;intro e6 e7;refine dz ?_;refine qg ?_;refine cT G ?_;refine qs ?_;refine Ek [] 2 ?_;exact ef;have O:=dZ a8 O;refine pD fm 26 [aG,ph (.bool (true)),aG,aG,aG,aG,aG,aG,aG,aG,aG,aG,aG,aG,aG,aG,aG,aG,aG,aG,aG,aG,aG,aG,aG,aG] ⟨qm,qn a8,qm,qm,qm,qm,qm,qm,qm,qm,qm,qm,qm,qm,qm,qm,qm,qm,qm,qm,qm,qm,qm,qm,qm,qm,RM⟩ ?_;intro e8 e9;refine dz ?_;refine qg ?_;refine cT G ?_;refine qs ?_;refine Ek [] 2 ?_;exact ef;refine cj [(0,_),(3,_),(18,_),(19,_),(20,_)] [0] 1 (λu m H' M' L'=>Y=H'/\m=M'/\(71,.bool ((!decide (a1.A=0)) || (!decide (a1.B_=0))))::u=L') ?_ (λbf=>?_);rintro _ _ _ ⟨rfl,rfl,rfl⟩;refine cd O G (λcg O=>?_) (λcg O=>?_);refine qs ?_
 refine Ek [] 1 ?_;exact ef;refine qj ?_;exact kj (a7 _ _ _ pk);refine qg ?_;cases ea:(decide (a1.A=0));refine qj ?_;exact kx [0] 1 (bf _ _ _ pk) G kS;refine qj ?_;exact kx [0] 1 (bf _ _ _ pk) G kS;refine qs ?_;refine cd O G (λch O=>?_) (λch O=>?_);refine qj ?_;exact kj (bb _ _ _ pk);refine qj ?_;exact kj (bb _ _ _ pk);refine qj ?_;exact kj (bz _ _ _ pk);have O:=dZ b9 O;refine qg ?_;obtain ⟨ec,ci,O⟩:=aR O;refine cz @pn ci ?_;refine qg ?_;refine cd O G (λck O=>?_) (λck O=>?_);refine qs ?_;refine Ek [] 2 ?_;exact ef;refine cj [(0,_),(3,_),(4,_),(5,_),(18,_),(19,_),(20,_)] [] 0 (λu m H' M' L'=>Y=H'/\m=M'/\(50,.bool (false))::u=L') ?_ (λcm=>?_);rintro _ _ _ ⟨rfl,rfl,rfl⟩;refine cF G ?_;refine qs ?_;obtain ⟨ed,ee,ax,O⟩:=aB O;refine uJ ax ?_;obtain ⟨_,rfl,cn⟩:=(aa).elem ax;refine wr 1 0 ((a0:Int)) aa ax cn G G ?_;intro eg a5 eh ei
 refine q2 ?_;refine cd O G (λco O=>?_) (λco O=>?_);refine qs ?_;refine cj [(0,_),(3,_),(4,_),(5,_),(18,_),(19,_),(20,_)] [] 0 (λu m H' M' L'=>Y=H'/\m=M'/\(87,.bool (((decide ((a0:Int)=0)) || (!decide (a1.A=(i64.wrap ((a0:Int)-1))))) || (!decide (a1.B_=0))))::u=L') ?_ (λay=>?_);rintro _ _ _ ⟨rfl,rfl,rfl⟩;refine cd O G (λcp O=>?_) (λcp O=>?_);refine qs ?_;refine Ek [] 2 ?_;exact ef;refine qg ?_;obtain ⟨cq,ej,bg,O⟩:=aB O;refine uJ bg ?_;obtain ⟨_,rfl,cr⟩:=(a5).elem bg;refine zh cr ?_;obtain ⟨ek,el,az,O⟩:=aB O;refine uJ az ?_;obtain ⟨_,rfl,cs⟩:=(a5).elem az;refine wr 0 0 cq a5 az cs G G ?_;intro em eo ep er;refine qj ?_;exact kx [0] 1 (a7 _ _ _ pk);refine qg ?_;cases es:(decide ((a0:Int)=0));refine qg ?_;cases et:(decide (a1.A=(i64.wrap ((a0:Int)-1))));refine qj ?_;exact kj (ay _ _ _ pk) kS;refine qj ?_
 exact kj (ay _ _ _ pk) kS;refine qj ?_;exact kj (ay _ _ _ pk) kS;refine cj [(0,_),(3,_),(4,_),(5,_),(18,_),(19,_),(20,_)] [] 0 (λu m H' M' L'=>∃ b0:Bool,jR a6 am a1 a0 b0=some r/\Y=H'/\m=M'/\(96,.bool (b0))::u=L') ?_ (λbh=>?_);rintro _ _ _ ⟨b0,O,rfl,rfl,rfl⟩;unfold jR at O;refine cd O G (λct O=>?_) (λct O=>?_);refine q2 ?_;cases a9:(decide ((a0:Int)=0));have O:=dY a9 O;cases ac:(decide (a1.B_=(i64.wrap ((a0:Int)-1))));have O:=dY ac O;refine pD fm 26 [aG,ph (.bool (false)),aG,aG,aG,aG,aG,ph (.bool (true)),aG,aG,aG,aG,aG,aG,aG,aG,aG,aG,aG,aG,aG,aG,aG,aG,aG,aG] ⟨qm,qn a9,qm,qm,qm,qm,qm,qn ac,qm,qm,qm,qm,qm,qm,qm,qm,qm,qm,qm,qm,qm,qm,qm,qm,qm,qm,RM⟩ ?_;intro eu ev;refine dz ?_;refine qg ?_;refine cT G ?_;refine qs ?_;refine Ek [] 2 ?_;exact ef;have O:=dZ ac O;obtain ⟨b1,ew,b2,O⟩:=aB O
 obtain ⟨_,rfl,bi⟩:=(a5).elem b2;cases ag:(decide (b1=0));have O:=dY ag O;obtain ⟨cu,ex,bj,O⟩:=aB O;obtain ⟨_,rfl,cv⟩:=(a5).elem bj;refine pD fm 26 [aG,ph (.bool (false)),aG,aG,aG,aG,aG,ph (.bool (false)),aG,aG,aG,aG,aG,ph (.pointer (some ((Value.base (a3)).add ((i64.wrap ((a0:Int)-1):Int).toNat*aF.sz Int)))),ph (.int .i64 (b1)),ph (.bool (false)),aG,aG,aG,aG,aG,aG,aG,ph (.pointer (some ((Value.base (a3)).add ((i64.wrap ((a0:Int)-1):Int).toNat*aF.sz Int)))),ph (.int .i64 (cu)),aG] ⟨qm,qn a9,qm,qm,qm,qm,qm,qn ac,qm,qm,qm,qm,qm,?_,?_,qn ag,qm,qm,qm,qm,qm,qm,qm,?_,?_,qm,RM⟩ ?_;intro J Z X Rest hR;refine dr ?_;intro hU I;refine uJ b2 ?_;exact o0 ⟨G,G⟩;rintro J Z X Rest hR _ _ ⟨rfl,rfl⟩ _ _ ⟨rfl,rfl⟩ hU I;refine zh bi ?_;exact o0 ⟨G,G⟩;intro J Z X Rest hR;refine dr ?_;intro hU I;refine uJ bj ?_
 exact o0 ⟨G,G⟩;rintro J Z X Rest hR _ _ ⟨rfl,rfl⟩ _ _ ⟨rfl,rfl⟩ hU I;refine zh cv ?_;exact o0 ⟨G,G⟩;intro ey ez;refine dz ?_;refine qg ?_;refine cd O G (λcw O=>?_) (λcw O=>?_);refine qs ?_;refine Ek [] 2 ?_;exact ef;refine qg ?_;obtain ⟨cx,fa,bk,O⟩:=aB O;refine uJ bk ?_;obtain ⟨_,rfl,d0⟩:=(a5).elem bk;refine zh d0 ?_;obtain ⟨fb,fd,b3,O⟩:=aB O;refine uJ b3 ?_;obtain ⟨_,rfl,d1⟩:=(a5).elem b3;refine wr 0 0 cx a5 b3 d1 G G ?_;intro fe ff fg fh;refine qj ?_;exact kx [0] 1 (a7 _ _ _ pk);have O:=dZ ag O;refine pD fm 26 [aG,ph (.bool (false)),aG,aG,aG,aG,aG,ph (.bool (false)),aG,aG,aG,aG,aG,ph (.pointer (some ((Value.base (a3)).add ((i64.wrap ((a0:Int)-1):Int).toNat*aF.sz Int)))),ph (.int .i64 (b1)),ph (.bool (true)),aG,aG,aG,aG,aG,aG,aG,aG,aG,aG] ⟨qm,qn a9,qm,qm,qm,qm,qm,qn ac,qm,qm,qm,qm,qm,?_,?_,qn ag,qm,qm,qm,qm,qm,qm,qm,qm,qm,qm,RM⟩ ?_
 intro J Z X Rest hR;refine dr ?_;intro hU I;refine uJ b2 ?_;exact o0 ⟨G,G⟩;rintro J Z X Rest hR _ _ ⟨rfl,rfl⟩ _ _ ⟨rfl,rfl⟩ hU I;refine zh bi ?_;exact o0 ⟨G,G⟩;intro fi fj;refine dz ?_;refine qg ?_;refine cT G ?_;refine qs ?_;refine Ek [] 2 ?_;exact ef;have O:=dZ a9 O;refine pD fm 26 [aG,ph (.bool (true)),aG,aG,aG,aG,aG,aG,aG,aG,aG,aG,aG,aG,aG,aG,aG,aG,aG,aG,aG,aG,aG,aG,aG,aG] ⟨qm,qn a9,qm,qm,qm,qm,qm,qm,qm,qm,qm,qm,qm,qm,qm,qm,qm,qm,qm,qm,qm,qm,qm,qm,qm,qm,RM⟩ ?_;intro fk fl;refine dz ?_;refine qg ?_;refine cT G ?_;refine qs ?_;refine Ek [] 2 ?_;exact ef;refine cj [(0,_),(3,_),(18,_),(19,_),(20,_)] [0] 1 (λu m H' M' L'=>Y=H'/\m=M'/\(71,.bool ((!decide (a1.A=0)) || (!decide (a1.B_=0))))::u=L') ?_ (λbl=>?_);rintro _ _ _ ⟨rfl,rfl,rfl⟩;refine cd O G (λd2 O=>?_) (λd2 O=>?_);refine qs ?_
 refine Ek [] 1 ?_;exact ef;refine qj ?_;exact kj (a7 _ _ _ pk);refine qg ?_;cases fn:(decide (a1.A=0));refine qj ?_;exact kx [0] 1 (bl _ _ _ pk) G kS;refine qj ?_;exact kx [0] 1 (bl _ _ _ pk) G kS;refine qs ?_;refine cd O G (λd3 O=>?_) (λd3 O=>?_);refine qj ?_;exact kj (bh _ _ _ pk);refine qj ?_;exact kj (bh _ _ _ pk);refine qj ?_;exact kj (cm _ _ _ pk);refine qg ?_;cases fo:(decide (a1.Kind<0));refine qj ?_;exact kj (b8 _ _ _ pk) kS;refine qj ?_;exact kj (b8 _ _ _ pk) kS;refine qg ?_;cases fp:(decide (a1.Kind=2));refine qj ?_;exact kj (b7 _ _ _ pk) kS;refine qj ?_;exact kj (b7 _ _ _ pk) kS;obtain rfl:=fH b6 aj;have O:=(br _ _).symm.trans O;refine q2 ?_;refine lr h0 ?_;refine qg ?_;obtain ⟨fr,fs,bm,O⟩:=aB O;refine uJ bm ?_;obtain ⟨_,rfl,d4⟩:=(aa).elem bm;refine zh d4 ?_;refine qg ?_;refine cd O G (λd5 O=>?_) (λd5 O=>?_);refine qs ?_;refine Ek [] 1 ?_
 exact ef;refine qs ?_;refine Ek [] 1 ?_;exact ef
theorem uZ {I:(List bA)}{v0:RJ}{r:Int} (O:mO I=some r) (h0:aP H v0 I):
  Cq B w0 30 [v0] H M (xS r):=by
 unfold mO at O;refine fF func30 ?_;refine g2 ?_;refine gs ?_;refine cd O G (λa7 O=>?_) (λa7 O=>?_);refine gs ?_;exact ef;refine g2 ?_;obtain ⟨Y,a8,a9,O⟩:=cO O;refine cl [(9,_),(10,_)] [] 0 [] 0 (λu m n H' M' L'=>∃ (a0:Nat) (a1:List bA),(I).drop a0=a1/\a1.length=n/\Y a0 a1 ()=some r/\H.le H'/\m=M'/\(11,.int .i64 ((a0:Int)))::u=L') _ G ⟨0,_,G,G,O,lE,G,G⟩ ?_;rintro _ ah _ _ ⟨a0,a1,Z,rfl,O,ai,rfl,rfl⟩;refine g2 ?_;refine bC G (λJ=>?_) (λJ=>?_);obtain ⟨aj,aa,rfl,a6,ab⟩:=fI Z J;have O:=(a8 _ _ _ _).symm.trans O;generalize ac:Y (a0+1) aa=ak at O;unfold rD at O;refine g2 ?_;obtain ⟨_,⟨am,rfl,an⟩,ao⟩:=(h0).elem a6;refine go ?_;refine al (λap=>?_);refine wt 0 ?_;refine g2 ?_;obtain ⟨aq,ad,O⟩:=aR O;refine cz @pn ad ?_;refine go ?_;refine cd O G (λae O=>?_) (λae O=>?_);refine gs ?_
 refine Ek [] 1 ?_;exact ef;refine gs ?_;obtain ⟨ar,af,O⟩:=aR O;refine cz @xa af ?_;refine gs ?_;refine cd O G (λag O=>?_) (λag O=>?_);refine gs ?_;refine Ek [] 1 ?_;exact ef;refine gt ?_;refine gj ?_;exact kx [] 1 (eb ab ac) G (kK (bV a6 h0.mm.cU));obtain rfl:=fH Z J;have O:=(a9 _ _).symm.trans O;refine gs ?_;exact ef
theorem vT {a0:aD}{v0 v1 v2 v3 v4 v5:RJ}{r:(List RI)} (O:qH a0=some r) (h0:aP H v0 a0.bF) (h1:aP H v1 a0.aO) (h2:aP H v2 a0.aJ) (h3:aP H v3 a0.dS) (h4:aP H v4 a0.bE) (h5:aP H v5 a0.bW):
  Cq B w0 23 [.agg [v0,v1,v2,v3,v4,v5].toArray] H M (P7 r):=by
 unfold qH at O;refine fF func23 ?_;refine gs ?_;refine bx (λam=>?_);refine g2 ?_;refine gs ?_;refine kD 9 (aF.sz RI) ?_;obtain ⟨a8,aa,ab,O⟩:=cO O;refine cl [(7,_),(8,_)] [] 2 [0] 1 (λu m n H' M' L'=>∃ (I:Nat) (Y:List aH),∃ J:List RI,∃ Z:RJ,∃ a6:List RJ,(a0.bE).drop I=Y/\Y.length=n/\a8 I Y J=some r/\Rw H' Z a6 J/\H.le H'/\.row Z 9 (aF.sz RI) J.length a6::m=M'/\(3,Z)::(9,.int .i64 ((I:Int)))::u=L') _ G ⟨0,_,_,_,_,G,G,O,Rw.nil,lE,G,G⟩ ?_;rintro _ an _ _ ⟨I,Y,J,Z,a6,a9,rfl,O,ac,ao,rfl,rfl⟩;refine g2 ?_;refine bC G (λa7=>?_) (λa7=>?_);obtain ⟨a1,ad,rfl,ae,af⟩:=fI a9 a7;have O:=(aa _ _ _ _).symm.trans O;generalize ag:a8 (I+1) ad=ap at O;unfold uU at O;refine g2 ?_;refine al (λaq=>?_);refine wt 0 ?_;refine go ?_;refine dD (α:=RI) (css:=[[.string (a1.Name)]]) (zs:=[.string (⟨#[]⟩)]) (out:=[.string (a1.Name)]) (ys:=[a1.Name]) G G G ⟨G,RM⟩ SS TK G TS (by kernel_rfl) G G G G ⟨[.string (a1.Name)],[],G,G,G⟩ G ?_
 intro ar ah au ai av aj;have aw:Value.oC ah=([a1.Name]).length:=by rw [ai]; rfl
 obtain ⟨ak,O⟩:=aI O;refine Wp [1] ?_;refine cX (α:=RI) (l:=J) (ys:=[a1.Name]) G G Ua ⟨_,G,G,G,G⟩ G G G G G ac.mm aj ak ?_;intro ax ay az;refine gt ?_;refine gj ?_;exact kx [0] 1 (eb af ag) G (kK (bV ae h4.mm.cU));obtain rfl:=fH a9 a7;have O:=(ab _ _).symm.trans O;refine gs ?_;exact ef
theorem y_ {a0:aH}{a1:RI}{b0:Nat}{r:Bool} (O:pq a0 a1=r):
  Cq B w0 122 [.agg [.string (a0.Name),.string (a0.Node),.int .i64 (a0.c_)].toArray,.pointer (some ⟨b0,0,none⟩)] H (.obj b0 (.cells ([.string (a1)]:List RJ).toArray 9 (0,0))::M) (λH _=>Qi b0 a1 r H M):=by
 unfold pq at O;refine fF func122 ?_;refine gs ?_;refine bx (λI=>?_);refine gs ?_;obtain rfl:=O;refine Ek [1] 1 ?_;refine Ew H ?_;exact lf G G ⟨G,G,G⟩
theorem mJ {I:(List aH)}{a1:RI}{v0:RJ}{b0:Nat}{r:Int} (O:cN I a1=some r) (h0:aP H v0 I):
  Cq B w0 63 [v0,.func (.func 122) [].toArray [.pointer (some ⟨b0,0,none⟩)].toArray] H (.obj b0 (.cells ([.string (a1)]:List RJ).toArray 9 (0,0))::M) (λH _=>QM b0 a1 r H M):=by
 unfold cN at O;refine fF func63 ?_;refine g2 ?_;refine gs ?_;obtain ⟨Y,a7,a8,O⟩:=iP O;refine cl [(0,_),(1,_),(7,_)] [] 0 [] 0 (Gi (((I.length:Int):Int).toNat) Y r H 8) _ G ⟨0,_,Se _,G,O,lE,G,G⟩ ?_;rintro _ af _ _ ⟨a0,a2,Z,rfl,O,ag,rfl,rfl⟩;refine g2 ?_;refine bC G (λJ=>?_) (λJ=>?_);obtain ⟨a9,rfl,aa,ab⟩:=lF Z J;have O:=(a7 _ _ _).symm.trans O;generalize ac:Y a9 (a0+1)=ah at O;unfold dI at O;refine g2 ?_;refine gs ?_;obtain ⟨ad,ai,aj,O⟩:=aB O;refine go ?_;refine oh call122 G G G G (λw ht=>(y_ (O:=(G:pq ad a1=_))  ht :)) ?_;rintro _ _ _ ⟨rfl,rfl,rfl⟩;refine go ?_;refine cd O G (λae O=>?_) (λae O=>?_);refine gs ?_;exact ef;refine gt ?_;refine gj ?_;exact kj (eb aa ac) (kK (eJ ab (eM (k_ (h0).cU))));obtain rfl:=lD Z J;have O:=(a8 _ _).symm.trans O;refine gs ?_;exact ef
theorem mo {a1:(List aH)}{a0:RI}{v0:RJ}{b0:Nat}{r:Bool} (O:cI a1 a0=some r) (Y:aP H v0 a1):
  Cq B w0 121 [v0,.func (.func 122) [].toArray [.pointer (some ⟨b0,0,none⟩)].toArray] H (.obj b0 (.cells ([.string (a0)]:List RJ).toArray 9 (0,0))::M) (λH _=>Qi b0 a0 r H M):=by
 unfold cI at O;refine fF func121 ?_;refine g2 ?_;obtain ⟨J,I,O⟩:=aR O;refine cz @mJ I ?_;refine go ?_;exact ef
theorem wD {a0:aD}{on:(List RI)}{v0 v1 v2 v3 v4 v5 v6:RJ}{r:Int} (O:eD a0 on=some r) (h0:aP H v0 a0.bF) (h1:aP H v1 a0.aO) (h2:aP H v2 a0.aJ) (h3:aP H v3 a0.dS) (h4:aP H v4 a0.bE) (h5:aP H v5 a0.bW) (h6:aP H v6 on):
  Cq B w0 85 [.agg [v0,v1,v2,v3,v4,v5].toArray,v6] H M (xS r):=by
 unfold eD at O;refine fF func85 ?_;refine gs ?_;refine bx (λak=>?_);refine g2 ?_;obtain ⟨am,a8,O⟩:=aR O;refine cz @mh a8 ?_;refine gs ?_;refine cd O G (λa9 O=>?_) (λa9 O=>?_);refine gs ?_;refine Ek [] 1 ?_;exact ef;refine g2 ?_;obtain ⟨Y,aa,ab,O⟩:=cO O;refine cl [(1,_),(2,_),(13,_),(14,_)] [] 0 [] 0 (QL on Y r H 15) _ G ⟨0,_,G,G,O,lE,G,G⟩ ?_;rintro _ an _ _ ⟨a1,a3,Z,rfl,O,ao,rfl,rfl⟩;refine g2 ?_;refine bC G (λJ=>?_) (λJ=>?_);obtain ⟨ap,ac,rfl,ad,ae⟩:=fI Z J;have O:=(aa _ _ _ _).symm.trans O;generalize af:Y (a1+1) ac=aq at O;unfold qB at O;refine g2 ?_;refine al (λar=>?_);refine go ?_;refine wt 0 ?_;refine gs ?_;obtain ⟨au,ag,O⟩:=aR O;refine cz @mo ag ?_;refine go ?_;refine cd O G (λah O=>?_) (λah O=>?_);refine gs ?_;refine Ek [] 2 ?_;exact ef;refine gs ?_;obtain ⟨av,O⟩:=aI O;refine pD fm 4 [aG,aG,(λH rs v=>∃ I:RJ,[]=rs/\I=v/\aP H I (tG on 0 (((a1:Int):Int).toNat))),aG] ⟨om,om,?_,om,RM⟩ ?_
 rintro HX hX X Rest hR _ _ ⟨rfl,rfl⟩ _ _ ⟨rfl,rfl⟩ hU hUp;refine vB (α:=RI) (l:=0) (h:=((a1:Int):Int).toNat) (xs:=on) G G SS TK G h6.mm (by omega) (by omega) (.inl G) (λcap hcap=>by rw [RU G]; exact (.inl ⟨G,G⟩)) (λm hmm=>(.inr ⟨_,_,_,G,G,by omega,by omega,G⟩)) (.inl ⟨G,G⟩) ?_
 intro I a7 aw;exact o0 ⟨I,G,G,(a7)⟩;intro ax ay;refine dr ?_;rintro _ _ ⟨I,rfl,rfl,a7⟩;refine dz ?_;obtain ⟨az,ai,O⟩:=aR O;refine cz @cD ai ?_;refine go ?_;refine cd O G (λaj O=>?_) (λaj O=>?_);refine gs ?_;refine Ek [] 2 ?_;exact ef;refine gt ?_;refine gj ?_;exact kx [1] 1 (eb ae af) G (kK (bV ad h6.mm.cU));obtain rfl:=fH Z J;have O:=(ab _ _).symm.trans O;refine gs ?_;refine Ek [] 1 ?_;exact ef
theorem AD {B:Nat}{w0 w:World}{H:Hp}{M:List bN}{s:List RI}{v0:RJ} (I:aP H v0 s) (hz:s.length*16<=140737488355328) (ht:St B w0 H M w):
  Calls prog 32 [v0].toArray w (uX B w0 (P7 s H M)):=by
 refine enter func32 G G G ht ?_;obtain ⟨o,n,c,rfl⟩:=I.shape;refine bK ?_;refine aM (aK G G G ?_);refine a_ (aS ?_);refine bK ?_;refine bK ?_;refine aM (bT G G G (su G G SS G G ?_));refine a_ (aS ?_);cases o with
 | none=>
  refine bC (b:=true) G (λ_=>?_) (λJ=>Bool.noConfusion J);obtain rfl:=I.isNil;refine bK ?_;refine aM (aK G G G ?_);refine a_ (aS ?_);refine mu (jB ?_);refine cB 9 (aF.sz RI) ?_;exact lf G G ⟨G,.slice none 0 0,[],G,G,(Rw.nil (H:=H)).pY⟩
 | some a=>
  refine bC (b:=false) G (λJ=>Bool.noConfusion J) (λ_=>?_);refine mw (aS ?_);refine bK ?_;refine aM (qM RI G G SS TK ?_);intro v1 yU Y;refine bT G G G (cX (α:=RI) (l:=[]) (ys:=s) (bytes:=16) G G Ua ⟨_,G,G,G,G⟩ G G G G G Y I (by simpa using hz) ?_)
  intro v2 tJ Z;refine aK G G G ?_;refine a_ (aS ?_);refine mu ?_;exact lf G G ⟨G,v2,tJ,G,G,Z.pY⟩
theorem IW {B:Nat}{w0 w:World}{H:Hp}{M:List bN}{s:List aZ}{v0:RJ} (J:aP H v0 s) (hz:s.length*56<=140737488355328) (ht:St B w0 H M w):
  Calls prog 49 [v0].toArray w (uX B w0 λH' M' v=>H=H'/\∃ (v':RJ) (I:List RJ),.row v' 111 (aF.sz aZ) s.length I::M=M'/\v'=v/\uI v' I s):=by
 refine enter func49 G G G ht ?_;obtain ⟨o,n,c,rfl⟩:=J.shape;refine bK ?_;refine aM (aK G G G ?_);refine a_ (aS ?_);refine bK ?_;refine bK ?_;refine aM (bT G G G (su G G runUnderlying23 G G ?_));refine a_ (aS ?_);cases o with
 | none=>
  refine bC (b:=true) G (λ_=>?_) (λY=>Bool.noConfusion Y);obtain rfl:=J.isNil;refine bK ?_;refine aM (aK G G G ?_);refine a_ (aS ?_);refine mu (jB ?_);refine cB 111 (aF.sz aZ) ?_;exact lf G G ⟨G,.slice none 0 0,[],G,G,(Rw.nil (H:=H)).pY⟩
 | some a=>
  refine bC (b:=false) G (λY=>Bool.noConfusion Y) (λ_=>?_);refine mw (aS ?_);refine bK ?_;refine aM (qM aZ G G runUnderlying23 sizeOf111 ?_);intro v1 yU Z;refine bT G G G (cX (α:=aZ) (l:=[]) (ys:=s) (bytes:=56) G G underlying23 ⟨_,G,G,G,G⟩ G G G G G Z J (by simpa using hz) ?_)
  intro v2 tJ h2;refine aK G G G ?_;refine a_ (aS ?_);refine mu ?_;exact lf G G ⟨G,v2,tJ,G,G,h2.pY⟩
theorem IX {B:Nat}{w0 w:World}{H:Hp}{M:List bN}{s:List aQ}{v0:RJ} (J:aP H v0 s) (hz:s.length*96<=140737488355328) (ht:St B w0 H M w):
  Calls prog 50 [v0].toArray w (uX B w0 λH' M' v=>H=H'/\∃ (v':RJ) (I:List RJ),.row v' 114 (aF.sz aQ) s.length I::M=M'/\v'=v/\uI v' I s):=by
 refine enter func50 G G G ht ?_;obtain ⟨o,n,c,rfl⟩:=J.shape;refine bK ?_;refine aM (aK G G G ?_);refine a_ (aS ?_);refine bK ?_;refine bK ?_;refine aM (bT G G G (su G G runUnderlying24 G G ?_));refine a_ (aS ?_);cases o with
 | none=>
  refine bC (b:=true) G (λ_=>?_) (λY=>Bool.noConfusion Y);obtain rfl:=J.isNil;refine bK ?_;refine aM (aK G G G ?_);refine a_ (aS ?_);refine mu (jB ?_);refine cB 114 (aF.sz aQ) ?_;exact lf G G ⟨G,.slice none 0 0,[],G,G,(Rw.nil (H:=H)).pY⟩
 | some a=>
  refine bC (b:=false) G (λY=>Bool.noConfusion Y) (λ_=>?_);refine mw (aS ?_);refine bK ?_;refine aM (qM aQ G G runUnderlying24 sizeOf114 ?_);intro v1 yU Z;refine bT G G G (cX (α:=aQ) (l:=[]) (ys:=s) (bytes:=96) G G underlying24 ⟨_,G,G,G,G⟩ G G G G G Z J (by simpa using hz) ?_)
  intro v2 tJ h2;refine aK G G G ?_;refine a_ (aS ?_);refine mu ?_;exact lf G G ⟨G,v2,tJ,G,G,h2.pY⟩
theorem IY {B:Nat}{w0 w:World}{H:Hp}{M:List bN}{s:List bH}{v0:RJ} (J:aP H v0 s) (hz:s.length*56<=140737488355328) (ht:St B w0 H M w):
  Calls prog 51 [v0].toArray w (uX B w0 λH' M' v=>H=H'/\∃ (v':RJ) (I:List RJ),.row v' 117 (aF.sz bH) s.length I::M=M'/\v'=v/\uI v' I s):=by
 refine enter func51 G G G ht ?_;obtain ⟨o,n,c,rfl⟩:=J.shape;refine bK ?_;refine aM (aK G G G ?_);refine a_ (aS ?_);refine bK ?_;refine bK ?_;refine aM (bT G G G (su G G Wj G G ?_));refine a_ (aS ?_);cases o with
 | none=>
  refine bC (b:=true) G (λ_=>?_) (λY=>Bool.noConfusion Y);obtain rfl:=J.isNil;refine bK ?_;refine aM (aK G G G ?_);refine a_ (aS ?_);refine mu (jB ?_);refine cB 117 (aF.sz bH) ?_;exact lf G G ⟨G,.slice none 0 0,[],G,G,(Rw.nil (H:=H)).pY⟩
 | some a=>
  refine bC (b:=false) G (λY=>Bool.noConfusion Y) (λ_=>?_);refine mw (aS ?_);refine bK ?_;refine aM (qM bH G G Wj sizeOf117 ?_);intro v1 yU Z;refine bT G G G (cX (α:=bH) (l:=[]) (ys:=s) (bytes:=56) G G underlying25 ⟨_,G,G,G,G⟩ G G G G G Z J (by simpa using hz) ?_)
  intro v2 tJ h2;refine aK G G G ?_;refine a_ (aS ?_);refine mu ?_;exact lf G G ⟨G,v2,tJ,G,G,h2.pY⟩
theorem IZ {B:Nat}{w0 w:World}{H:Hp}{M:List bN}{s:List aH}{v0:RJ} (J:aP H v0 s) (hz:s.length*40<=140737488355328) (ht:St B w0 H M w):
  Calls prog 52 [v0].toArray w (uX B w0 λH' M' v=>H=H'/\∃ (v':RJ) (I:List RJ),.row v' 120 (aF.sz aH) s.length I::M=M'/\v'=v/\uI v' I s):=by
 refine enter func52 G G G ht ?_;obtain ⟨o,n,c,rfl⟩:=J.shape;refine bK ?_;refine aM (aK G G G ?_);refine a_ (aS ?_);refine bK ?_;refine bK ?_;refine aM (bT G G G (su G G Vf G G ?_));refine a_ (aS ?_);cases o with
 | none=>
  refine bC (b:=true) G (λ_=>?_) (λY=>Bool.noConfusion Y);obtain rfl:=J.isNil;refine bK ?_;refine aM (aK G G G ?_);refine a_ (aS ?_);refine mu (jB ?_);refine cB 120 (aF.sz aH) ?_;exact lf G G ⟨G,.slice none 0 0,[],G,G,(Rw.nil (H:=H)).pY⟩
 | some a=>
  refine bC (b:=false) G (λY=>Bool.noConfusion Y) (λ_=>?_);refine mw (aS ?_);refine bK ?_;refine aM (qM aH G G Vf sizeOf120 ?_);intro v1 yU Z;refine bT G G G (cX (α:=aH) (l:=[]) (ys:=s) (bytes:=40) G G underlying26 ⟨_,G,G,G,G⟩ G G G G G Z J (by simpa using hz) ?_)
  intro v2 tJ h2;refine aK G G G ?_;refine a_ (aS ?_);refine mu ?_;exact lf G G ⟨G,v2,tJ,G,G,h2.pY⟩
theorem I0 {B:Nat}{w0 w:World}{H:Hp}{M:List bN}{s:List cJ}{v0:RJ} (J:aP H v0 s) (hz:s.length*56<=140737488355328) (ht:St B w0 H M w):
  Calls prog 53 [v0].toArray w (uX B w0 λH' M' v=>H=H'/\∃ (v':RJ) (I:List RJ),.row v' 123 (aF.sz cJ) s.length I::M=M'/\v'=v/\uI v' I s):=by
 refine enter func53 G G G ht ?_;obtain ⟨o,n,c,rfl⟩:=J.shape;refine bK ?_;refine aM (aK G G G ?_);refine a_ (aS ?_);refine bK ?_;refine bK ?_;refine aM (bT G G G (su G G runUnderlying27 G G ?_));refine a_ (aS ?_);cases o with
 | none=>
  refine bC (b:=true) G (λ_=>?_) (λY=>Bool.noConfusion Y);obtain rfl:=J.isNil;refine bK ?_;refine aM (aK G G G ?_);refine a_ (aS ?_);refine mu (jB ?_);refine cB 123 (aF.sz cJ) ?_;exact lf G G ⟨G,.slice none 0 0,[],G,G,(Rw.nil (H:=H)).pY⟩
 | some a=>
  refine bC (b:=false) G (λY=>Bool.noConfusion Y) (λ_=>?_);refine mw (aS ?_);refine bK ?_;refine aM (qM cJ G G runUnderlying27 sizeOf123 ?_);intro v1 yU Z;refine bT G G G (cX (α:=cJ) (l:=[]) (ys:=s) (bytes:=56) G G underlying27 ⟨_,G,G,G,G⟩ G G G G G Z J (by simpa using hz) ?_)
  intro v2 tJ h2;refine aK G G G ?_;refine a_ (aS ?_);refine mu ?_;exact lf G G ⟨G,v2,tJ,G,G,h2.pY⟩
theorem rl {a0:aD}{v0 v1 v2 v3 v4 v5:RJ}{r:aD} (O:kL a0=some r) (h0:aP H v0 a0.bF) (h1:aP H v1 a0.aO) (h2:aP H v2 a0.aJ) (h3:aP H v3 a0.dS) (h4:aP H v4 a0.bE) (h5:aP H v5 a0.bW):
  Cq B w0 21 [.agg [v0,v1,v2,v3,v4,v5].toArray] H M (QN r):=by
 unfold kL at O;refine fF func21 ?_;refine gs ?_;refine bx (λau=>?_);refine al (λav=>?_);refine gs ?_;obtain ⟨ai,O⟩:=aI O;obtain ⟨aj,O⟩:=aI O;obtain ⟨ak,O⟩:=aI O;obtain ⟨am,O⟩:=aI O;obtain ⟨an,O⟩:=aI O;refine pD fm 17 [aG,aG,(NI a0.bF),aG,aG,(λH rs v=>∃ I:RJ,∃ a7:List RJ,[.row I 111 (aF.sz aZ) a0.aO.length a7]=rs/\I=v/\Rw H I a7 a0.aO),aG,aG,(λH rs v=>∃ J:RJ,∃ a8:List RJ,[.row J 114 (aF.sz aQ) a0.aJ.length a8]=rs/\J=v/\Rw H J a8 a0.aJ),aG,aG,(λH rs v=>∃ Y:RJ,∃ a9:List RJ,[.row Y 117 (aF.sz bH) a0.dS.length a9]=rs/\Y=v/\Rw H Y a9 a0.dS),aG,aG,(λH rs v=>∃ Z:RJ,∃ aa:List RJ,[.row Z 120 (aF.sz aH) a0.bE.length aa]=rs/\Z=v/\Rw H Z aa a0.bE),aG,aG] ⟨om,om,?_,om,om,?_,om,om,?_,om,om,?_,om,om,?_,om,om,RM⟩ ?_;rintro HX hX X Rest hR _ _ ⟨rfl,rfl⟩ hU hUp
 refine f_ call32 G G G (λw ht=>(AD (s:=a0.bF) h0.mm ai ht :)) ?_;rintro _ _ _ ⟨rfl,a1,a6,rfl,rfl,ab⟩;have ab:=ab HX;exact oe [.row a1 9 (aF.sz RI) a0.bF.length a6] lE ⟨a1,a6,G,G,(ab)⟩;rintro HX hX X Rest hR _ _ ⟨rfl,rfl⟩ _ _ ⟨a1,a6,rfl,rfl,ab⟩ hU hUp;refine f_ call49 G G G (λw ht=>(IW (s:=a0.aO) h1.mm aj ht :)) ?_;rintro _ _ _ ⟨rfl,I,a7,rfl,rfl,ac⟩;have ac:=ac HX;exact oe [.row I 111 (aF.sz aZ) a0.aO.length a7] lE ⟨I,a7,G,G,(ac)⟩;rintro HX hX X Rest hR _ _ ⟨rfl,rfl⟩ _ _ ⟨I,a7,rfl,rfl,ac⟩ hU hUp;refine f_ call50 G G G (λw ht=>(IX (s:=a0.aJ) h2.mm ak ht :)) ?_;rintro _ _ _ ⟨rfl,J,a8,rfl,rfl,ad⟩;have ad:=ad HX;exact oe [.row J 114 (aF.sz aQ) a0.aJ.length a8] lE ⟨J,a8,G,G,(ad)⟩;rintro HX hX X Rest hR _ _ ⟨rfl,rfl⟩ _ _ ⟨J,a8,rfl,rfl,ad⟩ hU hUp;refine f_ call51 G G G (λw ht=>(IY (s:=a0.dS) h3.mm am ht :)) ?_
 rintro _ _ _ ⟨rfl,Y,a9,rfl,rfl,ae⟩;have ae:=ae HX;exact oe [.row Y 117 (aF.sz bH) a0.dS.length a9] lE ⟨Y,a9,G,G,(ae)⟩;rintro HX hX X Rest hR _ _ ⟨rfl,rfl⟩ _ _ ⟨Y,a9,rfl,rfl,ae⟩ hU hUp;refine f_ call52 G G G (λw ht=>(IZ (s:=a0.bE) h4.mm an ht :)) ?_;rintro _ _ _ ⟨rfl,Z,aa,rfl,rfl,af⟩;have af:=af HX;exact oe [.row Z 120 (aF.sz aH) a0.bE.length aa] lE ⟨Z,aa,G,G,(af)⟩;intro ao ap;refine dr ?_;rintro _ _ ⟨a1,a6,rfl,rfl,ab⟩;refine dr ?_;rintro _ _ ⟨I,a7,rfl,rfl,ac⟩;refine dr ?_;rintro _ _ ⟨J,a8,rfl,rfl,ad⟩;refine dr ?_;rintro _ _ ⟨Y,a9,rfl,rfl,ae⟩;refine dr ?_;rintro _ _ ⟨Z,aa,rfl,rfl,af⟩;refine dz ?_;refine Wp [0,0,0,0,0,0,0] ?_;obtain ⟨aq,O⟩:=aI O;refine f_ call53 G G G (λw ht=>(I0 (s:=a0.bW) h5.mm aq ht :)) ?_;rintro _ _ _ ⟨rfl,ah,ar,rfl,rfl,ag⟩;have ag:=ag ao;refine eB (css:=[[a1],[I],[J],[Y],[Z],[ah]]) (zs:=[.slice none 0 0,.slice none 0 0,.slice none 0 0,.slice none 0 0,.slice none 0 0,.slice none 0 0]) (out:=[a1,I,J,Y,Z,ah]) (places:=[(0,1),(1,1),(2,1),(3,1),(4,1),(5,1)]) G G G ⟨(Rw.cells ab),(Rw.cells ac),(Rw.cells ad),(Rw.cells ae),(Rw.cells af),(Rw.cells ag),RM⟩ zeroValue29 G Wl (λw=>by kernel_rfl) G ?_
 refine wt 6 ?_;refine go ?_;obtain rfl:=RQ O;exact kP ap G (fV.agg G VA Vj (.head _) G) (.cons _ (.cons_cons _ (.cons_cons _ (.cons_cons _ (.cons_cons _ (.cons_cons _ (.cons_cons _ (.cons _ (.refl _))))))))) (.trans (.swap _ _ _) (.trans (.cons _ (.swap _ _ _)) (.trans (.cons _ (.cons _ (.swap _ _ _))) (.trans (.cons _ (.cons _ (.cons _ (.swap _ _ _)))) (.cons _ (.cons _ (.cons _ (.cons _ (.swap _ _ _))))))))) ⟨G,a1,a6,I,a7,J,a8,Y,a9,Z,aa,ah,ar,G,G,(ab).pY,(ac).pY,(ad).pY,(ae).pY,(af).pY,(ag).pY⟩
theorem vR {a0:aH}{a1:(List RI)}{b0:Nat}{v0:RJ}{r:Bool} (O:ml a0 a1=some r) (Z:aP H v0 a1):
  Cq B w0 124 [.agg [.string (a0.Name),.string (a0.Node),.int .i64 (a0.c_)].toArray,.pointer (some ⟨b0,0,none⟩)] H (.obj b0 (.cells [v0].toArray 22 (0,0))::M) (λH _=>NJ b0 v0 r H M):=by
 unfold ml at O;refine fF func124 ?_;refine gs ?_;refine bx (λJ=>?_);refine gs ?_;obtain ⟨Y,I,O⟩:=aR O;refine cz @cD I ?_;refine go ?_;refine Ek [1] 1 ?_;exact ef
theorem na {I:(List aH)}{Y:(List RI)}{v0:RJ}{b0:Nat}{v1:RJ}{r:Int} (O:eR I Y=some r) (h0:aP H v0 I) (h1:aP H v1 Y):
  Cq B w0 63 [v0,.func (.func 124) [].toArray [.pointer (some ⟨b0,0,none⟩)].toArray] H (.obj b0 (.cells [v1].toArray 22 (0,0))::M) (λH _=>NK b0 v1 r H M):=by
 unfold eR at O;refine fF func63 ?_;refine g2 ?_;refine gs ?_;obtain ⟨Z,a7,a8,O⟩:=iP O;refine cl [(0,_),(1,_),(7,_)] [] 0 [] 0 (Gi (((I.length:Int):Int).toNat) Z r H 8) _ G ⟨0,_,Se _,G,O,lE,G,G⟩ ?_;rintro _ af _ _ ⟨a0,a1,a6,rfl,O,ag,rfl,rfl⟩;refine g2 ?_;refine bC G (λJ=>?_) (λJ=>?_);obtain ⟨a9,rfl,aa,ab⟩:=lF a6 J;have O:=(a7 _ _ _).symm.trans O;generalize ac:Z a9 (a0+1)=ah at O;unfold gZ at O;refine g2 ?_;refine gs ?_;obtain ⟨ai,aj,ak,O⟩:=aB O;refine go ?_;obtain ⟨am,ad,O⟩:=aR O;refine oh call124 G G G G (λw ht=>(vR (O:=ad) h1.mm ht :)) ?_;rintro _ _ _ ⟨rfl,rfl,rfl⟩;refine go ?_;refine cd O G (λae O=>?_) (λae O=>?_);refine gs ?_;exact ef;refine gt ?_;refine gj ?_;exact kj (eb aa ac) (kK (eJ ab (eM (k_ (h0).cU))));obtain rfl:=lD a6 J;have O:=(a8 _ _).symm.trans O;refine gs ?_;exact ef
theorem mH {a4:(List aH)}{I:(List RI)}{v0:RJ}{sX:List RJ}{b0:Nat}{v1:RJ}{r:(List aH)} (O:dQ a4 I=some r) (h0:Rw H v0 sX a4) (h1:aP H v1 I):
  Cq B w0 123 [v0,.func (.func 124) [].toArray [.pointer (some ⟨b0,0,none⟩)].toArray] H (.row v0 120 (aF.sz aH) a4.length sX::.obj b0 (.cells [v1].toArray 22 (0,0))::M) (λH _ H' M' v=>H=H'/\∃ Y:RJ,∃ J:List RJ,.row Y 120 (aF.sz aH) r.length J::.obj b0 (.cells [v1].toArray 22 (0,0))::M=M'/\Y=v/\uI Y J r):=by
 unfold dQ at O;refine fF func123 ?_;refine g2 ?_;obtain ⟨aq,ab,O⟩:=aR O;refine cy @na ab ?_;rintro _ _ _ ⟨rfl,⟨_,rfl,rfl,rfl⟩⟩;refine g2 ?_;refine cd O G (λac O=>?_) (λac O=>?_);refine gs ?_;exact ef;refine g2 ?_;obtain ⟨a9,ad,ae,O⟩:=gQ O;refine cl [(0,_),(1,_)] [1] 1 [] 0 (λu m n H' M' L'=>∃ a0:List aH,∃ a1 Z:Int,∃ a5:List RJ,a9 n (a0,a1,Z)=some r/\Rw H' v0 a5 a0/\H.le H'/\.row v0 120 (aF.sz aH) a0.length a5::m=M'/\(5,.int .i64 (a1))::(6,.int .i64 (Z))::u=L') eI G ⟨_,_,_,_,O,h0,lE,G,G⟩ ?_;rintro a6 af _ _ ⟨a0,a1,Z,a5,O,ag,ar,rfl,rfl⟩
 rcases a6 with _ | a6
 exact nomatch (ae _).symm.trans O;have O:=(ad _ _).symm.trans O;generalize ah:a9 a6=ai at O
 try dsimp only at O
 unfold gS at O;refine g2 ?_;refine cd O G (λaj O=>?_) (λaj O=>?_);refine go ?_;refine cj [(0,_),(1,_),(6,_)] [1] 1 (λu m H' M' L'=>∃ a3:List aH,∃ a7:Int,∃ a8:List RJ,dG Z ai a3 a7=some r/\Rw H' v0 a8 a3/\af=H'/\.row v0 120 (aF.sz aH) a3.length a8::m=M'/\(5,.int .i64 (a7))::u=L') ?_ (λaa=>?_);rintro _ _ _ ⟨a3,a7,a8,O,au,rfl,rfl,rfl⟩;unfold dG at O;refine gj ?_;exact kj (A9 ah);refine gs ?_;obtain ⟨ak,av,aw,O⟩:=aB O;refine go ?_;refine al (λax=>?_);refine wt 0 ?_;refine gs ?_;refine Wp [2] ?_;obtain ⟨ay,am,O⟩:=aR O;refine oh call124 G G G G (λw ht=>(vR (O:=am) h1.mm ht :)) ?_;rintro _ _ _ ⟨rfl,rfl,rfl⟩;refine go ?_;refine cd O G (λan O=>?_) (λan O=>?_);refine gs ?_;obtain ⟨az,b1,b2,O⟩:=aB O;refine go ?_;refine wF 2 0 ak ?_;intro b3 b4 b5;refine a_ (aS ?_);refine gj ?_;exact kx [0,0] 1 (aa _ _ _ pk)
 refine gj ?_;exact kx [2,0] 1 (aa _ _ _ pk);refine gs ?_;obtain ⟨ao,O⟩:=aI O;refine uv (α:=aH) (zs:=[.string (⟨#[]⟩),.string (⟨#[]⟩),.int .i64 (0)]) (ze:=(aH.mk (⟨#[]⟩) (⟨#[]⟩) 0)) G G (λ_=>G) underlying26 Vf sizeOf120 zeroValue120 G G G G G G ag ao ?_;intro b6 b7 ap;refine gs ?_;obtain ⟨b8,O⟩:=aI O;refine uw (α:=aH) (l:=0) (h:=(a1:Int).toNat) G G Vf sizeOf120 G G ap (by omega) (by omega) (λm hmm=>(.inr ⟨_,_,_,G,G,by omega,by omega,G⟩)) (.inl ⟨G,G⟩) ?_
 intro b9 ba bb;refine go ?_;exact ef
theorem xd {a0:aD}{on:(List RI)}{v0 v1 v2 v3 v4 v5 v6:RJ}{r:aD} (O:pS a0 on=some r) (h0:aP H v0 a0.bF) (h1:aP H v1 a0.aO) (h2:aP H v2 a0.aJ) (h3:aP H v3 a0.dS) (h4:aP H v4 a0.bE) (h5:aP H v5 a0.bW) (h6:aP H v6 on):
  Cq B w0 86 [.agg [v0,v1,v2,v3,v4,v5].toArray,v6] H M (QN r):=by
 unfold pS at O;refine fF func86 ?_;refine gs ?_;refine bx (λan=>?_);refine bx (λao=>?_);refine al (λap=>?_);refine gs ?_;obtain ⟨aq,a8,O⟩:=aR O;refine ca @rl a8 ?_;rintro _ _ _ ⟨rfl,a9,aa,ab,ac,ad,ae,af,ag,ar,au,ah,ai,rfl,rfl,a1,I,J,Y,a7,Z⟩;have a1:=a1 H;have I:=I H;have J:=J H;have Y:=Y H;have a7:=a7 H;have Z:=Z H;refine al (λav=>?_);refine wt 0 ?_;refine gs ?_;refine Wp [5,7] ?_;obtain ⟨aw,aj,O⟩:=aR O;refine ca @mH aj ?_;rintro _ _ _ ⟨rfl,ak,am,rfl,rfl,a6⟩;have a6:=a6 H;refine go ?_;refine wt 2 ?_;refine gs ?_;refine wt 8 ?_;refine go ?_;obtain rfl:=RQ O;exact kP lE G (fV.agg G VA Vj (.head _) G) (.cons _ (.cons _ (.cons_cons _ (.cons _ (.cons_cons _ (.cons_cons _ (.cons_cons _ (.cons_cons _ (.cons_cons _ (.cons _ (.refl _))))))))))) (.trans (.swap _ _ _) (.trans (.cons _ (.swap _ _ _)) (.trans (.cons _ (.cons _ (.swap _ _ _))) (.cons _ (.cons _ (.cons _ (.swap _ _ _))))))) ⟨G,a9,aa,ab,ac,ad,ae,af,ag,ak,am,ah,ai,G,G,(a1).pY,(I).pY,(J).pY,(Y).pY,(a6).pY,(Z).pY⟩
theorem AK {a0:aD}{on:(List RI)}{v0 v1 v2 v3 v4 v5 v6:RJ}{r:aD×Int} (O:n_ a0 on=some r) (h0:aP H v0 a0.bF) (h1:aP H v1 a0.aO) (h2:aP H v2 a0.aJ) (h3:aP H v3 a0.dS) (h4:aP H v4 a0.bE) (h5:aP H v5 a0.bW) (h6:aP H v6 on):
  Cq B w0 55 [.agg [v0,v1,v2,v3,v4,v5].toArray,v6] H M (λH M H' M' v=>H=H'/\∃ qv0:RJ,∃ I:List RJ,∃ qv1:RJ,∃ J:List RJ,∃ qv2:RJ,∃ Y:List RJ,∃ qv3:RJ,∃ Z:List RJ,∃ qv4:RJ,∃ qxs4:List RJ,∃ qv5:RJ,∃ qxs5:List RJ,.row qv0 9 (aF.sz RI) r.1.bF.length I::.row qv1 111 (aF.sz aZ) r.1.aO.length J::.row qv2 114 (aF.sz aQ) r.1.aJ.length Y::.row qv3 117 (aF.sz bH) r.1.dS.length Z::.row qv4 120 (aF.sz aH) r.1.bE.length qxs4::.row qv5 123 (aF.sz cJ) r.1.bW.length qxs5::M=M'/\.tuple #[.agg [qv0,qv1,qv2,qv3,qv4,qv5].toArray,.int .i64 (r.2)]=v/\uI qv0 I r.1.bF/\uI qv1 J r.1.aO/\uI qv2 Y r.1.aJ/\uI qv3 Z r.1.dS/\uI qv4 qxs4 r.1.bE/\uI qv5 qxs5 r.1.bW):=by
 unfold n_ at O;refine fF func55 ?_;refine gs ?_;refine bx (λan=>?_);refine al (λao=>?_);refine g2 ?_;obtain ⟨ap,a7,O⟩:=aR O;refine cz @wD a7 ?_;refine gs ?_;refine cd O G (λa8 O=>?_) (λa8 O=>?_);refine gs ?_;refine eB (css:=[]) (zs:=[.slice none 0 0,.slice none 0 0,.slice none 0 0,.slice none 0 0,.slice none 0 0,.slice none 0 0]) (out:=[.slice none 0 0,.slice none 0 0,.slice none 0 0,.slice none 0 0,.slice none 0 0,.slice none 0 0]) (places:=[(0,1),(1,1),(2,1),(3,1),(4,1),(5,1)]) G G G RM zeroValue29 G Wl (λw=>by kernel_rfl) G ?_
 refine go ?_;refine wt 0 ?_;refine gt ?_;refine gj ?_;refine cB 9 (aF.sz RI) (cB 111 (aF.sz aZ) (cB 114 (aF.sz aQ) (cB 117 (aF.sz bH) (cB 120 (aF.sz aH) (cB 123 (aF.sz cJ) ?_)))));obtain rfl:=RQ O;exact Ds lE G (fV.agg G VA Vj (.tail _ (.tail _ (.tail _ (.tail _ (.tail _ (.tail _ (.head _))))))) G) (fV.tmp G) (.cons_cons _ (.cons_cons _ (.cons_cons _ (.cons_cons _ (.cons_cons _ (.cons_cons _ (.cons _ (.cons _ (.refl _))))))))) (.trans (.cons _ (.cons _ (.cons _ (.cons _ (.swap _ _ _))))) (.trans (.cons _ (.cons _ (.cons _ (.swap _ _ _)))) (.trans (.cons _ (.cons _ (.swap _ _ _))) (.trans (.cons _ (.swap _ _ _)) (.trans (.swap _ _ _) (.trans (.cons _ (.cons _ (.cons _ (.cons _ (.swap _ _ _))))) (.trans (.cons _ (.cons _ (.cons _ (.swap _ _ _)))) (.trans (.cons _ (.cons _ (.swap _ _ _))) (.trans (.cons _ (.swap _ _ _)) (.trans (.cons _ (.cons _ (.cons _ (.cons _ (.swap _ _ _))))) (.trans (.cons _ (.cons _ (.cons _ (.swap _ _ _)))) (.trans (.cons _ (.cons _ (.swap _ _ _))) (.trans (.cons _ (.cons _ (.cons _ (.cons _ (.swap _ _ _))))) (.trans (.cons _ (.cons _ (.cons _ (.swap _ _ _)))) (.cons _ (.cons _ (.cons _ (.cons _ (.swap _ _ _))))))))))))))))))) ⟨G,(.slice none 0 0),[],(.slice none 0 0),[],(.slice none 0 0),[],(.slice none 0 0),[],(.slice none 0 0),[],(.slice none 0 0),[],G,G,(Rw.nil (H:=H)).pY,(Rw.nil (H:=H)).pY,(Rw.nil (H:=H)).pY,(Rw.nil (H:=H)).pY,(Rw.nil (H:=H)).pY,(Rw.nil (H:=H)).pY⟩
 refine gs ?_;obtain ⟨aq,a9,O⟩:=aR O;refine ca @xd a9 ?_;rintro _ _ _ ⟨rfl,aa,ab,ac,ad,ae,af,ag,ah,ai,aj,ak,am,rfl,rfl,a1,a2,a3,a4,a5,a6⟩;have a1:=a1 H;have a2:=a2 H;have a3:=a3 H;have a4:=a4 H;have a5:=a5 H;have a6:=a6 H;refine wt 6 ?_;refine go ?_;obtain rfl:=RQ O;exact Ds lE G (fV.agg G VA Vj (.head _) G) (fV.tmp G) (.cons _ (.cons_cons _ (.cons_cons _ (.cons_cons _ (.cons_cons _ (.cons_cons _ (.cons_cons _ (.cons _ (.refl _))))))))) (.refl _) ⟨G,aa,ab,ac,ad,ae,af,ag,ah,ai,aj,ak,am,G,G,(a1).pY,(a2).pY,(a3).pY,(a4).pY,(a5).pY,(a6).pY⟩
theorem Ad {J:aD}{ak:Bool}{v0 v1 v2 v3 v4 v5:RJ}{r:(List bY)×(List Int)} (O:qS J ak=some r) (h0:aP H v0 J.bF) (h1:aP H v1 J.aO) (h2:aP H v2 J.aJ) (h3:aP H v3 J.dS) (h4:aP H v4 J.bE) (h5:aP H v5 J.bW):
  Cq B w0 206 [.agg [v0,v1,v2,v3,v4,v5].toArray,.bool (ak)] H M (λH M H' M' v=>H=H'/\∃ qv0:RJ,∃ Y:List RJ,∃ qv1:RJ,∃ Z:List RJ,.row qv0 275 (aF.sz bY) r.1.length Y::.row qv1 3 (aF.sz Int) r.2.length Z::M=M'/\.tuple #[qv0,qv1]=v/\uI qv0 Y r.1/\uI qv1 Z r.2):=by
 unfold qS at O;refine fF func206 ?_;refine gs ?_;refine bx (λbc=>?_);refine g2 ?_;refine g2 ?_;refine kD 275 (aF.sz bY) (kD 3 (aF.sz Int) ?_);obtain ⟨am,aq,ar,O⟩:=cO O;refine cl [(1,_),(2,_),(11,_),(12,_)] [2] 2 [1] 0 (λu m n H' M' L'=>∃ (I:Nat) (a7:List aZ),∃ a5:List bY,∃ a6:List Int,∃ a8:RJ,∃ ae:List RJ,∃ a9:RJ,∃ af:List RJ,(J.aO).drop I=a7/\a7.length=n/\am I a7 (a5,a6)=some r/\Rw H' a8 ae a5/\Rw H' a9 af a6/\H.le H'/\.row a8 275 (aF.sz bY) a5.length ae::.row a9 3 (aF.sz Int) a6.length af::m=M'/\(6,a8)::(7,a9)::(13,.int .i64 ((I:Int)))::u=L') _ G ⟨0,_,_,_,_,_,_,_,G,G,O,Rw.nil,Rw.nil,lE,G,G⟩ ?_;rintro _ au _ _ ⟨I,a7,a5,a6,a8,ae,a9,af,an,rfl,O,av,aw,bd,rfl,rfl⟩;refine g2 ?_;refine bC G (λag=>?_) (λag=>?_);obtain ⟨be,ax,rfl,ay,az⟩:=fI an ag;have O:=(aq _ _ _ _).symm.trans O
 generalize b0:am (I+1) ax=b1 at O
 try dsimp only at O
 unfold sR at O;refine go ?_;refine cj [(1,_),(2,_),(11,_),(12,_),(13,_)] [2] 2 (λu m H' M' L'=>∃ aa:List bY,∃ ab:List Int,∃ ac:RJ,∃ ah:List RJ,∃ ad:RJ,∃ ai:List RJ,od b1 aa ab=some r/\Rw H' ac ah aa/\Rw H' ad ai ab/\au.le H'/\.row ac 275 (aF.sz bY) aa.length ah::.row ad 3 (aF.sz Int) ab.length ai::m=M'/\(6,ac)::(7,ad)::u=L') ?_ (λao=>?_);rintro bf _ _ ⟨aa,ab,ac,ah,ad,ai,O,bg,bh,bi,rfl,rfl⟩;unfold od at O;refine gj ?_;exact kj (eb az b0) (kK (bV ay h1.mm.cU));refine gs ?_;refine al (λbj=>?_);refine go ?_;refine wt 0 ?_;refine gs ?_;refine BN G G VX G G (go ?_);refine cd O G (λb2 O=>?_) (λb2 O=>?_);refine gs ?_;obtain ⟨a0,b3,O⟩:=aR O;obtain ⟨a1,b4,O⟩:=aR O;refine pD fm 13 [aG,aG,aG,aG,aG,ph (.int .i64 (a0)),aG,aG,aG,aG,ph (.int .i64 (a1)),ph (.agg [.int .i64 (a0),.int .i64 (a1)].toArray),(λH rs v=>∃ a4:RJ,[]=rs/\a4=v/\aP H a4 ([(bY.mk a0 a1)])/\Value.oC a4=([(bY.mk a0 a1)]).length)] ⟨om,om,om,om,om,?_,om,om,om,om,?_,?_,?_,RM⟩ ?_
 exact rk tt @cA b3;exact rk tt @cA b4;rintro HX hX X Rest hR _ _ ⟨rfl,rfl⟩ _ _ ⟨rfl,rfl⟩ hU hUp;refine zn (css:=[[.int .i64 (a0)],[.int .i64 (a1)]]) (zs:=[.int .i64 (0),.int .i64 (0)]) (out:=[.int .i64 (a0),.int .i64 (a1)]) (places:=[(0,1),(1,1)]) G G G ⟨G,G,RM⟩ zeroValue275 G TI Tu G G ?_;exact o0 ⟨G,G⟩;rintro HX hX X Rest hR _ _ ⟨rfl,rfl⟩ hU hUp;refine dD (α:=bY) (css:=[[.int .i64 (a0),.int .i64 (a1)]]) (zs:=[.int .i64 (0),.int .i64 (0)]) (out:=[.int .i64 (a0),.int .i64 (a1)]) (ys:=[(bY.mk a0 a1)]) G G G ⟨G,RM⟩ runUnderlying274 sizeOf275 G zeroValue275 (by kernel_rfl) G G G G ⟨[.int .i64 (a0),.int .i64 (a1)],[],G,G,G⟩ G ?_
 intro bk a4 bl b5 b6 aj;have ap:Value.oC a4=([(bY.mk a0 a1)]).length:=by rw [b5]; rfl
 exact oe [] b6 ⟨a4,G,G,(aj),(ap)⟩;intro bm bn;refine dr ?_;rintro _ _ ⟨a4,rfl,rfl,aj,ap⟩;refine wb ?_;obtain ⟨b7,O⟩:=aI O;refine Wp [1] ?_;refine cX (α:=bY) (l:=a5) (ys:=[(bY.mk a0 a1)]) G G underlying274 ⟨_,G,G,G,G⟩ G G G G G av.mm aj b7 ?_;intro bo bp bq;refine go ?_;refine dD (α:=Int) (css:=[[.int .i64 ((I:Int))]]) (zs:=[.int .i64 (0)]) (out:=[.int .i64 ((I:Int))]) (ys:=([((I:Int))]:List Int)) G G G ⟨G,RM⟩ Ta Tu G Uj (by kernel_rfl) G G G G ⟨[.int .i64 ((I:Int))],[],G,G,G⟩ G ?_
 intro br b8 bs b9 bt ba;have bu:Value.oC b8=([((I:Int))]:List Int).length:=by rw [b9]; rfl
 obtain ⟨bb,O⟩:=aI O;refine Wp [2] ?_;refine cX (α:=Int) (l:=a6) (ys:=([((I:Int))]:List Int)) G G Tk ⟨_,G,G,G,G⟩ G G G G G aw.mm ba bb ?_;intro bv bw bz;refine gj ?_;exact kx [1,0,1] 1 (ao _ _ _ pk);refine gj ?_;exact kx [1,1,1] 1 (ao _ _ _ pk);obtain rfl:=fH an ag;have O:=(ar _ _).symm.trans O
 try dsimp only at O
 refine gs ?_;refine Ek [0,0] 1 ?_;exact ef
theorem Ba {I:Int}{Y:(List bY)}{v0:RJ}{r:Int} (O:so I Y=some r) (h0:aP H v0 Y):
  Cq B w0 207 [.int .i64 (I),v0] H M (xS r):=by
 unfold so at O;refine fF func207 ?_;refine g2 ?_;refine cj [(0,_),(1,_)] [] 0 (λu m H' M' L'=>H=H'/\m=M'/\(17,.bool (((decide (I<0)) || (decide (24<I))) || (decide (64<(Y.length:Int)))))::u=L') ?_ (λa6=>?_);rintro _ _ _ ⟨rfl,rfl,rfl⟩;refine cd O G (λae O=>?_) (λae O=>?_);refine gs ?_;exact ef;refine g2 ?_;obtain ⟨a9,af,ag,O⟩:=cO O;refine cl [(0,_),(18,_),(19,_)] [] 0 [] 0 (λu m n H' M' L'=>∃ (J:Nat) (Z:List bY),(Y).drop J=Z/\Z.length=n/\a9 J Z ()=some r/\H.le H'/\m=M'/\(20,.int .i64 ((J:Int)))::u=L') _ G ⟨0,_,G,G,O,lE,G,G⟩ ?_;rintro _ an _ _ ⟨J,Z,aa,rfl,O,ao,rfl,rfl⟩;refine g2 ?_;refine bC G (λa7=>?_) (λa7=>?_);obtain ⟨a8,ah,rfl,ai,aj⟩:=fI aa a7;have O:=(af _ _ _ _).symm.trans O;generalize ak:a9 (J+1) ah=ap at O;unfold tX at O;refine g2 ?_;refine al (λaq=>?_)
 refine wt 0 ?_;refine gs ?_;refine oH G G TI Tu G G (by decide) (by decide) (go ?_)
 cases ab:(decide (a8.a0<0));have O:=dY ab O;refine oH G G TI Tu G G (by decide) (by decide) (go ?_)
 cases ac:(decide (I<=a8.a0));have O:=dY ac O;refine oH G G TI Tu G G (by decide) (by decide) (go ?_)
 cases ad:(decide (a8.a1<0));have O:=dY ad O;refine oH G G TI Tu G G (by decide) (by decide) (go ?_)
 refine cd O G (λam O=>?_) (λam O=>?_);refine gs ?_;refine Ek [] 1 ?_;exact ef;refine gt ?_;refine gj ?_;exact kx [] 1 (eb aj ak) G (kK (bV ai h0.mm.cU));have O:=dZ ad O;refine go ?_;refine cT G ?_;refine gs ?_;refine Ek [] 1 ?_;exact ef;have O:=dZ ac O;refine go ?_;refine cT G ?_;refine gs ?_;refine Ek [] 1 ?_;exact ef;have O:=dZ ab O;refine go ?_;refine cT G ?_;refine gs ?_;refine Ek [] 1 ?_;exact ef;obtain rfl:=fH aa a7;have O:=(ag _ _).symm.trans O;refine gs ?_;exact ef;refine go ?_;cases ar:(decide (I<0));refine go ?_;cases au:(decide (24<I));refine gj ?_;exact kj (a6 _ _ _ pk) kS;refine gj ?_;exact kj (a6 _ _ _ pk) kS;refine gj ?_;exact kj (a6 _ _ _ pk) kS
theorem y7 {a0 a1:Int}{r:Int×Int} (O:mT a0 a1=r):
  Cq B w0 160 [.int .u64 (a0),.int .u64 (a1)] H M (λH M H' M' v=>H=H'/\M=M'/\.tuple #[.int .u64 (r.1),.int .u64 (r.2)]=v):=by
 unfold mT at O;refine fF func160 ?_;refine g2 ?_;refine gs ?_;refine rV G G G G (by decide) (g2 ?_)
 refine rV G G G G (by decide) (g2 ?_)
 refine rV G G G G (by decide) (g2 ?_)
 refine rV G G G G (by decide) (g2 ?_)
 refine rV G G G G (by decide) (gs ?_)
 obtain rfl:=O;refine Ew H ?_;exact C8 G G G ⟨G,G,G⟩
theorem wC {a0 a1:Int}{r:Int×Int} (O:sC a0 a1=r):
  Cq B w0 120 [.int .u64 (a0),.int .u64 (a1)] H M (λH M H' M' v=>H=H'/\M=M'/\.tuple #[.int .u64 (r.1),.int .u64 (r.2)]=v):=by
 unfold sC at O;refine fF func120 ?_;refine g2 ?_;refine cF G ?_;refine gs ?_;refine cz @y7 (G:mT a0 a1=_) ?_;refine gs ?_;obtain rfl:=O;refine Ew H ?_;exact C8 G G G ⟨G,G,G⟩
theorem A5 (m:Nat) (O:m<9223372036854775808):sC (u64.wrap (1:Int)) (u64.wrap (m:Int))=(0,(m:Int)):=by
 have hw:u64.wrap (m:Int)=m:=by rw [IntKind.wrap_u64]; omega
 have h1:u64.wrap (1:Int)=1:=rfl;have Y:u64.wrap ((BitVec.ofInt (u64).bits (m:Int) &&& BitVec.ofInt (u64).bits 4294967295).toNat)=((m%4294967296:Nat):Int):=by
  have h:=bits_and_u64_nat m 4294967295 (by omega) (by omega)
  have e:m &&& 4294967295=m%4294967296:=Vd m 32;rw [e] at h;exact h
 have hand2:u64.wrap ((BitVec.ofInt (u64).bits ((m / 4294967296%4294967296:Nat):Int) &&& BitVec.ofInt (u64).bits 4294967295).toNat)=((m / 4294967296%4294967296:Nat):Int):=by
  have h:=bits_and_u64_nat (m / 4294967296%4294967296) 4294967295 (by omega) (by omega)
  have e:(m / 4294967296%4294967296) &&& 4294967295=(m / 4294967296%4294967296)%4294967296:=Vd _ 32;rw [e,Nat.mod_mod] at h;exact h
 have hs0:mG .u64 (1:Int) 32=0:=rfl;have Z:mG .u64 (0:Int) 32=0:=rfl;have J:u64.wrap ((BitVec.ofInt (u64).bits (1:Int) &&& BitVec.ofInt (u64).bits 4294967295).toNat)=1:=rfl;have I:u64.wrap ((BitVec.ofInt (u64).bits (0:Int) &&& BitVec.ofInt (u64).bits 4294967295).toNat)=0:=rfl;have hsm:∀ k:Nat,mG .u64 (k:Int) 32=((k / 4294967296:Nat):Int):=λk=>Ho k;have e0:((m%4294967296:Nat):Int)=((m%4294967296:Nat):Int):=rfl;have w1:u64.wrap ((m%4294967296:Nat):Int)=((m%4294967296:Nat):Int):=by rw [IntKind.wrap_u64]; omega
 have w2:u64.wrap ((m / 4294967296:Nat):Int)=((m / 4294967296:Nat):Int):=by rw [IntKind.wrap_u64]; omega
 have d1:m%4294967296 / 4294967296=0:=by omega
 have d2:m / 4294967296 / 4294967296=0:=by omega
 have z0:u64.wrap (0:Int)=0:=rfl;unfold sC mT;rw [hw,h1]
 simp only [hs0,Z,J,Y,hsm,Int.zero_mul,Int.one_mul,z0,Int.zero_add,w1,d1,Int.ofNat_zero,Int.natCast_zero,Int.add_zero,I,w2,d2,hw]
theorem F3 {s:List Int}{v0:RJ}{n:Int} (h0:aP H v0 s) (hz:s.length=1/\0<=n/\n*8<=140737488355328) (ht:St B w0 H M w):
  Calls prog 215 [v0,.int .i64 n].toArray w (uX B w0 (O1 (Hi s n) H M)):=by
 obtain ⟨hs1,hn0,Y⟩:=hz;obtain ⟨a,rfl⟩:=Vh.1 hs1;obtain ⟨m,rfl⟩:∃ m:Nat,n=m:=⟨n.toNat,by omega⟩
 have hrep:=yE a m;rw [hrep];have hlr:(List.replicate m a).length=m:=SZ;have hmb:m<9223372036854775808:=by omega
 obtain ⟨o,c,hv0,_⟩:=h0.len
 simp only [RW,TM,Se] at hv0
 subst hv0;refine enter func215 G G G ht ?_;refine bK ?_;refine aM (aK G G G ?_);refine a_ (aS ?_);refine bK ?_;refine bK ?_;refine aM (bT G G G (wi G G G G G ?_));refine a_ (aS ?_);refine bC (b:=decide ((m:Int)<0)) G (λY=>absurd (RT Y) (by omega)) (λ_=>?_)
 refine mw (aS ?_);refine bK ?_;refine aM (bT G G G (DY G G Ta G (rK G G Ui UX G (bT G G G (rK G G Ui UX G ?_)))));refine f_ call120 G G G (λw ht=>by have h:=wC (O:=A5 m hmb) ht; exact h) ?_
 rintro _ _ _ ⟨rfl,rfl,rfl⟩;refine bT G G G (sT G G G G (sT G G G G (aK G G G (aK G G G ?_))));refine a_ (aS ?_);refine bK ?_;refine bK ?_;refine aM (bT G G G (wi G G G G G (bT G G G (bT G G G (wi G G G G G (DZ (b:=false) G G G G ?_))))));refine a_ (aS ?_);refine bC (b:=decide (9223372036854775807<(m:Int))) G (λY=>absurd (RT Y) (by omega)) (λ_=>?_)
 refine mw (aS ?_);have hw:i64.wrap (m:Int)=m:=yq (by omega) (by omega)
 refine bK ?_;refine aM (bT G G G (rK G G UX Ui G ?_));rw [hw];refine eT (α:=Int) (ze:=0) (bytes:=8) G G Tk ⟨_,G,G,G,G⟩ G G G G G G (by omega) Y ?_
 intro v1 yU hx1;rw [RN] at hx1 ⊢;refine aK G G G ?_;refine a_ (aS ?_);generalize hl1:List.replicate m (0:Int)=l1 at hx1 ⊢;have hll:l1.length=m:=by rw [<- hl1]; exact SZ
 refine bK ?_;refine aM (bT G G G (bT G G G (HA (α:=Int) (l:=l1) (ys:=[a]) G G Tk Tu G G G hx1 h0 (by simp) ?_)))
 rw [SR,hll];generalize hl2:[a].take (min 1 m)++l1.drop (min 1 m)=l2;have hl2l:l2.length=m:=by rw [<- hl2,R5,Sm,Tg,SR]; omega
 have hl2t:l2.take (min 1 m)=List.replicate (min 1 m) a:=by
  rw [<- hl2];cases m with
  | zero=>rfl
  | succ q=>rw [show min 1 (q+1)=1 by omega]; rfl
 intro tJ hx2;refine aK G G G ?_;refine a_ (aS ?_);obtain ⟨o1,m1,c1,hv1⟩:=hx2.sl;refine bK ?_;refine u5 (By (L':=[(7,v1),(8,.int .i64 ((min 1 m:Nat):Int))]) ⟨G,G,RM⟩ (Uf _) ?_);refine Bz (λn H' M' L'=>∃ (q:Nat) (l:List Int) (xs:List RJ),m-q=n/\(1<=q\/m=0)/\q<=m/\l.length=m/\l.take q=List.replicate q a/\Rw H' v1 xs l/\H.le H'/\.row v1 3 (aF.sz Int) m xs::M=M'/\[(7,v1),(8,.int .i64 (q:Int))]=L') (m-min 1 m) ⟨min 1 m,l2,tJ,G,by omega,by omega,hl2l,hl2t,hx2,SN _,G,G⟩ ?_
 rintro n3 H3 _ _ ⟨q,l3,Bi,hn3,hq1,hqm,hl3,ht3,hx3,hle3,rfl,rfl⟩;refine bK ?_;refine bK ?_;refine aM (bT G G G (bT G G G (rp (M':=.row v1 3 (aF.sz Int) l3.length Bi::M) (by rw [hl3]) (BP (RR ..) G G Ta G (wi G G G G G ?_)))))
 refine a_ (aS ?_);refine bC (b:=decide ((q:Int)<(l3.length:Int))) G (λY=>?_) (λY=>?_)
 ·have hlt:q<l3.length:=by have:=RT Y; omega
  refine mw (aS ?_);refine Aw (by omega) (λJ off cap hv hcap=>?_)
  subst hv;refine u5 (JM (M':=[[.row (.slice (some ⟨J,off,none⟩) l3.length cap) 3 (aF.sz Int) l3.length Bi]].flatten++M) G ?_);refine sj 8 (Aj [(Hu (q:Int)),(λH rs v=>[]=rs/\.slice (some ⟨J,off,none⟩) l3.length cap=v),(Hu (q:Int)),(λH rs v=>[]=rs/\.slice (some ⟨J,off+q*aF.sz Int,none⟩) (l3.length-q) (cap-q)=v),(λH rs v=>[]=rs/\.slice (some ⟨J,off,none⟩) l3.length cap=v),(Hu (q:Int)),(λH rs v=>[]=rs/\.slice (some ⟨J,off,none⟩) q cap=v),(λH rs v=>∃ Au:List RJ,[.row (.slice (some ⟨J,off,none⟩) l3.length cap) 3 (aF.sz Int) l3.length Au]=rs/\.int .i64 ((min q (l3.length-q):Nat):Int)=v/\Rw H (.slice (some ⟨J,off,none⟩) l3.length cap) Au (l3.take q++l3.take (min q (l3.length-q))++l3.drop (q+min q (l3.length-q))))]) [[],[],[],[],[],[],[],[8]] [[],[],[],[],[],[],[],[]] [[.row (.slice (some ⟨J,off,none⟩) l3.length cap) 3 (aF.sz Int) l3.length Bi]] [0,1,2,3,4,5,6,7] Hx.mixed (by kernel_rfl) G G G (by kernel_rfl) (vx ⟨gP _ _,gP _ _,gP _ _,gP _ _,gP _ _,gP _ _,gP _ _,(by rintro H1 H2 rs v hle ⟨Au,rfl,rfl,h⟩; exact ⟨Au,G,G,h.mono hle⟩),RM⟩) ⟨?_,?_,?_,?_,?_,?_,?_,?_,RM⟩ ?_
  ·intro HX Z X Rest hR
   intro hU I;refine bT G G G ?_;exact a_ (fJ [] (SN _) ⟨G,G⟩)
  ·intro HX Z X Rest hR
   intro hU I;refine bT G G G ?_;exact a_ (fJ [] (SN _) ⟨G,G⟩)
  ·intro HX Z X Rest hR
   intro hU I;refine bT G G G ?_;exact a_ (fJ [] (SN _) ⟨G,G⟩)
  ·intro HX Z X Rest hR
   rintro _ _ ⟨rfl,rfl⟩;rintro _ _ ⟨rfl,rfl⟩;intro hU I;refine ux (m:=cap) (h:=l3.length) (l:=q) G G Ta Tu G (.inl G) (.inl ⟨G,G⟩) (.inl ⟨G,G⟩) (.inr ⟨_,_,_,G,G,by omega,by omega,by omega⟩) (by rw [RS (by omega),Td,SU]) ?_
   exact a_ (fJ [] (SN _) ⟨G,G⟩)
  ·intro HX Z X Rest hR
   intro hU I;refine bT G G G ?_;exact a_ (fJ [] (SN _) ⟨G,G⟩)
  ·intro HX Z X Rest hR
   intro hU I;refine bT G G G ?_;exact a_ (fJ [] (SN _) ⟨G,G⟩)
  ·intro HX Z X Rest hR
   rintro _ _ ⟨rfl,rfl⟩;rintro _ _ ⟨rfl,rfl⟩;intro hU I;refine ux (m:=cap) (h:=q) (l:=0) G G Ta Tu G (.inl G) (.inl ⟨G,G⟩) (.inr ⟨_,_,_,G,G,by omega,by omega,by omega⟩) (.inl ⟨G,G⟩) (by rw [RS (by omega),UI,UI,Td,SU,Tm,Tl]) ?_
   exact a_ (fJ [] (SN _) ⟨G,G⟩)
  ·intro HX Z X Rest hR
   rintro _ _ ⟨rfl,rfl⟩;rintro _ _ ⟨rfl,rfl⟩;intro hU I;refine rp (M':=.row (.slice (some ⟨J,off,none⟩) l3.length cap) 3 (aF.sz Int) l3.length Bi::Rest) G (BM (α:=Int) (l:=l3) (q:=q) G G Tk Tu G (hx3.mono Z) (by omega) G G ?_)
   intro Au hx4;exact a_ (fJ [.row (.slice (some ⟨J,off,none⟩) l3.length cap) 3 (aF.sz Int) l3.length Au] (SN _) ⟨Au,G,G,hx4⟩)
  intro H5 hle5;rintro _ _ ⟨rfl,rfl⟩;rintro _ _ ⟨rfl,rfl⟩;rintro _ _ ⟨rfl,rfl⟩;rintro _ _ ⟨rfl,rfl⟩;rintro _ _ ⟨rfl,rfl⟩;rintro _ _ ⟨rfl,rfl⟩;rintro _ _ ⟨rfl,rfl⟩;rintro _ _ ⟨Au,rfl,rfl,hx4⟩;refine rp (M':=.row (.slice (some ⟨J,off,none⟩) l3.length cap) 3 (aF.sz Int) l3.length Au::M) G ?_;have hrs:=F2 ht3 (by omega)
  refine wi G G G G G (aK G G G (a_ (my ?_)));have hwr:i64.wrap ((q:Int)+((min q (l3.length-q):Nat):Int))=((q+min q (l3.length-q):Nat):Int):=by
   rw [yq (by omega) (by omega)]; omega
  exact DO (uK (by omega:m-(q+min q (l3.length-q))<n3) ⟨q+min q (l3.length-q),_,Au,G,by omega,by omega,by simp only [R5,Sm,Tg]; omega,hrs,hx4,Vx hle3 hle5,by rw [hl3],G⟩) (Uf _) ⟨G,R7 (λz=>some (Value.int .i64 z)) hwr,RM⟩
 ·have hge:q=m:=by have:=R2 Y; omega
  refine vy (gO (gO (nT (aS ?_))));have hfin:l3=List.replicate m a:=by
   have h:=ht3;rw [hge,R3 (by omega)] at h
   exact h
  refine bK ?_;refine aM (bT G G G (aK G G G ?_));refine a_ (aS ?_);refine mu (Gp hle3 ?_);rw [<- hfin];exact lf G G ⟨G,v1,Bi,G,G,hx3.pY⟩
theorem Bb {an:Int}{ao:(List bY)}{J:Int}{v0:RJ}{r:(List Int)} (O:pF an ao J=some r) (h0:aP H v0 ao):
  Cq B w0 208 [.int .i64 (an),v0,.int .i64 (J)] H M (O1 r):=by
 unfold pF at O;refine fF func208 ?_;refine g2 ?_;refine gH (α:=Int) (css:=[[.int .i64 ((-1))]]) (zs:=[.int .i64 (0)]) (out:=[.int .i64 ((-1))]) (ys:=([((-1))]:List Int)) G G G ⟨G,RM⟩ Ta Tu G Uj (by kernel_rfl) G G G G ⟨[.int .i64 ((-1))],[],G,G,G⟩ G ?_
 intro co cp be;refine go ?_;obtain ⟨bf,O⟩:=aI O;refine f_ call215 G G G (λw ht=>by obtain ⟨H0_,hl0_,ht0_,hr0_,bk0_⟩:=ht.lx be G; have h:=F3 hr0_ bf ht0_; exact gC bk0_ h) ?_
 rintro _ _ _ ⟨rfl,_,rfl,Z,cq,rfl,rfl,ap⟩;have ap:=ap H;refine g2 ?_;refine gs ?_;obtain ⟨bg,O⟩:=aI O;obtain ⟨b4,bh,bi,O⟩:=iP O;refine cl [(1,_),(2,_),(7,_),(18,_)] [] 2 [1] 1 (λu m n H' M' L'=>∃ (a5:Nat) (ab:Nat),∃ ac:List Int,∃ a6:Int,∃ aq:List RJ,a5+ab=(an:Int).toNat/\ab=n/\b4 ab a5 (ac,a6)=some r/\Rw H' Z aq ac/\H.le H'/\.row Z 3 (aF.sz Int) ac.length aq::m=M'/\(8,.int .i64 (a6))::(19,.int .i64 ((a5:Int)))::u=L') _ G ⟨0,_,_,_,_,Se _,G,O,ap,lE,G,G⟩ ?_;rintro _ b5 _ _ ⟨a5,ab,ac,a6,aq,b6,rfl,O,cr,cs,rfl,rfl⟩;refine g2 ?_;refine bC G (λar=>?_) (λar=>?_);obtain ⟨bj,rfl,bk,bl⟩:=lF b6 ar;have O:=(bh _ _ _).symm.trans O;generalize bm:b4 bj (a5+1)=bn at O
 try dsimp only at O
 unfold q8 at O;refine go ?_;refine cj [(1,_),(2,_),(7,_),(18,_),(19,_)] [] 1 (λu m H' M' L'=>∃ ad:List Int,∃ au:Int,∃ av:List RJ,jW bn ad au=some r/\Rw H' Z av ad/\b5.le H'/\.row Z 3 (aF.sz Int) ad.length av::m=M'/\(8,.int .i64 (au))::u=L') ?_ (λb7=>?_);rintro ct _ _ ⟨ad,au,av,O,cu,cv,rfl,rfl⟩;unfold jW at O;refine gj ?_;exact kj (eb bk bm) (kK (eJ bl (eM bg)));refine g2 ?_;refine gs ?_;obtain ⟨cw,cx,d0,O⟩:=aB O;refine go ?_;refine cd O G (λbo O=>?_) (λbo O=>?_);refine gj ?_;exact kj (b7 _ _ _ pk);refine gs ?_;obtain ⟨d1,d2,d3,O⟩:=aB O;refine go ?_;refine wF 0 0 a6 ?_;intro d4 bp d5;refine g2 ?_;refine gH (α:=Int) (css:=[[.int .i64 ((a5:Int))]]) (zs:=[.int .i64 (0)]) (out:=[.int .i64 ((a5:Int))]) (ys:=([((a5:Int))]:List Int)) G G G ⟨G,RM⟩ Ta Tu G Uj (by kernel_rfl) G G G G ⟨[.int .i64 ((a5:Int))],[],G,G,G⟩ G ?_
 intro d6 d7 bq;refine go ?_;obtain ⟨b8,br,bs,O⟩:=gQ O;refine cl [(1,_),(2,_),(7,_),(8,_),(18,_),(19,_)] [] 2 [1] 0 (λu m n H' M' L'=>∃ ae aa:List Int,∃ aw:List RJ,∃ af:RJ,∃ ax:List RJ,b8 n (ae,aa)=some r/\Rw H' Z aw ae/\Rw H' af ax aa/\b5.le H'/\.row Z 3 (aF.sz Int) ae.length aw::.row af 3 (aF.sz Int) aa.length ax::m=M'/\(10,af)::u=L') eI G ⟨_,_,_,_,_,O,bp,bq,lE,G,G⟩ ?_;rintro ay bt _ _ ⟨ae,aa,aw,af,ax,O,bu,bv,d8,rfl,rfl⟩
 rcases ay with _ | ay
 exact nomatch (bs _).symm.trans O;have O:=(br _ _).symm.trans O;generalize bw:b8 ay=d9 at O
 try dsimp only at O
 unfold q9 at O;refine g2 ?_;refine cd O G (λbz O=>?_) (λbz O=>?_);refine gs ?_;obtain ⟨Y,da,db,O⟩:=aB O;refine gs ?_;obtain ⟨dc,O⟩:=aI O;refine Wp [1] ?_;refine uw (α:=Int) (l:=(1:Int).toNat) (h:=aa.length) G G Ta Tu G G bv (by omega) (by omega) (λm hmm=>(.inl ⟨G,G⟩)) (.inr ⟨_,_,_,G,G,by omega,by omega,G⟩) ?_
 intro dd de c0;refine gs ?_;obtain ⟨b9,c1,c2,O⟩:=cO O;refine cl [(1,_),(2,_),(7,_),(8,_),(11,_),(18,_),(19,_),(41,_),(42,_)] [] 2 [1] 0 (λu m n H' M' L'=>∃ (a7:Nat) (ag:List bY),∃ ah a8:List Int,∃ az:List RJ,∃ ai:RJ,∃ b0:List RJ,(ao).drop a7=ag/\ag.length=n/\b9 a7 ag (ah,a8)=some r/\Rw H' Z az ah/\Rw H' ai b0 a8/\bt.le H'/\.row Z 3 (aF.sz Int) ah.length az::.row ai 3 (aF.sz Int) a8.length b0::m=M'/\(10,ai)::(43,.int .i64 ((a7:Int)))::u=L') _ G ⟨0,_,_,_,_,_,_,G,G,O,bu,c0,lE,G,G⟩ ?_;rintro _ c3 _ _ ⟨a7,ag,ah,a8,az,ai,b0,ba,rfl,O,df,bb,dg,rfl,rfl⟩;refine g2 ?_;refine bC G (λb1=>?_) (λb1=>?_);obtain ⟨I,c4,rfl,c5,c6⟩:=fI ba b1;have O:=(c1 _ _ _ _).symm.trans O;generalize c7:b9 (a7+1) c4=c8 at O
 try dsimp only at O
 unfold q_ at O;refine go ?_;refine cj [(1,_),(2,_),(7,_),(8,_),(11,_),(18,_),(19,_),(41,_),(42,_),(43,_)] [] 2 (λu m H' M' L'=>∃ aj ak:List Int,∃ b2:List RJ,∃ am:RJ,∃ b3:List RJ,eG c8 aj ak=some r/\Rw H' Z b2 aj/\Rw H' am b3 ak/\c3.le H'/\.row Z 3 (aF.sz Int) aj.length b2::.row am 3 (aF.sz Int) ak.length b3::m=M'/\(10,am)::u=L') ?_ (λa9=>?_);rintro dh _ _ ⟨aj,ak,b2,am,b3,O,di,dj,dk,rfl,rfl⟩;unfold eG at O;refine gj ?_;exact kj (eb c6 c7) (kK (bV c5 h0.mm.cU));refine gs ?_;refine al (λdl=>?_);refine go ?_;refine wt 0 ?_;refine g2 ?_;cases bc:(decide ((a7:Int)=J));have O:=dY bc O;refine oH G G TI Tu G G (by decide) (by decide) (go ?_)
 cases bd:(decide (I.a0=Y));have O:=dY bd O;refine oH G G TI Tu G G (by decide) (by decide) (go ?_)
 refine cd O G (λc9 O=>?_) (λc9 O=>?_);refine gj ?_;exact kx [1,1] 1 (a9 _ _ _ pk);refine gs ?_;refine oH G G TI Tu G G (by decide) (by decide) (go ?_)
 refine oH G G TI Tu G G (by decide) (by decide) (gs ?_)
 obtain ⟨dm,dn,dp,O⟩:=aB O;refine go ?_;refine cd O G (λcb O=>?_) (λcb O=>?_);refine gs ?_;obtain ⟨dq,ds,dt,O⟩:=aB O;refine go ?_;refine wF 1 0 a6 ?_;intro du dv dw;refine go ?_;refine dD (α:=Int) (css:=[[.int .i64 (i64.wrap ((i64.wrap (I.a0+I.a1))-Y))]]) (zs:=[.int .i64 (0)]) (out:=[.int .i64 (i64.wrap ((i64.wrap (I.a0+I.a1))-Y))]) (ys:=([(i64.wrap ((i64.wrap (I.a0+I.a1))-Y))]:List Int)) G G G ⟨G,RM⟩ Ta Tu G Uj (by kernel_rfl) G G G G ⟨[.int .i64 (i64.wrap ((i64.wrap (I.a0+I.a1))-Y))],[],G,G,G⟩ G ?_
 intro dx cc dy ce e0 cf;have e1:Value.oC cc=([(i64.wrap ((i64.wrap (I.a0+I.a1))-Y))]:List Int).length:=by rw [ce]; rfl
 obtain ⟨cg,O⟩:=aI O;refine Wp [2] ?_;refine cX (α:=Int) (l:=a8) (ys:=([(i64.wrap ((i64.wrap (I.a0+I.a1))-Y))]:List Int)) G G Tk ⟨_,G,G,G,G⟩ G G G G G bb.mm cf cg ?_;intro e2 e3 e4;refine gj ?_;exact kx [1,0] 1 (a9 _ _ _ pk);refine gj ?_;exact kx [1,1] 1 (a9 _ _ _ pk);have O:=dZ bd O;refine go ?_;refine cF G ?_;refine gs ?_;refine oH G G TI Tu G G (by decide) (by decide) (go ?_)
 refine oH G G TI Tu G G (by decide) (by decide) (gs ?_)
 obtain ⟨e5,e6,e7,O⟩:=aB O;refine go ?_;refine cd O G (λch O=>?_) (λch O=>?_);refine gs ?_;obtain ⟨e8,e9,ea,O⟩:=aB O;refine go ?_;refine wF 1 0 a6 ?_;intro ec ed ee;refine go ?_;refine dD (α:=Int) (css:=[[.int .i64 (i64.wrap ((i64.wrap (I.a0+I.a1))-Y))]]) (zs:=[.int .i64 (0)]) (out:=[.int .i64 (i64.wrap ((i64.wrap (I.a0+I.a1))-Y))]) (ys:=([(i64.wrap ((i64.wrap (I.a0+I.a1))-Y))]:List Int)) G G G ⟨G,RM⟩ Ta Tu G Uj (by kernel_rfl) G G G G ⟨[.int .i64 (i64.wrap ((i64.wrap (I.a0+I.a1))-Y))],[],G,G,G⟩ G ?_
 intro eg ci eh ck ei cm;have ej:Value.oC ci=([(i64.wrap ((i64.wrap (I.a0+I.a1))-Y))]:List Int).length:=by rw [ck]; rfl
 obtain ⟨cn,O⟩:=aI O;refine Wp [2] ?_;refine cX (α:=Int) (l:=a8) (ys:=([(i64.wrap ((i64.wrap (I.a0+I.a1))-Y))]:List Int)) G G Tk ⟨_,G,G,G,G⟩ G G G G G bb.mm cm cn ?_;intro ek el em;refine gj ?_;exact kx [1,0] 1 (a9 _ _ _ pk);refine gj ?_;exact kx [1,1] 1 (a9 _ _ _ pk);have O:=dZ bc O;refine go ?_;refine cT G ?_;refine gj ?_;exact kx [1,1] 1 (a9 _ _ _ pk);obtain rfl:=fH ba b1;have O:=(c2 _ _).symm.trans O
 try dsimp only at O
 refine gj ?_;exact kj (A9 bw);refine gt ?_;refine gj ?_;exact kx [0] 1 (b7 _ _ _ pk);obtain rfl:=lD b6 ar;have O:=(bi _ _).symm.trans O
 try dsimp only at O
 refine gs ?_;exact ef
theorem uA {a0:Int}{a1:(List bY)}{v0:RJ}{r:(List Int)×Int} (O:jE a0 a1=some r) (h0:aP H v0 a1):
  Cq B w0 193 [.int .i64 (a0),v0] H M (LY r.1 r.2):=by
 unfold jE at O;refine fF func193 ?_;refine g2 ?_;refine gs ?_;obtain ⟨a6,J,O⟩:=aR O;refine cz @Ba J ?_;refine gs ?_;refine cd O G (λY O=>?_) (λY O=>?_);refine bK (aM (bT G G G (aK G G G (aK G G G (a_ (aS ?_))))));refine gj ?_;refine cB 3 (aF.sz Int) ?_;exact ef;refine gs ?_;obtain ⟨a7,Z,O⟩:=aR O;refine ca @Bb Z ?_;rintro _ _ _ ⟨rfl,a8,a9,rfl,rfl,I⟩;have I:=I H;refine go ?_;exact ef
theorem Ac {a0:aD}{v0 v1 v2 v3 v4 v5:RJ}{r:(List Int)} (O:oO a0=some r) (h0:aP H v0 a0.bF) (h1:aP H v1 a0.aO) (h2:aP H v2 a0.aJ) (h3:aP H v3 a0.dS) (h4:aP H v4 a0.bE) (h5:aP H v5 a0.bW):
  Cq B w0 192 [.agg [v0,v1,v2,v3,v4,v5].toArray] H M (O1 r):=by
 unfold oO at O;refine fF func192 ?_;refine gs ?_;refine bx (λa6=>?_);refine gs ?_;obtain ⟨a7,Y,O⟩:=aR O;refine ca @Ad Y ?_;rintro _ _ _ ⟨rfl,a8,a9,aa,ab,rfl,rfl,a1,I⟩;have a1:=a1 H;have I:=I H;refine gs ?_;obtain ⟨ac,Z,O⟩:=aR O;refine cy @uA Z ?_;rintro _ _ _ ⟨rfl,⟨_,rfl,ad,ae,rfl,rfl,J⟩⟩;have J:=J H;refine gs ?_;refine Ek [1] 3 ?_;exact ef
theorem pV {I:aD}{v0 v1 v2 v3 v4 v5:RJ}{r:aY} (O:eA I=some r) (h0:aP H v0 I.bF) (h1:aP H v1 I.aO) (h2:aP H v2 I.aJ) (h3:aP H v3 I.dS) (h4:aP H v4 I.bE) (h5:aP H v5 I.bW):
  Cq B w0 161 [.agg [v0,v1,v2,v3,v4,v5].toArray] H M (λH M H' M' v=>H=H'/\∃ qv0:RJ,∃ J:List RJ,∃ qv1:RJ,∃ Y:List RJ,.row qv0 3 (aF.sz Int) r.qJ.length J::.row qv1 3 (aF.sz Int) r.bO.length Y::M=M'/\.agg [qv0,qv1].toArray=v/\uI qv0 J r.qJ/\uI qv1 Y r.bO):=by
 unfold eA at O;refine fF func161 ?_;refine gs ?_;refine bx (λbj=>?_);refine al (λbk=>?_);refine gs ?_;obtain ⟨ao,ap,O⟩:=aR O;refine ca @Ac ap ?_;rintro _ _ _ ⟨rfl,ab,aq,rfl,rfl,a7⟩;have a7:=a7 H;refine eB (css:=[[ab]]) (zs:=[.slice none 0 0,.slice none 0 0]) (out:=[ab,.slice none 0 0]) (places:=[(0,1),(1,1)]) G G G ⟨(Rw.cells a7),RM⟩ zeroValue239 G runUnderlying239 (λw=>by kernel_rfl) G ?_
 refine al (λbl=>?_);refine wt 0 ?_;refine g2 ?_;refine gs ?_;refine qK (.tail _ (.head _)) (λar=>?_);obtain ⟨ai,au,av,O⟩:=cO O;refine cl [(1,_),(2,_),(3,_),(14,_),(15,_)] [] 0 [] 0 (λu m n H' M' L'=>∃ (a4:Nat) (a8:List Int),∃ ac:Int,(ao).drop a4=a8/\a8.length=n/\ai a4 a8 ac=some r/\H.le H'/\m=M'/\(4,.int .i64 (ac))::(16,.int .i64 ((a4:Int)))::u=L') _ G ⟨0,_,_,G,G,O,lE,G,G⟩ ?_;rintro _ aw _ _ ⟨a4,a8,ac,aj,rfl,O,bm,rfl,rfl⟩;refine g2 ?_;refine bC G (λad=>?_) (λad=>?_);obtain ⟨bn,ax,rfl,ay,az⟩:=fI aj ad;have O:=(au _ _ _ _).symm.trans O;generalize b0:ai (a4+1) ax=bo at O;unfold tC at O;refine g2 ?_;refine NZ G G G G (gt ?_);refine gj ?_;exact kj (eb az b0) (kK (bV ay ar));obtain rfl:=fH aj ad;have O:=(av _ _).symm.trans O;refine g2 ?_;refine gs ?_;refine kD 275 (aF.sz bY) ?_;obtain ⟨ak,b1,b2,O⟩:=cO O
 refine cl [(1,_),(2,_),(3,_),(4,_),(26,_),(27,_)] [1,1,1,1] 1 [] 0 (λu m n H' M' L'=>∃ (a5:Nat) (a9:List aQ),∃ a6:List bY,∃ aa:RJ,∃ ae:List RJ,(I.aJ).drop a5=a9/\a9.length=n/\ak a5 a9 a6=some r/\Rw H' aa ae a6/\aw.le H'/\.row aa 275 (aF.sz bY) a6.length ae::m=M'/\(7,aa)::(28,.int .i64 ((a5:Int)))::u=L') _ G ⟨0,_,_,_,_,G,G,O,Rw.nil,lE,G,G⟩ ?_;rintro _ b3 _ _ ⟨a5,a9,a6,aa,ae,am,rfl,O,b4,bp,rfl,rfl⟩;refine g2 ?_;refine bC G (λaf=>?_) (λaf=>?_);obtain ⟨bq,b5,rfl,b6,b7⟩:=fI am af;have O:=(b1 _ _ _ _).symm.trans O;generalize b8:ak (a5+1) b5=br at O;unfold tD at O;refine g2 ?_;refine al (λbs=>?_);refine wt 0 ?_;refine go ?_;obtain ⟨b9,ba,O⟩:=aR O;obtain ⟨a0,bt,bu,O⟩:=aB O;obtain ⟨bb,bc,O⟩:=aR O;obtain ⟨a1,bv,bw,O⟩:=aB O;refine pD fm 21 [aG,aG,aG,aG,aG,aG,aG,ph (.int .i64 (b9)),aG,aG,aG,aG,aG,aG,aG,aG,ph (.int .i64 (bb)),aG,aG,ph (.agg [.int .i64 (a0),.int .i64 (a1)].toArray),(λH rs v=>∃ Z:RJ,[]=rs/\Z=v/\aP H Z ([(bY.mk a0 a1)])/\Value.oC Z=([(bY.mk a0 a1)]).length)] ⟨om,om,om,om,om,om,om,?_,om,om,om,om,om,om,om,om,?_,om,om,?_,?_,RM⟩ ?_
 exact rk tt @cA ba;exact rk tt @cA bc;rintro HX hX X Rest hR _ _ ⟨rfl,rfl⟩ _ _ ⟨rfl,rfl⟩ hU hUp;refine zn (css:=[[.int .i64 (a0)],[.int .i64 (a1)]]) (zs:=[.int .i64 (0),.int .i64 (0)]) (out:=[.int .i64 (a0),.int .i64 (a1)]) (places:=[(0,1),(1,1)]) G G G ⟨G,G,RM⟩ zeroValue275 G TI Tu G G ?_;exact o0 ⟨G,G⟩;rintro HX hX X Rest hR _ _ ⟨rfl,rfl⟩ hU hUp;refine dD (α:=bY) (css:=[[.int .i64 (a0),.int .i64 (a1)]]) (zs:=[.int .i64 (0),.int .i64 (0)]) (out:=[.int .i64 (a0),.int .i64 (a1)]) (ys:=[(bY.mk a0 a1)]) G G G ⟨G,RM⟩ runUnderlying274 sizeOf275 G zeroValue275 (by kernel_rfl) G G G G ⟨[.int .i64 (a0),.int .i64 (a1)],[],G,G,G⟩ G ?_
 intro bz Z c0 bd be ag;have an:Value.oC Z=([(bY.mk a0 a1)]).length:=by rw [bd]; rfl
 exact oe [] be ⟨Z,G,G,(ag),(an)⟩;intro c1 c2;refine dr ?_;rintro _ _ ⟨Z,rfl,rfl,ag,an⟩;refine wb ?_;obtain ⟨bf,O⟩:=aI O;refine Wp [1] ?_;refine cX (α:=bY) (l:=a6) (ys:=[(bY.mk a0 a1)]) G G underlying274 ⟨_,G,G,G,G⟩ G G G G G b4.mm ag bf ?_;intro c3 c4 c5;refine gt ?_;refine gj ?_;exact kx [0,1,1,1,1] 1 (eb b7 b8) G (kK (bV b6 h2.mm.cU));obtain rfl:=fH am af;have O:=(b2 _ _).symm.trans O;refine gs ?_;obtain ⟨c6,bg,O⟩:=aR O;refine cy @uA bg ?_;rintro _ _ _ ⟨rfl,⟨_,rfl,bh,bi,rfl,rfl,ah⟩⟩;have ah:=ah b3;refine go ?_;refine wt 2 ?_;refine gs ?_;refine wt 4 ?_;refine go ?_;obtain rfl:=RQ O;exact kP lE G (fV.agg G isAgg239 sizeOf239 (.head _) G) (.cons _ (.cons _ (.cons _ (.cons_cons _ (.cons_cons _ (.cons _ (.refl _))))))) (.swap _ _ _) ⟨G,ab,aq,bh,bi,G,G,a7.mm.pY,(ah).pY⟩
theorem zy {a0:aD}{v0 v1 v2 v3 v4 v5:RJ}{r:Int} (O:me a0=some r) (h0:aP H v0 a0.bF) (h1:aP H v1 a0.aO) (h2:aP H v2 a0.aJ) (h3:aP H v3 a0.dS) (h4:aP H v4 a0.bE) (h5:aP H v5 a0.bW):
  Cq B w0 194 [.agg [v0,v1,v2,v3,v4,v5].toArray] H M (xS r):=by
 unfold me at O;refine fF func194 ?_;refine gs ?_;refine bx (λai=>?_);refine g2 ?_;refine gs ?_;obtain ⟨a9,aa,O⟩:=aR O;refine ca @pV aa ?_;rintro _ _ _ ⟨rfl,aj,ak,am,an,rfl,rfl,Z,a6⟩;have Z:=Z H;have a6:=a6 H;refine s7 G G runUnderlying239 G isAgg126 G G (go ?_);refine qK (.tail _ (.head _)) (λab=>?_);obtain ⟨a7,ac,ad,O⟩:=cO O;refine cl [(8,_),(9,_)] [1] 2 [1] 2 (λu m n H' M' L'=>∃ (a1:Nat) (I:List Int),∃ J:Int,(a9.bO).drop a1=I/\I.length=n/\a7 a1 I J=some r/\H.le H'/\m=M'/\(3,.int .i64 (J))::(10,.int .i64 ((a1:Int)))::u=L') _ G ⟨0,_,_,G,G,O,lE,G,G⟩ ?_;rintro _ ao _ _ ⟨a1,I,J,a8,rfl,O,ap,rfl,rfl⟩;refine g2 ?_;refine bC G (λY=>?_) (λY=>?_);obtain ⟨aq,ae,rfl,af,ag⟩:=fI a8 Y;have O:=(ac _ _ _ _).symm.trans O;generalize ah:a7 (a1+1) ae=ar at O;unfold rY at O;refine g2 ?_
 refine NZ G G G G (gt ?_);refine gj ?_;exact kj (eb ag ah) (kK (bV af ab));obtain rfl:=fH a8 Y;have O:=(ad _ _).symm.trans O;refine gs ?_;refine Ek [] 1 ?_;exact ef
theorem tc {a0:aD}{a1:aY}{I:RI}{v0 v1 v2 v3 v4 v5 v6 v7:RJ}{r:Int} (O:mX a0 a1 I=some r) (h0:aP H v0 a0.bF) (h1:aP H v1 a0.aO) (h2:aP H v2 a0.aJ) (h3:aP H v3 a0.dS) (h4:aP H v4 a0.bE) (h5:aP H v5 a0.bW) (h6:aP H v6 a1.qJ) (h7:aP H v7 a1.bO):
  Cq B w0 163 [.agg [v0,v1,v2,v3,v4,v5].toArray,.agg [v6,v7].toArray,.string (I)] H M (xS r):=by
 unfold mX at O;refine fF func163 ?_;refine gs ?_;refine bx (λZ=>?_);refine bx (λa5=>?_);refine gs ?_;obtain ⟨J,Y,O⟩:=aR O;obtain ⟨a6,a7,a8,O⟩:=aB O;refine pD fm 10 [aG,aG,aG,aG,aG,aG,aG,ph (.int .i64 (J)),aG,aG] ⟨om,om,om,om,om,om,om,?_,om,om,RM⟩ ?_;exact rk tt @cA Y;intro a9 aa;refine dz ?_;obtain ⟨ab,ac,ad,O⟩:=aB O;refine go ?_;refine Ek [] 2 ?_;exact ef
theorem AI {a0:aD}{v0 v1 v2 v3 v4 v5:RJ}{r:(List bL)} (O:rF a0=some r) (h0:aP H v0 a0.bF) (h1:aP H v1 a0.aO) (h2:aP H v2 a0.aJ) (h3:aP H v3 a0.dS) (h4:aP H v4 a0.bE) (h5:aP H v5 a0.bW):
  Cq B w0 162 [.agg [v0,v1,v2,v3,v4,v5].toArray] H M (λH M H' M' v=>H=H'/\∃ J:RJ,∃ I:List RJ,.row J 244 (aF.sz bL) r.length I::M=M'/\J=v/\uI J I r):=by
 unfold rF at O;refine fF func162 ?_;refine gs ?_;refine bx (λbg=>?_);refine gs ?_;obtain ⟨a4,au,O⟩:=aR O;refine ca @pV au ?_;rintro _ _ _ ⟨rfl,af,ag,ah,ai,rfl,rfl,aj,ak⟩;have aj:=aj H;have ak:=ak H;refine al (λbh=>?_);refine wt 0 ?_;refine gs ?_;obtain ⟨bi,av,O⟩:=aR O;refine cz @zy av ?_;obtain ⟨am,O⟩:=aI O;refine eT (α:=bL) (zs:=[.int .i64 (0),.int .i64 (0),.int .i64 (0)]) (ze:=(bL.mk 0 0 0)) G G underlying241 ⟨_,G,G,G,G⟩ G G G G G G am.1 am.2 ?_;intro a5 bj aw;refine g2 ?_;obtain ⟨an,ax,ay,O⟩:=cO O;refine cl [(1,_),(3,_),(4,_),(16,_),(17,_)] [1,1,1,1] 1 [] 0 (λu m n H' M' L'=>∃ (Y:Nat) (a6:List bH),∃ a7:List bL,∃ aa:List RJ,(a0.dS).drop Y=a6/\a6.length=n/\an Y a6 a7=some r/\Rw H' a5 aa a7/\H.le H'/\.row a5 244 (aF.sz bL) a7.length aa::m=M'/\(18,.int .i64 ((Y:Int)))::u=L') _ G ⟨0,_,_,_,G,G,O,aw,lE,G,G⟩ ?_
 rintro _ az _ _ ⟨Y,a6,a7,aa,ao,rfl,O,b0,bk,rfl,rfl⟩;refine g2 ?_;refine bC G (λab=>?_) (λab=>?_);obtain ⟨ac,b1,rfl,b2,b3⟩:=fI ao ab;have O:=(ax _ _ _ _).symm.trans O;generalize b4:an (Y+1) b1=bl at O;unfold te at O;refine g2 ?_;refine al (λbm=>?_);refine wt 0 ?_;refine gs ?_;refine Wp [3,3] ?_;obtain ⟨bn,b5,O⟩:=aR O;refine cY @tc b5 ?_;rintro _ _ _ ⟨rfl,⟨_,rfl,⟨_,rfl,rfl,rfl⟩⟩⟩;obtain ⟨a1,bo,bp,O⟩:=aB O;refine gs ?_;refine pD fm 6 [aG,aG,aG,aG,aG,aG] ⟨om,om,om,om,om,om,RM⟩ ?_;intro bq br;refine dz ?_;refine go ?_;refine wF 3 0 (bL.mk (i64.wrap (a1.jC+ac.jC)) a1.rr a1.c_) ?_;intro bs bt bu;refine go ?_;refine pD fm 6 [aG,aG,aG,aG,aG,aG] ⟨om,om,om,om,om,om,RM⟩ ?_;intro bv bw;refine dz ?_;refine go ?_;refine wF 0 1 (bL.mk (i64.wrap (a1.jC+ac.jC)) (i64.wrap (a1.rr+ac.rr)) a1.c_) ?_;intro bz c0 c1;refine gt ?_
 refine gj ?_;exact kx [0,3,0,0,1] 1 (eb b3 b4) G (kK (bV b2 h3.mm.cU));obtain rfl:=fH ao ab;have O:=(ay _ _).symm.trans O;refine g2 ?_;obtain ⟨ap,b6,b7,O⟩:=cO O;refine cl [(1,_),(3,_),(4,_),(49,_),(50,_)] [1,1,1,1] 1 [] 0 (λu m n H' M' L'=>∃ (Z:Nat) (a8:List aH),∃ a9:List bL,∃ ad:List RJ,(a0.bE).drop Z=a8/\a8.length=n/\ap Z a8 a9=some r/\Rw H' a5 ad a9/\az.le H'/\.row a5 244 (aF.sz bL) a9.length ad::m=M'/\(51,.int .i64 ((Z:Int)))::u=L') _ G ⟨0,_,_,_,G,G,O,b0,lE,G,G⟩ ?_;rintro _ c2 _ _ ⟨Z,a8,a9,ad,aq,rfl,O,c3,c4,rfl,rfl⟩;refine g2 ?_;refine bC G (λae=>?_) (λae=>?_);obtain ⟨b8,b9,rfl,ba,bb⟩:=fI aq ae;have O:=(b6 _ _ _ _).symm.trans O;generalize bc:ap (Z+1) b9=c5 at O;unfold tf at O;refine g2 ?_;refine al (λc6=>?_);refine wt 0 ?_;refine go ?_;obtain ⟨bd,be,O⟩:=aR O;obtain ⟨bf,c7,c8,O⟩:=aB O
 refine A8 fm 11 [aG,aG,aG,aG,aG,(λH rs v=>[.row af 3 (aF.sz Int) a4.qJ.length ag,.row ah 3 (aF.sz Int) a4.bO.length ai]=rs/\.int .i64 (bd)=v),aG,aG,aG,aG,aG] (sp 11 [(5,[11,12])]) (nn 11) [3,3] [0,1,2,3,4,5,6,7,8,9,10] G ⟨om,om,om,om,om,?_,om,om,om,om,om,RM⟩ ?_;intro HX hX X Rest hR;refine dr ?_;intro hU hUp;refine Wp [0,0] ?_;refine cY @tc be ?_;rintro _ _ _ ⟨rfl,⟨_,rfl,⟨_,rfl,rfl,rfl⟩⟩⟩;exact oe [.row af 3 (aF.sz Int) a4.qJ.length ag,.row ah 3 (aF.sz Int) a4.bO.length ai] lE ⟨G,G⟩;intro c9 cb;refine dz ?_;refine Wp [0,0,0,0,0,0] ?_;refine go ?_;obtain ⟨ar,cc,ce,O⟩:=aB O;refine go ?_;refine wF 3 2 (bL.mk ar.jC ar.rr (i64.wrap (bf.c_+b8.c_))) ?_;intro cf cg ch;refine gt ?_;refine gj ?_;exact kx [0,3,0,0,1] 1 (eb bb bc) G (kK (bV ba h4.mm.cU));obtain rfl:=fH aq ae;have O:=(b7 _ _).symm.trans O;refine gs ?_;refine Ek [0] 4 ?_
 exact ef
theorem yZ {a0:Int}{r:Bool} (O:oR a0=r):
  Cq B w0 165 [.int .i64 (a0)] H M (Ht r):=by
 unfold oR at O;refine fF func165 ?_;refine g2 ?_;obtain rfl:=O;refine Ew H ?_;exact lf G G ⟨G,G,G⟩
end Go.Sim
