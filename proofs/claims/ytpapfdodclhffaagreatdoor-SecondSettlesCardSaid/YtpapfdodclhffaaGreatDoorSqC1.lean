/-
  The proof, part C1.
-/
import Derived.KernelRfl
import Derived.LoopN
import Derived.Shelf.Strconv.Itoa0
import Derived.Shelf.Strconv.Itoa1
import Derived.Shelf.LaysM
import Derived.Shelf.Strconv.Itoa2
import Derived.Shelf.Strconv.Itoa3
import Derived.Shelf.Strconv.Clone
import Derived.Shelf.Strconv.SyntaxError
import Derived.Shelf.LaysC
import Derived.Shelf.Strconv.ToError
import Derived.Shelf.Strconv.Lower
import Derived.Shelf.Strconv.ParseUint10
import Derived.Shelf.Strconv.ParseUint10Empty
import Derived.Shelf.Strconv.ParseUint10Any
import Derived.Shelf.Strconv.RangeError
import Derived.Shelf.Strconv.ToErrorRange
import Derived.Shelf.Strconv.ParseUintEmpty
import Derived.Shelf.Strconv.ParseUint10b64
import Derived.Shelf.Strconv.ParseUint10b32
import Derived.Shelf.Strconv.ParseUint10b16
import Derived.Shelf.Strconv.ParseUint10b8
import Derived.Test.YtpapfdodclhffaaGreatDoorProg
import Derived.Test.YtpapfdodclhffaaGreatDoorRows
import Derived.Test.YtpapfdodclhffaaGreatDoorSqA2
set_option linter.unusedVariables false
set_option linter.unusedSimpArgs false
set_option linter.unusedSectionVars false
set_option linter.unnecessarySimpa false
namespace Go.Sim
abbrev Vg := @Int.natCast_nonneg
abbrev UC := @List.Perm.refl
abbrev V8 := @List.length_eq_one_iff
abbrev SR := @List.length_nil
abbrev V2 := @Nat.and_two_pow_sub_one_eq_mod
abbrev Vd := @congrFun
abbrev Vk := @Go.Proofs.Tryz.isAgg29
abbrev Wt := @Go.Proofs.Tryz.runUnderlying169
abbrev VP := @Go.Proofs.Tryz.runUnderlying206
abbrev Ta := @Go.Proofs.Tryz.runUnderlying22
abbrev Xj := @Go.Proofs.Tryz.runUnderlying24
abbrev V5 := @Go.Proofs.Tryz.runUnderlying25
abbrev T8 := @Go.Proofs.Tryz.runUnderlying256
abbrev UI := @Go.Proofs.Tryz.runUnderlying26
abbrev WI := @Go.Proofs.Tryz.runUnderlying29
abbrev Uo := @Go.Proofs.Tryz.runUnderlying3
abbrev Td := @Go.Proofs.Tryz.runUnderlying34
abbrev WZ := @Go.Proofs.Tryz.runUnderlying4
abbrev W0 := @Go.Proofs.Tryz.runUnderlying5
abbrev SH := @Go.Proofs.Tryz.runUnderlying9
abbrev WR := @Go.Proofs.Tryz.sizeOf120
abbrev U4 := @Go.Proofs.Tryz.sizeOf29
abbrev TD := @Go.Proofs.Tryz.sizeOf3
abbrev Uh := @Go.Proofs.Tryz.sizeOf9
abbrev U5 := @Go.Proofs.Tryz.underlying22
abbrev TH := @Go.Proofs.Tryz.underlying34
abbrev Xn := @Go.Proofs.Tryz.zeroValue120
abbrev UD := @Go.Proofs.Tryz.zeroValue3
abbrev Ul := @Go.Proofs.Tryz.zeroValue9
end Go.Sim
namespace Go.Sim
open Go
open _root_.Go.IntKind (i64 u64 u32 u8)
theorem G {α : Sort _} {a : α} : a = a := rfl
def Ce:Nat->List b_->Option (b_×List b_)
 | _,[]=>none
 | 0,r::l=>some (r,l)
 | n+1,r::l=>match Ce n l with
  | some (s,l')=>some (s,r::l')
  | none=>none
theorem wb:∀ {n:Nat}{l:List b_}{r:b_}{l':List b_},Ce n l=some (r,l')->l.Perm (r::l')
 | _,[],_,_,h=>by simp [Ce] at h
 | 0,s::l,r,l',h=>by simp only [Ce,Sn,UB] at h; rw [h.1,h.2]
 | n+1,s::l,r,l',h=>by
  simp only [Ce] at h
  split at h
  ·rename_i q l2 e
   simp only [Sn,UB] at h;obtain ⟨rfl,rfl⟩:=h;exact ((wb e).cons s).trans (List.Perm.swap _ _ _)
  ·cases h
def BZ:List Nat->List b_->Option (List b_)
 | [],l=>some l
 | i::J,l=>match Ce i l with
  | some (r,l')=>(match BZ J l' with
   | some I=>some (r::I)
   | none=>none)
  | none=>none
theorem yb:∀ {ix:List Nat}{l l':List b_},BZ ix l=some l'->l.Perm l'
 | [],l,l',h=>by simp only [BZ,Sn] at h; rw [h]
 | i::I,l,l',h=>by
  simp only [BZ] at h
  split at h
  ·rename_i r l1 e
   split at h
   ·rename_i l2 e2
    simp only [Sn] at h;subst h;exact (wb e).trans ((yb e2).cons r)
   ·cases h
  ·cases h
def Gt:Nat->List b_->Option (List b_)
 | 0,l=>some l
 | _+1,[]=>none
 | n+1,_::l=>Gt n l
theorem Eo:∀ {n:Nat}{l l':List b_},Gt n l=some l'->l'.Sublist l
 | 0,l,l',h=>by simp only [Gt,Sn] at h; rw [h]; exact Ux _
 | n+1,[],l',h=>by simp [Gt] at h
 | n+1,r::l,l',h=>(Eo (n:=n) (l:=l) h).cons r
def zW:List Nat->Nat->List b_->Option (List b_)
 | [],d,l=>Gt d l
 | i::J,d,l=>match Ce i l with
  | some (r,l')=>(match zW J d l' with
   | some I=>some (r::I)
   | none=>none)
  | none=>none
theorem BH:∀ {ix:List Nat}{d:Nat}{l l':List b_},zW ix d l=some l'->∃ k,l.Perm k/\l'.Sublist k
 | [],d,l,l',h=>⟨l,UC _,Eo h⟩
 | i::J,d,l,l',h=>by
  simp only [zW] at h
  split at h
  ·rename_i r l1 e
   split at h
   ·rename_i l2 e2
    simp only [Sn] at h;subst h;obtain ⟨k,I,hs⟩:=BH e2;exact ⟨r::k,(wb e).trans (I.cons r),hs.cons_cons r⟩
   ·cases h
  ·cases h
def Mz:List Nat->List b_->Option (List (List b_)×List b_)
 | [],l=>some ([],l)
 | i::J,l=>match Ce i l with
  | some (r,l')=>(match Mz J l' with
   | some (I,m)=>some ([r]::I,m)
   | none=>none)
  | none=>none
theorem EM:∀ {ix:List Nat}{l:List b_}{I:List (List b_)}{m:List b_},Mz ix l=some (I,m)->l.Perm (I.flatten++m)
 | [],l,I,m,h=>by simp only [Mz,Sn,UB] at h; obtain ⟨rfl,rfl⟩:=h; exact UC _
 | i::J,l,I,m,h=>by
  simp only [Mz] at h
  split at h
  ·rename_i r l1 e
   split at h
   ·rename_i I2 m2 e2
    simp only [Sn,UB] at h;obtain ⟨rfl,rfl⟩:=h;simpa using (wb e).trans ((EM e2).cons r)
   ·cases h
  ·cases h
section
variable {x:Cx}{ops:Array Oper}{Q:mj}{rest:List Oper}{H:Hp}{M M':List b_}{L L':Env}{e:Exit}{c:Code}
theorem Wp (ix:List Nat) (k:W x ops Q rest H M' L) (h:BZ ix M=some M':=by rfl):W x ops Q rest H M L:=mg (yb h) k
theorem Cp (ix:List Nat) (k:Sim.C x c Q H M' L) (h:BZ ix M=some M':=by rfl):Sim.C x c Q H M L:=CH (yb h) k
theorem Ep (ix:List Nat) (k:E x e Q H M' L) (h:BZ ix M=some M':=by rfl):E x e Q H M L:=Hf (yb h) k
theorem Ek (ix:List Nat) (d:Nat) (k:E x e Q H M' L) (h:zW ix d M=some M':=by rfl):E x e Q H M L:=by
 obtain ⟨n,I,hs⟩:=BH h;exact Hf I (Kz hs k)
theorem Ck (ix:List Nat) (d:Nat) (k:Sim.C x c Q H M' L) (h:zW ix d M=some M':=by rfl):Sim.C x c Q H M L:=by
 obtain ⟨n,I,hs⟩:=BH h;exact CH I (λa w s t=>k a w s (t.sub hs))
theorem kx (ix:List Nat) (d:Nat) (k:E x e Q H M' L') (h:zW ix d M=some M':=by rfl) (hL:Kept L L':=by repeat first | exact RW | refine ⟨rfl,?_⟩):E x e Q H M L:=
 Ek ix d (EO hL (UC _) k) h
theorem QS (ix:List Nat) (d:Nat) (S:Ec) (n:Nat) (I:S n H M' L') (step:∀ n H M L,S n H M L->Sim.C x c (Exit.then (Kw x S n) Q) H M L) (h:zW ix d M=some M':=by rfl) (hL:Kept L L':=by repeat first | exact RW | refine ⟨rfl,?_⟩):Sim.C x (.loop c) Q H M L:=
 Ck ix d (CF hL (UC _) (CG S n I step)) h
end
def Ke:Nat->RV->List RV->Option (List RV)
 | _,_,[]=>none
 | 0,v,_::l=>some (v::l)
 | n+1,v,u::l=>match Ke n v l with
  | some l'=>some (u::l')
  | none=>none
def BY:List RV->Nat->List RV->Option (List RV)
 | l,_,[]=>some l
 | l,k,v::vs=>match Ke k v l with
  | some l'=>BY l' (k+1) vs
  | none=>none
theorem Ji:∀ {n:Nat}{v:RV}{l l':List RV},Ke n v l=some l'->l.set n v=l'/\n<l.length
 | _,_,[],_,h=>by simp [Ke] at h
 | 0,v,u::l,l',h=>by simp only [Ke,Sn] at h; subst h; exact ⟨rfl,by simp⟩
 | n+1,v,u::l,l',h=>by
  simp only [Ke] at h
  split at h
  ·rename_i l2 e
   simp only [Sn] at h;subst h;obtain ⟨h1,h2⟩:=Ji e;exact ⟨by simp [h1],by simp; omega⟩
  ·cases h
theorem DK:∀ {vs:List RV}{l:List RV}{k:Nat}{l':List RV},BY l k vs=some l'->over l k vs=l'/\(vs=[]\/k+vs.length<=l.length)
 | [],l,k,l',h=>by simp only [BY,Sn] at h; subst h; exact ⟨rfl,.inl rfl⟩
 | v::vs,l,k,l',h=>by
  simp only [BY] at h
  split at h
  ·rename_i l2 e
   obtain ⟨h1,h2⟩:=Ji e;obtain ⟨J,I⟩:=DK h;refine ⟨by simp only [over]; rw [h1]; exact J,.inr ?_⟩
   have hl:l2.length=l.length:=by rw [<- h1]; simp
   rcases I with rfl | I
   ·simp; omega
   ·simp only [R_]; omega
  ·cases h
section
variable {x:Cx}{ops:Array Oper}{Q:mj}{rest:List Oper}{H:Hp}{M M':List b_}{L L':Env}{ty:TypeId}{pos:String}{aft:Array Edge}{g:Option (Nat×Bool)}
theorem ws (i:Nat) {T U n b o:Nat}{y z:Operand}{l cs out:List RV}{v:RV}{M1:List b_} (Z:v.cells=cs.toArray)
  (k:W x ops Q rest H (.obj b (.cells out.toArray U (0,0))::M1) L)
  (h1:∀ c ∈ cs,c.oneCell'=true:=by repeat first | exact TJ | refine dA rfl ?_)
  (hy:ev L y=some (.pointer (some ⟨b,o,none⟩)):=by rfl) (hz:ev L z=some v:=by rfl) (hM:Ce i M=some (.obj b (.cells l.toArray U (0,0)),M1):=by rfl)
  (Y:gd ops L ⟨none,.store T y z,ty,pos,aft,g⟩=some true:=by rfl) (hn:∀ w,(sizeOf T).run x.P w=.ok n w:=by exact λ_=>rfl) (hl:cs.length=n:=by rfl) (ho:BY l o cs=some out:=by rfl):
  W x ops Q (⟨none,.store T y z,ty,pos,aft,g⟩::rest) H M L:=by
 refine mg (wb hM) ?_;obtain ⟨h2,I⟩:=DK ho;rcases I with rfl | I
 ·have h2:l=out:=h2
  subst h2;exact EX rfl Y (λa w hs ht=>⟨w,by
   have J:n=0:=hl.symm;subst J;simp [execOp,hs.ev hy,hs.ev hz,Instr.storeAt,Instr.sureAddr,storeVar,hn,Z,storeCells],H,_,ht,k⟩)
 ·exact EY Y hn hy hz Z hl (by simpa [US] using I) h1 h2 k
end
def OT:Nat->List b_->Option (List b_)
 | 0,l=>some l
 | _+1,[]=>none
 | n+1,r::l=>match OT n l with
  | some l'=>some (r::l')
  | none=>none
theorem HM:∀ {n:Nat}{l l':List b_},OT n l=some l'->l=l'
 | 0,l,l',h=>by simpa [OT] using h
 | n+1,[],l',h=>by simp [OT] at h
 | n+1,r::l,l',h=>by
  simp only [OT] at h
  split at h
  ·rename_i l2 e
   simp only [Sn] at h;subst h;rw [HM e]
  ·cases h
section
variable {x:Cx}{ops:Array Oper}{Q:mj}{rest:List Oper}{H:Hp}{M M' M1:List b_}{rs:List b_}{L L':Env}{e:Exit}{c:Code}
theorem Wu (n:Nat) (k:W x ops Q rest H M' L) (h:M=cJ rs::M1:=by rfl) (h2:OT n (rs++M1)=some M':=by rfl):W x ops Q rest H M L:=λa w hs ht=>k a w hs (by rw [<- HM h2]; rw [h] at ht; exact ht.unpack)
theorem Cu (n:Nat) (k:Sim.C x c Q H M' L) (h:M=cJ rs::M1:=by rfl) (h2:OT n (rs++M1)=some M':=by rfl):Sim.C x c Q H M L:=λa w hs ht=>k a w hs (by rw [<- HM h2]; rw [h] at ht; exact ht.unpack)
theorem Wk (rs:List b_) (k:W x ops Q rest H (cJ rs::M1) L) (h:rs++M1=M:=by rfl):W x ops Q rest H M L:=λa w hs ht=>k a w hs (by rw [<- h] at ht; exact ht.pack)
theorem uv (rs:List b_) (k:E x e Q H (cJ rs::M1) L) (h:rs++M1=M:=by rfl):E x e Q H M L:=λa w hs ht=>k a w hs (by rw [<- h] at ht; exact ht.pack)
end
section
variable {x:Cx}{ops:Array Oper}{Q:mj}{rest:List Oper}{H:Hp}{M:List b_}{L:Env}{e:Exit}{c:Code}
theorem v_ (k:W x ops Q rest H M L):W x ops Q rest H M L:=k
theorem P2 (k:E x e Q H M L):E x e Q H M L:=k
theorem P1 (k:Go.Sim.C x c Q H M L):Go.Sim.C x c Q H M L:=k
end
section
variable {x:Cx}{ops:Array Oper}{Q:mj}{rest:List Oper}{H:Hp}{M:List b_}{L:Env}{d:Nat}{ty:TypeId}{pos:String}{aft:Array Edge}{g:Option (Nat×Bool)}
theorem fq {T:TypeId}{y:Operand}{ad:Addr}{f n o J Y:Nat}{fs:Array Field}{nm tg pp:String}{em:Bool} (k:W x ops Q rest H M ((d,.pointer (some (ad.add o)))::L))
  (hy:ev L y=some (.pointer (some ad)):=by rfl) (Z:∀ w,(underlying T).run x.P w=.ok (.struct fs) w:=by exact λ_=>rfl) (hf:fs[f]? = some ⟨nm,J,o,em,tg,pp,Y⟩:=by rfl) (hn:∀ w,(sizeOf J).run x.P w=.ok n w:=by exact λ_=>rfl)
  (I:Nat.beq n 0=false:=by rfl) (hg:gd ops L ⟨some d,.fieldAddr T y f,ty,pos,aft,g⟩=some true:=by rfl) (hN:Nat.blt d x.N=true:=by rfl):
  W x ops Q (⟨some d,.fieldAddr T y f,ty,pos,aft,g⟩::rest) H M L:=vI hg hN Z hf hn I rfl hy k
end
section
variable {x:Cx}{ops:Array Oper}{Q:mj}{rest:List Oper}{H:Hp}{M:List b_}{L:Env}{d:Nat}{ty:TypeId}{pos:String}{aft:Array Edge}{g:Option (Nat×Bool)}{y z c:Operand}{T U:TypeId}{n:Nat}{o:Oper}{op:BinOp}{uo:UnOp}{tys:Array TypeId}{fn:Fn}{ys bs:Array Operand}
theorem P3 (k:W x ops Q (o::rest) H M L):W x ops Q (o::rest) H M L:=k
theorem p1 (k:W x ops Q (⟨some d,.move y,ty,pos,aft,g⟩::rest) H M L):W x ops Q (⟨some d,.move y,ty,pos,aft,g⟩::rest) H M L:=k
theorem p2 (k:W x ops Q (⟨some d,.assign y,ty,pos,aft,g⟩::rest) H M L):W x ops Q (⟨some d,.assign y,ty,pos,aft,g⟩::rest) H M L:=k
theorem p3 (k:W x ops Q (⟨some d,.fieldAddr T y n,ty,pos,aft,g⟩::rest) H M L):W x ops Q (⟨some d,.fieldAddr T y n,ty,pos,aft,g⟩::rest) H M L:=k
theorem p4 (k:W x ops Q (⟨some d,.load T y,ty,pos,aft,g⟩::rest) H M L):W x ops Q (⟨some d,.load T y,ty,pos,aft,g⟩::rest) H M L:=k
theorem p5 (k:W x ops Q (⟨some d,.binOp op T y z U,ty,pos,aft,g⟩::rest) H M L):W x ops Q (⟨some d,.binOp op T y z U,ty,pos,aft,g⟩::rest) H M L:=k
theorem p6 (k:W x ops Q (⟨some d,.pick c y z,ty,pos,aft,g⟩::rest) H M L):W x ops Q (⟨some d,.pick c y z,ty,pos,aft,g⟩::rest) H M L:=k
theorem p7 (k:W x ops Q (⟨some d,.extract y n,ty,pos,aft,g⟩::rest) H M L):W x ops Q (⟨some d,.extract y n,ty,pos,aft,g⟩::rest) H M L:=k
theorem p8 (k:W x ops Q (⟨some d,.nilCheck y,ty,pos,aft,g⟩::rest) H M L):W x ops Q (⟨some d,.nilCheck y,ty,pos,aft,g⟩::rest) H M L:=k
theorem p9 (k:W x ops Q (⟨some d,.unOp uo T y,ty,pos,aft,g⟩::rest) H M L):W x ops Q (⟨some d,.unOp uo T y,ty,pos,aft,g⟩::rest) H M L:=k
theorem pa (k:W x ops Q (⟨some d,.convert T U y,ty,pos,aft,g⟩::rest) H M L):W x ops Q (⟨some d,.convert T U y,ty,pos,aft,g⟩::rest) H M L:=k
theorem pb (k:W x ops Q (⟨some d,.makeFunc fn ys bs,ty,pos,aft,g⟩::rest) H M L):W x ops Q (⟨some d,.makeFunc fn ys bs,ty,pos,aft,g⟩::rest) H M L:=k
theorem pc (k:W x ops Q (⟨some d,.call ⟨.builtin .len,#[y],#[T]⟩,ty,pos,aft,g⟩::rest) H M L):W x ops Q (⟨some d,.call ⟨.builtin .len,#[y],#[T]⟩,ty,pos,aft,g⟩::rest) H M L:=k
theorem pg {j:Nat}{w:Bool}{J:Op}{I:Option Nat} (k:W x ops Q (⟨I,J,ty,pos,aft,some (j,w)⟩::rest) H M L):W x ops Q (⟨I,J,ty,pos,aft,some (j,w)⟩::rest) H M L:=k
end
abbrev ph (a:RV):Hp->List b_->RV->Prop:=λ_ rs v=>[]=rs/\a=v
abbrev aH {a:RV}:Hp->List b_->RV->Prop:=ph a
def nn (n:Nat):List (List Nat):=List.replicate n []
section
variable {x:Cx}{ops:Array Oper}{Q:mj}{H H':Hp}{M:List b_}{L:Env}{t:Nat}{ps:Option Nat}{v:RV}{φ:Hp->List b_->RV->Prop}
theorem o0 (h:φ H [] v):W x ops (ES x H M L (some t) ps φ) [] H M ((t,v)::L):=bD (fQ [] (SP _) h)
theorem oe (rs:List b_) (I:H.le H') (h:φ H' rs v):W x ops (ES x H M L (some t) ps φ) [] H' (rs++M) ((t,v)::L):=bD (fQ rs I h)
end
theorem dr {P Q:Prop} (k:Q) (h:Q->P:=by
  intro k
  repeat (rintro _ _ ⟨rfl,rfl⟩)
  exact k):P:=h k
theorem dz {P Q:Prop} (k:Q) (h:Q->P:=by
  intro k
  repeat (rintro _ _ ⟨rfl,rfl⟩)
  refine v_ ?_;exact k):P:=h k
theorem ma {P:Prop} (h:P:=by
    repeat' first
      | exact RW
      | exact gB _ _
      | refine ⟨?_,?_⟩
      | (intro J Y rs v I
         repeat' first
           | exact λh=>h
           | exact λh=>aU.mono I h
           | exact λh=>Rw.mono I h
           | exact λh=>rL.mono I h
           | exact λh=>kF.mono I h
           | exact λh=>Mx.mono h I
           | refine Exists.imp (λ_=>?_)
           | refine And.imp ?_ ?_)):P:=h
theorem Q2 {x:Cx}{l:List Oper}{Q:mj}{H:Hp}{M:List b_}{L:Env}{id:Nat} (Y:x.P.follows .mixedOrders=true) (m:Nat) (F:List (Hp->List b_->RV->Prop)) (C U:List (List Nat)) (I:List (List b_)) (live:List Nat)
  (hop:yX x l (AB F) C U [] (FX m I) H M L 0 (l.take m))
  (k:∀ H',H.le H'->xP l (AB F) H' (List.range m) L (FX m I) (λL' R=>W x l.toArray Q (l.drop m) H' (vd live R M) L'))
  (hB:wM l m=true:=by kernel_rfl) (hml:Nat.ble m l.length=true:=by rfl) (hD:Ao l m L=true:=by rfl) (Z:Ap l m=true:=by rfl)
  (hT:Ip l m (m+I.length) C U live=true:=by kernel_rfl) (J:CL F:=by exact ma):Go.Sim.C x (.region id l.toArray true) Q H (I.flatten++M) L:=
 rK m (AB F) C U I live Y hB hml hD Z hT (uQ J) hop k
def QI:Nat->Nat->List (Nat×List Nat)->List (List Nat)
 | 0,_,_=>[]
 | n+1,i,[]=>[]::QI n (i+1) []
 | n+1,i,(j,c)::l=>bif Nat.beq i j then c::QI n (i+1) l else []::QI n (i+1) ((j,c)::l)
def sp (n:Nat) (l:List (Nat×List Nat)):List (List Nat):=QI n 0 l
theorem yF {x:Cx}{l:List Oper}{Q:mj}{H:Hp}{M Z:List b_}{L:Env}{id:Nat}{I:List (List b_)} (Y:x.P.follows .mixedOrders=true) (m:Nat) (F:List (Hp->List b_->RV->Prop)) (C U:List (List Nat)) (ix live:List Nat)
  (hI:Mz ix M=some (I,Z))
  (hop:yX x l (AB F) C U [] (FX m I) H Z L 0 (l.take m))
  (k:∀ H',H.le H'->xP l (AB F) H' (List.range m) L (FX m I) (λL' R=>W x l.toArray Q (l.drop m) H' (vd live R Z) L'))
  (hB:wM l m=true:=by kernel_rfl) (hml:Nat.ble m l.length=true:=by rfl) (hD:Ao l m L=true:=by rfl) (hNd:Ap l m=true:=by rfl)
  (hT:Ip l m (m+I.length) C U live=true:=by kernel_rfl) (J:CL F:=by exact ma):Go.Sim.C x (.region id l.toArray true) Q H M L:=
 CH (EM hI) (Q2 Y m F C U I live hop k hB hml hD hNd hT J)
theorem oU {x:Cx}{l:List Oper}{Q:mj}{H:Hp}{M:List b_}{L:Env}{id:Nat} (J:x.P.follows .mixedOrders=true) (m:Nat) (F:List (Hp->List b_->RV->Prop))
  (hop:yX x l (AB F) (nn m) (nn m) [] (FX m []) H M L 0 (l.take m))
  (k:∀ H',H.le H'->xP l (AB F) H' (List.range m) L (FX m []) (λL' R=>W x l.toArray Q (l.drop m) H' (vd (List.range m) R M) L'))
  (hB:wM l m=true:=by kernel_rfl) (Z:Nat.ble m l.length=true:=by rfl) (hD:Ao l m L=true:=by rfl) (Y:Ap l m=true:=by rfl)
  (hT:Ip l m m (nn m) (nn m) (List.range m)=true:=by kernel_rfl) (I:CL F:=by exact ma):Go.Sim.C x (.region id l.toArray true) Q H M L:=
 rK m (AB F) (nn m) (nn m) [] (List.range m) J hB Z hD Y hT (uQ I) hop k
theorem dG {α I R:Type}{B:Nat->α->I->(I->Option R)->Option R}{K:I->Option R}{l:List α}{s:I}{r:Option R}{i:Nat} (h:eL B K i l s=r):
  ∃ F:Nat->List α->I->Option R,(∀ i y ys s,F i (y::ys) s=B i y s (F (i+1) ys))/\(∀ i s,F i [] s=K s)/\F i l s=r:=⟨eL B K,λ_ _ _ _=>rfl,λ_ _=>rfl,h⟩
theorem kL {I R:Type}{B:Nat->I->(I->Option R)->Option R}{K:I->Option R}{m:Nat}{s:I}{r:Option R}{i:Nat} (h:lH B K m i s=r):
  ∃ F:Nat->Nat->I->Option R,(∀ m i s,F (m+1) i s=B i s (F m (i+1)))/\(∀ i s,F 0 i s=K s)/\F m i s=r:=⟨lH B K,λ_ _ _=>rfl,λ_ _=>rfl,h⟩
theorem lF {I R:Type}{B:I->(I->Option R)->Option R}{m:Nat}{s:I}{r:Option R} (h:iV B m s=r):
  ∃ F:Nat->I->Option R,(∀ m s,F (m+1) s=B s (F m))/\(∀ s,F 0 s=none)/\F m s=r:=⟨iV B,λ_ _=>rfl,λ_=>rfl,h⟩
section
variable {x:Cx}{Q:mj}{H:Hp}{M M':List b_}{L L':Env}{e:Exit}{c:Code}
theorem kj (k:E x e Q H M L') (hL:Kept L L':=by repeat first | exact RW | refine ⟨rfl,?_⟩):E x e Q H M L:=EO hL (UC _) k
theorem kp (k:E x e Q H M' L') (I:M.Perm M') (hL:Kept L L':=by repeat first | exact RW | refine ⟨rfl,?_⟩):E x e Q H M L:=EO hL I k
theorem OL (S:Ec) (n:Nat) (I:S n H M L') (step:∀ n H M L,S n H M L->Go.Sim.C x c (Exit.then (Kw x S n) Q) H M L) (hL:Kept L L':=by repeat first | exact RW | refine ⟨rfl,?_⟩):Go.Sim.C x (.loop c) Q H M L:=
 CF hL (UC _) (CG S n I step)
theorem cj {m:List b_}{d:Code} (u:Env) (ix:List Nat) (e:Nat) (S:Env->List b_->PJ) (rest:∀ H M L,S u m H M L->Go.Sim.C x d Q H M L)
  (k:(∀ H M L,S u m H M L->E x .normal (Exit.then (d.wp x.P Q) Q) H M L)->Go.Sim.C x c (Exit.then (d.wp x.P Q) Q) H M L) (O:zW ix e M=some m:=by rfl) (I:Kept L u:=by repeat first | exact RW | refine ⟨rfl,?_⟩):Go.Sim.C x (.seq c d) Q H M L:=
 tl (S u m) rest k
theorem cl {m:List b_} (u:Env) (J:List Nat) (e:Nat) (ix:List Nat) (d:Nat) (S:Env->List b_->Ec) (n:Nat) (O:zW J e M=some m) (I:S u m n H M' L') (step:∀ n H M L,S u m n H M L->Go.Sim.C x c (Exit.then (Kw x (S u m) n) Q) H M L)
  (h:zW ix d M=some M':=by rfl) (Y:Kept L u:=by repeat first | exact RW | refine ⟨rfl,?_⟩) (hL:Kept L L':=by repeat first | exact RW | refine ⟨rfl,?_⟩):Go.Sim.C x (.loop c) Q H M L:=
 QS ix d (S u m) n I step h hL
theorem cd {α:Type}{o:Operand}{p q:Code}{b:Bool}{u v r:α} (O:(if b=true then u else v)=r) (I:ev L o=some (.bool b)) (J:b=true->u=r->Go.Sim.C x p Q H M L) (Y:b=false->v=r->Go.Sim.C x q Q H M L):Go.Sim.C x (.cond o p q) Q H M L:=
 bS I (λh=>J h (dM h O)) (λh=>Y h (dL h O))
theorem cT {o:Operand}{p q:Code} (I:ev L o=some (.bool true)) (k:Go.Sim.C x p Q H M L):Go.Sim.C x (.cond o p q) Q H M L:=bS I (λ_=>k) (λh=>Bool.noConfusion h)
theorem cF {o:Operand}{p q:Code} (I:ev L o=some (.bool false)) (k:Go.Sim.C x q Q H M L):Go.Sim.C x (.cond o p q) Q H M L:=bS I (λh=>Bool.noConfusion h) (λ_=>k)
end
theorem sb {a b:Bool} (h:a=b):some (Value.bool a)=some (Value.bool b):=by rw [h]
theorem Hl:(∀ b,(b && true)=b)/\(∀ b,(true && b)=b)/\(∀ b,(false && b)=false)/\(∀ b,(b && false)=false)/\(∀ b,(b || true)=true)/\(∀ b,(true || b)=true)/\(∀ b,(b || false)=b)/\(∀ b,(false || b)=b)/\(!true)=false/\(!false)=true/\(∀ α:Type,(none:Option α).isNone=true)/\(∀ (α:Type) (a:α),(some a).isNone=false):=by
 refine ⟨?_,?_,?_,?_,?_,?_,?_,?_,rfl,rfl,λ_=>rfl,λ_ _=>rfl⟩ <;> intro b <;> cases b <;> rfl
section
variable {x:Cx}{ops:Array Oper}{Q:mj}{rest:List Oper}{H:Hp}{M:List b_}{L:Env}{d:Nat}{ty:TypeId}{pos:String}{aft:Array Edge}{g:Option (Nat×Bool)}
theorem lo {T b i U:Nat}{fz:Nat×Nat}{y:Operand}{l:List RV}{v:RV} (I:∀ w,(isAgg T).run x.P w=.ok false w) (Z:ev L y=some (.pointer (some ⟨b,i,none⟩))) (O:b_.obj b (.cells l.toArray U fz) ∈ M) (J:l[i]? = some v)
  (k:W x ops Q rest H M ((d,v)::L)) (Y:gd ops L ⟨some d,.load T y,ty,pos,aft,g⟩=some true:=by rfl) (hN:Nat.blt d x.N=true:=by rfl):W x ops Q (⟨some d,.load T y,ty,pos,aft,g⟩::rest) H M L:=
 rP Y hN I Z (xp O J) k
theorem la {T b U n:Nat}{fz:Nat×Nat}{y:Operand}{l:List RV} (I:∀ w,(isAgg T).run x.P w=.ok true w) (hn:∀ w,(sizeOf T).run x.P w=.ok n w) (Y:ev L y=some (.pointer (some ⟨b,0,none⟩))) (O:b_.obj b (.cells l.toArray U fz) ∈ M) (hl:l.length=n)
  (k:W x ops Q rest H M ((d,.agg l.toArray)::L)) (J:gd ops L ⟨some d,.load T y,ty,pos,aft,g⟩=some true:=by rfl) (hN:Nat.blt d x.N=true:=by rfl):W x ops Q (⟨some d,.load T y,ty,pos,aft,g⟩::rest) H M L:=
 jZ J hN I hn Y (FC O) hl k
theorem fi {T:TypeId}{y:Operand}{ad:Addr}{f n:Nat}{fs:Array Field}{I:Field} (o:Nat) (Y:∀ w,(underlying T).run x.P w=.ok (.struct fs) w) (Z:fs[f]? = some I) (hn:∀ w,(sizeOf I.type).run x.P w=.ok n w) (hy:ev L y=some (.pointer (some ad)))
  (k:W x ops Q rest H M ((d,.pointer (some (ad.add o)))::L)) (ho:I.offset=o:=by rfl) (J:Nat.beq n 0=false:=by rfl) (hg:gd ops L ⟨some d,.fieldAddr T y f,ty,pos,aft,g⟩=some true:=by rfl) (hN:Nat.blt d x.N=true:=by rfl):
  W x ops Q (⟨some d,.fieldAddr T y f,ty,pos,aft,g⟩::rest) H M L:=vI hg hN Y Z hn J ho hy k
end
theorem lE {H H':Hp} (h:H.le H':=by first | exact SP _ | assumption | ((repeat first | assumption | exact SP _ | refine Ww ?_ (by assumption)); done)):H.le H':=h
section
variable {α:Type}[aK α] {H H':Hp}{v:RV}{xs:List RV}{l:List α}{ad:Addr}
theorem aU.mm (h:aU H v l) (e:H.le H':=by exact lE):aU H' v l:=aU.mono e h
theorem Rw.mm (h:Rw H v xs l) (e:H.le H':=by exact lE):Rw H' v xs l:=Rw.mono e h
theorem rL.mm (h:rL H xs l) (e:H.le H':=by exact lE):rL H' xs l:=rL.mono e h
theorem kF.mm (h:kF H ad xs) (e:H.le H':=by exact lE):kF H' ad xs:=kF.mono e h
theorem Mx.mm {T1 T2:TypeId}{hs:List RV}{mx:List b_}{sg:List Nat}{ls:List (List α)} (h:Mx T1 T2 H v hs mx sg ls) (e:H.le H':=by exact lE):Mx T1 T2 H' v hs mx sg ls:=Mx.mono h e
end
section
variable {x:Cx}{ops:Array Oper}{Q:mj}{rest:List Oper}{H H0:Hp}{M:List b_}{L:Env}{d:Nat}{ty:TypeId}{pos:String}{aft:Array Edge}{g:Option (Nat×Bool)}{ee:Exit}
theorem Ew (H0:Hp) (k:E x ee Q H0 M L) (h:H0.le H:=by exact lE):E x ee Q H M L:=ER h k
theorem Ct {α:Type}[aK α] {t e:TypeId}{y z:Operand}{v:RV}{xs:List α}{el:α}{kk:IntKind}{i:Int}{n:Nat} (hR:aU H0 v xs) (he:xs[n]? = some el)
  (k:W x ops Q rest H M ((d,.pointer (some ((Value.base v).add (i.toNat*aK.sz α))))::L)) (I:H0.le H:=by exact lE) (hy:ev L y=some v:=by rfl) (hz:ev L z=some (.int kk i):=by rfl) (hn:i.toNat=n:=by rfl)
  (J:0<=i:=by first | exact Vg _ | assumption | decide) (Y:∀ w,(underlying t).run x.P w=.ok (.slice e) w:=by exact λ_=>rfl) (hs:∀ w,(sizeOf e).run x.P w=.ok (aK.sz α) w:=by exact λ_=>rfl)
  (Z:gd ops L ⟨some d,.indexAddr t y z,ty,pos,aft,g⟩=some true:=by rfl) (hN:Nat.blt d x.N=true:=by rfl):W x ops Q (⟨some d,.indexAddr t y z,ty,pos,aft,g⟩::rest) H M L:=
 F9 Z hN Y hs hy (aU.mono I hR) hz J (by rw [hn]; exact he) k
theorem lr {α:Type}[aK α] {t e:TypeId}{y:Operand}{v:RV}{xs:List α} (hR:aU H0 v xs) (k:W x ops Q rest H M ((d,.int .i64 xs.length)::L)) (I:H0.le H:=by exact lE) (Z:ev L y=some v:=by rfl)
  (J:∀ w,(underlying t).run x.P w=.ok (.slice e) w:=by exact λ_=>rfl) (Y:gd ops L ⟨some d,.call ⟨.builtin .len,#[y],#[t]⟩,ty,pos,aft,g⟩=some true:=by rfl) (hN:Nat.blt d x.N=true:=by rfl):
  W x ops Q (⟨some d,.call ⟨.builtin .len,#[y],#[t]⟩,ty,pos,aft,g⟩::rest) H M L:=KQ Y hN J Z (aU.mono I hR) k
theorem ve {α:Type}{v:RV}{T:TypeId}{sz n:Nat}{xs:List RV}{t e:TypeId}{y z:Operand}{kk:IntKind}{i:Int}{l:List α}{el:α} (he:l[n]? = some el)
  (k:W x ops Q rest H M ((d,.pointer (some ((Value.base v).add (i.toNat*sz))))::L)) (Z:ev L y=some v:=by rfl) (hz:ev L z=some (.int kk i):=by rfl) (hn:i.toNat=n:=by rfl)
  (O:b_.row v T sz l.length xs ∈ M:=by first | ((repeat first | exact List.Mem.head _ | refine List.Mem.tail _ ?_); done) | (refine hR _ ?_; (repeat first | exact List.Mem.head _ | refine List.Mem.tail _ ?_); done) | (refine hU _ ?_; (repeat first | exact List.Mem.head _ | refine List.Mem.tail _ ?_); done))
  (I:0<=i:=by first | exact Vg _ | assumption | decide) (J:∀ w,(underlying t).run x.P w=.ok (.slice e) w:=by exact λ_=>rfl) (hs:∀ w,(sizeOf e).run x.P w=.ok sz w:=by exact λ_=>rfl)
  (Y:gd ops L ⟨some d,.indexAddr t y z,ty,pos,aft,g⟩=some true:=by rfl) (hN:Nat.blt d x.N=true:=by rfl):W x ops Q (⟨some d,.indexAddr t y z,ty,pos,aft,g⟩::rest) H M L:=
 AM O Y hN J hs Z hz I (by rw [hn]; exact (R3.1 he).1) k
theorem lh {T:TypeId}{y:Operand}{ad:Addr}{cs:List RV}{v:RV} (Y:kF H0 ad cs) (o:Nat) (k:W x ops Q rest H M ((d,v)::L)) (I:H0.le H:=by exact lE) (hy:ev L y=some (.pointer (some (ad.add o))):=by rfl) (hv:cs[o]? = some v:=by rfl)
  (J:∀ w,(isAgg T).run x.P w=.ok false w:=by exact λ_=>rfl) (Z:gd ops L ⟨some d,.load T y,ty,pos,aft,g⟩=some true:=by rfl) (hN:Nat.blt d x.N=true:=by rfl):W x ops Q (⟨some d,.load T y,ty,pos,aft,g⟩::rest) H M L:=
 rP Z hN J hy (kF.one (kF.mono I Y) o hv).at k
theorem P5 {T:TypeId}{n:Nat}{y:Operand}{ad:Addr}{cs:List RV} (Y:kF H0 ad cs) (k:W x ops Q rest H M ((d,.agg cs.toArray)::L)) (I:H0.le H:=by exact lE) (hy:ev L y=some (.pointer (some ad)):=by rfl)
  (J:∀ w,(isAgg T).run x.P w=.ok true w:=by exact λ_=>rfl) (hn:∀ w,(sizeOf T).run x.P w=.ok n w:=by exact λ_=>rfl) (hl:cs.length=n:=by rfl) (Z:gd ops L ⟨some d,.load T y,ty,pos,aft,g⟩=some true:=by rfl) (hN:Nat.blt d x.N=true:=by rfl):
  W x ops Q (⟨some d,.load T y,ty,pos,aft,g⟩::rest) H M L:=jZ Z hN J hn hy (kF.mono I Y).at hl k
theorem zU {T U:TypeId}{y:Operand}{v w:RV}{sz n i:Nat}{xs cs:List RV} (J:∀ j u,cs[j]? = some u->xs[i+j]? = some u) (k:W x ops Q rest H M ((d,w)::L)) (hy:ev L y=some (.pointer (some ((Value.base v).add i))):=by rfl)
  (O:b_.row v U sz n xs ∈ M:=by first | ((repeat first | exact List.Mem.head _ | refine List.Mem.tail _ ?_); done) | (refine hR _ ?_; (repeat first | exact List.Mem.head _ | refine List.Mem.tail _ ?_); done) | (refine hU _ ?_; (repeat first | exact List.Mem.head _ | refine List.Mem.tail _ ?_); done))
  (Y:cs[0]? = some w:=by rfl) (I:∀ w,(isAgg T).run x.P w=.ok false w:=by exact λ_=>rfl) (Z:gd ops L ⟨some d,.load T y,ty,pos,aft,g⟩=some true:=by rfl) (hN:Nat.blt d x.N=true:=by rfl):
  W x ops Q (⟨some d,.load T y,ty,pos,aft,g⟩::rest) H M L:=rP Z hN I hy (DP O J Y) k
theorem Rd {T U:TypeId}{m:Nat}{y:Operand}{v:RV}{sz n i:Nat}{xs cs:List RV} (J:∀ j u,cs[j]? = some u->xs[i+j]? = some u) (k:W x ops Q rest H M ((d,.agg cs.toArray)::L)) (Z:ev L y=some (.pointer (some ((Value.base v).add i))):=by rfl)
  (O:b_.row v U sz n xs ∈ M:=by first | ((repeat first | exact List.Mem.head _ | refine List.Mem.tail _ ?_); done) | (refine hR _ ?_; (repeat first | exact List.Mem.head _ | refine List.Mem.tail _ ?_); done) | (refine hU _ ?_; (repeat first | exact List.Mem.head _ | refine List.Mem.tail _ ?_); done))
  (I:∀ w,(isAgg T).run x.P w=.ok true w:=by exact λ_=>rfl) (hn:∀ w,(sizeOf T).run x.P w=.ok m w:=by exact λ_=>rfl) (hl:cs.length=m:=by rfl) (Y:gd ops L ⟨some d,.load T y,ty,pos,aft,g⟩=some true:=by rfl) (hN:Nat.blt d x.N=true:=by rfl):
  W x ops Q (⟨some d,.load T y,ty,pos,aft,g⟩::rest) H M L:=jZ Y hN I hn Z (zC O J) hl k
theorem bx {T:TypeId}{y:Operand}{v:RV}{cs:List RV} (k:∀ b,W x ops Q rest H (.obj b (.cells cs.toArray T (0,0))::M) ((d,.pointer (some ⟨b,0,none⟩))::L)) (Y:ev L y=some v:=by rfl)
  (I:v.cells=cs.toArray:=by first | exact aU.cells (by assumption) | exact Rw.cells (by assumption) | rfl) (J:gd ops L ⟨some d,.box T y,ty,pos,aft,g⟩=some true:=by rfl) (hN:Nat.blt d x.N=true:=by rfl):
  W x ops Q (⟨some d,.box T y,ty,pos,aft,g⟩::rest) H M L:=PQ J hN Y I k
theorem al {T:TypeId}{z:RV}{cs:List RV} (k:∀ b,W x ops Q rest H (.obj b (.cells cs.toArray T (0,0))::M) ((d,.pointer (some ⟨b,0,none⟩))::L))
  (Y:∀ w,(zeroValue T).run x.P w=.ok z w:=by exact λ_=>rfl) (I:z.cells=cs.toArray:=by rfl) (J:gd ops L ⟨some d,.alloc T,ty,pos,aft,g⟩=some true:=by rfl) (hN:Nat.blt d x.N=true:=by rfl):
  W x ops Q (⟨some d,.alloc T,ty,pos,aft,g⟩::rest) H M L:=MP J hN Y I k
theorem wt (i:Nat) {T U n b o:Nat}{y z:Operand}{l cs out:List RV}{v:RV}{I:List b_}
  (k:W x ops Q rest H (.obj b (.cells out.toArray U (0,0))::I) L) (hy:ev L y=some (.pointer (some ⟨b,o,none⟩)):=by rfl) (hz:ev L z=some v:=by rfl)
  (hv:v.cells=cs.toArray:=by first | exact aU.cells (by assumption) | exact Rw.cells (by assumption) | rfl)
  (h1:∀ c ∈ cs,c.oneCell'=true:=by repeat first | exact TJ | refine dA rfl ?_ | refine dA (aU.pH (by assumption)) ?_ | refine dA (Rw.one (by assumption)) ?_)
  (J:Ce i M=some (.obj b (.cells l.toArray U (0,0)),I):=by rfl)
  (Y:gd ops L ⟨none,.store T y z,ty,pos,aft,g⟩=some true:=by rfl) (hn:∀ w,(sizeOf T).run x.P w=.ok n w:=by exact λ_=>rfl) (hl:cs.length=n:=by rfl) (Z:BY l o cs=some out:=by rfl):
  W x ops Q (⟨none,.store T y z,ty,pos,aft,g⟩::rest) H M L:=ws i hv k h1 hy hz J Y hn hl Z
theorem wr {α:Type}[aK α] (i o:Nat) {T U m:Nat}{y z:Operand}{v u:RV}{xs c cs out:List RV}{l:List α}{e:α}{I:Nat}{M1:List b_}{ad:Addr} (e2:α) (h:Rw H0 v xs l) (he:l[I]? = some e) (hg':∀ j w,c[j]? = some w->xs[I*aK.sz α+j]? = some w)
  (hc:aK.E H c e) (hE:aK.E H out e2)
  (k:∀ sM,Rw H v sM (l.set I e2)->(l.set I e2)[I]? = some e2->(∀ j w,out[j]? = some w->sM[I*aK.sz α+j]? = some w)->W x ops Q rest H (.row v U (aK.sz α) (l.set I e2).length sM::M1) L)
  (hle:H0.le H:=by exact lE) (hy:ev L y=some (.pointer (some ad)):=by rfl) (Y:ad=(Value.base v).add (I*aK.sz α+o):=by first | exact Jg _ _ | exact Mj _ _ _) (hz:ev L z=some u:=by rfl)
  (hv:u.cells=cs.toArray:=by first | exact aU.cells (by assumption) | exact Rw.cells (by assumption) | rfl)
  (h1:∀ c ∈ cs,c.oneCell'=true:=by repeat first | exact TJ | refine dA rfl ?_ | refine dA (aU.pH (by assumption)) ?_ | refine dA (Rw.one (by assumption)) ?_)
  (hM:Ce i M=some (.row v U (aK.sz α) l.length xs,M1):=by rfl) (hg:gd ops L ⟨none,.store T y z,ty,pos,aft,g⟩=some true:=by rfl) (hn:∀ w,(sizeOf T).run x.P w=.ok m w:=by exact λ_=>rfl) (hl:cs.length=m:=by rfl)
  (ho:BY c o cs=some out:=by rfl) (hb:Nat.ble (o+cs.length) c.length=true:=by rfl) (Z:Nat.ble (o+cs.length) (aK.sz α)=true:=by rfl) (J:Nat.blt 0 cs.length=true:=by rfl):
  W x ops Q (⟨none,.store T y z,ty,pos,aft,g⟩::rest) H M L:=by
 have h':=Rw.mono hle h;obtain ⟨ho1,_⟩:=DK ho;obtain ⟨p1,p2,p3⟩:=Rw.put h' he hc hg' hb ho1 hE;refine mg (wb hM) ?_;refine Jw (n':=(l.set I e2).length) hg hn hy Y hz hv hl (Rw.room h' he Z) J h1 Tp ?_;exact k _ p1 p2 p3
end
class xu (α:Type) [aK α] where
 cs:α->List RV
 eq:∀ {H c x},aK.E H c x->c=cs x
instance:xu Int:=⟨λn=>[.int .i64 n],λh=>h⟩
instance:xu Bool:=⟨λb=>[.bool b],λh=>h⟩
instance:xu RU:=⟨λs=>[.string s],λh=>h⟩
instance:xu U8:=⟨λn=>[.int .u8 n.n],λh=>h⟩
instance:xu QB:=⟨λn=>[.int .u16 n.n],λh=>h⟩
instance:xu cL:=⟨λn=>[.int .u32 n.n],λh=>h⟩
instance:xu QC:=⟨λn=>[.int .u64 n.n],λh=>h⟩
instance:xu Qz:=⟨λn=>[.int .i32 n.n],λh=>h⟩
def ON:List RV->Option (List RV)
 | []=>some []
 | v::l=>match ON l with
  | some m=>some (v::m)
  | none=>none
theorem E6:∀ {l m:List RV},ON l=some m->l=m
 | [],m,h=>by simpa [ON] using h
 | v::l,m,h=>by
  simp only [ON] at h
  split at h
  ·rename_i k e
   simp only [Sn] at h;rw [E6 e,h]
  ·cases h
theorem mA {P:Prop} (h:P:=by
  first
   | ((repeat first | exact List.Mem.head _ | refine List.Mem.tail _ ?_); done)
   | (refine hR _ ?_; (repeat first | exact List.Mem.head _ | refine List.Mem.tail _ ?_); done)
   | (refine hU _ ?_; (repeat first | exact List.Mem.head _ | refine List.Mem.tail _ ?_); done)):P:=h
section
variable {x:Cx}{ops:Array Oper}{Q:mj}{rest:List Oper}{H H0:Hp}{M:List b_}{L:Env}{d:Nat}{ty:TypeId}{pos:String}{aft:Array Edge}{g:Option (Nat×Bool)}{y z:Operand}{T U:TypeId}
theorem RA {t:TypeId} (k:W x ops Q (⟨some d,.indexAddr t y z,ty,pos,aft,g⟩::rest) H M L):W x ops Q (⟨some d,.indexAddr t y z,ty,pos,aft,g⟩::rest) H M L:=k
theorem iA {α:Type}{iR:aK α}{t e:TypeId}{v:RV}{xs:List α}{el:α}{kk:IntKind}{i:Int} (k:W x ops Q rest H M ((d,.pointer (some ((Value.base v).add (i.toNat*aK.sz α))))::L))
  (hy:ev L y=some v:=by rfl) (hz:ev L z=some (.int kk i):=by rfl) (hR:aU H0 v xs:=by with_reducible assumption) (he:xs[i.toNat]? = some el:=by first | with_reducible assumption | assumption) (I:H0.le H:=by exact lE)
  (J:0<=i:=by first | exact Vg _ | assumption | decide) (Y:∀ w,(underlying t).run x.P w=.ok (.slice e) w:=by exact λ_=>rfl) (hs:∀ w,(sizeOf e).run x.P w=.ok (aK.sz α) w:=by exact λ_=>rfl)
  (Z:gd ops L ⟨some d,.indexAddr t y z,ty,pos,aft,g⟩=some true:=by rfl) (hN:Nat.blt d x.N=true:=by rfl):W x ops Q (⟨some d,.indexAddr t y z,ty,pos,aft,g⟩::rest) H M L:=
 F9 Z hN Y hs hy (aU.mono I hR) hz J he k
theorem iO {α:Type}{v:RV}{sz:Nat}{xs:List RV}{t e:TypeId}{kk:IntKind}{i:Int}{l:List α}{el:α}
  (k:W x ops Q rest H M ((d,.pointer (some ((Value.base v).add (i.toNat*sz))))::L)) (Z:ev L y=some v:=by rfl) (hz:ev L z=some (.int kk i):=by rfl)
  (O:b_.row v T sz l.length xs ∈ M:=by exact mA) (he:l[i.toNat]? = some el:=by first | with_reducible assumption | assumption)
  (I:0<=i:=by first | exact Vg _ | assumption | decide) (J:∀ w,(underlying t).run x.P w=.ok (.slice e) w:=by exact λ_=>rfl) (hs:∀ w,(sizeOf e).run x.P w=.ok sz w:=by exact λ_=>rfl)
  (Y:gd ops L ⟨some d,.indexAddr t y z,ty,pos,aft,g⟩=some true:=by rfl) (hN:Nat.blt d x.N=true:=by rfl):W x ops Q (⟨some d,.indexAddr t y z,ty,pos,aft,g⟩::rest) H M L:=
 AM O Y hN J hs Z hz I (R3.1 he).1 k
theorem nA {α:Type}{iR:aK α}{e:TypeId}{v:RV}{xs:List α} (k:W x ops Q rest H M ((d,.int .i64 xs.length)::L)) (Z:ev L y=some v:=by rfl) (hR:aU H0 v xs:=by with_reducible assumption) (I:H0.le H:=by exact lE)
  (J:∀ w,(underlying T).run x.P w=.ok (.slice e) w:=by exact λ_=>rfl) (Y:gd ops L ⟨some d,.call ⟨.builtin .len,#[y],#[T]⟩,ty,pos,aft,g⟩=some true:=by rfl) (hN:Nat.blt d x.N=true:=by rfl):
  W x ops Q (⟨some d,.call ⟨.builtin .len,#[y],#[T]⟩,ty,pos,aft,g⟩::rest) H M L:=KQ Y hN J Z (aU.mono I hR) k
theorem Rj {ad:Addr}{cs:List RV}{v:RV}{o:Nat} (k:W x ops Q rest H M ((d,v)::L)) (hy:ev L y=some (.pointer (some (ad.add o))):=by rfl) (Y:kF H0 ad cs:=by first | with_reducible assumption | assumption) (hv:cs[o]? = some v:=by rfl)
  (J:∀ w,(isAgg T).run x.P w=.ok false w:=by exact λ_=>rfl) (I:H0.le H:=by exact lE) (Z:gd ops L ⟨some d,.load T y,ty,pos,aft,g⟩=some true:=by rfl) (hN:Nat.blt d x.N=true:=by rfl):
  W x ops Q (⟨some d,.load T y,ty,pos,aft,g⟩::rest) H M L:=rP Z hN J hy (kF.one (kF.mono I Y) o hv).at k
theorem Ri {ad:Addr}{cs:List RV}{v:RV} (k:W x ops Q rest H M ((d,v)::L)) (hy:ev L y=some (.pointer (some ad)):=by rfl) (Y:kF H0 ad cs:=by first | with_reducible assumption | assumption) (hv:cs[0]? = some v:=by rfl)
  (J:∀ w,(isAgg T).run x.P w=.ok false w:=by exact λ_=>rfl) (I:H0.le H:=by exact lE) (Z:gd ops L ⟨some d,.load T y,ty,pos,aft,g⟩=some true:=by rfl) (hN:Nat.blt d x.N=true:=by rfl):
  W x ops Q (⟨some d,.load T y,ty,pos,aft,g⟩::rest) H M L:=rP Z hN J hy (kF.one (kF.mono I Y) 0 hv).at k
theorem Rk {ad:Addr}{cs:List RV}{n:Nat} (k:W x ops Q rest H M ((d,.agg cs.toArray)::L)) (hy:ev L y=some (.pointer (some ad)):=by rfl) (Y:kF H0 ad cs:=by first | with_reducible assumption | assumption)
  (J:∀ w,(isAgg T).run x.P w=.ok true w:=by exact λ_=>rfl) (hn:∀ w,(sizeOf T).run x.P w=.ok n w:=by exact λ_=>rfl) (hl:cs.length=n:=by rfl) (I:H0.le H:=by exact lE) (Z:gd ops L ⟨some d,.load T y,ty,pos,aft,g⟩=some true:=by rfl) (hN:Nat.blt d x.N=true:=by rfl):
  W x ops Q (⟨some d,.load T y,ty,pos,aft,g⟩::rest) H M L:=jZ Z hN J hn hy (kF.mono I Y).at hl k
theorem Bt {α:Type}[aK α] [xu α] {v0:RV}{xs:List α}{el:α}{n:Nat} (hR:aU H0 v0 xs) (he:xs[n]? = some el):kF H0 ((Value.base v0).add (n*aK.sz α)) (xu.cs el):=by
 obtain ⟨c,h1,h2⟩:=aU.elem hR he;rw [<- xu.eq h1]; exact h2
theorem Co {α:Type}[aK α] [xu α] {v0:RV}{xs:List RV}{l:List α}{el:α}{n:Nat} (hR:Rw H0 v0 xs l) (he:l[n]? = some el):∀ j u,(xu.cs el)[j]? = some u->xs[n*aK.sz α+j]? = some u:=by
 obtain ⟨c,h1,h2⟩:=Rw.elem hR he;rw [<- xu.eq h1]; exact h2
theorem Rn {α:Type}{iR:aK α}{v0 v:RV}{xs:List α}{el:α}{n o:Nat} (k:W x ops Q rest H M ((d,v)::L)) (hy:ev L y=some (.pointer (some (((Value.base v0).add (n*@aK.sz α iR)).add o))):=by rfl)
  (hR:aU H0 v0 xs:=by with_reducible assumption) (he:xs[n]? = some el:=by first | with_reducible assumption | assumption) (iC:xu α:=by infer_instance) (Z:(xu.cs el)[o]? = some v:=by rfl) (I:H0.le H:=by exact lE)
  (J:∀ w,(isAgg T).run x.P w=.ok false w:=by exact λ_=>rfl) (Y:gd ops L ⟨some d,.load T y,ty,pos,aft,g⟩=some true:=by rfl) (hN:Nat.blt d x.N=true:=by rfl):
  W x ops Q (⟨some d,.load T y,ty,pos,aft,g⟩::rest) H M L:=rP Y hN J hy (kF.one (kF.mono I (Bt hR he)) o Z).at k
theorem Rl {α:Type}{iR:aK α}{v0 v:RV}{xs:List α}{el:α}{n:Nat} (k:W x ops Q rest H M ((d,v)::L)) (hy:ev L y=some (.pointer (some ((Value.base v0).add (n*@aK.sz α iR)))):=by rfl)
  (hR:aU H0 v0 xs:=by with_reducible assumption) (he:xs[n]? = some el:=by first | with_reducible assumption | assumption) (iC:xu α:=by infer_instance) (Z:(xu.cs el)[0]? = some v:=by rfl) (I:H0.le H:=by exact lE)
  (J:∀ w,(isAgg T).run x.P w=.ok false w:=by exact λ_=>rfl) (Y:gd ops L ⟨some d,.load T y,ty,pos,aft,g⟩=some true:=by rfl) (hN:Nat.blt d x.N=true:=by rfl):
  W x ops Q (⟨some d,.load T y,ty,pos,aft,g⟩::rest) H M L:=rP Y hN J hy (kF.one (kF.mono I (Bt hR he)) 0 Z).at k
theorem Ro {α:Type}{iR:aK α}{v0:RV}{cs:List RV}{xs:List α}{el:α}{n m:Nat} (k:W x ops Q rest H M ((d,.agg cs.toArray)::L)) (hy:ev L y=some (.pointer (some ((Value.base v0).add (n*@aK.sz α iR)))):=by rfl)
  (hR:aU H0 v0 xs:=by with_reducible assumption) (he:xs[n]? = some el:=by first | with_reducible assumption | assumption) (iC:xu α:=by infer_instance) (Z:ON (xu.cs el)=some cs:=by rfl) (I:H0.le H:=by exact lE)
  (J:∀ w,(isAgg T).run x.P w=.ok true w:=by exact λ_=>rfl) (hn:∀ w,(sizeOf T).run x.P w=.ok m w:=by exact λ_=>rfl) (hl:cs.length=m:=by rfl) (Y:gd ops L ⟨some d,.load T y,ty,pos,aft,g⟩=some true:=by rfl) (hN:Nat.blt d x.N=true:=by rfl):
  W x ops Q (⟨some d,.load T y,ty,pos,aft,g⟩::rest) H M L:=jZ Y hN J hn hy (kF.mono I (E6 Z▸Bt hR he)).at hl k
theorem Rv {α:Type}{iR:aK α}{v0 v:RV}{sz p:Nat}{xs:List RV}{l:List α}{el:α}{n o:Nat} (k:W x ops Q rest H M ((d,v)::L)) (Z:ev L y=some (.pointer (some (((Value.base v0).add (n*@aK.sz α iR)).add o))):=by rfl)
  (O:b_.row v0 U sz p xs ∈ M:=by exact mA) (hR:Rw H0 v0 xs l:=by with_reducible assumption) (he:l[n]? = some el:=by first | with_reducible assumption | assumption) (iC:xu α:=by infer_instance) (Y:(xu.cs el)[o]? = some v:=by rfl)
  (I:∀ w,(isAgg T).run x.P w=.ok false w:=by exact λ_=>rfl) (J:gd ops L ⟨some d,.load T y,ty,pos,aft,g⟩=some true:=by rfl) (hN:Nat.blt d x.N=true:=by rfl):
  W x ops Q (⟨some d,.load T y,ty,pos,aft,g⟩::rest) H M L:=rP J hN I Z (row_one O (Co hR he) Y) k
theorem Ru {α:Type}{iR:aK α}{v0 v:RV}{sz p:Nat}{xs:List RV}{l:List α}{el:α}{n:Nat} (k:W x ops Q rest H M ((d,v)::L)) (Z:ev L y=some (.pointer (some ((Value.base v0).add (n*@aK.sz α iR)))):=by rfl)
  (O:b_.row v0 U sz p xs ∈ M:=by exact mA) (hR:Rw H0 v0 xs l:=by with_reducible assumption) (he:l[n]? = some el:=by first | with_reducible assumption | assumption) (iC:xu α:=by infer_instance) (Y:(xu.cs el)[0]? = some v:=by rfl)
  (I:∀ w,(isAgg T).run x.P w=.ok false w:=by exact λ_=>rfl) (J:gd ops L ⟨some d,.load T y,ty,pos,aft,g⟩=some true:=by rfl) (hN:Nat.blt d x.N=true:=by rfl):
  W x ops Q (⟨some d,.load T y,ty,pos,aft,g⟩::rest) H M L:=rP J hN I Z (DP O (Co hR he) Y) k
theorem Rx {α:Type}{iR:aK α}{v0:RV}{sz p m:Nat}{xs cs:List RV}{l:List α}{el:α}{n:Nat} (k:W x ops Q rest H M ((d,.agg cs.toArray)::L)) (Z:ev L y=some (.pointer (some ((Value.base v0).add (n*@aK.sz α iR)))):=by rfl)
  (O:b_.row v0 U sz p xs ∈ M:=by exact mA) (hR:Rw H0 v0 xs l:=by with_reducible assumption) (he:l[n]? = some el:=by first | with_reducible assumption | assumption) (iC:xu α:=by infer_instance) (Y:ON (xu.cs el)=some cs:=by rfl)
  (I:∀ w,(isAgg T).run x.P w=.ok true w:=by exact λ_=>rfl) (hn:∀ w,(sizeOf T).run x.P w=.ok m w:=by exact λ_=>rfl) (hl:cs.length=m:=by rfl) (J:gd ops L ⟨some d,.load T y,ty,pos,aft,g⟩=some true:=by rfl) (hN:Nat.blt d x.N=true:=by rfl):
  W x ops Q (⟨some d,.load T y,ty,pos,aft,g⟩::rest) H M L:=jZ J hN I hn Z (zC O (E6 Y▸Co hR he)) hl k
theorem Rq {v0 v:RV}{sz p i o:Nat}{xs cs:List RV} (k:W x ops Q rest H M ((d,v)::L)) (hy:ev L y=some (.pointer (some (((Value.base v0).add i).add o))):=by rfl)
  (O:b_.row v0 U sz p xs ∈ M:=by exact mA) (J:∀ j u,cs[j]? = some u->xs[i+j]? = some u:=by assumption) (Z:cs[o]? = some v:=by rfl)
  (I:∀ w,(isAgg T).run x.P w=.ok false w:=by exact λ_=>rfl) (Y:gd ops L ⟨some d,.load T y,ty,pos,aft,g⟩=some true:=by rfl) (hN:Nat.blt d x.N=true:=by rfl):
  W x ops Q (⟨some d,.load T y,ty,pos,aft,g⟩::rest) H M L:=rP Y hN I hy (row_one O J Z) k
theorem Rp {v0 v:RV}{sz p i:Nat}{xs cs:List RV} (k:W x ops Q rest H M ((d,v)::L)) (hy:ev L y=some (.pointer (some ((Value.base v0).add i))):=by rfl)
  (O:b_.row v0 U sz p xs ∈ M:=by exact mA) (J:∀ j u,cs[j]? = some u->xs[i+j]? = some u:=by assumption) (Z:cs[0]? = some v:=by rfl)
  (I:∀ w,(isAgg T).run x.P w=.ok false w:=by exact λ_=>rfl) (Y:gd ops L ⟨some d,.load T y,ty,pos,aft,g⟩=some true:=by rfl) (hN:Nat.blt d x.N=true:=by rfl):
  W x ops Q (⟨some d,.load T y,ty,pos,aft,g⟩::rest) H M L:=rP Y hN I hy (DP O J Z) k
theorem Rs {v0:RV}{sz p i m:Nat}{xs cs:List RV} (k:W x ops Q rest H M ((d,.agg cs.toArray)::L)) (Z:ev L y=some (.pointer (some ((Value.base v0).add i))):=by rfl)
  (O:b_.row v0 U sz p xs ∈ M:=by exact mA) (J:∀ j u,cs[j]? = some u->xs[i+j]? = some u:=by assumption)
  (I:∀ w,(isAgg T).run x.P w=.ok true w:=by exact λ_=>rfl) (hn:∀ w,(sizeOf T).run x.P w=.ok m w:=by exact λ_=>rfl) (hl:cs.length=m:=by rfl) (Y:gd ops L ⟨some d,.load T y,ty,pos,aft,g⟩=some true:=by rfl) (hN:Nat.blt d x.N=true:=by rfl):
  W x ops Q (⟨some d,.load T y,ty,pos,aft,g⟩::rest) H M L:=jZ Y hN I hn Z (zC O J) hl k
theorem Rb {b i U:Nat}{fz:Nat×Nat}{l:List RV}{v:RV} (k:W x ops Q rest H M ((d,v)::L)) (Z:ev L y=some (.pointer (some ⟨b,i,none⟩)):=by rfl)
  (O:b_.obj b (.cells l.toArray U fz) ∈ M:=by exact mA) (J:l[i]? = some v:=by rfl) (I:∀ w,(isAgg T).run x.P w=.ok false w:=by exact λ_=>rfl)
  (Y:gd ops L ⟨some d,.load T y,ty,pos,aft,g⟩=some true:=by rfl) (hN:Nat.blt d x.N=true:=by rfl):W x ops Q (⟨some d,.load T y,ty,pos,aft,g⟩::rest) H M L:=
 rP Y hN I Z (xp O J) k
theorem Rc {b U n:Nat}{fz:Nat×Nat}{l:List RV} (k:W x ops Q rest H M ((d,.agg l.toArray)::L)) (Y:ev L y=some (.pointer (some ⟨b,0,none⟩)):=by rfl)
  (O:b_.obj b (.cells l.toArray U fz) ∈ M:=by exact mA) (I:∀ w,(isAgg T).run x.P w=.ok true w:=by exact λ_=>rfl) (hn:∀ w,(sizeOf T).run x.P w=.ok n w:=by exact λ_=>rfl) (hl:l.length=n:=by rfl)
  (J:gd ops L ⟨some d,.load T y,ty,pos,aft,g⟩=some true:=by rfl) (hN:Nat.blt d x.N=true:=by rfl):W x ops Q (⟨some d,.load T y,ty,pos,aft,g⟩::rest) H M L:=
 jZ J hN I hn Y (FC O) hl k
theorem Ra {v:RV}{sz n:Nat}{xs:List RV}{t e:TypeId} (k:W x ops Q rest H M ((d,.int .i64 n)::L)) (Y:ev L y=some v:=by rfl) (O:b_.row v T sz n xs ∈ M:=by exact mA)
  (I:∀ w,(underlying t).run x.P w=.ok (.slice e) w:=by exact λ_=>rfl) (J:gd ops L ⟨some d,.call ⟨.builtin .len,#[y],#[t]⟩,ty,pos,aft,g⟩=some true:=by rfl) (hN:Nat.blt d x.N=true:=by rfl):
  W x ops Q (⟨some d,.call ⟨.builtin .len,#[y],#[t]⟩,ty,pos,aft,g⟩::rest) H M L:=Ah O J hN I Y k
end
structure Kp (Q:Prop):Prop where
 o:Q
theorem N0 {P Q:Prop} (k:Q) (h:Kp Q->P:=by
  intro k;refine P3 ?_; first
   | (with_reducible refine p1 ?_); refine bY rfl rfl rfl ?_
   | (with_reducible refine p2 ?_); refine aO rfl rfl rfl ?_
   | (with_reducible refine p3 ?_); refine fq ?_
   | (with_reducible refine p4 ?_); first
    | refine Rb ?_
    | refine Rc ?_
    | refine Rj ?_
    | refine Ri ?_
    | refine Rk ?_
    | refine Rn ?_
    | refine Rl ?_
    | refine Ro ?_
    | refine Rv ?_
    | refine Ru ?_
    | refine Rx ?_
    | refine Rq ?_
    | refine Rp ?_
    | refine Rs ?_
   | (with_reducible refine p5 ?_); refine we rfl rfl rfl rfl rfl ?_
   | (with_reducible refine p8 ?_); refine qZ rfl rfl rfl ?_
   | (with_reducible refine p7 ?_); refine tJ rfl rfl rfl rfl ?_
   | (with_reducible refine p6 ?_); refine EW rfl rfl rfl rfl ?_
   | (with_reducible refine p9 ?_); refine PS rfl rfl rfl rfl ?_
   | (with_reducible refine pa ?_); refine sA rfl rfl (λ_=>rfl) (λ_=>rfl) rfl ?_
   | (with_reducible refine pb ?_); refine CV rfl rfl rfl rfl ?_
   | (with_reducible refine pc ?_); first
    | refine Ra ?_
    | refine nA ?_
   | (with_reducible refine RA ?_); first
    | refine iO ?_
    | refine iA ?_
   | (with_reducible refine pg ?_); first
    | refine PR rfl rfl rfl ?_
    | refine Oh rfl rfl ?_
  exact k.o):P:=h ⟨k⟩
theorem PB {P Q:Prop} (k:Q) (h:Kp Q->P:=by
  intro k
  first
   | refine bD ?_
   | (with_reducible refine P2 ?_); first
    | with_reducible refine aV ?_
    | with_reducible refine gW ?_
    | with_reducible refine nE ?_
    | with_reducible refine kE ?_
    | with_reducible refine uY ?_
    | with_reducible refine nZ ?_
    | refine uX rfl ?_
   | (with_reducible refine P1 ?_); first
    | with_reducible refine aQ ?_
    | with_reducible refine mS ?_
    | with_reducible refine vh ?_
    | with_reducible refine mM ?_
    | with_reducible refine vG ?_
  exact k.o):P:=h ⟨k⟩
theorem wo {P Q:Prop} (k:Q) (h:Kp Q->P:=by
  intro k
  repeat first
   | refine N0 ?_
  exact k.o):P:=h ⟨k⟩
theorem go {P Q:Prop} (k:Q) (h:Kp Q->P:=by
  intro k
  repeat first
   | refine N0 ?_
   | refine PB ?_
  exact k.o):P:=h ⟨k⟩
theorem gj {P Q:Prop} (k:Q) (h:Kp Q->P:=by
  intro k
  repeat first
   | refine N0 ?_
   | refine bD ?_
   | (with_reducible refine P2 ?_); first
    | with_reducible refine gW ?_
    | with_reducible refine nE ?_
    | with_reducible refine kE ?_
    | with_reducible refine uY ?_
    | with_reducible refine nZ ?_
    | refine uX rfl ?_
   | (with_reducible refine P1 ?_); first
    | with_reducible refine aQ ?_
    | with_reducible refine mS ?_
    | with_reducible refine vh ?_
    | with_reducible refine mM ?_
    | with_reducible refine vG ?_
  exact k.o):P:=h ⟨k⟩
theorem gt {P Q:Prop} (k:Q) (h:Kp Q->P:=by
  intro k
  repeat first
   | refine N0 ?_
   | refine bD ?_
   | (with_reducible refine P2 ?_); first
    | with_reducible refine gW ?_
    | with_reducible refine nE ?_
    | with_reducible refine kE ?_
    | with_reducible refine uY ?_
    | with_reducible refine nZ ?_
    | refine uX rfl ?_
   | (with_reducible refine P1 ?_); first
    | with_reducible refine aQ ?_
    | with_reducible refine mS ?_
    | with_reducible refine vh ?_
    | with_reducible refine mM ?_
    | with_reducible refine vG ?_
  with_reducible refine aV ?_
  exact k.o):P:=h ⟨k⟩
theorem gs {P Q:Prop} (k:Q) (h:Kp Q->P:=by
  intro k
  repeat first
   | refine N0 ?_
   | refine PB ?_
  refine bT ?_
  repeat first
   | refine N0 ?_
   | refine PB ?_
  exact k.o):P:=h ⟨k⟩
theorem g2 {P Q:Prop} (k:Q) (h:Kp Q->P:=by
  intro k;refine gs ?_;refine gs ?_;exact k.o):P:=h ⟨k⟩
theorem om {P:Prop} (h:P:=by
  intro J Y X Rest hR
  repeat (rintro _ _ ⟨rfl,rfl⟩)
  intro hU I
  repeat refine N0 ?_
  exact o0 ⟨rfl,rfl⟩):P:=h
theorem Cv {P q:Prop} (I:q) (h:q->P:=by
  intro I;intro Y Z X Rest hR
  repeat (rintro _ _ ⟨rfl,rfl⟩)
  intro hU J
  repeat refine N0 ?_
  exact o0 ⟨rfl,(by first | rfl | (rw [I]; try rfl))⟩):P:=h I
theorem Ow {P Q:Prop} (k:Q) (h:Kp Q->P:=by
  intro k;refine P3 ?_; first
   | (with_reducible refine p1 ?_); refine bY rfl rfl rfl ?_
   | (with_reducible refine p2 ?_); refine aO rfl rfl rfl ?_
   | (with_reducible refine p3 ?_); refine fq ?_
   | (with_reducible refine p4 ?_); first
    | refine Rb ?_
    | refine Rc ?_
   | (with_reducible refine p5 ?_); refine we rfl rfl rfl rfl rfl ?_
   | (with_reducible refine p8 ?_); refine qZ rfl rfl rfl ?_
   | (with_reducible refine p7 ?_); refine tJ rfl rfl rfl rfl ?_
   | (with_reducible refine p6 ?_); refine EW rfl rfl rfl rfl ?_
   | (with_reducible refine p9 ?_); refine PS rfl rfl rfl rfl ?_
   | (with_reducible refine pa ?_); refine sA rfl rfl (λ_=>rfl) (λ_=>rfl) rfl ?_
   | (with_reducible refine pb ?_); refine CV rfl rfl rfl rfl ?_
   | (with_reducible refine pc ?_); first
    | refine Ra ?_
   | (with_reducible refine pg ?_); first
    | refine PR rfl rfl rfl ?_
    | refine Oh rfl rfl ?_
  exact k.o):P:=h ⟨k⟩
theorem qo {P Q:Prop} (k:Q) (h:Kp Q->P:=by
  intro k
  repeat first
   | refine Ow ?_
  exact k.o):P:=h ⟨k⟩
theorem qg {P Q:Prop} (k:Q) (h:Kp Q->P:=by
  intro k
  repeat first
   | refine Ow ?_
   | refine PB ?_
  exact k.o):P:=h ⟨k⟩
theorem qj {P Q:Prop} (k:Q) (h:Kp Q->P:=by
  intro k
  repeat first
   | refine Ow ?_
   | refine bD ?_
   | (with_reducible refine P2 ?_); first
    | with_reducible refine gW ?_
    | with_reducible refine nE ?_
    | with_reducible refine kE ?_
    | with_reducible refine uY ?_
    | with_reducible refine nZ ?_
    | refine uX rfl ?_
   | (with_reducible refine P1 ?_); first
    | with_reducible refine aQ ?_
    | with_reducible refine mS ?_
    | with_reducible refine vh ?_
    | with_reducible refine mM ?_
    | with_reducible refine vG ?_
  exact k.o):P:=h ⟨k⟩
theorem qt {P Q:Prop} (k:Q) (h:Kp Q->P:=by
  intro k
  repeat first
   | refine Ow ?_
   | refine bD ?_
   | (with_reducible refine P2 ?_); first
    | with_reducible refine gW ?_
    | with_reducible refine nE ?_
    | with_reducible refine kE ?_
    | with_reducible refine uY ?_
    | with_reducible refine nZ ?_
    | refine uX rfl ?_
   | (with_reducible refine P1 ?_); first
    | with_reducible refine aQ ?_
    | with_reducible refine mS ?_
    | with_reducible refine vh ?_
    | with_reducible refine mM ?_
    | with_reducible refine vG ?_
  with_reducible refine aV ?_
  exact k.o):P:=h ⟨k⟩
theorem qs {P Q:Prop} (k:Q) (h:Kp Q->P:=by
  intro k
  repeat first
   | refine Ow ?_
   | refine PB ?_
  refine bT ?_
  repeat first
   | refine Ow ?_
   | refine PB ?_
  exact k.o):P:=h ⟨k⟩
theorem q2 {P Q:Prop} (k:Q) (h:Kp Q->P:=by
  intro k;refine qs ?_;refine qs ?_;exact k.o):P:=h ⟨k⟩
theorem qm {P:Prop} (h:P:=by
  intro J Y X Rest hR
  repeat (rintro _ _ ⟨rfl,rfl⟩)
  intro hU I
  repeat refine Ow ?_
  exact o0 ⟨rfl,rfl⟩):P:=h
theorem qn {P q:Prop} (I:q) (h:q->P:=by
  intro I;intro Y Z X Rest hR
  repeat (rintro _ _ ⟨rfl,rfl⟩)
  intro hU J
  repeat refine Ow ?_
  exact o0 ⟨rfl,(by first | rfl | (rw [I]; try rfl))⟩):P:=h I
section
variable {x:Cx}{ops:Array Oper}{Q:mj}{rest:List Oper}{H H0:Hp}{M:List b_}{L:Env}{ty:TypeId}{pos:String}{aft:Array Edge}{g:Option (Nat×Bool)}
theorem wF {α:Type}{iR:aK α} (i o:Nat) {T U m:Nat}{y z:Operand}{v u:RV}{xs cs out:List RV}{l:List α}{e:α}{I:Nat}{M1:List b_}{ad:Addr} (e2:α)
  (k:∀ sM,Rw H v sM (l.set I e2)->(l.set I e2)[I]? = some e2->W x ops Q rest H (.row v U (aK.sz α) (l.set I e2).length sM::M1) L)
  (hy:ev L y=some (.pointer (some ad)):=by rfl) (hM:Ce i M=some (.row v U (aK.sz α) l.length xs,M1):=by rfl) (Z:ad=(Value.base v).add (I*aK.sz α+o):=by first | exact Jg _ _ | exact Mj _ _ _)
  (h:Rw H0 v xs l:=by with_reducible assumption) (he:l[I]? = some e:=by first | with_reducible assumption | assumption) (iC:xu α:=by infer_instance) (hle:H0.le H:=by exact lE) (hz:ev L z=some u:=by rfl)
  (hv:u.cells=cs.toArray:=by first | exact aU.cells (by assumption) | exact Rw.cells (by assumption) | rfl)
  (h1:∀ c ∈ cs,c.oneCell'=true:=by repeat first | exact TJ | refine dA rfl ?_ | refine dA (aU.pH (by assumption)) ?_ | refine dA (Rw.one (by assumption)) ?_)
  (hg:gd ops L ⟨none,.store T y z,ty,pos,aft,g⟩=some true:=by rfl) (hn:∀ w,(sizeOf T).run x.P w=.ok m w:=by exact λ_=>rfl) (hl:cs.length=m:=by rfl)
  (ho:BY (xu.cs e) o cs=some out:=by rfl) (hE:aK.E H out e2:=by rfl) (Y:aK.E H (xu.cs e) e:=by rfl) (hb:Nat.ble (o+cs.length) (xu.cs e).length=true:=by rfl) (hb2:Nat.ble (o+cs.length) (aK.sz α)=true:=by rfl) (J:Nat.blt 0 cs.length=true:=by rfl):
  W x ops Q (⟨none,.store T y z,ty,pos,aft,g⟩::rest) H M L:=
 wr i o e2 h he (Co h he) Y hE (λsM a b _=>k sM a b) hle hy Z hz hv h1 hM hg hn hl ho hb hb2 J
end
theorem fc {P:Prop} (h:P:=by
  first
   | with_reducible assumption
   | exact aU.mm (by with_reducible assumption)
   | exact Rw.mm (by with_reducible assumption)
   | exact Rw.pf (by with_reducible assumption)
   | exact aU.nil
   | exact Rw.nil
   | exact (Rw.nil (H:=H)).pf
   | exact lE
   | exact rL.mm (by assumption)
   | exact kF.mm (by assumption)
   | exact Mx.mm (by assumption)
   | exact rL.pf (by assumption)
   | exact dE.mm (by with_reducible assumption)
   | exact aU.mm (by assumption)
   | exact Rw.mm (by assumption)
   | exact Rw.pf (by assumption)
   | assumption
   | rfl):P:=h
theorem pk {P:Prop} (h:P:=by
  repeat apply Exists.intro
  repeat' first
   | refine And.intro ?_ ?_
   | exact rfl
   | exact O
  all_goals first | exact fc | skip):P:=h
section
variable {x:Cx}{ops:Array Oper}{Q:mj}{rest:List Oper}{H H0:Hp}{M:List b_}{L:Env}{d:Nat}{ty:TypeId}{pos:String}{aft:Array Edge}{g:Option (Nat×Bool)}
theorem Cn {P:Program}{f:FuncId}{bs:Array RV}{B:Nat}{w0 w:World}{J I:Hp->List b_->RV->Prop} (h:Calls P f bs w (vi B w0 I)) (e:I=J):Calls P f bs w (vi B w0 J):=e▸h
theorem ca {C:Prop}{f:FuncId}{args:List Operand}{J:Array TypeId}{vs:List RV}{A:Prop}{Y:Hp->List b_->RV->Prop} (c:C) (a:A)
  (k:∀ v H' M',Y H' M' v->W x ops Q rest H' M' ((d,v)::L)) (I:∀ bs w,(callFunc f bs).run x.P w=.ok (.enter f bs) w:=by exact λ_ _=>rfl) (hv:Aq L args=some vs:=by rfl)
  (Z:C->A->∀ w,St x.B x.w0 H M w->Calls x.P f vs.toArray w (vi x.B x.w0 Y):=by
   intro c a w ht;apply Cn;apply c a
   all_goals first | exact ht | skip
   all_goals first | exact fc | exact rfl) (hg:gd ops L ⟨some d,.call ⟨.value (.func f),args.toArray,J⟩,ty,pos,aft,g⟩=some true:=by rfl) (hN:Nat.blt d x.N=true:=by rfl):
  W x ops Q (⟨some d,.call ⟨.value (.func f),args.toArray,J⟩,ty,pos,aft,g⟩::rest) H M L:=bQ I hg hN hv (Z c a) k
theorem cy {C:Prop}{f:FuncId}{args:List Operand}{Z:Array TypeId}{vs:List RV}{A:Prop}{Φ:Hp->List b_->RV->Prop} (c:C) (a:A)
  (k:∀ v H' M',Φ H' M' v->W x ops Q rest H' M' ((d,v)::L)) (I:∀ bs w,(callFunc f bs).run x.P w=.ok (.enter f bs) w:=by exact λ_ _=>rfl) (hv:Aq L args=some vs:=by rfl)
  (hc:C->A->∀ w,St x.B x.w0 H M w->Calls x.P f vs.toArray w (vi x.B x.w0 Φ):=by
   intro c a w ht;apply Cn;obtain ⟨H0_,hl0_,Y,hr0_,J⟩:=St.lU ht (by exact fc) rfl
   apply gV J;apply c a
   all_goals first | exact Y | skip
   all_goals first | exact fc | exact rfl) (hg:gd ops L ⟨some d,.call ⟨.value (.func f),args.toArray,Z⟩,ty,pos,aft,g⟩=some true:=by rfl) (hN:Nat.blt d x.N=true:=by rfl):
  W x ops Q (⟨some d,.call ⟨.value (.func f),args.toArray,Z⟩,ty,pos,aft,g⟩::rest) H M L:=bQ I hg hN hv (hc c a) k
theorem cY {C:Prop}{f:FuncId}{args:List Operand}{tys:Array TypeId}{vs:List RV}{A:Prop}{Φ:Hp->List b_->RV->Prop} (c:C) (a:A)
  (k:∀ v H' M',Φ H' M' v->W x ops Q rest H' M' ((d,v)::L)) (I:∀ bs w,(callFunc f bs).run x.P w=.ok (.enter f bs) w:=by exact λ_ _=>rfl) (hv:Aq L args=some vs:=by rfl)
  (hc:C->A->∀ w,St x.B x.w0 H M w->Calls x.P f vs.toArray w (vi x.B x.w0 Φ):=by
   intro c a w ht;apply Cn;obtain ⟨H0_,hl0_,Z,hr0_,J⟩:=St.lU ht (by exact fc) rfl
   apply gV J;obtain ⟨H1_,hl1_,ht1_,hr1_,Y⟩:=St.lU Z (by exact fc) rfl
   apply gV Y;apply c a
   all_goals first | exact ht1_ | skip
   all_goals first | exact fc | exact rfl) (hg:gd ops L ⟨some d,.call ⟨.value (.func f),args.toArray,tys⟩,ty,pos,aft,g⟩=some true:=by rfl) (hN:Nat.blt d x.N=true:=by rfl):
  W x ops Q (⟨some d,.call ⟨.value (.func f),args.toArray,tys⟩,ty,pos,aft,g⟩::rest) H M L:=bQ I hg hN hv (hc c a) k
theorem cz {C:Prop}{f:FuncId}{args:List Operand}{J:Array TypeId}{vs:List RV}{A:Prop}{u:RV} (c:C) (a:A)
  (k:W x ops Q rest H M ((d,u)::L)) (I:∀ bs w,(callFunc f bs).run x.P w=.ok (.enter f bs) w:=by exact λ_ _=>rfl) (hv:Aq L args=some vs:=by rfl)
  (Y:C->A->∀ w,St x.B x.w0 H M w->Calls x.P f vs.toArray w (vi x.B x.w0 λH' M' v=>H=H'/\M=M'/\u=v):=by
   intro c a w ht;apply Cn;apply c a
   all_goals first | exact ht | skip
   all_goals first | exact fc | exact rfl) (Z:gd ops L ⟨some d,.call ⟨.value (.func f),args.toArray,J⟩,ty,pos,aft,g⟩=some true:=by rfl) (hN:Nat.blt d x.N=true:=by rfl):
  W x ops Q (⟨some d,.call ⟨.value (.func f),args.toArray,J⟩,ty,pos,aft,g⟩::rest) H M L:=bQ I Z hN hv (Y c a) (by rintro _ _ _ ⟨rfl,rfl,rfl⟩; exact k)
end
theorem ki {a b:Int} (h:a=b):some (Value.int .i64 a)=some (Value.int .i64 b):=by rw [h]
theorem kS {P:Prop} (h:P:=by
  repeat first
   | exact RW
   | refine ⟨rfl,?_⟩
   | refine ⟨sb (by simp only [Hl, *]),?_⟩):P:=h
theorem kK {a b:Int}{P:Prop} (e:a=b) (h:a=b->P:=by
  intro e
  repeat first
   | exact RW
   | refine ⟨rfl,?_⟩
   | refine ⟨ki e,?_⟩
   | refine ⟨sb (by simp only [Hl, *]),?_⟩):P:=h e
theorem eb {A B P:Prop} (a:A) (b:B) (h:A->B->P:=by
  intro a b;apply sh (Th _)
  repeat apply Exists.intro
  refine And.intro a ?_;refine And.intro rfl ?_;refine And.intro ((Vd b _).trans O) ?_
  repeat' first
   | refine And.intro ?_ ?_
   | exact rfl
  all_goals first | exact fc | skip):P:=h a b
theorem Ff {B P:Prop} (b:B) (h:B->P:=by
  intro b;apply sh (Th _)
  repeat apply Exists.intro
  refine And.intro ((Vd b _).trans O) ?_
  repeat' first
   | refine And.intro ?_ ?_
   | exact rfl
  all_goals first | exact fc | skip):P:=h b
theorem en {P:Prop} (h:P:=by
  obtain rfl:=RX O
  first
   | refine iZ rfl rfl ?_
   | refine yH rfl rfl rfl ?_
   | refine PY rfl rfl rfl rfl ?_
   | refine JO rfl ?_
  refine And.intro lE ?_
  repeat apply Exists.intro
  refine And.intro rfl ?_
  repeat' first
   | refine And.intro ?_ ?_
   | exact rfl
  all_goals first | exact fc | skip):P:=h
theorem ef {P:Prop} (h:P:=by
  obtain rfl:=RX O;refine Ew H ?_
  first
   | refine iZ rfl rfl ?_
   | refine yH rfl rfl rfl ?_
   | refine PY rfl rfl rfl rfl ?_
   | refine JO rfl ?_
  refine And.intro rfl ?_
  repeat apply Exists.intro
  refine And.intro rfl ?_
  repeat' first
   | refine And.intro ?_ ?_
   | exact rfl
  all_goals first | exact fc | skip):P:=h
section
variable {x:Cx}{ops:Array Oper}{Q:mj}{rest:List Oper}{H:Hp}{M:List b_}{L:Env}{d:Nat}{ty:TypeId}{pos:String}{aft:Array Edge}{g:Option (Nat×Bool)}{y:Operand}{T:TypeId}
theorem Ry {b i U n:Nat}{fz:Nat×Nat}{l cs:List RV} (k:W x ops Q rest H M ((d,.agg cs.toArray)::L)) (Z:ev L y=some (.pointer (some ⟨b,i,none⟩)):=by rfl)
  (O:b_.obj b (.cells l.toArray U fz) ∈ M:=by exact mA) (I:∀ w,(isAgg T).run x.P w=.ok true w:=by exact λ_=>rfl) (hn:∀ w,(sizeOf T).run x.P w=.ok n w:=by exact λ_=>rfl)
  (J:ON ((l.drop i).take n)=some cs:=by rfl) (hl:cs.length=n:=by rfl) (Y:gd ops L ⟨some d,.load T y,ty,pos,aft,g⟩=some true:=by rfl) (hN:Nat.blt d x.N=true:=by rfl):
  W x ops Q (⟨some d,.load T y,ty,pos,aft,g⟩::rest) H M L:=
 jZ Y hN I hn Z (rJ O (by rw [hl]; exact E6 J)) hl k
end
theorem Rh {F:RV->List b_->Prop} (k:∀ v rs,F v rs):∀ v rs,F v rs:=k
structure Ix (l:List Nat):Prop where
 o:True
theorem ix (l:List Nat):Ix l:=⟨RW⟩
theorem Wi {x:Cx}{ops:Array Oper}{Q:mj}{rest:List Oper}{H:Hp}{M M':List b_}{L:Env}{l:List Nat} (i:Ix l) (k:W x ops Q rest H M' L) (h:BZ l M=some M':=by rfl):W x ops Q rest H M L:=Wp l k h
theorem rz {P:Prop} (h:P:=by
  first
   | exact o0 ⟨rfl,rfl⟩
   | exact o0 pk
   | exact oe [] lE pk
   | exact oe [_] lE pk
   | exact oe [_,_] lE pk
   | exact oe [_,_,_] lE pk
   | exact oe [_,_,_,_,_,_] lE pk
   | exact oe [_,_,_,_,_,_,_] lE pk
   | exact bD (Ef [_] lE pk)):P:=h
theorem rk {C A I P:Prop} (i:I) (c:C) (a:A) (h:I->C->A->P:=by
  intro i c a Z hX X Rest hR
  repeat (refine Rh ?_; (first | rintro _ _ ⟨rfl,rfl⟩ | rintro _ _ ⟨_,rfl,rfl⟩ | rintro _ _ ⟨_,_,rfl,rfl⟩ | rintro _ _ ⟨_,_,_,rfl,rfl⟩ | rintro _ _ ⟨_,_,_,_,rfl,rfl⟩ | rintro _ _ ⟨_,_,_,_,_,rfl,rfl⟩ | rintro _ _ ⟨_,_,_,_,_,_,rfl,rfl⟩ | rintro _ _ ⟨_,_,_,_,_,_,_,rfl,rfl⟩ | rintro _ _ ⟨_,_,_,_,_,_,_,_,rfl,rfl⟩ | rintro _ _ ⟨_,_,_,_,_,_,_,_,_,_,rfl,rfl⟩ | rintro _ _ ⟨_,_,_,_,_,_,_,_,_,_,_,_,rfl,rfl⟩ | rintro _ _ ⟨_,_,_,_,_,_,_,_,_,_,_,_,_,_,rfl,rfl⟩ | rintro _ _ ⟨rfl,rfl,J⟩ | rintro _ _ ⟨_,rfl,rfl,J⟩ | rintro _ _ ⟨_,_,rfl,rfl,J⟩ | rintro _ _ ⟨_,_,_,rfl,rfl,J⟩ | rintro _ _ ⟨_,_,_,_,rfl,rfl,J⟩ | rintro _ _ ⟨_,_,_,_,_,rfl,rfl,J⟩ | rintro _ _ ⟨_,_,_,_,_,_,rfl,rfl,J⟩ | rintro _ _ ⟨_,_,_,_,_,_,_,rfl,rfl,J⟩ | rintro _ _ ⟨_,_,_,_,_,_,_,_,rfl,rfl,J⟩ | rintro _ _ ⟨_,_,_,_,_,_,_,_,_,_,rfl,rfl,J⟩ | rintro _ _ ⟨_,_,_,_,_,_,_,_,_,_,_,_,rfl,rfl,J⟩ | rintro _ _ ⟨_,_,_,_,_,_,_,_,_,_,_,_,_,_,rfl,rfl,J⟩); repeat (with_reducible refine And.elim (λ_ J=>?_) J))
  intro hU Y
  first | refine Wi i ?_ | skip
  repeat first
   | refine N0 ?_
   | refine Ry ?_
   | (refine ca c a ?_; (first | rintro _ _ _ ⟨rfl,rfl,rfl⟩ | rintro _ _ _ ⟨rfl,_,rfl,rfl⟩ | rintro _ _ _ ⟨rfl,_,_,rfl,rfl⟩ | rintro _ _ _ ⟨rfl,_,_,_,rfl,rfl⟩ | rintro _ _ _ ⟨rfl,_,_,_,_,rfl,rfl⟩ | rintro _ _ _ ⟨rfl,_,_,_,_,_,rfl,rfl⟩ | rintro _ _ _ ⟨rfl,_,_,_,_,_,_,rfl,rfl⟩ | rintro _ _ _ ⟨rfl,_,_,_,_,_,_,_,rfl,rfl⟩ | rintro _ _ _ ⟨rfl,_,_,_,_,_,_,_,_,rfl,rfl⟩ | rintro _ _ _ ⟨rfl,_,_,_,_,_,_,_,_,_,_,rfl,rfl⟩ | rintro _ _ _ ⟨rfl,_,_,_,_,_,_,_,_,_,_,_,_,rfl,rfl⟩ | rintro _ _ _ ⟨rfl,_,_,_,_,_,_,_,_,_,_,_,_,_,_,rfl,rfl⟩ | rintro _ _ _ ⟨rfl,rfl,rfl,J⟩ | rintro _ _ _ ⟨rfl,_,rfl,rfl,J⟩ | rintro _ _ _ ⟨rfl,_,_,rfl,rfl,J⟩ | rintro _ _ _ ⟨rfl,_,_,_,rfl,rfl,J⟩ | rintro _ _ _ ⟨rfl,_,_,_,_,rfl,rfl,J⟩ | rintro _ _ _ ⟨rfl,_,_,_,_,_,rfl,rfl,J⟩ | rintro _ _ _ ⟨rfl,_,_,_,_,_,_,rfl,rfl,J⟩ | rintro _ _ _ ⟨rfl,_,_,_,_,_,_,_,rfl,rfl,J⟩ | rintro _ _ _ ⟨rfl,_,_,_,_,_,_,_,_,rfl,rfl,J⟩ | rintro _ _ _ ⟨rfl,_,_,_,_,_,_,_,_,_,_,rfl,rfl,J⟩ | rintro _ _ _ ⟨rfl,_,_,_,_,_,_,_,_,_,_,_,_,rfl,rfl,J⟩ | rintro _ _ _ ⟨rfl,_,_,_,_,_,_,_,_,_,_,_,_,_,_,rfl,rfl,J⟩ | rintro _ _ _ ⟨_,rfl,rfl⟩ | rintro _ _ _ ⟨_,_,rfl,rfl⟩ | rintro _ _ _ ⟨_,_,_,rfl,rfl⟩ | rintro _ _ _ ⟨_,_,_,_,rfl,rfl⟩ | rintro _ _ _ ⟨_,_,_,_,_,rfl,rfl⟩ | rintro _ _ _ ⟨_,_,_,_,_,_,rfl,rfl⟩ | rintro _ _ _ ⟨_,_,_,_,_,_,_,rfl,rfl⟩ | rintro _ _ _ ⟨_,_,_,_,_,_,_,_,rfl,rfl⟩ | rintro _ _ _ ⟨_,_,_,_,_,_,_,_,_,rfl,rfl⟩ | rintro _ _ _ ⟨_,_,_,_,_,_,_,_,_,_,_,rfl,rfl⟩ | rintro _ _ _ ⟨_,_,_,_,_,_,_,_,_,_,_,_,_,rfl,rfl⟩ | rintro _ _ _ ⟨_,_,_,_,_,_,_,_,_,_,_,_,_,_,_,rfl,rfl⟩ | rintro _ _ _ ⟨_,rfl,rfl,J⟩ | rintro _ _ _ ⟨_,_,rfl,rfl,J⟩ | rintro _ _ _ ⟨_,_,_,rfl,rfl,J⟩ | rintro _ _ _ ⟨_,_,_,_,rfl,rfl,J⟩ | rintro _ _ _ ⟨_,_,_,_,_,rfl,rfl,J⟩ | rintro _ _ _ ⟨_,_,_,_,_,_,rfl,rfl,J⟩ | rintro _ _ _ ⟨_,_,_,_,_,_,_,rfl,rfl,J⟩ | rintro _ _ _ ⟨_,_,_,_,_,_,_,_,rfl,rfl,J⟩ | rintro _ _ _ ⟨_,_,_,_,_,_,_,_,_,rfl,rfl,J⟩ | rintro _ _ _ ⟨_,_,_,_,_,_,_,_,_,_,_,rfl,rfl,J⟩ | rintro _ _ _ ⟨_,_,_,_,_,_,_,_,_,_,_,_,_,rfl,rfl,J⟩ | rintro _ _ _ ⟨_,_,_,_,_,_,_,_,_,_,_,_,_,_,_,rfl,rfl,J⟩); repeat (with_reducible refine And.elim (λ_ J=>?_) J))
  exact rz):P:=h i c a
theorem tt:True:=RW
theorem ro {P:Prop} (h:P:=by exact rk tt tt tt):P:=h
theorem Ky {x:Cx}{c:Code}{Q:mj}{H:Hp}{M:List b_}{L:Env} (n:Nat) (h:C x c (Exit.then (Code.rounds x.P c Q n) Q) H M L):C x (.loop c) Q H M L:=
 λa w hs ht=>wp_loop_rounds (n+1) (h a w hs ht)
theorem It {x:Cx}{c:Code}{Q:mj}{H:Hp}{M:List b_}{L:Env} (n:Nat) (h:C x c (Exit.then (Code.rounds x.P c Q n) Q) H M L):E x .normal (Exit.then (Code.rounds x.P c Q (n+1)) Q) H M L:=
 λa w hs ht=>h a w hs ht
end Go.Sim
namespace Go.Proofs
open Go.Shelf
open _root_.Go.IntKind (i64 u64 u32 u8)
def Tryz.GD:Go.Shelf.Ren:=⟨fun | 283=>203 | n=>n,fun | 3=>3 | 9=>9 | 4=>4 | n=>n,fun | n=>n⟩
theorem Tryz.Nn:Go.Proofs.Lays.n283 Tryz.prog Tryz.GD:={
 mixed:=by kernel_rfl
 f283:=Tryz.func203.trans (congrArg some (by kernel_rfl))
 t3:=Tryz.underlying3
 a3:=Tryz.isAgg3
 z3:=Tryz.sizeOf3
 v3:=Tryz.zeroValue3
 t4:=Tryz.underlying4
 a4:=Tryz.isAgg4
 z4:=Tryz.sizeOf4
 v4:=Tryz.zeroValue4
 t9:=Tryz.underlying9
 a9:=Tryz.isAgg9
 z9:=Tryz.sizeOf9
 v9:=Tryz.zeroValue9 }
open Go.Lib in
theorem Tryz.internal_strconv_small (i:Nat) (h:i<100) (w:World):
  Calls Tryz.prog 203 #[.int .i64 i] w λe w'=>e=.returned (.string ⟨(Lib.decDigits i).toArray⟩)/\w'=w:=Any.internal_strconv_small Tryz.Nn i h w
def Tryz.Fq:Go.Shelf.Ren:=⟨fun | 284=>204 | 129=>221 | 317=>220 | 318=>222 | n=>n,fun | 53=>56 | 3=>3 | 212=>306 | 0=>0 | 4=>4 | 46=>206 | 5=>5 | 9=>9 | n=>n,fun | 17=>3 | n=>n⟩
theorem Tryz.LN:Go.Proofs.LaysM.n284 Tryz.prog Tryz.Fq:={
 mixed:=by kernel_rfl
 f129:=Tryz.func221.trans (congrArg some (by kernel_rfl))
 f284:=Tryz.func204.trans (congrArg some (by kernel_rfl))
 f317:=Tryz.func220.trans (congrArg some (by kernel_rfl))
 f318:=Tryz.func222.trans (congrArg some (by kernel_rfl))
 t0:=Tryz.underlying0
 a0:=Tryz.isAgg0
 z0:=Tryz.sizeOf0
 v0:=Tryz.zeroValue0
 t3:=Tryz.underlying3
 a3:=Tryz.isAgg3
 z3:=Tryz.sizeOf3
 v3:=Tryz.zeroValue3
 t4:=Tryz.underlying4
 a4:=Tryz.isAgg4
 z4:=Tryz.sizeOf4
 v4:=Tryz.zeroValue4
 t5:=Tryz.underlying5
 a5:=Tryz.isAgg5
 z5:=Tryz.sizeOf5
 v5:=Tryz.zeroValue5
 t9:=Tryz.underlying9
 a9:=Tryz.isAgg9
 z9:=Tryz.sizeOf9
 v9:=Tryz.zeroValue9
 t46:=Tryz.underlying206
 a46:=Tryz.isAgg206
 z46:=Tryz.sizeOf206
 v46:=Tryz.zeroValue206
 t53:=Tryz.underlying56
 a53:=Tryz.isAgg56
 z53:=Tryz.sizeOf56
 v53:=Tryz.zeroValue56
 t212:=Tryz.underlying306
 a212:=Tryz.isAgg306
 z212:=Tryz.sizeOf306
 v212:=Tryz.zeroValue306
 g17:=by kernel_rfl
 i0:=by kernel_rfl
 i3:=by kernel_rfl
 i4:=by kernel_rfl
 i5:=by kernel_rfl
 i9:=by kernel_rfl
 i46:=by kernel_rfl
 i53:=by kernel_rfl
 i212:=by kernel_rfl
 m17:=by kernel_rfl }
open Go.Lib in
theorem Tryz.internal_strconv_numDigits (u:Nat) (h1:1<=u) (h2:u<18446744073709551616) (w:World) (htab:Lib.TabIs Tryz.prog w "internal/strconv.uint64pow10" .u64 Lib.pow10Tab):
  Calls Tryz.prog 204 #[.int .u64 u] w λe w'=>e=.returned (.int .i64 (Lib.nDigits u))/\w'=w:=Any.internal_strconv_numDigits Tryz.LN u h1 h2 w htab
def Tryz.GF:Go.Shelf.Ren:=⟨fun | 285=>205 | n=>n,fun | 37=>169 | 53=>56 | 3=>3 | 4=>4 | 51=>218 | 9=>9 | 5=>5 | 0=>0 | n=>n,fun | n=>n⟩
theorem Tryz.No:Go.Proofs.Lays.n285 Tryz.prog Tryz.GF:={
 mixed:=by kernel_rfl
 f285:=Tryz.func205.trans (congrArg some (by kernel_rfl))
 t0:=Tryz.underlying0
 a0:=Tryz.isAgg0
 z0:=Tryz.sizeOf0
 v0:=Tryz.zeroValue0
 t3:=Tryz.underlying3
 a3:=Tryz.isAgg3
 z3:=Tryz.sizeOf3
 v3:=Tryz.zeroValue3
 t4:=Tryz.underlying4
 a4:=Tryz.isAgg4
 z4:=Tryz.sizeOf4
 v4:=Tryz.zeroValue4
 t5:=Tryz.underlying5
 a5:=Tryz.isAgg5
 z5:=Tryz.sizeOf5
 v5:=Tryz.zeroValue5
 t9:=Tryz.underlying9
 a9:=Tryz.isAgg9
 z9:=Tryz.sizeOf9
 v9:=Tryz.zeroValue9
 t37:=Tryz.underlying169
 a37:=Tryz.isAgg169
 z37:=Tryz.sizeOf169
 v37:=Tryz.zeroValue169
 t51:=Tryz.underlying218
 a51:=Tryz.isAgg218
 z51:=Tryz.sizeOf218
 v51:=Tryz.zeroValue218
 t53:=Tryz.underlying56
 a53:=Tryz.isAgg56
 z53:=Tryz.sizeOf56
 v53:=Tryz.zeroValue56 }
open Go.RowKit Go.Sort Go.Lib in
theorem Tryz.internal_strconv_formatBase10 (blk off cap:Nat) (u:Nat) (d:Array UInt8) (w:World) (hH:Holds (λ(b:UInt8)=>Value.int .u8 (b.toNat:Int)) w blk off d) (hu:u<10 ^ d.size) (hu64:u<18446744073709551616) (hsz:d.size<4611686018427387904):
  Calls Tryz.prog 205 #[.slice (some ⟨blk,off,none⟩) d.size cap,.int .u64 u] w λe w'=>
   e=.returned (.tuple #[])/\∃ (n v':Nat) (dk:Array UInt8),w'=(putRow (λ(b:UInt8)=>Value.int .u8 (b.toNat:Int)) w blk off dk).drewN n/\FmtInv d.size u 0 v' dk:=Any.internal_strconv_formatBase10 Tryz.No blk off cap u d w hH hu hu64 hsz
def Tryz.Fp:Go.Shelf.Ren:=⟨fun | 171=>123 | 243=>148 | 246=>178 | 283=>203 | 284=>204 | 285=>205 | 286=>206 | 129=>221 | 317=>220 | 318=>222 | 319=>223 | 320=>224 | 337=>234 | 338=>235 | n=>n,fun | 3=>3 | 9=>9 | 2=>2 | 4=>4 | 171=>280 | 0=>0 | 53=>56 | 37=>169 | 5=>5 | 173=>283 | 212=>306 | 51=>218 | 20=>20 | 213=>307 | 46=>206 | 232=>326 | 233=>327 | n=>n,fun | 17=>3 | 18=>4 | 19=>5 | n=>n⟩
theorem Tryz.LM:Go.Proofs.LaysM.n171 Tryz.prog Tryz.Fp:={
 mixed:=by kernel_rfl
 f129:=Tryz.func221.trans (congrArg some (by kernel_rfl))
 f171:=Tryz.func123.trans (congrArg some (by kernel_rfl))
 f243:=Tryz.func148.trans (congrArg some (by kernel_rfl))
 f246:=Tryz.func178.trans (congrArg some (by kernel_rfl))
 f283:=Tryz.func203.trans (congrArg some (by kernel_rfl))
 f284:=Tryz.func204.trans (congrArg some (by kernel_rfl))
 f285:=Tryz.func205.trans (congrArg some (by kernel_rfl))
 f286:=Tryz.func206.trans (congrArg some (by kernel_rfl))
 f317:=Tryz.func220.trans (congrArg some (by kernel_rfl))
 f318:=Tryz.func222.trans (congrArg some (by kernel_rfl))
 f319:=Tryz.func223.trans (congrArg some (by kernel_rfl))
 f320:=Tryz.func224.trans (congrArg some (by kernel_rfl))
 f337:=Tryz.func234.trans (congrArg some (by kernel_rfl))
 f338:=Tryz.func235.trans (congrArg some (by kernel_rfl))
 t0:=Tryz.underlying0
 a0:=Tryz.isAgg0
 z0:=Tryz.sizeOf0
 v0:=Tryz.zeroValue0
 t2:=Tryz.underlying2
 a2:=Tryz.isAgg2
 z2:=Tryz.sizeOf2
 v2:=Tryz.zeroValue2
 t3:=Tryz.underlying3
 a3:=Tryz.isAgg3
 z3:=Tryz.sizeOf3
 v3:=Tryz.zeroValue3
 t4:=Tryz.underlying4
 a4:=Tryz.isAgg4
 z4:=Tryz.sizeOf4
 v4:=Tryz.zeroValue4
 t5:=Tryz.underlying5
 a5:=Tryz.isAgg5
 z5:=Tryz.sizeOf5
 v5:=Tryz.zeroValue5
 t9:=Tryz.underlying9
 a9:=Tryz.isAgg9
 z9:=Tryz.sizeOf9
 v9:=Tryz.zeroValue9
 t20:=Tryz.underlying20
 a20:=Tryz.isAgg20
 z20:=Tryz.sizeOf20
 v20:=Tryz.zeroValue20
 t37:=Tryz.underlying169
 a37:=Tryz.isAgg169
 z37:=Tryz.sizeOf169
 v37:=Tryz.zeroValue169
 t46:=Tryz.underlying206
 a46:=Tryz.isAgg206
 z46:=Tryz.sizeOf206
 v46:=Tryz.zeroValue206
 t51:=Tryz.underlying218
 a51:=Tryz.isAgg218
 z51:=Tryz.sizeOf218
 v51:=Tryz.zeroValue218
 t53:=Tryz.underlying56
 a53:=Tryz.isAgg56
 z53:=Tryz.sizeOf56
 v53:=Tryz.zeroValue56
 t171:=Tryz.underlying280
 a171:=Tryz.isAgg280
 z171:=Tryz.sizeOf280
 v171:=Tryz.zeroValue280
 t173:=Tryz.underlying283
 a173:=Tryz.isAgg283
 z173:=Tryz.sizeOf283
 v173:=Tryz.zeroValue283
 t212:=Tryz.underlying306
 a212:=Tryz.isAgg306
 z212:=Tryz.sizeOf306
 v212:=Tryz.zeroValue306
 t213:=Tryz.underlying307
 a213:=Tryz.isAgg307
 z213:=Tryz.sizeOf307
 t232:=Tryz.underlying326
 a232:=Tryz.isAgg326
 z232:=Tryz.sizeOf326
 v232:=Tryz.zeroValue326
 t233:=Tryz.underlying327
 a233:=Tryz.isAgg327
 z233:=Tryz.sizeOf327
 v233:=Tryz.zeroValue327
 g17:=by kernel_rfl
 g18:=by kernel_rfl
 g19:=by kernel_rfl
 i0:=by kernel_rfl
 i2:=by kernel_rfl
 i3:=by kernel_rfl
 i4:=by kernel_rfl
 i5:=by kernel_rfl
 i9:=by kernel_rfl
 i20:=by kernel_rfl
 i37:=by kernel_rfl
 i46:=by kernel_rfl
 i51:=by kernel_rfl
 i53:=by kernel_rfl
 i171:=by kernel_rfl
 i173:=by kernel_rfl
 i212:=by kernel_rfl
 i232:=by kernel_rfl
 i233:=by kernel_rfl
 m17:=by kernel_rfl
 m18:=by kernel_rfl
 m19:=by kernel_rfl }
open Go.RowKit Go.Sort Go.Lib in
theorem Tryz.strconv_Itoa (n:Int) (h0:-9223372036854775808<=n) (h1:n<=9223372036854775807) (w:World) (htab:Lib.TabIs Tryz.prog w "internal/strconv.uint64pow10" .u64 Lib.pow10Tab):
  Calls Tryz.prog 123 #[.int .i64 n] w λe w'=>e=.returned (.string ⟨(Lib.itoa n).toArray⟩)/\∃ k os,w'=grow (w.drewN k) os:=Any.strconv_Itoa Tryz.LM n h0 h1 w htab
def Tryz.GG:Go.Shelf.Ren:=⟨fun | 287=>173 | 321=>197 | 322=>198 | n=>n,fun | 9=>9 | 3=>3 | 53=>56 | 75=>214 | 4=>4 | 167=>275 | 5=>5 | 46=>206 | 37=>169 | 0=>0 | 21=>21 | 80=>319 | n=>n,fun | n=>n⟩
theorem Tryz.Np:Go.Proofs.Lays.n287 Tryz.prog Tryz.GG:={
 mixed:=by kernel_rfl
 f287:=Tryz.func173.trans (congrArg some (by kernel_rfl))
 f321:=Tryz.func197.trans (congrArg some (by kernel_rfl))
 f322:=Tryz.func198.trans (congrArg some (by kernel_rfl))
 t0:=Tryz.underlying0
 a0:=Tryz.isAgg0
 z0:=Tryz.sizeOf0
 v0:=Tryz.zeroValue0
 t3:=Tryz.underlying3
 a3:=Tryz.isAgg3
 z3:=Tryz.sizeOf3
 v3:=Tryz.zeroValue3
 t4:=Tryz.underlying4
 a4:=Tryz.isAgg4
 z4:=Tryz.sizeOf4
 v4:=Tryz.zeroValue4
 t5:=Tryz.underlying5
 a5:=Tryz.isAgg5
 z5:=Tryz.sizeOf5
 v5:=Tryz.zeroValue5
 t9:=Tryz.underlying9
 a9:=Tryz.isAgg9
 z9:=Tryz.sizeOf9
 v9:=Tryz.zeroValue9
 t21:=Tryz.underlying21
 a21:=Tryz.isAgg21
 z21:=Tryz.sizeOf21
 v21:=Tryz.zeroValue21
 t37:=Tryz.underlying169
 a37:=Tryz.isAgg169
 z37:=Tryz.sizeOf169
 v37:=Tryz.zeroValue169
 t46:=Tryz.underlying206
 a46:=Tryz.isAgg206
 z46:=Tryz.sizeOf206
 v46:=Tryz.zeroValue206
 t53:=Tryz.underlying56
 a53:=Tryz.isAgg56
 z53:=Tryz.sizeOf56
 v53:=Tryz.zeroValue56
 t75:=Tryz.underlying214
 a75:=Tryz.isAgg214
 z75:=Tryz.sizeOf214
 v75:=Tryz.zeroValue214
 t167:=Tryz.underlying275
 a167:=Tryz.isAgg275
 z167:=Tryz.sizeOf275
 v167:=Tryz.zeroValue275 }
open Go.RowKit in
theorem Tryz.internal_strconv_ParseUint_10_b32 (t:ByteArray) (hne:t.size≠0) (hmax:t.size<=9223372036854775806) (w:World):
  Calls Tryz.prog 173 #[.string t,.int .i64 10,.int .i64 32] w λe w'=>e=.returned (Lib.uintTupleM 275 4294967295 (Lib.parseUintM 4294967295 0 t.data.toList))/\w'=Lib.bytesWorld w 5 t:=Any.internal_strconv_ParseUint_10_b32 Tryz.Np t hne hmax w
end Go.Proofs
namespace Go.Sim
open Go Go.Proofs.Tryz
open _root_.Go.IntKind (i64 u64 u32 u8)
set_option maxRecDepth 100000
set_option maxHeartbeats 4000000
instance:xu aX:=⟨λx=>[.string (x.Name),.string (x.A),.string (x.B_),.bool (x.uS),.bool (x.Open)],λh=>h⟩
instance:xu aS:=⟨λx=>[.string (x.Name),.string (x.qD),.string (x.To),.int .i64 (x.X),.int .i64 (x.B6),.int .i64 (x.Shift),.int .i64 (x.tI),.int .i64 (x.wZ),.int .i64 (x.B1)],λh=>h⟩
instance:xu bK:=⟨λx=>[.string (x.Name),.string (x.Node),.int .i64 (x.kB),.int .i64 (x.rB),.int .i64 (x.Bi)],λh=>h⟩
instance:xu aI:=⟨λx=>[.string (x.Name),.string (x.Node),.int .i64 (x.dY)],λh=>h⟩
instance:xu bW:=⟨λx=>[.string (x.Name),.string (x.Node),.int .i64 (x.sf),.int .i64 (x.Discharge),.int .i64 (x.s6)],λh=>h⟩
instance:xu aB:=⟨λx=>[.int .i64 (x.Time),.string (x.Kind),.string (x.Name),.int .i64 (x.Value)],λh=>h⟩
instance:xu bE:=⟨λx=>[.int .i64 (x.Kind),.string (x.Name),.int .i64 (x.A),.int .i64 (x.B_)],λh=>h⟩
instance:xu cS:=⟨λx=>[.int .i64 (x.a0),.int .i64 (x.a1)],λh=>h⟩
instance:xu cC:=⟨λx=>[.int .i64 (x.kB),.int .i64 (x.rB),.int .i64 (x.dY)],λh=>h⟩
instance:xu aP:=⟨λx=>[.int .i64 (x.Term),.int .i64 (x.Number),.bool (x.Ea),.int .i64 (x.Event.Time),.string (x.Event.Kind),.string (x.Event.Name),.int .i64 (x.Event.Value)],λh=>h⟩
instance:xu aW:=⟨λx=>[.string (x.Name),.bool (x.Aa)],λh=>h⟩
structure d_ where
 v0:RV
 v1:RV
 v2:RV
 v3:RV
 v4:RV
 v5:RV
 v6:RV
 v7:RV
 tH:List RV
 v8:RV
 v9:RV
 v10:RV
 xt:List RV
 v11:RV
 sM:List RV
 v12:RV
 Cj:List RV
 Pg:RV
 Ph:RV
 OC:RV
 Bf:List RV
 Pj:RV
abbrev cN {v0 v1 v2 v3 v4 v5 v6 v7:RV}{tH:List RV}{v8 v9 v10:RV}{xt:List RV}{v11:RV}{sM:List RV}{v12:RV}{Cj:List RV}{Pg Ph OC:RV}{Bf:List RV}{Pj:RV}:d_:=⟨v0,v1,v2,v3,v4,v5,v6,v7,tH,v8,v9,v10,xt,v11,sM,v12,Cj,Pg,Ph,OC,Bf,Pj⟩
def a_ (b I J:Nat):d_->bH->List b_
 | ⟨v0,v1,v2,v3,v4,v5,v6,v7,tH,v8,v9,v10,xt,v11,sM,v12,Cj,Pg,Ph,OC,Bf,Pj⟩,x=>[.obj b (.cells [v0,v1,v2,v3,v4,v5,v6,v7,v8,.pointer (some ⟨I,0,none⟩),Pg,Ph,.int .i64 (x.time),.pointer (some ⟨J,0,none⟩),Pj].toArray 99 (0,0)),.row v7 9 (aK.sz RU) x.on.length tH,.obj I (.cells [v9,v10,v11,v12,.int .i64 (x.watch.time)].toArray 147 (0,0)),.row v10 157 (aK.sz aA) x.watch.nt.length xt,.row v11 3 (aK.sz Int) x.watch.tK.length sM,.row v12 4 (aK.sz Bool) x.watch.over.length Cj,.obj J (.cells [OC].toArray 142 (0,0)),.row OC 46 (aK.sz aB) x.log.lT.length Bf]
def dE (H:Hp):d_->bH->Prop
 | ⟨v0,v1,v2,v3,v4,v5,v6,v7,tH,v8,v9,v10,xt,v11,sM,v12,Cj,Pg,Ph,OC,Bf,Pj⟩,x=>aU H v0 x.eD.bP/\aU H v1 x.eD.aT/\aU H v2 x.eD.aL/\aU H v3 x.eD.dI/\aU H v4 x.eD.bM/\aU H v5 x.eD.cB/\aU H v6 x.rules/\Rw H v7 tH x.on/\aU H v8 x.held/\aU H v9 x.watch.ml/\Rw H v10 xt x.watch.nt/\Rw H v11 sM x.watch.tK/\Rw H v12 Cj x.watch.over/\aU H Pg x.state.iJ/\aU H Ph x.state.kV/\Rw H OC Bf x.log.lT/\aU H Pj x.over
theorem dE.mono {H H2:Hp}{g:d_}{x:bH} (h:dE H g x) (I:H.le H2):dE H2 g x:=by
 obtain ⟨v0,v1,v2,v3,v4,v5,v6,v7,tH,v8,v9,v10,xt,v11,sM,v12,Cj,Pg,Ph,OC,Bf,Pj⟩:=g;obtain ⟨z0,z1,z2,z3,z4,z5,z6,z7,z8,z9,J,Y,Z,z13,z14,z15,z16⟩:=h;exact ⟨z0.mono I,z1.mono I,z2.mono I,z3.mono I,z4.mono I,z5.mono I,z6.mono I,z7.mono I,z8.mono I,z9.mono I,J.mono I,Y.mono I,Z.mono I,z13.mono I,z14.mono I,z15.mono I,z16.mono I⟩
theorem dE.mm {H I:Hp}{g:d_}{x:bH} (h:dE H g x) (e:H.le I:=by exact lE):dE I g x:=h.mono e
structure cD where
 v0:RV
 v1:RV
 v2:RV
 v3:RV
 v4:RV
 v5:RV
 v6:RV
 b1:Nat
 b2:Nat
 b3:Nat
 jH:d_
 b4:Nat
 b5:Nat
 b6:Nat
 O9:d_
 v7:RV
 tH:List RV
 v8:RV
 xt:List RV
 v9:RV
 sM:List RV
abbrev cK {v0 v1 v2 v3 v4 v5 v6:RV}{b1 b2 b3:Nat}{jH:d_}{b4 b5 b6:Nat}{O9:d_}{v7:RV}{tH:List RV}{v8:RV}{xt:List RV}{v9:RV}{sM:List RV}:cD:=⟨v0,v1,v2,v3,v4,v5,v6,b1,b2,b3,jH,b4,b5,b6,O9,v7,tH,v8,xt,v9,sM⟩
def aJ (b:Nat):cD->aC->List b_
 | ⟨v0,v1,v2,v3,v4,v5,v6,b1,b2,b3,jH,b4,b5,b6,O9,v7,tH,v8,xt,v9,sM⟩,x=>[.obj b (.cells [v0,v1,v2,v3,v4,v5,v6,.pointer (some ⟨b1,0,none⟩),.pointer (some ⟨b4,0,none⟩),v7,v8,v9,.int .i64 (x.term),.int .i64 (x.done),.int .i64 (x.mT)].toArray 68 (0,0)),cJ (a_ b1 b2 b3 jH x.kQ.a0),cJ (a_ b4 b5 b6 O9 x.kQ.a1),.row v7 46 (aK.sz aB) x.events.a0.length tH,.row v8 46 (aK.sz aB) x.events.a1.length xt,.row v9 90 (aK.sz aP) x.fM.length sM]
def bO (H:Hp):cD->aC->Prop
 | ⟨v0,v1,v2,v3,v4,v5,v6,b1,b2,b3,jH,b4,b5,b6,O9,v7,tH,v8,xt,v9,sM⟩,x=>aU H v0 x.nY.bN.bP/\aU H v1 x.nY.bN.aT/\aU H v2 x.nY.bN.aL/\aU H v3 x.nY.bN.dI/\aU H v4 x.nY.bN.bM/\aU H v5 x.nY.bN.cB/\aU H v6 x.nY.jO/\dE H jH x.kQ.a0/\dE H O9 x.kQ.a1/\Rw H v7 tH x.events.a0/\Rw H v8 xt x.events.a1/\Rw H v9 sM x.fM
theorem bO.mono {H Z:Hp}{g:cD}{x:aC} (h:bO H g x) (I:H.le Z):bO Z g x:=by
 obtain ⟨v0,v1,v2,v3,v4,v5,v6,b1,b2,b3,jH,b4,b5,b6,O9,v7,tH,v8,xt,v9,sM⟩:=g;obtain ⟨z0,z1,z2,z3,z4,z5,z6,z7,z8,z9,J,Y⟩:=h;exact ⟨z0.mono I,z1.mono I,z2.mono I,z3.mono I,z4.mono I,z5.mono I,z6.mono I,z7.mono I,z8.mono I,z9.mono I,J.mono I,Y.mono I⟩
theorem bO.mm {H I:Hp}{g:cD}{x:aC} (h:bO H g x) (e:H.le I:=by exact lE):bO I g x:=h.mono e
theorem fm:Proofs.Tryz.prog.follows .mixedOrders=true:=by kernel_rfl
theorem F1.mixed:Proofs.Tryz.prog.follows .mixedOrders=true:=fm
class vH (B:Nat) (w0:World):Prop where
 lt:6<=B
 e1:∃ T p,w0.var? Proofs.Tryz.prog "strconv.ErrSyntax" = some #[.iface T p]
 e2:∃ T p,w0.var? Proofs.Tryz.prog "strconv.ErrRange" = some #[.iface T p]
 t3:Lib.TabIs Proofs.Tryz.prog w0 "internal/strconv.uint64pow10" .u64 LA
 t4:Lib.TabIs Proofs.Tryz.prog w0 "math/bits.deBruijn32tab" .u8 Nd
 t5:Lib.TabIs Proofs.Tryz.prog w0 "math/bits.deBruijn64tab" .u8 Nf
theorem vH.below {B:Nat}{w0:World}[h:vH B w0] {g:Nat} (I:Nat.blt g 6=true):g<B:=by
 have:=h.lt;have:g<6:=by simpa [S_] using I
 omega
theorem QE:Proofs.Tryz.prog.globalNamed "strconv.ErrSyntax" = some 1:=by kernel_rfl
theorem QF:Proofs.Tryz.prog.globalNamed "strconv.ErrRange" = some 2:=by kernel_rfl
theorem PD:Proofs.Tryz.prog.globalNamed "internal/strconv.uint64pow10" = some 3:=by kernel_rfl
theorem QG:Proofs.Tryz.prog.globalNamed "math/bits.deBruijn32tab" = some 4:=by kernel_rfl
theorem Om:Proofs.Tryz.prog.globalNamed "math/bits.deBruijn64tab" = some 5:=by kernel_rfl
abbrev Rg (d:aN) (a:Hp) (c:List b_):Hp->List b_->RV->Prop:=λf g h=>a.le f/\∃ b0 b1 b2 b3 b4 b5 b6:RV,c=g/\.agg [b0,b1,b2,b3,b4,b5,b6].toArray=h/\aU f b0 d.bN.bP/\aU f b1 d.bN.aT/\aU f b2 d.bN.aL/\aU f b3 d.bN.dI/\aU f b4 d.bN.bM/\aU f b5 d.bN.cB/\aU f b6 d.jO
abbrev FY (d:Bool) (a:Hp) (c:List b_):Hp->List b_->RV->Prop:=λf g h=>a=f/\c=g/\.bool (d)=h
abbrev Q5 {I:Type} (a:List U8) (c:Nat->List U8->Unit->Option I) (d:I) (e:Hp) (l:Nat):Env->List b_->Nat->Hp->List b_->Env->Prop:=λf g h i j k=>∃ b0:Nat,∃ b1:List U8,(a).drop b0=b1/\b1.length=h/\c b0 b1 ()=some d/\e.le i/\g=j/\(l,.int .i64 (b0:Int))::f=k
abbrev wU (a:Hp) (c:Nat) (d:Bool):Env->List b_->Hp->List b_->Env->Prop:=λf g h i j=>a=h/\g=i/\(c,.bool (d))::f=j
abbrev AE (d:Int) (a:Hp) (c:List b_):Hp->List b_->RV->Prop:=λf g h=>a=f/\c=g/\.int .i64 (d)=h
abbrev Ir {I:Type} (a:Nat) (c:Nat->Nat->Unit->Option I) (d:I) (e:Hp) (l:Nat):Env->List b_->Nat->Hp->List b_->Env->Prop:=λf g h i j k=>∃ b0 b1:Nat,b0+b1=a/\b1=h/\c b1 b0 ()=some d/\e.le i/\g=j/\(l,.int .i64 (b0:Int))::f=k
abbrev Q6 {I:Type} (a:List RU) (c:Nat->List RU->Unit->Option I) (d:I) (e:Hp) (l:Nat):Env->List b_->Nat->Hp->List b_->Env->Prop:=λf g h i j k=>∃ b0:Nat,∃ b1:List RU,(a).drop b0=b1/\b1.length=h/\c b0 b1 ()=some d/\e.le i/\g=j/\(l,.int .i64 (b0:Int))::f=k
abbrev PE {I:Type} (a:Bool->Option I) (c:I) (d:Hp) (e:Nat):Env->List b_->Hp->List b_->Env->Prop:=λf g h i j=>∃ b0:Bool,a b0=some c/\d=h/\g=i/\(e,.bool (b0))::f=j
abbrev QJ (a:Hp) (c:Nat):Env->List b_->Hp->List b_->Env->Prop:=λf g h i j=>a=h/\g=i/\(c,.bool (false))::f=j
abbrev Pk {α:Type}[aK α] (d:List α) (a:Hp) (c:List b_):Hp->List b_->RV->Prop:=λf g h=>a=f/\∃ b0:RV,∃ b1:List RV,.row b0 9 (aK.sz RU) d.length b1::c=g/\b0=h/\tS b0 b1 d
abbrev N1 (d:Nat) (e:RU) (l:Bool) (a:Hp) (c:List b_):Hp->List b_->RV->Prop:=λf g h=>a=f/\.obj d (.cells ([.string (e)]:List RV).toArray 9 (0,0))::c=g/\.bool (l)=h
abbrev Pl (d:Nat) (e:RU) (l:Int) (a:Hp) (c:List b_):Hp->List b_->RV->Prop:=λf g h=>a=f/\.obj d (.cells ([.string (e)]:List RV).toArray 9 (0,0))::c=g/\.int .i64 (l)=h
abbrev N2 (d:aG) (a:Hp) (c:List b_):Hp->List b_->RV->Prop:=λf g h=>a=f/\∃ b0:RV,∃ b1:List RV,∃ b2:RV,∃ b3:List RV,∃ b4:RV,∃ b5:List RV,∃ b6:RV,∃ Z:List RV,∃ Y:RV,∃ b9:List RV,∃ I:RV,∃ J:List RV,.row b0 9 (aK.sz RU) d.bP.length b1::.row b2 127 (aK.sz aX) d.aT.length b3::.row b4 116 (aK.sz aS) d.aL.length b5::.row b6 118 (aK.sz bK) d.dI.length Z::.row Y 120 (aK.sz aI) d.bM.length b9::.row I 140 (aK.sz bW) d.cB.length J::c=g/\.agg [b0,b2,b4,b6,Y,I].toArray=h/\tS b0 b1 d.bP/\tS b2 b3 d.aT/\tS b4 b5 d.aL/\tS b6 Z d.dI/\tS Y b9 d.bM/\tS I J d.cB
abbrev N3 {α:Type}[aK α] (a:List α):Hp->List b_->RV->Prop:=λf g h=>∃ b0:RV,∃ b1:List RV,[.row b0 9 (aK.sz RU) a.length b1]=g/\b0=h/\Rw f b0 b1 a
abbrev N4 (d:Nat) (e:RV) (l:Bool) (a:Hp) (c:List b_):Hp->List b_->RV->Prop:=λf g h=>a=f/\.obj d (.cells ([e]:List RV).toArray 22 (0,0))::c=g/\.bool (l)=h
abbrev N5 (d:Nat) (e:RV) (l:Int) (a:Hp) (c:List b_):Hp->List b_->RV->Prop:=λf g h=>a=f/\.obj d (.cells ([e]:List RV).toArray 22 (0,0))::c=g/\.int .i64 (l)=h
abbrev Pm {α:Type}[aK α] (d:List α) (a:Hp) (c:List b_):Hp->List b_->RV->Prop:=λf g h=>a=f/\∃ b0:RV,∃ b1:List RV,.row b0 3 (aK.sz Int) d.length b1::c=g/\b0=h/\tS b0 b1 d
abbrev FU (a:Int):Hp->List b_->RV->Prop:=λf g h=>[]=g/\.int .i64 (a)=h
abbrev MG {α:Type}[aK α] (d:List α) (e:Int) (a:Hp) (c:List b_):Hp->List b_->RV->Prop:=λf g h=>a=f/\∃ b0:RV,∃ b1:List RV,.row b0 3 (aK.sz Int) d.length b1::c=g/\.tuple #[b0,.int .i64 (e)]=h/\tS b0 b1 d
abbrev N6 {α:Type}[aK α] (a:List α):Hp->List b_->RV->Prop:=λf g h=>∃ b0:RV,∃ b1:List RV,[.row b0 3 (aK.sz Int) a.length b1]=g/\b0=h/\Rw f b0 b1 a
abbrev Ha (d:aF) (a:Hp) (c:List b_):Hp->List b_->RV->Prop:=λf g h=>a.le f/\∃ b0:RV,c=g/\.agg [.bool (d.minus),b0].toArray=h/\aU f b0 d.words
abbrev N7 {I:Type} (a:Nat->Int->Option I) (c:I) (d:Hp) (e:Nat):Env->List b_->Nat->Hp->List b_->Env->Prop:=λf g h i j k=>∃ b0:Int,a h b0=some c/\d.le i/\g=j/\(e,.int .i64 (b0))::f=k
abbrev N8 {α:Type}[aK α] (d:List α) (a:Hp) (c:List b_):Hp->List b_->RV->Prop:=λf g h=>a=f/\∃ b0:RV,∃ b1:List RV,.row b0 218 (aK.sz cL) d.length b1::c=g/\b0=h/\tS b0 b1 d
abbrev Qd {I:Type} (a:List cL) (c:Nat->List cL->((List cL)×Int)->Option I) (d:I) (e:RV) (l:Hp) (m:Nat) (n:Nat):Env->List b_->Nat->Hp->List b_->Env->Prop:=λf g h i j k=>∃ b0:Nat,∃ b1 b2:List cL,∃ b3:Int,∃ b4:List RV,(a).drop b0=b1/\b1.length=h/\c b0 b1 (b2,b3)=some d/\Rw i e b4 b2/\l.le i/\.row e 218 (aK.sz cL) b2.length b4::g=j/\(m,.int .u64 (b3))::(n,.int .i64 (b0:Int))::f=k
abbrev D_ {α:Type}[aK α] (a:List α):Hp->List b_->RV->Prop:=λf g h=>∃ b0:RV,∃ b1:List RV,[.row b0 218 (aK.sz cL) a.length b1]=g/\b0=h/\Rw f b0 b1 a
abbrev Qe {I:Type} (a:Nat) (c:Nat->Nat->((List cL)×Int)->Option I) (d:I) (e:RV) (l:Hp) (m:Nat) (n:Nat):Env->List b_->Nat->Hp->List b_->Env->Prop:=λf g h i j k=>∃ b0 b1:Nat,∃ b2:List cL,∃ b3:Int,∃ b4:List RV,b0+b1=a/\b1=h/\c b1 b0 (b2,b3)=some d/\Rw i e b4 b2/\l.le i/\.row e 218 (aK.sz cL) b2.length b4::g=j/\(m,.int .u64 (b3))::(n,.int .i64 (b0:Int))::f=k
abbrev Pn {α:Type}[aK α] (a:aF) (c:List α):Hp->List b_->RV->Prop:=λf g h=>∃ b0:RV,∃ b1:List RV,∃ b2:RV,[]=g/\.agg [.bool (a.minus),b2].toArray=h/\Rw f b0 b1 c/\aU f b0 c/\aU f b2 a.words
abbrev Kr {I:Type} (a:Int->Option I) (c:I) (d:Hp) (e:Nat):Env->List b_->Hp->List b_->Env->Prop:=λf g h i j=>∃ b0:Int,a b0=some c/\d=h/\g=i/\(e,.int .i64 (b0))::f=j
abbrev BO (a:aF):Hp->List b_->RV->Prop:=λf g h=>∃ b0:RV,[]=g/\.agg [.bool (a.minus),b0].toArray=h/\aU f b0 a.words
abbrev Qf:Hp->List b_->RV->Prop:=λf g h=>∃ b0:Nat,[.obj b0 (.cells ([.bool (false),.slice none 0 0]:List RV).toArray 155 (0,0))]=g/\.pointer (some ⟨b0,0,none⟩)=h
abbrev Qg {I:Type} (a:Bool->(List cL)->Bool->(List cL)->Option I) (c:I) (d:Hp) (e:Nat) (l:Nat):Env->List b_->Hp->List b_->Env->Prop:=λf g h i j=>∃ b0:Bool,∃ b1:(List cL),∃ b2:Bool,∃ b3:(List cL),∃ b4 b5:RV,a b0 b1 b2 b3=some c/\aU h b4 b1/\aU h b5 b3/\d.le h/\.obj e (.cells ([.bool (b0),b4]:List RV).toArray 155 (0,0))::.obj l (.cells ([.bool (b2),b5]:List RV).toArray 155 (0,0))::g=i/\f=j
abbrev D1 (d:aA) (a:Hp) (c:List b_):Hp->List b_->RV->Prop:=λf g h=>a.le f/\∃ b0 b1:RV,c=g/\.agg [.bool (d.N.minus),b0,.bool (d.D.minus),b1].toArray=h/\aU f b0 d.N.words/\aU f b1 d.D.words
abbrev uu (a:aA):Hp->List b_->RV->Prop:=λf g h=>∃ b0 b1:RV,[]=g/\.agg [.bool (a.N.minus),b0,.bool (a.D.minus),b1].toArray=h/\aU f b0 a.N.words/\aU f b1 a.D.words
abbrev Po {α:Type}[aK α] (a:List α):Hp->List b_->RV->Prop:=λf g h=>∃ b0:RV,∃ b1:List RV,[.row b0 157 (aK.sz aA) a.length b1]=g/\b0=h/\Rw f b0 b1 a
abbrev N9 {α:Type}[aK α] (d:List α) (e:Nat) (l:RV) (m:RV) (n:RV) (o:RV) (p:RV) (q:RV) (r:RV) (s:RV) (a:Hp) (c:List b_):Hp->List b_->RV->Prop:=λf g h=>a.le f/\∃ b0:RV,∃ b1:List RV,.row b0 157 (aK.sz aA) d.length b1::.obj e (.cells ([l,m,n,o,p,q,r,s]:List RV).toArray 234 (0,0))::c=g/\b0=h/\Rw f b0 b1 d
abbrev Qh {I:Type} (a:List Int) (c:Nat->List Int->List aA->Option I) (d:I) (e:RV) (l:Hp) (m:Nat):Env->List b_->Nat->Hp->List b_->Env->Prop:=λf g h i j k=>∃ b0:Nat,∃ b1:List Int,∃ b2:List aA,∃ b3:List RV,(a).drop b0=b1/\b1.length=h/\c b0 b1 b2=some d/\Rw i e b3 b2/\l.le i/\.row e 157 (aK.sz aA) b2.length b3::g=j/\(m,.int .i64 (b0:Int))::f=k
abbrev Ks (d:RU) (a:Hp) (c:List b_):Hp->List b_->RV->Prop:=λf g h=>a=f/\c=g/\.string (d)=h
abbrev N_ (a:Nat):Hp->List b_->RV->Prop:=λf g h=>[]=g/\.pointer (some ⟨a,0,none⟩)=h
abbrev Qi {I:Type} (a:List aS) (c:Nat->List aS->List RU->Option I) (d:I) (e:Hp) (l:Nat) (m:Nat):Env->List b_->Nat->Hp->List b_->Env->Prop:=λf g h i j k=>∃ b0:Nat,∃ b1:List aS,∃ b2:List RU,∃ b3:RV,∃ b4:List RV,(a).drop b0=b1/\b1.length=h/\c b0 b1 b2=some d/\Rw i b3 b4 b2/\e.le i/\.row b3 9 (aK.sz RU) b2.length b4::g=j/\(l,b3)::(m,.int .i64 (b0:Int))::f=k
abbrev Qj {I:Type} (a:List RU->Option I) (c:I) (d:Hp) (e:Nat):Env->List b_->Hp->List b_->Env->Prop:=λf g h i j=>∃ b0:List RU,∃ b1:RV,∃ b2:List RV,a b0=some c/\Rw h b1 b2 b0/\d.le h/\.row b1 9 (aK.sz RU) b0.length b2::g=i/\(e,b1)::f=j
abbrev Qk {α:Type}[aK α] (d:dB) (e:List α) (l:Int) (a:Hp) (c:List b_):Hp->List b_->RV->Prop:=λf g h=>a=f/\∃ b0:RV,∃ b1:List RV,∃ b2:RV,∃ b3:List RV,∃ b4:RV,∃ b5:List RV,.row b0 82 (aK.sz RU) d.iJ.length b1::.row b2 82 (aK.sz RU) d.kV.length b3::.row b4 9 (aK.sz RU) e.length b5::c=g/\.tuple #[.agg [b0,b2].toArray,b4,.int .i64 (l)]=h/\tS b0 b1 d.iJ/\tS b2 b3 d.kV/\tS b4 b5 e
abbrev MH (a:dB):Hp->List b_->RV->Prop:=λf g h=>∃ b0 b1:RV,∃ b2 b3:List RV,[]=g/\.agg [b0,b1].toArray=h/\Rw f b0 b2 a.iJ/\Rw f b1 b3 a.kV/\aU f b0 a.iJ/\aU f b1 a.kV
abbrev Ql {α:Type}[aK α] {I:Type}[aK I] (a:List α) (c:List I):Hp->List b_->RV->Prop:=λf g h=>∃ b0:RV,∃ b1:List RV,∃ b2:RV,∃ b3:List RV,[.row b0 9 (aK.sz RU) a.length b1,.row b2 9 (aK.sz RU) c.length b3]=g/\b2=h/\Rw f b0 b1 a/\Rw f b2 b3 c
abbrev Qm:Hp->List b_->RV->Prop:=λf g h=>∃ b0:Nat,[.obj b0 (.cells ([.slice none 0 0,.slice none 0 0]:List RV).toArray 80 (0,0))]=g/\.pointer (some ⟨b0,0,none⟩)=h
abbrev Qn (a:dB):Hp->List b_->RV->Prop:=λf g h=>∃ b0 b1:RV,∃ b2:Nat,∃ b3 b4:List RV,[.obj b2 (.cells ([b0,b1]:List RV).toArray 80 (0,0))]=g/\.pointer (some ⟨b2,0,none⟩)=h/\Rw f b0 b3 a.iJ/\Rw f b1 b4 a.kV/\aU f b0 a.iJ/\aU f b1 a.kV
abbrev Pp (a:aG):Hp->List b_->RV->Prop:=λf g h=>∃ b0:RV,∃ b1:List RV,∃ b2:RV,∃ b3:List RV,∃ b4:RV,∃ b5:List RV,∃ b6:RV,∃ Z:List RV,∃ Y:RV,∃ b9:List RV,∃ I:RV,∃ J:List RV,[.row b0 9 (aK.sz RU) a.bP.length b1,.row b2 127 (aK.sz aX) a.aT.length b3,.row b4 116 (aK.sz aS) a.aL.length b5,.row b6 118 (aK.sz bK) a.dI.length Z,.row Y 120 (aK.sz aI) a.bM.length b9,.row I 140 (aK.sz bW) a.cB.length J]=g/\.agg [b0,b2,b4,b6,Y,I].toArray=h/\Rw f b0 b1 a.bP/\Rw f b2 b3 a.aT/\Rw f b4 b5 a.aL/\Rw f b6 Z a.dI/\Rw f Y b9 a.bM/\Rw f I J a.cB
abbrev Qo {α:Type}[aK α] (a:List α):Hp->List b_->RV->Prop:=λf g h=>∃ b0:RV,∃ b1:List RV,[.row b0 73 (aK.sz aR) a.length b1]=g/\b0=h/\Rw f b0 b1 a
abbrev Qp {I:Type} (a:Nat) (c:Nat->Nat->List aR->Option I) (d:I) (e:RV) (l:Hp) (m:Nat):Env->List b_->Nat->Hp->List b_->Env->Prop:=λf g h i j k=>∃ b0 b1:Nat,∃ b2:List aR,∃ b3:List RV,b0+b1=a/\b1=h/\c b1 b0 b2=some d/\Rw i e b3 b2/\l.le i/\.row e 73 (aK.sz aR) b2.length b3::g=j/\(m,.int .i64 (b0:Int))::f=k
abbrev Qq {α:Type}[aK α] (a:List α):Hp->List b_->RV->Prop:=λf g h=>∃ b0:RV,∃ b1:List RV,[.row b0 76 (aK.sz bE) a.length b1]=g/\b0=h/\Rw f b0 b1 a
abbrev Pq {α:Type}[aK α] {I:Type}[aK I] (a:RV) (c:List α) (d:List RV) (e:List I) (l:Int) (m:dB):Hp->List b_->RV->Prop:=λf g h=>∃ b0:RV,∃ b1:List RV,∃ b2:RV,∃ b3:List RV,∃ b4:RV,∃ b5:List RV,[.row a 9 (aK.sz RU) c.length d,.row b4 9 (aK.sz RU) e.length b5]=g/\.tuple #[.agg [b0,b2].toArray,b4,.int .i64 (l)]=h/\Rw f b0 b1 m.iJ/\Rw f b2 b3 m.kV/\Rw f b4 b5 e/\aU f b0 m.iJ/\aU f b2 m.kV
abbrev Ps {α:Type}[aK α] {I:Type}[aK I] (a:RV) (c:List α) (d:List RV) (e:List I) (l:Int) (m:dB):Hp->List b_->RV->Prop:=λf g h=>∃ b0 b1 b2:RV,∃ b3 b4 b5:List RV,[.row a 9 (aK.sz RU) c.length d,.row b2 9 (aK.sz RU) e.length b3]=g/\.tuple #[.agg [b0,b1].toArray,b2,.int .i64 (l)]=h/\Rw f b0 b4 m.iJ/\Rw f b1 b5 m.kV/\Rw f b2 b3 e/\aU f b0 m.iJ/\aU f b1 m.kV
abbrev Pt {α:Type}[aK α] {I:Type}[aK I] (a:RV) (c:List α) (d:List RV) (e:List I):Hp->List b_->RV->Prop:=λf g h=>∃ b0:RV,∃ b1:List RV,[.row a 9 (aK.sz RU) c.length d,.row b0 9 (aK.sz RU) e.length b1]=g/\b0=h/\Rw f b0 b1 e
abbrev Pu (d:Nat) (e:aB) (l:Bool) (a:Hp) (c:List b_):Hp->List b_->RV->Prop:=λf g h=>a=f/\.obj d (.cells ([.int .i64 (e.Time),.string (e.Kind),.string (e.Name),.int .i64 (e.Value)]:List RV).toArray 46 (0,0))::c=g/\.bool (l)=h
abbrev Pv (d:Nat) (e:aB) (l:Int) (a:Hp) (c:List b_):Hp->List b_->RV->Prop:=λf g h=>a=f/\.obj d (.cells ([.int .i64 (e.Time),.string (e.Kind),.string (e.Name),.int .i64 (e.Value)]:List RV).toArray 46 (0,0))::c=g/\.int .i64 (l)=h
abbrev Qr (d:Nat) (e:Nat) (l:Nat) (m:d_) (n:bH) (o:Nat) (p:dS) (q:Int) (a:Hp) (c:List b_):Hp->List b_->RV->Prop:=λf g h=>a.le f/\∃ b0 b1:RV,∃ b2:List RV,∃ b3 b4:RV,∃ b5:List RV,∃ b6:RV,∃ Y:List RV,∃ Z J:RV,∃ I:List RV,cJ (a_ d e l m n)::.obj o (.cells ([b0,b1,b3,b4,b6,Z,J]:List RV).toArray 105 (0,0))::.row b1 127 (aK.sz aX) p.n.aT.length b2::.row b4 118 (aK.sz bK) p.n.dI.length b5::.row b6 120 (aK.sz aI) p.n.bM.length Y::.row J 9 (aK.sz RU) p.on.length I::c=g/\.int .i64 (q)=h/\aU f b0 p.n.bP/\Rw f b1 b2 p.n.aT/\aU f b3 p.n.aL/\Rw f b4 b5 p.n.dI/\Rw f b6 Y p.n.bM/\aU f Z p.n.cB/\Rw f J I p.on
abbrev Oa {α:Type}[aK α] (a:List α):Hp->List b_->RV->Prop:=λf g h=>∃ b0:RV,∃ b1:List RV,[.row b0 46 (aK.sz aB) a.length b1]=g/\b0=h/\Rw f b0 b1 a
abbrev Pw {α:Type}[aK α] (d:List α) (e:Nat) (l:RV) (a:Hp) (c:List b_):Hp->List b_->RV->Prop:=λf g h=>a=f/\∃ b0:RV,∃ b1:List RV,.row b0 9 (aK.sz RU) d.length b1::.obj e (.cells ([l]:List RV).toArray 22 (0,0))::c=g/\b0=h/\tS b0 b1 d
abbrev Px {I:Type} (a:Nat->((List RU)×Int×Int)->Option I) (c:I) (d:RV) (e:Hp) (l:Nat) (m:Nat):Env->List b_->Nat->Hp->List b_->Env->Prop:=λf g h i j k=>∃ b0:List RU,∃ b1 b2:Int,∃ b3:List RV,a h (b0,b1,b2)=some c/\Rw i d b3 b0/\e.le i/\.row d 9 (aK.sz RU) b0.length b3::g=j/\(l,.int .i64 (b1))::(m,.int .i64 (b2))::f=k
abbrev Py {I:Type} (a:List RU->Int->Option I) (c:I) (d:RV) (e:Hp) (l:Nat):Env->List b_->Hp->List b_->Env->Prop:=λf g h i j=>∃ b0:List RU,∃ b1:Int,∃ b2:List RV,a b0 b1=some c/\Rw h d b2 b0/\e=h/\.row d 9 (aK.sz RU) b0.length b2::g=i/\(l,.int .i64 (b1))::f=j
abbrev Ob {α:Type}[aK α] (d:List α) (e:Nat) (l:RV) (m:Nat) (n:RV) (o:RV) (p:RV) (q:RV) (r:RV) (s:RV) (t:Bool) (a:Hp) (c:List b_):Hp->List b_->RV->Prop:=λf g h=>a=f/\∃ b0:RV,∃ b1:List RV,.row b0 9 (aK.sz RU) d.length b1::.obj e (.cells ([l]:List RV).toArray 22 (0,0))::.obj m (.cells ([n,o,p,q,r,s]:List RV).toArray 29 (0,0))::c=g/\.tuple #[b0,.bool (t)]=h/\tS b0 b1 d
abbrev Qs {I:Type} (a:List RU) (c:Nat->List RU->List aB->Option I) (d:I) (e:Hp) (l:Nat) (m:Nat):Env->List b_->Nat->Hp->List b_->Env->Prop:=λf g h i j k=>∃ b0:Nat,∃ b1:List RU,∃ b2:List aB,∃ b3:RV,∃ b4:List RV,(a).drop b0=b1/\b1.length=h/\c b0 b1 b2=some d/\Rw i b3 b4 b2/\e.le i/\.row b3 46 (aK.sz aB) b2.length b4::.obj l (.cells ([b3]:List RV).toArray 142 (0,0))::g=j/\(m,.int .i64 (b0:Int))::f=k
abbrev Qt {α:Type}[aK α] (a:RV) (c:dS) (d:List RV) (e:RV) (l:List RV) (m:RV) (n:List RV) (o:RV) (p:List RV) (q:List α):Hp->List b_->RV->Prop:=λf g h=>∃ b0:RV,∃ b1:List RV,[.row a 127 (aK.sz aX) c.n.aT.length d,.row e 118 (aK.sz bK) c.n.dI.length l,.row m 120 (aK.sz aI) c.n.bM.length n,.row o 9 (aK.sz RU) c.on.length p,.row b0 9 (aK.sz RU) q.length b1]=g/\b0=h/\Rw f b0 b1 q
abbrev Kt (d:Nat) (e:aC) (l:Int) (a:Hp) (c:List b_):Hp->List b_->RV->Prop:=λf g h=>a.le f/\∃ b0:cD,cJ (aJ d b0 e)::c=g/\.int .i64 (l)=h/\bO f b0 e
abbrev Ku (a:Hp) (c:Nat):Env->List b_->Hp->List b_->Env->Prop:=λf g h i j=>a=h/\g=i/\(c,.bool (true))::f=j
abbrev Qu (a:bH) (c:Int):Hp->List b_->RV->Prop:=λf g h=>∃ b0 b1 b2:Nat,∃ b3:d_,[cJ (a_ b0 b1 b2 b3 a)]=g/\.tuple #[.pointer (some ⟨b0,0,none⟩),.int .i64 (c)]=h/\dE f b3 a
abbrev MI {I:Type} (a:aC->Option I) (c:I) (d:Hp) (e:Nat):Env->List b_->Hp->List b_->Env->Prop:=λf g h i j=>∃ b0:aC,∃ b1:cD,a b0=some c/\bO h b1 b0/\d.le h/\cJ (aJ e b1 b0)::g=i/\f=j
abbrev Cq (B:Nat) (w0:World) (n:FuncId) (a:List RV) (H:Hp) (M:List b_) (F:Hp->List b_->Hp->List b_->RV->Prop):Prop:=∀ ⦃w⦄,St B w0 H M w->Calls Proofs.Tryz.prog n a.toArray w (vi B w0 (F H M))
theorem gJ {n:FuncId}{I:Func}{c:Code}{vs:List RV}{N B:Nat}{w0:World}{H:Hp}{M:List b_}{F:Hp->List b_->Hp->List b_->RV->Prop} (Z:Proofs.Tryz.prog.funcs[n]? = some I)
  (k:C ⟨Proofs.Tryz.prog,N,B,w0⟩ c (bodyPost Proofs.Tryz.prog I (vi B w0 (F H M))) H M (Er 0 vs)) (Y:I.body=some c:=by rfl) (hN:I.ntmps=N:=by rfl) (J:Nat.ble vs.length N=true:=by rfl):Cq B w0 n vs H M F:=λ_ ht=>enter Z Y hN J ht k
variable {B:Nat}{w0 w:World}[vH B w0] {H:Hp}{M:List b_}
theorem ql {J:RU}{r:Bool} (O:bX J=some r):
  Cq B w0 71 [.string (J)] H M (FY r):=by
 unfold bX at O;refine gJ func71 ?_;refine g2 ?_;refine gs ?_;obtain ⟨aa,O⟩:=aM O;refine w5 G G SH Wt W0 G aa ?_;intro ak ab am ac;refine go ?_;obtain ⟨Z,ad,ae,O⟩:=dG O;refine cl [(0,_),(6,_),(7,_)] [] 0 [] 0 (Q5 (lz J) Z r ab 8) _ G ⟨0,_,G,G,O,lE,G,G⟩ ?_;rintro _ a7 _ _ ⟨a0,a4,a8,rfl,O,an,rfl,rfl⟩;refine g2 ?_;refine bS G (λY=>?_) (λY=>?_);obtain ⟨a1,af,rfl,ag,ah⟩:=gU a8 Y;have O:=(ad _ _ _ _).symm.trans O;generalize ai:Z (a0+1) af=ao at O;unfold py at O;refine g2 ?_;refine cj [(0,_),(6,_),(7,_),(8,_)] [] 0 (wU a7 31 (!(((decide (65<=a1.n)) && (decide (a1.n<=90))) || (((decide (0<(a0:Int))) && (decide (48<=a1.n))) && (decide (a1.n<=57)))))) ?_ (λI=>?_);rintro _ _ _ ⟨rfl,rfl,rfl⟩;refine cd O G (λaj O=>?_) (λaj O=>?_);refine gs ?_;exact ef;refine gt ?_;refine gj ?_
 exact kj (eb ah ai) (kK (cQ ag ac.mm.dN));refine go ?_;cases ap:(decide (65<=a1.n));refine go ?_;cases aq:(decide (0<(a0:Int)));refine gj ?_;exact kj (I _ _ _ pk) kS;refine go ?_;cases ar:(decide (48<=a1.n));refine gj ?_;exact kj (I _ _ _ pk) kS;refine gj ?_;exact kj (I _ _ _ pk) kS;refine go ?_;cases au:(decide (a1.n<=90));refine go ?_;cases av:(decide (0<(a0:Int)));refine gj ?_;exact kj (I _ _ _ pk) kS;refine go ?_;cases aw:(decide (48<=a1.n));refine gj ?_;exact kj (I _ _ _ pk) kS;refine gj ?_;exact kj (I _ _ _ pk) kS;refine gj ?_;exact kj (I _ _ _ pk) kS;obtain rfl:=gT a8 Y;have O:=(ae _ _).symm.trans O;refine go ?_;refine cj [] [] 0 (wU a7 2 ((decide (1<=(J.size:Int))) && (decide ((J.size:Int)<=8)))) ?_ (λa9=>?_);rintro _ _ _ ⟨rfl,rfl,rfl⟩;refine go ?_;exact ef;refine go ?_;refine lP G G SH G (go ?_);cases ax:(decide (1<=(J.size:Int)))
 refine gj ?_;exact kj (a9 _ _ _ pk) kS;refine go ?_;refine lP G G SH G (gj ?_);exact kj (a9 _ _ _ pk) kS
theorem cW {I:(List RU)}{Y:RU}{v0:RV}{r:Int} (O:bU I Y=some r) (h0:aU H v0 I):
  Cq B w0 94 [v0,.string (Y)] H M (AE r):=by
 unfold bU at O;refine gJ func94 ?_;refine g2 ?_;refine gs ?_;obtain ⟨Z,a7,a8,O⟩:=kL O;refine cl [(0,_),(1,_),(7,_)] [] 0 [] 0 (Ir (((I.length:Int):Int).toNat) Z r H 8) _ G ⟨0,_,Sp _,G,O,lE,G,G⟩ ?_;rintro _ ae _ _ ⟨a0,a1,a6,rfl,O,af,rfl,rfl⟩;refine g2 ?_;refine bS G (λJ=>?_) (λJ=>?_);obtain ⟨a9,rfl,aa,ab⟩:=mE a6 J;have O:=(a7 _ _ _).symm.trans O;generalize ac:Z a9 (a0+1)=ag at O;unfold mU at O;refine g2 ?_;refine gs ?_;obtain ⟨ah,ai,aj,O⟩:=aE O;refine go ?_;refine cd O G (λad O=>?_) (λad O=>?_);refine gs ?_;exact ef;refine gt ?_;refine gj ?_;exact kj (eb aa ac) (kK (fO ab (fP (mn (h0).dN))));obtain rfl:=mD a6 J;have O:=(a8 _ _).symm.trans O;refine gs ?_;exact ef
theorem dH {a0:(List RU)}{a1:RU}{v0:RV}{r:Bool} (O:cI a0 a1=some r) (Y:aU H v0 a0):
  Cq B w0 60 [v0,.string (a1)] H M (FY r):=by
 unfold cI at O;refine gJ func60 ?_;refine g2 ?_;obtain ⟨J,I,O⟩:=aY O;refine cz @cW I ?_;refine go ?_;exact ef
theorem iE {a3:bC}{name:RU}{nodes:(List RU)}{b0:Nat}{J:Array MapEntry}{c0:Nat}{v0 v1:RV}{r:Int×bC} (O:cX a3 name nodes=some r) (h0:tR J c0 a3.seen) (h1:aU H v0 a3.nodes) (h2:aU H v1 nodes):
  Cq B w0 68 [.agg [.map (some b0),v0].toArray,.string (name),v1] H (.obj b0 (.map J c0)::M) (λH _ H' M' v=>H.le H'/\∃ I:Array MapEntry,∃ Y:Nat,∃ qv0:RV,.obj b0 (.map I Y)::M=M'/\.int .i64 (r.1)=v/\tR I Y r.2.seen/\aU H' qv0 r.2.nodes):=by
 unfold cX at O;refine gJ func68 ?_;refine gs ?_;refine bx (λaj=>?_);refine g2 ?_;obtain ⟨ak,a7,O⟩:=aY O;refine cz @ql a7 ?_;refine go ?_;refine cd O G (λa8 O=>?_) (λa8 O=>?_);refine gs ?_;refine Ek [1] 1 ?_;exact en;refine gs ?_;refine CU (z:=false) (k:=name) (.tail _ (.head _)) h0 G G runUnderlying122 SH zeroValue4 G G G G (go ?_);refine cd O G (λa9 O=>?_) (λa9 O=>?_);refine gs ?_;refine Ek [1] 1 ?_;exact en;refine gs ?_;refine Wp [1] ?_;refine y0 (k:=name) (v:=true) h0 G runUnderlying122 SH G G G G G ?_;intro am an ao;refine g2 ?_;obtain ⟨a5,aa,ab,O⟩:=dG O;refine cl [(2,_),(3,_),(21,_),(22,_)] [] 0 [] 0 (Q6 nodes a5 r H 23) _ G ⟨0,_,G,G,O,lE,G,G⟩ ?_;rintro _ ap _ _ ⟨a0,a1,a6,rfl,O,aq,rfl,rfl⟩;refine g2 ?_;refine bS G (λa4=>?_) (λa4=>?_);obtain ⟨ar,ac,rfl,ad,ae⟩:=gU a6 a4;have O:=(aa _ _ _ _).symm.trans O
 generalize af:a5 (a0+1) ac=au at O;unfold jV at O;refine g2 ?_;refine gs ?_;obtain ⟨av,ag,O⟩:=aY O;refine cz @dH ag ?_;refine go ?_;refine cd O G (λah O=>?_) (λah O=>?_);refine gs ?_;refine Ek [0] 1 ?_;exact en;refine gt ?_;refine gj ?_;exact kj (eb ae af) (kK (cQ ad h2.mm.dN));obtain rfl:=gT a6 a4;have O:=(ab _ _).symm.trans O;refine g2 ?_;cases Z:(decide ((nodes.length:Int)=2));have O:=dL Z O;refine oU fm 10 [aH,aH,ph (.bool (false)),aH,aH,aH,aH,aH,aH,aH] ⟨om,om,Cv Z,om,om,om,om,om,om,om,RW⟩ ?_;intro aw ax;refine dz ?_;refine go ?_;refine cF G ?_;refine gs ?_;refine Ek [0] 1 ?_;exact en;have O:=dM Z O;obtain ⟨ay,az,b1,O⟩:=aE O;obtain ⟨b2,b3,b4,O⟩:=aE O;refine oU fm 10 [aH,aH,ph (.bool (true)),aH,aH,aH,aH,aH,aH,aH] ⟨om,om,Cv Z,om,om,om,om,om,om,om,RW⟩ ?_;intro b5 b6;refine dz ?_;refine go ?_
 refine cd O G (λai O=>?_) (λai O=>?_);refine gs ?_;refine Ek [0] 1 ?_;exact en;refine gs ?_;refine Ek [0] 1 ?_;exact en
theorem mc {a0 a1 I:Int}{r:Bool} (O:cA a0 a1 I=r):
  Cq B w0 100 [.int .i64 (a0),.int .i64 (a1),.int .i64 (I)] H M (FY r):=by
 unfold cA at O;refine gJ func100 ?_;refine gs ?_;refine cj [] [] 0 (wU H 6 ((decide (a0<a1)) || (decide (I<a0)))) ?_ (λJ=>?_);rintro _ _ _ ⟨rfl,rfl,rfl⟩;refine go ?_;obtain rfl:=O;refine Ew H ?_;exact iZ G G ⟨G,G,G⟩;refine go ?_;cases Y:(decide (a0<a1));refine gj ?_;exact kj (J _ _ _ pk) kS;refine gj ?_;exact kj (J _ _ _ pk) kS
theorem zO {a0:aS}{r:Int} (O:kO a0=r):
  Cq B w0 69 [.agg [.string (a0.Name),.string (a0.qD),.string (a0.To),.int .i64 (a0.X),.int .i64 (a0.B6),.int .i64 (a0.Shift),.int .i64 (a0.tI),.int .i64 (a0.wZ),.int .i64 (a0.B1)].toArray] H M (AE r):=by
 unfold kO at O;refine gJ func69 ?_;refine gs ?_;refine bx (λJ=>?_);refine gs ?_;refine cj [] [] 1 (wU H 32 ((((((cA a0.X 1 10000) || (cA a0.B6 500 1500)) || (cA a0.Shift (-1000) 1000)) || (cA a0.tI 0 100000)) || (cA a0.wZ a0.tI 100000)) || (cA a0.B1 0 200000))) ?_ (λa1=>?_);rintro _ _ _ ⟨rfl,rfl,rfl⟩;refine cd O G (λI O=>?_) (λI O=>?_);refine gs ?_;obtain rfl:=O;refine Ew H ?_;exact iZ G G ⟨G,G,G⟩;refine gs ?_;obtain rfl:=O;refine Ew H ?_;exact iZ G G ⟨G,G,G⟩;refine go ?_;refine cz @mc (G:cA a0.X 1 10000=_) ?_;refine go ?_;cases Y:((cA a0.X 1 10000));refine go ?_;refine cz @mc (G:cA a0.B6 500 1500=_) ?_;refine go ?_;cases Z:((cA a0.B6 500 1500));refine go ?_;refine cz @mc (G:cA a0.Shift (-1000) 1000=_) ?_;refine go ?_;cases a6:((cA a0.Shift (-1000) 1000));refine go ?_;refine cz @mc (G:cA a0.tI 0 100000=_) ?_;refine go ?_;cases a7:((cA a0.tI 0 100000))
 refine go ?_;refine cz @mc (G:cA a0.wZ a0.tI 100000=_) ?_;refine go ?_;cases a8:((cA a0.wZ a0.tI 100000));refine go ?_;refine cz @mc (G:cA a0.B1 0 200000=_) ?_;refine gj ?_;exact kx [] 1 (a1 _ _ _ pk) G kS;refine gj ?_;exact kx [] 1 (a1 _ _ _ pk) G kS;refine gj ?_;exact kx [] 1 (a1 _ _ _ pk) G kS;refine gj ?_;exact kx [] 1 (a1 _ _ _ pk) G kS;refine gj ?_;exact kx [] 1 (a1 _ _ _ pk) G kS;refine gj ?_;exact kx [] 1 (a1 _ _ _ pk) G kS
theorem lA {a0:Int}{r:Bool} (O:bI a0=r):
  Cq B w0 101 [.int .i64 (a0)] H M (FY r):=by
 unfold bI at O;refine gJ func101 ?_;refine g2 ?_;refine cz @mc (G:cA a0 0 100000=_) ?_;refine go ?_;obtain rfl:=O;refine Ew H ?_;exact iZ G G ⟨G,G,G⟩
theorem wX {aa:bC}{I:aG}{b0:Nat}{es0:Array MapEntry}{c0:Nat}{v0 v1 v2 v3 v4 v5 v6:RV}{r:Int×bC} (O:iQ aa I=some r) (h0:tR es0 c0 aa.seen) (h1:aU H v0 aa.nodes) (h2:aU H v1 I.bP) (h3:aU H v2 I.aT) (h4:aU H v3 I.aL) (h5:aU H v4 I.dI) (h6:aU H v5 I.bM) (h7:aU H v6 I.cB):
  Cq B w0 70 [.agg [.map (some b0),v0].toArray,.agg [v1,v2,v3,v4,v5,v6].toArray] H (.obj b0 (.map es0 c0)::M) (λH _ H' M' v=>H.le H'/\∃ J:Array MapEntry,∃ qc0:Nat,∃ qv0:RV,.obj b0 (.map J qc0)::M=M'/\.int .i64 (r.1)=v/\tR J qc0 r.2.seen/\aU H' qv0 r.2.nodes):=by
 unfold iQ at O;refine gJ func70 ?_;refine gs ?_;refine bx (λc2=>?_);refine bx (λc3=>?_);refine g2 ?_;obtain ⟨aq,ay,az,O⟩:=dG O;refine cl [(2,_),(3,_),(15,_),(16,_)] [0,0] 1 [2] 0 (λu m n H' M' L'=>∃ (Y:Nat) (a7:List bK),∃ ab:(List (RU×Bool)),∃ ac:Array MapEntry,∃ ad:Nat,(I.dI).drop Y=a7/\a7.length=n/\aq Y a7 ab=some r/\tR ac ad ab/\H.le H'/\.obj b0 (.map ac ad)::m=M'/\(17,.int .i64 ((Y:Int)))::u=L') _ G ⟨0,_,_,_,_,G,G,O,h0,lE,G,G⟩ ?_;rintro _ b1 _ _ ⟨Y,a7,ab,ac,ad,ar,rfl,O,b2,c4,rfl,rfl⟩;refine g2 ?_;refine bS G (λae=>?_) (λae=>?_);obtain ⟨a0,b3,rfl,b4,b5⟩:=gU ar ae;have O:=(ay _ _ _ _).symm.trans O;generalize b6:aq (Y+1) b3=c5 at O;unfold kZ at O;refine g2 ?_;refine al (λc6=>?_);refine wt 0 ?_;refine g2 ?_;refine eZ (α:=RU) (css:=[[.string (a0.Node)]]) (zs:=[.string (⟨#[]⟩)]) (out:=[.string (a0.Node)]) (ys:=[a0.Node]) G G G ⟨G,RW⟩ Ta Uh G Ul (by kernel_rfl) G G G G ⟨[.string (a0.Node)],[],G,G,G⟩ G ?_
 intro c7 c8 b7;refine cE (b7).rd G (λc9 cb cc=>?_);refine Wp [1] ?_;obtain ⟨ce,b8,O⟩:=aY O;refine ca @iE b8 ?_;rintro _ b9 _ ⟨cf,cg,ch,ci,rfl,rfl,ck,cm⟩;refine gs ?_;refine cd O G (λba O=>?_) (λba O=>?_);refine gs ?_;refine Ek [0] 3 ?_;exact en;refine go ?_;refine cj [(2,_),(3,_),(15,_),(16,_),(17,_)] [0,1,1] 1 (wU b9 47 (((!(bI a0.kB)) || (cA a0.rB a0.kB 100000)) || (!(bI a0.Bi)))) ?_ (λaf=>?_);rintro _ _ _ ⟨rfl,rfl,rfl⟩;refine cd O G (λbb O=>?_) (λbb O=>?_);refine gs ?_;refine Ek [0] 2 ?_;exact en;refine gt ?_;refine gj ?_;exact kj (eb b5 b6) (kK (cQ b4 h5.mm.dN));refine go ?_;refine cz @lA (G:bI a0.kB=_) ?_;refine go ?_;cases cn:(bI a0.kB);refine gj ?_;exact kx [0,1,1] 1 (af _ _ _ pk) G kS;refine go ?_;refine cz @mc (G:cA a0.rB a0.kB 100000=_) ?_;refine go ?_;cases co:((cA a0.rB a0.kB 100000));refine go ?_;refine cz @lA (G:bI a0.Bi=_) ?_
 refine gj ?_;exact kx [0,1,1] 1 (af _ _ _ pk) G kS;refine gj ?_;exact kx [0,1,1] 1 (af _ _ _ pk) G kS;obtain rfl:=gT ar ae;have O:=(az _ _).symm.trans O;refine g2 ?_;obtain ⟨au,bc,bd,O⟩:=dG O;refine cl [(2,_),(3,_),(50,_),(51,_)] [1,1] 1 [] 0 (λu m n H' M' L'=>∃ (Z:Nat) (a8:List aI),∃ ag:(List (RU×Bool)),∃ ah:Array MapEntry,∃ ai:Nat,(I.bM).drop Z=a8/\a8.length=n/\au Z a8 ag=some r/\tR ah ai ag/\b1.le H'/\.obj b0 (.map ah ai)::m=M'/\(52,.int .i64 ((Z:Int)))::u=L') _ G ⟨0,_,_,_,_,G,G,O,b2,lE,G,G⟩ ?_;rintro _ be _ _ ⟨Z,a8,ag,ah,ai,av,rfl,O,bf,cp,rfl,rfl⟩;refine g2 ?_;refine bS G (λaj=>?_) (λaj=>?_);obtain ⟨a5,bg,rfl,bh,bi⟩:=gU av aj;have O:=(bc _ _ _ _).symm.trans O;generalize bj:au (Z+1) bg=cq at O;unfold k_ at O;refine g2 ?_;refine al (λcr=>?_);refine wt 0 ?_;refine g2 ?_
 refine eZ (α:=RU) (css:=[[.string (a5.Node)]]) (zs:=[.string (⟨#[]⟩)]) (out:=[.string (a5.Node)]) (ys:=[a5.Node]) G G G ⟨G,RW⟩ Ta Uh G Ul (by kernel_rfl) G G G G ⟨[.string (a5.Node)],[],G,G,G⟩ G ?_
 intro cs ct bk;refine cE (bk).rd G (λcu cv cw=>?_);refine Wp [1] ?_;obtain ⟨cx,bl,O⟩:=aY O;refine ca @iE bl ?_;rintro _ d0 _ ⟨d1,d2,d3,d4,rfl,rfl,d5,d6⟩;refine gs ?_;refine cd O G (λbm O=>?_) (λbm O=>?_);refine gs ?_;refine Ek [0] 3 ?_;exact en;refine gs ?_;refine cz @lA (G:bI a5.dY=_) ?_;refine go ?_;refine cd O G (λbn O=>?_) (λbn O=>?_);refine gs ?_;refine Ek [0] 3 ?_;exact en;refine gt ?_;refine gj ?_;exact kx [0,1,1] 1 (eb bi bj) G (kK (cQ bh h6.mm.dN));obtain rfl:=gT av aj;have O:=(bd _ _).symm.trans O;refine g2 ?_;obtain ⟨aw,bo,bp,O⟩:=dG O;refine cl [(2,_),(72,_),(73,_)] [2] 2 [0,1] 1 (λu m n H' M' L'=>∃ (a6:Nat) (a9:List bW),∃ ak:(List (RU×Bool)),∃ am:Array MapEntry,∃ an:Nat,(I.cB).drop a6=a9/\a9.length=n/\aw a6 a9 ak=some r/\tR am an ak/\be.le H'/\.obj b0 (.map am an)::m=M'/\(74,.int .i64 ((a6:Int)))::u=L') _ G ⟨0,_,_,_,_,G,G,O,bf,lE,G,G⟩ ?_
 rintro _ d7 _ _ ⟨a6,a9,ak,am,an,ax,rfl,O,d8,d9,rfl,rfl⟩;refine g2 ?_;refine bS G (λao=>?_) (λao=>?_);obtain ⟨a1,bq,rfl,br,bs⟩:=gU ax ao;have O:=(bo _ _ _ _).symm.trans O;generalize bt:aw (a6+1) bq=da at O;unfold lf at O;refine g2 ?_;refine al (λdb=>?_);refine wt 0 ?_;refine g2 ?_;refine eZ (α:=RU) (css:=[[.string (a1.Node)]]) (zs:=[.string (⟨#[]⟩)]) (out:=[.string (a1.Node)]) (ys:=[a1.Node]) G G G ⟨G,RW⟩ Ta Uh G Ul (by kernel_rfl) G G G G ⟨[.string (a1.Node)],[],G,G,G⟩ G ?_
 intro dc dd bu;refine cE (bu).rd G (λde df dg=>?_);refine Wp [1] ?_;obtain ⟨dh,bv,O⟩:=aY O;refine ca @iE bv ?_;rintro _ bw _ ⟨di,dj,dk,dl,rfl,rfl,dm,dn⟩;refine gs ?_;refine cd O G (λbz O=>?_) (λbz O=>?_);refine gs ?_;refine Ek [0] 2 ?_;exact en;refine go ?_;refine cj [(2,_),(72,_),(73,_),(74,_)] [0,1] 1 (wU bw 103 (((!(bI a1.sf)) || (!(bI a1.Discharge))) || (!(bI a1.s6)))) ?_ (λap=>?_);rintro _ _ _ ⟨rfl,rfl,rfl⟩;refine cd O G (λc1 O=>?_) (λc1 O=>?_);refine gs ?_;refine Ek [0] 1 ?_;exact en;refine gt ?_;refine gj ?_;exact kj (eb bs bt) (kK (cQ br h7.mm.dN));refine go ?_;refine cz @lA (G:bI a1.sf=_) ?_;refine go ?_;cases dp:(bI a1.sf);refine gj ?_;exact kx [0,1] 1 (ap _ _ _ pk) G kS;refine go ?_;refine cz @lA (G:bI a1.Discharge=_) ?_;refine go ?_;cases dq:(bI a1.Discharge);refine gj ?_;exact kx [0,1] 1 (ap _ _ _ pk) G kS;refine go ?_
 refine cz @lA (G:bI a1.s6=_) ?_;refine gj ?_;exact kx [0,1] 1 (ap _ _ _ pk) G kS;obtain rfl:=gT ax ao;have O:=(bp _ _).symm.trans O;refine gs ?_;refine Ek [0] 1 ?_;exact en
theorem ni {a0:aG}{v0 v1 v2 v3 v4 v5:RV}{r:Int} (O:cR a0=some r) (h0:aU H v0 a0.bP) (h1:aU H v1 a0.aT) (h2:aU H v2 a0.aL) (h3:aU H v3 a0.dI) (h4:aU H v4 a0.bM) (h5:aU H v5 a0.cB):
  Cq B w0 41 [.agg [v0,v1,v2,v3,v4,v5].toArray] H M (AE r):=by
 unfold cR at O;refine gJ func41 ?_;refine gs ?_;refine bx (λbt=>?_);refine gs ?_;refine cj [(1,_)] [] 0 (wU H 47 ((((((decide (24<(a0.bP.length:Int))) || (decide (32<(a0.aT.length:Int)))) || (decide (24<(a0.aL.length:Int)))) || (decide (10<(a0.dI.length:Int)))) || (decide (12<(a0.bM.length:Int)))) || (decide (4<(a0.cB.length:Int))))) ?_ (λJ=>?_);rintro _ _ _ ⟨rfl,rfl,rfl⟩;refine cd O G (λaw O=>?_) (λaw O=>?_);refine gs ?_;refine Ek [] 1 ?_;exact ef;refine gs ?_;refine Bn G G (λY=>?_);refine go ?_;refine dX (css:=[[.map (some Y)],[v0]]) (zs:=[.map none,.slice none 0 0]) (out:=[.map (some Y),v0]) (places:=[(0,1),(1,1)]) G G G ⟨G,(aU.cells h0),RW⟩ zeroValue124 G runUnderlying124 (λw=>by kernel_rfl) G ?_
 refine al (λbu=>?_);refine wt 0 ?_;refine g2 ?_;obtain ⟨ao,ax,ay,O⟩:=dG O;refine cl [(1,_),(3,_),(53,_),(54,_)] [0,1] 1 [1] 0 (λu m n H' M' L'=>∃ (Z:Nat) (a8:List RU),∃ ab:(List (RU×Bool)),∃ ac:Array MapEntry,∃ ad:Nat,(a0.bP).drop Z=a8/\a8.length=n/\ao Z a8 ab=some r/\tR ac ad ab/\H.le H'/\.obj Y (.map ac ad)::m=M'/\(55,.int .i64 ((Z:Int)))::u=L') _ G ⟨0,_,_,_,_,G,G,O,(tR.nil (κ:=RU) (ν:=Bool)),lE,G,G⟩ ?_;rintro _ az _ _ ⟨Z,a8,ab,ac,ad,ap,rfl,O,b0,bv,rfl,rfl⟩;refine g2 ?_;refine bS G (λae=>?_) (λae=>?_);obtain ⟨bw,b1,rfl,b2,b3⟩:=gU ap ae;have O:=(ax _ _ _ _).symm.trans O;generalize b4:ao (Z+1) b1=bz at O;unfold oy at O;refine g2 ?_;refine gs ?_;obtain ⟨c0,b5,O⟩:=aY O;refine ca @iE b5 ?_;rintro _ c1 _ ⟨c2,c3,c4,c5,rfl,rfl,c6,c7⟩;refine gs ?_
 refine cd O G (λb6 O=>?_) (λb6 O=>?_);refine gs ?_;refine Ek [] 3 ?_;exact ef;refine gt ?_;refine gj ?_;exact kj (eb b3 b4) (kK (cQ b2 h0.mm.dN));obtain rfl:=gT ap ae;have O:=(ay _ _).symm.trans O;refine g2 ?_;obtain ⟨aq,b7,b8,O⟩:=dG O;refine cl [(1,_),(3,_),(67,_),(68,_)] [1,1] 1 [] 0 (λu m n H' M' L'=>∃ (a6:Nat) (a9:List aX),∃ af:(List (RU×Bool)),∃ ag:Array MapEntry,∃ ah:Nat,(a0.aT).drop a6=a9/\a9.length=n/\aq a6 a9 af=some r/\tR ag ah af/\az.le H'/\.obj Y (.map ag ah)::m=M'/\(69,.int .i64 ((a6:Int)))::u=L') _ G ⟨0,_,_,_,_,G,G,O,b0,lE,G,G⟩ ?_;rintro _ b9 _ _ ⟨a6,a9,af,ag,ah,ar,rfl,O,ba,c8,rfl,rfl⟩;refine g2 ?_;refine bS G (λai=>?_) (λai=>?_);obtain ⟨I,bb,rfl,bc,bd⟩:=gU ar ai;have O:=(b7 _ _ _ _).symm.trans O;generalize be:aq (a6+1) bb=c9 at O;unfold oz at O;refine g2 ?_
 refine al (λcb=>?_);refine wt 0 ?_;refine gs ?_;refine eZ (α:=RU) (css:=[[.string (I.A)],[.string (I.B_)]]) (zs:=[.string (⟨#[]⟩),.string (⟨#[]⟩)]) (out:=[.string (I.A),.string (I.B_)]) (ys:=[I.A,I.B_]) G G G ⟨G,G,RW⟩ Ta Uh G Ul (by kernel_rfl) G G G G ⟨[.string (I.A)],[.string (I.B_)],G,G,⟨[.string (I.B_)],[],G,G,G⟩⟩ G ?_
 intro cc ce bf;refine cE (bf).rd G (λcf cg ch=>?_);refine Wp [1] ?_;obtain ⟨ci,bg,O⟩:=aY O;refine ca @iE bg ?_;rintro _ ck _ ⟨cm,cn,co,cp,rfl,rfl,cq,cr⟩;refine gs ?_;refine cd O G (λbh O=>?_) (λbh O=>?_);refine gs ?_;refine Ek [] 4 ?_;exact ef;refine gt ?_;refine gj ?_;exact kx [0,1,1] 1 (eb bd be) G (kK (cQ bc h1.mm.dN));obtain rfl:=gT ar ai;have O:=(b8 _ _).symm.trans O;refine g2 ?_;obtain ⟨au,bi,bj,O⟩:=dG O;refine cl [(1,_),(3,_),(87,_),(88,_)] [1,1] 1 [] 0 (λu m n H' M' L'=>∃ (a7:Nat) (aa:List aS),∃ aj:(List (RU×Bool)),∃ ak:Array MapEntry,∃ am:Nat,(a0.aL).drop a7=aa/\aa.length=n/\au a7 aa aj=some r/\tR ak am aj/\b9.le H'/\.obj Y (.map ak am)::m=M'/\(89,.int .i64 ((a7:Int)))::u=L') _ G ⟨0,_,_,_,_,G,G,O,ba,lE,G,G⟩ ?_;rintro _ cs _ _ ⟨a7,aa,aj,ak,am,av,rfl,O,ct,cu,rfl,rfl⟩
 refine g2 ?_;refine bS G (λan=>?_) (λan=>?_);obtain ⟨a1,bk,rfl,bl,bm⟩:=gU av an;have O:=(bi _ _ _ _).symm.trans O;generalize bn:au (a7+1) bk=cv at O;unfold oA at O;refine g2 ?_;refine al (λcw=>?_);refine wt 0 ?_;refine g2 ?_;refine eZ (α:=RU) (css:=[[.string (a1.qD)],[.string (a1.To)]]) (zs:=[.string (⟨#[]⟩),.string (⟨#[]⟩)]) (out:=[.string (a1.qD),.string (a1.To)]) (ys:=[a1.qD,a1.To]) G G G ⟨G,G,RW⟩ Ta Uh G Ul (by kernel_rfl) G G G G ⟨[.string (a1.qD)],[.string (a1.To)],G,G,⟨[.string (a1.To)],[],G,G,G⟩⟩ G ?_
 intro cx d0 bo;refine cE (bo).rd G (λd1 d2 d3=>?_);refine Wp [1] ?_;obtain ⟨d4,bp,O⟩:=aY O;refine ca @iE bp ?_;rintro _ d5 _ ⟨d6,d7,d8,d9,rfl,rfl,da,db⟩;refine gs ?_;refine cd O G (λbq O=>?_) (λbq O=>?_);refine gs ?_;refine Ek [] 4 ?_;exact ef;refine gs ?_;refine cz @zO (G:kO a1=_) ?_;refine gs ?_;refine cd O G (λbr O=>?_) (λbr O=>?_);refine gs ?_;refine Ek [] 4 ?_;exact ef;refine gt ?_;refine gj ?_;exact kx [0,1,1] 1 (eb bm bn) G (kK (cQ bl h2.mm.dN));obtain rfl:=gT av an;have O:=(bj _ _).symm.trans O;refine gs ?_;obtain ⟨dc,bs,O⟩:=aY O;refine ca @wX bs ?_;rintro _ dd _ ⟨de,df,dg,dh,rfl,rfl,di,dj⟩;refine go ?_;refine Ek [] 3 ?_;exact ef;refine go ?_;cases dk:(decide (24<(a0.bP.length:Int)));refine go ?_;cases dl:(decide (32<(a0.aT.length:Int)));refine go ?_;cases dm:(decide (24<(a0.aL.length:Int)));refine go ?_;cases dn:(decide (10<(a0.dI.length:Int)))
 refine go ?_;cases dp:(decide (12<(a0.bM.length:Int)));refine gj ?_;exact kj (J _ _ _ pk) kS;refine gj ?_;exact kj (J _ _ _ pk) kS;refine gj ?_;exact kj (J _ _ _ pk) kS;refine gj ?_;exact kj (J _ _ _ pk) kS;refine gj ?_;exact kj (J _ _ _ pk) kS;refine gj ?_;exact kj (J _ _ _ pk) kS
theorem xE {ah:(List bE)}{v0:RV}{r:Int} (O:lM ah=some r) (h0:aU H v0 ah):
  Cq B w0 72 [v0] H M (AE r):=by
 unfold lM at O;refine gJ func72 ?_;refine q2 ?_;refine qs ?_;refine lr h0 ?_;refine qg ?_;refine cd O G (λbn O=>?_) (λbn O=>?_);refine qs ?_;exact ef;refine qs ?_;refine lr h0 ?_;refine qg ?_;refine cd O G (λbo O=>?_) (λbo O=>?_);refine qs ?_;exact ef;refine qs ?_;refine lr h0 ?_;obtain ⟨b4,O⟩:=aM O;refine gQ (α:=Int) (zs:=[.int .i64 (0)]) (ze:=0) G G TH ⟨_,G,G,G,G⟩ G G G G G G b4.1 b4.2 ?_;intro a3 d6 bp;refine q2 ?_;refine lr h0 ?_;refine qg ?_;obtain ⟨b5,bq,br,O⟩:=dG O;refine cl [(0,_),(3,_),(18,_),(19,_)] [] 1 [] 0 (λu m n H' M' L'=>∃ (a0:Nat) (ad:List bE),∃ a6:List Int,∃ ai:List RV,(ah).drop a0=ad/\ad.length=n/\b5 a0 ad a6=some r/\Rw H' a3 ai a6/\H.le H'/\.row a3 3 (aK.sz Int) a6.length ai::m=M'/\(20,.int .i64 ((a0:Int)))::u=L') _ G ⟨0,_,_,_,G,G,O,bp,lE,G,G⟩ ?_;rintro _ Y _ _ ⟨a0,ad,a6,ai,b6,rfl,O,aa,d7,rfl,rfl⟩
 refine q2 ?_;refine bS G (λaj=>?_) (λaj=>?_);obtain ⟨a1,bs,rfl,ak,bt⟩:=gU b6 aj;have O:=(bq _ _ _ _).symm.trans O;generalize bu:b5 (a0+1) bs=am at O;unfold pI at O;refine qg ?_;refine cj [(0,_),(3,_),(18,_),(19,_),(20,_)] [] 1 (λu m H' M' L'=>∃ ae:List Int,∃ an:List RV,e_ am ae=some r/\Rw H' a3 an ae/\Y.le H'/\.row a3 3 (aK.sz Int) ae.length an::m=M'/\u=L') ?_ (λa7=>?_);rintro d8 _ _ ⟨ae,an,O,d9,da,rfl,rfl⟩;unfold e_ at O;refine qj ?_;exact kj (eb bt bu) (kK (cQ ak h0.mm.dN));refine qs ?_;obtain ⟨_,⟨rfl⟩,bv⟩:=(h0).elem ak;refine Ct h0 ak ?_;refine P5 bv ?_;refine al (λdb=>?_);refine qg ?_;refine wt 0 ?_;refine qg ?_;refine cj [(0,_),(3,_),(4,_),(5,_),(18,_),(19,_),(20,_)] [] 0 (wU Y 6 ((decide (a1.Kind=2)) || (decide (a1.Kind=3)))) ?_ (λb7=>?_);rintro _ _ _ ⟨rfl,rfl,rfl⟩;refine qs ?_;refine cj [(0,_),(3,_),(4,_),(5,_),(6,_),(18,_),(19,_),(20,_)] [] 0 (wU Y 33 ((decide (a1.Kind<0)) || (decide (6<a1.Kind)))) ?_ (λb8=>?_)
 rintro _ _ _ ⟨rfl,rfl,rfl⟩;refine cd O G (λbw O=>?_) (λbw O=>?_);refine qs ?_;refine Ek [] 2 ?_;exact ef;refine qs ?_;cases b9:((decide (a1.Kind=2)) || (decide (a1.Kind=3)));have O:=dL b9 O;refine qg ?_;refine cF G ?_;refine cj [(0,_),(3,_),(4,_),(5,_),(18,_),(19,_),(20,_)] [] 0 (wU Y 50 (!decide (a1.Name=(⟨#[]⟩)))) ?_ (λbz=>?_);rintro _ _ _ ⟨rfl,rfl,rfl⟩;refine cd O G (λc0 O=>?_) (λc0 O=>?_);refine qs ?_;refine Ek [] 2 ?_;exact ef;refine qs ?_;obtain ⟨dc,dd,ao,O⟩:=aE O;refine ve ao ?_;obtain ⟨_,rfl,c1⟩:=(aa).elem ao;refine wr 1 0 ((a0:Int)) aa ao c1 G G ?_;intro de a4 df dg;refine q2 ?_;refine cd O G (λc2 O=>?_) (λc2 O=>?_);refine qs ?_;refine cj [(0,_),(3,_),(4,_),(5,_),(18,_),(19,_),(20,_)] [] 0 (wU Y 87 (((decide ((a0:Int)=0)) || (!decide (a1.A=(i64.wrap ((a0:Int)-1))))) || (!decide (a1.B_=0)))) ?_ (λap=>?_)
 rintro _ _ _ ⟨rfl,rfl,rfl⟩;refine cd O G (λc3 O=>?_) (λc3 O=>?_);refine qs ?_;refine Ek [] 2 ?_;exact ef;refine qg ?_;obtain ⟨c4,dh,ba,O⟩:=aE O;refine ve ba ?_;obtain ⟨_,rfl,c5⟩:=(a4).elem ba;refine zU c5 ?_;obtain ⟨di,dj,aq,O⟩:=aE O;refine ve aq ?_;obtain ⟨_,rfl,c6⟩:=(a4).elem aq;refine wr 0 0 c4 a4 aq c6 G G ?_;intro dk dl dm dn;refine qj ?_;exact kx [0] 1 (a7 _ _ _ pk);refine qg ?_;cases dp:(decide ((a0:Int)=0));refine qg ?_;cases dq:(decide (a1.A=(i64.wrap ((a0:Int)-1))));refine qj ?_;exact kj (ap _ _ _ pk) kS;refine qj ?_;exact kj (ap _ _ _ pk) kS;refine qj ?_;exact kj (ap _ _ _ pk) kS;refine cj [(0,_),(3,_),(4,_),(5,_),(18,_),(19,_),(20,_)] [] 0 (PE (fJ a6 am a1 a0) r Y 96) ?_ (λbb=>?_);rintro _ _ _ ⟨ar,O,rfl,rfl,rfl⟩;unfold fJ at O;refine cd O G (λc7 O=>?_) (λc7 O=>?_);refine q2 ?_;cases a8:(decide ((a0:Int)=0))
 have O:=dL a8 O;cases ab:(decide (a1.B_=(i64.wrap ((a0:Int)-1))));have O:=dL ab O;refine oU fm 26 [aH,ph (.bool (false)),aH,aH,aH,aH,aH,ph (.bool (true)),aH,aH,aH,aH,aH,aH,aH,aH,aH,aH,aH,aH,aH,aH,aH,aH,aH,aH] ⟨qm,qn a8,qm,qm,qm,qm,qm,qn ab,qm,qm,qm,qm,qm,qm,qm,qm,qm,qm,qm,qm,qm,qm,qm,qm,qm,qm,RW⟩ ?_;intro ds dt;refine dz ?_;refine qg ?_;refine cT G ?_;refine qs ?_;refine Ek [] 2 ?_;exact ef;have O:=dM ab O;obtain ⟨au,du,av,O⟩:=aE O;obtain ⟨_,rfl,bc⟩:=(a4).elem av;cases af:(decide (au=0));have O:=dL af O;obtain ⟨c8,dv,bd,O⟩:=aE O;obtain ⟨_,rfl,c9⟩:=(a4).elem bd;refine oU fm 26 [aH,ph (.bool (false)),aH,aH,aH,aH,aH,ph (.bool (false)),aH,aH,aH,aH,aH,ph (.pointer (some ((Value.base (a3)).add ((i64.wrap ((a0:Int)-1):Int).toNat*aK.sz Int)))),ph (.int .i64 (au)),ph (.bool (false)),aH,aH,aH,aH,aH,aH,aH,ph (.pointer (some ((Value.base (a3)).add ((i64.wrap ((a0:Int)-1):Int).toNat*aK.sz Int)))),ph (.int .i64 (c8)),aH] ⟨qm,qn a8,qm,qm,qm,qm,qm,qn ab,qm,qm,qm,qm,qm,?_,?_,qn af,qm,qm,qm,qm,qm,qm,qm,?_,?_,qm,RW⟩ ?_
 intro J Z X Rest hR;refine dr ?_;intro hU I;refine ve av ?_;exact o0 ⟨G,G⟩;rintro J Z X Rest hR _ _ ⟨rfl,rfl⟩ _ _ ⟨rfl,rfl⟩ hU I;refine zU bc ?_;exact o0 ⟨G,G⟩;intro J Z X Rest hR;refine dr ?_;intro hU I;refine ve bd ?_;exact o0 ⟨G,G⟩;rintro J Z X Rest hR _ _ ⟨rfl,rfl⟩ _ _ ⟨rfl,rfl⟩ hU I;refine zU c9 ?_;exact o0 ⟨G,G⟩;intro dw dx;refine dz ?_;refine qg ?_;refine cd O G (λcb O=>?_) (λcb O=>?_);refine qs ?_;refine Ek [] 2 ?_;exact ef;refine qg ?_;obtain ⟨cc,dy,be,O⟩:=aE O;refine ve be ?_;obtain ⟨_,rfl,ce⟩:=(a4).elem be;refine zU ce ?_;obtain ⟨e0,e1,aw,O⟩:=aE O;refine ve aw ?_;obtain ⟨_,rfl,cf⟩:=(a4).elem aw;refine wr 0 0 cc a4 aw cf G G ?_;intro e2 e3 e4 e5;refine qj ?_;exact kx [0] 1 (a7 _ _ _ pk);have O:=dM af O;refine oU fm 26 [aH,ph (.bool (false)),aH,aH,aH,aH,aH,ph (.bool (false)),aH,aH,aH,aH,aH,ph (.pointer (some ((Value.base (a3)).add ((i64.wrap ((a0:Int)-1):Int).toNat*aK.sz Int)))),ph (.int .i64 (au)),ph (.bool (true)),aH,aH,aH,aH,aH,aH,aH,aH,aH,aH] ⟨qm,qn a8,qm,qm,qm,qm,qm,qn ab,qm,qm,qm,qm,qm,?_,?_,qn af,qm,qm,qm,qm,qm,qm,qm,qm,qm,qm,RW⟩ ?_
 intro J Z X Rest hR;refine dr ?_;intro hU I;refine ve av ?_;exact o0 ⟨G,G⟩;rintro J Z X Rest hR _ _ ⟨rfl,rfl⟩ _ _ ⟨rfl,rfl⟩ hU I;refine zU bc ?_;exact o0 ⟨G,G⟩;intro e6 e7;refine dz ?_;refine qg ?_;refine cT G ?_;refine qs ?_;refine Ek [] 2 ?_;exact ef;have O:=dM a8 O;refine oU fm 26 [aH,ph (.bool (true)),aH,aH,aH,aH,aH,aH,aH,aH,aH,aH,aH,aH,aH,aH,aH,aH,aH,aH,aH,aH,aH,aH,aH,aH] ⟨qm,qn a8,qm,qm,qm,qm,qm,qm,qm,qm,qm,qm,qm,qm,qm,qm,qm,qm,qm,qm,qm,qm,qm,qm,qm,qm,RW⟩ ?_;intro e8 e9;refine dz ?_;refine qg ?_;refine cT G ?_;refine qs ?_;refine Ek [] 2 ?_;exact ef;refine cj [(0,_),(3,_),(18,_),(19,_),(20,_)] [0] 1 (wU Y 71 ((!decide (a1.A=0)) || (!decide (a1.B_=0)))) ?_ (λbf=>?_);rintro _ _ _ ⟨rfl,rfl,rfl⟩;refine cd O G (λcg O=>?_) (λcg O=>?_);refine qs ?_;refine Ek [] 1 ?_;exact ef;refine qj ?_;exact kj (a7 _ _ _ pk)
 refine qg ?_;cases ea:(decide (a1.A=0));refine qj ?_;exact kx [0] 1 (bf _ _ _ pk) G kS;refine qj ?_;exact kx [0] 1 (bf _ _ _ pk) G kS;refine qs ?_;refine cd O G (λch O=>?_) (λch O=>?_);refine qj ?_;exact kj (bb _ _ _ pk);refine qj ?_;exact kj (bb _ _ _ pk);refine qj ?_;exact kj (bz _ _ _ pk);have O:=dM b9 O;refine qg ?_;obtain ⟨ec,ci,O⟩:=aY O;refine cz @ql ci ?_;refine qg ?_;refine cd O G (λck O=>?_) (λck O=>?_);refine qs ?_;refine Ek [] 2 ?_;exact ef;refine cj [(0,_),(3,_),(4,_),(5,_),(18,_),(19,_),(20,_)] [] 0 (QJ Y 50) ?_ (λcm=>?_);rintro _ _ _ ⟨rfl,rfl,rfl⟩;refine cF G ?_;refine qs ?_;obtain ⟨ed,ee,ax,O⟩:=aE O;refine ve ax ?_;obtain ⟨_,rfl,cn⟩:=(aa).elem ax;refine wr 1 0 ((a0:Int)) aa ax cn G G ?_;intro eg a5 eh ei;refine q2 ?_;refine cd O G (λco O=>?_) (λco O=>?_);refine qs ?_;refine cj [(0,_),(3,_),(4,_),(5,_),(18,_),(19,_),(20,_)] [] 0 (wU Y 87 (((decide ((a0:Int)=0)) || (!decide (a1.A=(i64.wrap ((a0:Int)-1))))) || (!decide (a1.B_=0)))) ?_ (λay=>?_)
 rintro _ _ _ ⟨rfl,rfl,rfl⟩;refine cd O G (λcp O=>?_) (λcp O=>?_);refine qs ?_;refine Ek [] 2 ?_;exact ef;refine qg ?_;obtain ⟨cq,ej,bg,O⟩:=aE O;refine ve bg ?_;obtain ⟨_,rfl,cr⟩:=(a5).elem bg;refine zU cr ?_;obtain ⟨ek,el,az,O⟩:=aE O;refine ve az ?_;obtain ⟨_,rfl,cs⟩:=(a5).elem az;refine wr 0 0 cq a5 az cs G G ?_;intro em eo ep er;refine qj ?_;exact kx [0] 1 (a7 _ _ _ pk);refine qg ?_;cases es:(decide ((a0:Int)=0));refine qg ?_;cases et:(decide (a1.A=(i64.wrap ((a0:Int)-1))));refine qj ?_;exact kj (ay _ _ _ pk) kS;refine qj ?_;exact kj (ay _ _ _ pk) kS;refine qj ?_;exact kj (ay _ _ _ pk) kS;refine cj [(0,_),(3,_),(4,_),(5,_),(18,_),(19,_),(20,_)] [] 0 (PE (lG a6 am a1 a0) r Y 96) ?_ (λbh=>?_);rintro _ _ _ ⟨b0,O,rfl,rfl,rfl⟩;unfold lG at O;refine cd O G (λct O=>?_) (λct O=>?_);refine q2 ?_;cases a9:(decide ((a0:Int)=0))
 have O:=dL a9 O;cases ac:(decide (a1.B_=(i64.wrap ((a0:Int)-1))));have O:=dL ac O;refine oU fm 26 [aH,ph (.bool (false)),aH,aH,aH,aH,aH,ph (.bool (true)),aH,aH,aH,aH,aH,aH,aH,aH,aH,aH,aH,aH,aH,aH,aH,aH,aH,aH] ⟨qm,qn a9,qm,qm,qm,qm,qm,qn ac,qm,qm,qm,qm,qm,qm,qm,qm,qm,qm,qm,qm,qm,qm,qm,qm,qm,qm,RW⟩ ?_;intro eu ev;refine dz ?_;refine qg ?_;refine cT G ?_;refine qs ?_;refine Ek [] 2 ?_;exact ef;have O:=dM ac O;obtain ⟨b1,ew,b2,O⟩:=aE O;obtain ⟨_,rfl,bi⟩:=(a5).elem b2;cases ag:(decide (b1=0));have O:=dL ag O;obtain ⟨cu,ex,bj,O⟩:=aE O;obtain ⟨_,rfl,cv⟩:=(a5).elem bj;refine oU fm 26 [aH,ph (.bool (false)),aH,aH,aH,aH,aH,ph (.bool (false)),aH,aH,aH,aH,aH,ph (.pointer (some ((Value.base (a3)).add ((i64.wrap ((a0:Int)-1):Int).toNat*aK.sz Int)))),ph (.int .i64 (b1)),ph (.bool (false)),aH,aH,aH,aH,aH,aH,aH,ph (.pointer (some ((Value.base (a3)).add ((i64.wrap ((a0:Int)-1):Int).toNat*aK.sz Int)))),ph (.int .i64 (cu)),aH] ⟨qm,qn a9,qm,qm,qm,qm,qm,qn ac,qm,qm,qm,qm,qm,?_,?_,qn ag,qm,qm,qm,qm,qm,qm,qm,?_,?_,qm,RW⟩ ?_
 intro J Z X Rest hR;refine dr ?_;intro hU I;refine ve b2 ?_;exact o0 ⟨G,G⟩;rintro J Z X Rest hR _ _ ⟨rfl,rfl⟩ _ _ ⟨rfl,rfl⟩ hU I;refine zU bi ?_;exact o0 ⟨G,G⟩;intro J Z X Rest hR;refine dr ?_;intro hU I;refine ve bj ?_;exact o0 ⟨G,G⟩;rintro J Z X Rest hR _ _ ⟨rfl,rfl⟩ _ _ ⟨rfl,rfl⟩ hU I;refine zU cv ?_;exact o0 ⟨G,G⟩;intro ey ez;refine dz ?_;refine qg ?_;refine cd O G (λcw O=>?_) (λcw O=>?_);refine qs ?_;refine Ek [] 2 ?_;exact ef;refine qg ?_;obtain ⟨cx,fa,bk,O⟩:=aE O;refine ve bk ?_;obtain ⟨_,rfl,d0⟩:=(a5).elem bk;refine zU d0 ?_;obtain ⟨fb,fd,b3,O⟩:=aE O;refine ve b3 ?_;obtain ⟨_,rfl,d1⟩:=(a5).elem b3;refine wr 0 0 cx a5 b3 d1 G G ?_;intro fe ff fg fh;refine qj ?_;exact kx [0] 1 (a7 _ _ _ pk);have O:=dM ag O;refine oU fm 26 [aH,ph (.bool (false)),aH,aH,aH,aH,aH,ph (.bool (false)),aH,aH,aH,aH,aH,ph (.pointer (some ((Value.base (a3)).add ((i64.wrap ((a0:Int)-1):Int).toNat*aK.sz Int)))),ph (.int .i64 (b1)),ph (.bool (true)),aH,aH,aH,aH,aH,aH,aH,aH,aH,aH] ⟨qm,qn a9,qm,qm,qm,qm,qm,qn ac,qm,qm,qm,qm,qm,?_,?_,qn ag,qm,qm,qm,qm,qm,qm,qm,qm,qm,qm,RW⟩ ?_
 intro J Z X Rest hR;refine dr ?_;intro hU I;refine ve b2 ?_;exact o0 ⟨G,G⟩;rintro J Z X Rest hR _ _ ⟨rfl,rfl⟩ _ _ ⟨rfl,rfl⟩ hU I;refine zU bi ?_;exact o0 ⟨G,G⟩;intro fi fj;refine dz ?_;refine qg ?_;refine cT G ?_;refine qs ?_;refine Ek [] 2 ?_;exact ef;have O:=dM a9 O;refine oU fm 26 [aH,ph (.bool (true)),aH,aH,aH,aH,aH,aH,aH,aH,aH,aH,aH,aH,aH,aH,aH,aH,aH,aH,aH,aH,aH,aH,aH,aH] ⟨qm,qn a9,qm,qm,qm,qm,qm,qm,qm,qm,qm,qm,qm,qm,qm,qm,qm,qm,qm,qm,qm,qm,qm,qm,qm,qm,RW⟩ ?_;intro fk fl;refine dz ?_;refine qg ?_;refine cT G ?_;refine qs ?_;refine Ek [] 2 ?_;exact ef;refine cj [(0,_),(3,_),(18,_),(19,_),(20,_)] [0] 1 (wU Y 71 ((!decide (a1.A=0)) || (!decide (a1.B_=0)))) ?_ (λbl=>?_);rintro _ _ _ ⟨rfl,rfl,rfl⟩;refine cd O G (λd2 O=>?_) (λd2 O=>?_);refine qs ?_;refine Ek [] 1 ?_;exact ef;refine qj ?_;exact kj (a7 _ _ _ pk)
 refine qg ?_;cases fn:(decide (a1.A=0));refine qj ?_;exact kx [0] 1 (bl _ _ _ pk) G kS;refine qj ?_;exact kx [0] 1 (bl _ _ _ pk) G kS;refine qs ?_;refine cd O G (λd3 O=>?_) (λd3 O=>?_);refine qj ?_;exact kj (bh _ _ _ pk);refine qj ?_;exact kj (bh _ _ _ pk);refine qj ?_;exact kj (cm _ _ _ pk);refine qg ?_;cases fo:(decide (a1.Kind<0));refine qj ?_;exact kj (b8 _ _ _ pk) kS;refine qj ?_;exact kj (b8 _ _ _ pk) kS;refine qg ?_;cases fp:(decide (a1.Kind=2));refine qj ?_;exact kj (b7 _ _ _ pk) kS;refine qj ?_;exact kj (b7 _ _ _ pk) kS;obtain rfl:=gT b6 aj;have O:=(br _ _).symm.trans O;refine q2 ?_;refine lr h0 ?_;refine qg ?_;obtain ⟨fr,fs,bm,O⟩:=aE O;refine ve bm ?_;obtain ⟨_,rfl,d4⟩:=(aa).elem bm;refine zU d4 ?_;refine qg ?_;refine cd O G (λd5 O=>?_) (λd5 O=>?_);refine qs ?_;refine Ek [] 1 ?_;exact ef;refine qs ?_;refine Ek [] 1 ?_;exact ef
theorem vD {I:(List aR)}{v0:RV}{r:Int} (O:nQ I=some r) (h0:aU H v0 I):
  Cq B w0 42 [v0] H M (AE r):=by
 unfold nQ at O;refine gJ func42 ?_;refine g2 ?_;refine gs ?_;refine cd O G (λa7 O=>?_) (λa7 O=>?_);refine gs ?_;exact ef;refine g2 ?_;obtain ⟨Y,a8,a9,O⟩:=dG O;refine cl [(9,_),(10,_)] [] 0 [] 0 (λu m n H' M' L'=>∃ (a0:Nat) (a1:List aR),(I).drop a0=a1/\a1.length=n/\Y a0 a1 ()=some r/\H.le H'/\m=M'/\(11,.int .i64 ((a0:Int)))::u=L') _ G ⟨0,_,G,G,O,lE,G,G⟩ ?_;rintro _ ah _ _ ⟨a0,a1,Z,rfl,O,ai,rfl,rfl⟩;refine g2 ?_;refine bS G (λJ=>?_) (λJ=>?_);obtain ⟨aj,aa,rfl,a6,ab⟩:=gU Z J;have O:=(a8 _ _ _ _).symm.trans O;generalize ac:Y (a0+1) aa=ak at O;unfold sn at O;refine g2 ?_;obtain ⟨_,⟨am,rfl,an⟩,ao⟩:=(h0).elem a6;refine go ?_;refine al (λap=>?_);refine wt 0 ?_;refine g2 ?_;obtain ⟨aq,ad,O⟩:=aY O;refine cz @ql ad ?_;refine go ?_;refine cd O G (λae O=>?_) (λae O=>?_);refine gs ?_
 refine Ek [] 1 ?_;exact ef;refine gs ?_;obtain ⟨ar,af,O⟩:=aY O;refine cz @xE af ?_;refine gs ?_;refine cd O G (λag O=>?_) (λag O=>?_);refine gs ?_;refine Ek [] 1 ?_;exact ef;refine gt ?_;refine gj ?_;exact kx [] 1 (eb ab ac) G (kK (cQ a6 h0.mm.dN));obtain rfl:=gT Z J;have O:=(a9 _ _).symm.trans O;refine gs ?_;exact ef
theorem zn {a0:aG}{v0 v1 v2 v3 v4 v5:RV}{r:(List RU)} (O:sJ a0=some r) (h0:aU H v0 a0.bP) (h1:aU H v1 a0.aT) (h2:aU H v2 a0.aL) (h3:aU H v3 a0.dI) (h4:aU H v4 a0.bM) (h5:aU H v5 a0.cB):
  Cq B w0 44 [.agg [v0,v1,v2,v3,v4,v5].toArray] H M (Pk r):=by
 unfold sJ at O;refine gJ func44 ?_;refine gs ?_;refine bx (λam=>?_);refine g2 ?_;refine gs ?_;refine lD 9 (aK.sz RU) ?_;obtain ⟨a8,aa,ab,O⟩:=dG O;refine cl [(7,_),(8,_)] [] 2 [0] 1 (λu m n H' M' L'=>∃ (I:Nat) (Y:List aI),∃ J:List RU,∃ Z:RV,∃ a6:List RV,(a0.bM).drop I=Y/\Y.length=n/\a8 I Y J=some r/\Rw H' Z a6 J/\H.le H'/\.row Z 9 (aK.sz RU) J.length a6::m=M'/\(3,Z)::(9,.int .i64 ((I:Int)))::u=L') _ G ⟨0,_,_,_,_,G,G,O,Rw.nil,lE,G,G⟩ ?_;rintro _ an _ _ ⟨I,Y,J,Z,a6,a9,rfl,O,ac,ao,rfl,rfl⟩;refine g2 ?_;refine bS G (λa7=>?_) (λa7=>?_);obtain ⟨a1,ad,rfl,ae,af⟩:=gU a9 a7;have O:=(aa _ _ _ _).symm.trans O;generalize ag:a8 (I+1) ad=ap at O;unfold vy at O;refine g2 ?_;refine al (λaq=>?_);refine wt 0 ?_;refine go ?_;refine dQ (α:=RU) (css:=[[.string (a1.Name)]]) (zs:=[.string (⟨#[]⟩)]) (out:=[.string (a1.Name)]) (ys:=[a1.Name]) G G G ⟨G,RW⟩ Ta Uh G Ul (by kernel_rfl) G G G G ⟨[.string (a1.Name)],[],G,G,G⟩ G ?_
 intro ar ah au ai av aj;have aw:Value.lX ah=([a1.Name]).length:=by rw [ai]; rfl
 obtain ⟨ak,O⟩:=aM O;refine Wp [1] ?_;refine dD (α:=RU) (l:=J) (ys:=[a1.Name]) G G U5 ⟨_,G,G,G,G⟩ G G G G G ac.mm aj ak ?_;intro ax ay az;refine gt ?_;refine gj ?_;exact kx [0] 1 (eb af ag) G (kK (cQ ae h4.mm.dN));obtain rfl:=gT a9 a7;have O:=(ab _ _).symm.trans O;refine gs ?_;exact ef
theorem zP {a0:aI}{a1:RU}{b0:Nat}{r:Bool} (O:qq a0 a1=r):
  Cq B w0 125 [.agg [.string (a0.Name),.string (a0.Node),.int .i64 (a0.dY)].toArray,.pointer (some ⟨b0,0,none⟩)] H (.obj b0 (.cells ([.string (a1)]:List RV).toArray 9 (0,0))::M) (λH _=>N1 b0 a1 r H M):=by
 unfold qq at O;refine gJ func125 ?_;refine gs ?_;refine bx (λI=>?_);refine gs ?_;obtain rfl:=O;refine Ek [1] 1 ?_;refine Ew H ?_;exact iZ G G ⟨G,G,G⟩
theorem nO {I:(List aI)}{a1:RU}{v0:RV}{b0:Nat}{r:Int} (O:dK I a1=some r) (h0:aU H v0 I):
  Cq B w0 83 [v0,.func (.func 125) [].toArray [.pointer (some ⟨b0,0,none⟩)].toArray] H (.obj b0 (.cells ([.string (a1)]:List RV).toArray 9 (0,0))::M) (λH _=>Pl b0 a1 r H M):=by
 unfold dK at O;refine gJ func83 ?_;refine g2 ?_;refine gs ?_;obtain ⟨Y,a7,a8,O⟩:=kL O;refine cl [(0,_),(1,_),(7,_)] [] 0 [] 0 (Ir (((I.length:Int):Int).toNat) Y r H 8) _ G ⟨0,_,Sp _,G,O,lE,G,G⟩ ?_;rintro _ af _ _ ⟨a0,a2,Z,rfl,O,ag,rfl,rfl⟩;refine g2 ?_;refine bS G (λJ=>?_) (λJ=>?_);obtain ⟨a9,rfl,aa,ab⟩:=mE Z J;have O:=(a7 _ _ _).symm.trans O;generalize ac:Y a9 (a0+1)=ah at O;unfold eJ at O;refine g2 ?_;refine gs ?_;obtain ⟨ad,ai,aj,O⟩:=aE O;refine go ?_;refine oK call125 G G G G (λw ht=>(zP (O:=(G:qq ad a1=_))  ht :)) ?_;rintro _ _ _ ⟨rfl,rfl,rfl⟩;refine go ?_;refine cd O G (λae O=>?_) (λae O=>?_);refine gs ?_;exact ef;refine gt ?_;refine gj ?_;exact kj (eb aa ac) (kK (fO ab (fP (mn (h0).dN))));obtain rfl:=mD Z J;have O:=(a8 _ _).symm.trans O;refine gs ?_;exact ef
theorem nq {a1:(List aI)}{a0:RU}{v0:RV}{b0:Nat}{r:Bool} (O:dC a1 a0=some r) (Y:aU H v0 a1):
  Cq B w0 124 [v0,.func (.func 125) [].toArray [.pointer (some ⟨b0,0,none⟩)].toArray] H (.obj b0 (.cells ([.string (a0)]:List RV).toArray 9 (0,0))::M) (λH _=>N1 b0 a0 r H M):=by
 unfold dC at O;refine gJ func124 ?_;refine g2 ?_;obtain ⟨J,I,O⟩:=aY O;refine cz @nO I ?_;refine go ?_;exact ef
theorem xd {a0:aG}{on:(List RU)}{v0 v1 v2 v3 v4 v5 v6:RV}{r:Int} (O:fG a0 on=some r) (h0:aU H v0 a0.bP) (h1:aU H v1 a0.aT) (h2:aU H v2 a0.aL) (h3:aU H v3 a0.dI) (h4:aU H v4 a0.bM) (h5:aU H v5 a0.cB) (h6:aU H v6 on):
  Cq B w0 102 [.agg [v0,v1,v2,v3,v4,v5].toArray,v6] H M (AE r):=by
 unfold fG at O;refine gJ func102 ?_;refine gs ?_;refine bx (λak=>?_);refine g2 ?_;obtain ⟨am,a8,O⟩:=aY O;refine cz @ni a8 ?_;refine gs ?_;refine cd O G (λa9 O=>?_) (λa9 O=>?_);refine gs ?_;refine Ek [] 1 ?_;exact ef;refine g2 ?_;obtain ⟨Y,aa,ab,O⟩:=dG O;refine cl [(1,_),(2,_),(13,_),(14,_)] [] 0 [] 0 (Q6 on Y r H 15) _ G ⟨0,_,G,G,O,lE,G,G⟩ ?_;rintro _ an _ _ ⟨a1,a3,Z,rfl,O,ao,rfl,rfl⟩;refine g2 ?_;refine bS G (λJ=>?_) (λJ=>?_);obtain ⟨ap,ac,rfl,ad,ae⟩:=gU Z J;have O:=(aa _ _ _ _).symm.trans O;generalize af:Y (a1+1) ac=aq at O;unfold rj at O;refine g2 ?_;refine al (λar=>?_);refine go ?_;refine wt 0 ?_;refine gs ?_;obtain ⟨au,ag,O⟩:=aY O;refine cz @nq ag ?_;refine go ?_;refine cd O G (λah O=>?_) (λah O=>?_);refine gs ?_;refine Ek [] 2 ?_;exact ef;refine gs ?_;obtain ⟨av,O⟩:=aM O;refine oU fm 4 [aH,aH,(λH rs v=>∃ I:RV,[]=rs/\I=v/\aU H I (pM on 0 (((a1:Int):Int).toNat))),aH] ⟨om,om,?_,om,RW⟩ ?_
 rintro HX hX X Rest hR _ _ ⟨rfl,rfl⟩ _ _ ⟨rfl,rfl⟩ hU hUp;refine mW (α:=RU) (l:=0) (h:=((a1:Int):Int).toNat) (xs:=on) G G Ta Uh G h6.mm (by omega) (by omega) (.inl G) (λcap hcap=>by rw [R9 G]; exact (.inl ⟨G,G⟩)) (λm hmm=>(.inr ⟨_,_,_,G,G,by omega,by omega,G⟩)) (.inl ⟨G,G⟩) ?_
 intro I a7 aw;exact o0 ⟨I,G,G,(a7)⟩;intro ax ay;refine dr ?_;rintro _ _ ⟨I,rfl,rfl,a7⟩;refine dz ?_;obtain ⟨az,ai,O⟩:=aY O;refine cz @dH ai ?_;refine go ?_;refine cd O G (λaj O=>?_) (λaj O=>?_);refine gs ?_;refine Ek [] 2 ?_;exact ef;refine gt ?_;refine gj ?_;exact kx [1] 1 (eb ae af) G (kK (cQ ad h6.mm.dN));obtain rfl:=gT Z J;have O:=(ab _ _).symm.trans O;refine gs ?_;refine Ek [] 1 ?_;exact ef
theorem Bv {B:Nat}{w0 w:World}{H:Hp}{M:List b_}{s:List RU}{v0:RV} (I:aU H v0 s) (Y:s.length*16<=140737488355328) (ht:St B w0 H M w):
  Calls prog 53 [v0].toArray w (vi B w0 (Pk s H M)):=by
 refine enter func53 G G G ht ?_;obtain ⟨o,n,c,rfl⟩:=I.shape;refine bT ?_;refine aQ (aO G G G ?_);refine bD (aV ?_);refine bT ?_;refine bT ?_;refine aQ (bY G G G (sB G G Ta G G ?_));refine bD (aV ?_);cases o with
 | none=>
  refine bS (b:=true) G (λ_=>?_) (λJ=>Bool.noConfusion J);obtain rfl:=I.isNil;refine bT ?_;refine aQ (aO G G G ?_);refine bD (aV ?_);refine mM (kE ?_);refine cO 9 (aK.sz RU) ?_;exact iZ G G ⟨G,.slice none 0 0,[],G,G,(Rw.nil (H:=H)).pf⟩
 | some a=>
  refine bS (b:=false) G (λJ=>Bool.noConfusion J) (λ_=>?_);refine mS (aV ?_);refine bT ?_;refine aQ (qK RU G G Ta Uh ?_);intro v1 xt h1;refine bY G G G (dD (α:=RU) (l:=[]) (ys:=s) (bytes:=16) G G U5 ⟨_,G,G,G,G⟩ G G G G G h1 I (by simpa using Y) ?_)
  intro v2 sM h2;refine aO G G G ?_;refine bD (aV ?_);refine mM ?_;exact iZ G G ⟨G,v2,sM,G,G,h2.pf⟩
theorem JF {B:Nat}{w0 w:World}{H:Hp}{M:List b_}{s:List aX}{v0:RV} (J:aU H v0 s) (Z:s.length*56<=140737488355328) (ht:St B w0 H M w):
  Calls prog 76 [v0].toArray w (vi B w0 λH' M' v=>H=H'/\∃ (v':RV) (I:List RV),.row v' 127 (aK.sz aX) s.length I::M=M'/\v'=v/\tS v' I s):=by
 refine enter func76 G G G ht ?_;obtain ⟨o,n,c,rfl⟩:=J.shape;refine bT ?_;refine aQ (aO G G G ?_);refine bD (aV ?_);refine bT ?_;refine bT ?_;refine aQ (bY G G G (sB G G runUnderlying23 G G ?_));refine bD (aV ?_);cases o with
 | none=>
  refine bS (b:=true) G (λ_=>?_) (λY=>Bool.noConfusion Y);obtain rfl:=J.isNil;refine bT ?_;refine aQ (aO G G G ?_);refine bD (aV ?_);refine mM (kE ?_);refine cO 127 (aK.sz aX) ?_;exact iZ G G ⟨G,.slice none 0 0,[],G,G,(Rw.nil (H:=H)).pf⟩
 | some a=>
  refine bS (b:=false) G (λY=>Bool.noConfusion Y) (λ_=>?_);refine mS (aV ?_);refine bT ?_;refine aQ (qK aX G G runUnderlying23 sizeOf127 ?_);intro v1 xt h1;refine bY G G G (dD (α:=aX) (l:=[]) (ys:=s) (bytes:=56) G G underlying23 ⟨_,G,G,G,G⟩ G G G G G h1 J (by simpa using Z) ?_)
  intro v2 sM h2;refine aO G G G ?_;refine bD (aV ?_);refine mM ?_;exact iZ G G ⟨G,v2,sM,G,G,h2.pf⟩
theorem JG {B:Nat}{w0 w:World}{H:Hp}{M:List b_}{s:List aS}{v0:RV} (J:aU H v0 s) (Z:s.length*96<=140737488355328) (ht:St B w0 H M w):
  Calls prog 77 [v0].toArray w (vi B w0 λH' M' v=>H=H'/\∃ (v':RV) (I:List RV),.row v' 116 (aK.sz aS) s.length I::M=M'/\v'=v/\tS v' I s):=by
 refine enter func77 G G G ht ?_;obtain ⟨o,n,c,rfl⟩:=J.shape;refine bT ?_;refine aQ (aO G G G ?_);refine bD (aV ?_);refine bT ?_;refine bT ?_;refine aQ (bY G G G (sB G G Xj G G ?_));refine bD (aV ?_);cases o with
 | none=>
  refine bS (b:=true) G (λ_=>?_) (λY=>Bool.noConfusion Y);obtain rfl:=J.isNil;refine bT ?_;refine aQ (aO G G G ?_);refine bD (aV ?_);refine mM (kE ?_);refine cO 116 (aK.sz aS) ?_;exact iZ G G ⟨G,.slice none 0 0,[],G,G,(Rw.nil (H:=H)).pf⟩
 | some a=>
  refine bS (b:=false) G (λY=>Bool.noConfusion Y) (λ_=>?_);refine mS (aV ?_);refine bT ?_;refine aQ (qK aS G G Xj sizeOf116 ?_);intro v1 xt h1;refine bY G G G (dD (α:=aS) (l:=[]) (ys:=s) (bytes:=96) G G underlying24 ⟨_,G,G,G,G⟩ G G G G G h1 J (by simpa using Z) ?_)
  intro v2 sM h2;refine aO G G G ?_;refine bD (aV ?_);refine mM ?_;exact iZ G G ⟨G,v2,sM,G,G,h2.pf⟩
theorem JH {B:Nat}{w0 w:World}{H:Hp}{M:List b_}{s:List bK}{v0:RV} (J:aU H v0 s) (Z:s.length*56<=140737488355328) (ht:St B w0 H M w):
  Calls prog 78 [v0].toArray w (vi B w0 λH' M' v=>H=H'/\∃ (v':RV) (I:List RV),.row v' 118 (aK.sz bK) s.length I::M=M'/\v'=v/\tS v' I s):=by
 refine enter func78 G G G ht ?_;obtain ⟨o,n,c,rfl⟩:=J.shape;refine bT ?_;refine aQ (aO G G G ?_);refine bD (aV ?_);refine bT ?_;refine bT ?_;refine aQ (bY G G G (sB G G V5 G G ?_));refine bD (aV ?_);cases o with
 | none=>
  refine bS (b:=true) G (λ_=>?_) (λY=>Bool.noConfusion Y);obtain rfl:=J.isNil;refine bT ?_;refine aQ (aO G G G ?_);refine bD (aV ?_);refine mM (kE ?_);refine cO 118 (aK.sz bK) ?_;exact iZ G G ⟨G,.slice none 0 0,[],G,G,(Rw.nil (H:=H)).pf⟩
 | some a=>
  refine bS (b:=false) G (λY=>Bool.noConfusion Y) (λ_=>?_);refine mS (aV ?_);refine bT ?_;refine aQ (qK bK G G V5 sizeOf118 ?_);intro v1 xt h1;refine bY G G G (dD (α:=bK) (l:=[]) (ys:=s) (bytes:=56) G G underlying25 ⟨_,G,G,G,G⟩ G G G G G h1 J (by simpa using Z) ?_)
  intro v2 sM h2;refine aO G G G ?_;refine bD (aV ?_);refine mM ?_;exact iZ G G ⟨G,v2,sM,G,G,h2.pf⟩
theorem JI {B:Nat}{w0 w:World}{H:Hp}{M:List b_}{s:List aI}{v0:RV} (J:aU H v0 s) (Z:s.length*40<=140737488355328) (ht:St B w0 H M w):
  Calls prog 79 [v0].toArray w (vi B w0 λH' M' v=>H=H'/\∃ (v':RV) (I:List RV),.row v' 120 (aK.sz aI) s.length I::M=M'/\v'=v/\tS v' I s):=by
 refine enter func79 G G G ht ?_;obtain ⟨o,n,c,rfl⟩:=J.shape;refine bT ?_;refine aQ (aO G G G ?_);refine bD (aV ?_);refine bT ?_;refine bT ?_;refine aQ (bY G G G (sB G G UI G G ?_));refine bD (aV ?_);cases o with
 | none=>
  refine bS (b:=true) G (λ_=>?_) (λY=>Bool.noConfusion Y);obtain rfl:=J.isNil;refine bT ?_;refine aQ (aO G G G ?_);refine bD (aV ?_);refine mM (kE ?_);refine cO 120 (aK.sz aI) ?_;exact iZ G G ⟨G,.slice none 0 0,[],G,G,(Rw.nil (H:=H)).pf⟩
 | some a=>
  refine bS (b:=false) G (λY=>Bool.noConfusion Y) (λ_=>?_);refine mS (aV ?_);refine bT ?_;refine aQ (qK aI G G UI WR ?_);intro v1 xt h1;refine bY G G G (dD (α:=aI) (l:=[]) (ys:=s) (bytes:=40) G G underlying26 ⟨_,G,G,G,G⟩ G G G G G h1 J (by simpa using Z) ?_)
  intro v2 sM h2;refine aO G G G ?_;refine bD (aV ?_);refine mM ?_;exact iZ G G ⟨G,v2,sM,G,G,h2.pf⟩
theorem JJ {B:Nat}{w0 w:World}{H:Hp}{M:List b_}{s:List bW}{v0:RV} (J:aU H v0 s) (Z:s.length*56<=140737488355328) (ht:St B w0 H M w):
  Calls prog 80 [v0].toArray w (vi B w0 λH' M' v=>H=H'/\∃ (v':RV) (I:List RV),.row v' 140 (aK.sz bW) s.length I::M=M'/\v'=v/\tS v' I s):=by
 refine enter func80 G G G ht ?_;obtain ⟨o,n,c,rfl⟩:=J.shape;refine bT ?_;refine aQ (aO G G G ?_);refine bD (aV ?_);refine bT ?_;refine bT ?_;refine aQ (bY G G G (sB G G runUnderlying27 G G ?_));refine bD (aV ?_);cases o with
 | none=>
  refine bS (b:=true) G (λ_=>?_) (λY=>Bool.noConfusion Y);obtain rfl:=J.isNil;refine bT ?_;refine aQ (aO G G G ?_);refine bD (aV ?_);refine mM (kE ?_);refine cO 140 (aK.sz bW) ?_;exact iZ G G ⟨G,.slice none 0 0,[],G,G,(Rw.nil (H:=H)).pf⟩
 | some a=>
  refine bS (b:=false) G (λY=>Bool.noConfusion Y) (λ_=>?_);refine mS (aV ?_);refine bT ?_;refine aQ (qK bW G G runUnderlying27 sizeOf140 ?_);intro v1 xt h1;refine bY G G G (dD (α:=bW) (l:=[]) (ys:=s) (bytes:=56) G G underlying27 ⟨_,G,G,G,G⟩ G G G G G h1 J (by simpa using Z) ?_)
  intro v2 sM h2;refine aO G G G ?_;refine bD (aV ?_);refine mM ?_;exact iZ G G ⟨G,v2,sM,G,G,h2.pf⟩
theorem qk {a0:aG}{v0 v1 v2 v3 v4 v5:RV}{r:aG} (O:lv a0=some r) (h0:aU H v0 a0.bP) (h1:aU H v1 a0.aT) (h2:aU H v2 a0.aL) (h3:aU H v3 a0.dI) (h4:aU H v4 a0.bM) (h5:aU H v5 a0.cB):
  Cq B w0 48 [.agg [v0,v1,v2,v3,v4,v5].toArray] H M (N2 r):=by
 unfold lv at O;refine gJ func48 ?_;refine gs ?_;refine bx (λau=>?_);refine al (λav=>?_);refine gs ?_;obtain ⟨ai,O⟩:=aM O;obtain ⟨aj,O⟩:=aM O;obtain ⟨ak,O⟩:=aM O;obtain ⟨am,O⟩:=aM O;obtain ⟨an,O⟩:=aM O;refine oU fm 17 [aH,aH,(N3 a0.bP),aH,aH,(λH rs v=>∃ I:RV,∃ a7:List RV,[.row I 127 (aK.sz aX) a0.aT.length a7]=rs/\I=v/\Rw H I a7 a0.aT),aH,aH,(λH rs v=>∃ J:RV,∃ a8:List RV,[.row J 116 (aK.sz aS) a0.aL.length a8]=rs/\J=v/\Rw H J a8 a0.aL),aH,aH,(λH rs v=>∃ Y:RV,∃ a9:List RV,[.row Y 118 (aK.sz bK) a0.dI.length a9]=rs/\Y=v/\Rw H Y a9 a0.dI),aH,aH,(λH rs v=>∃ Z:RV,∃ aa:List RV,[.row Z 120 (aK.sz aI) a0.bM.length aa]=rs/\Z=v/\Rw H Z aa a0.bM),aH,aH] ⟨om,om,?_,om,om,?_,om,om,?_,om,om,?_,om,om,?_,om,om,RW⟩ ?_;rintro HX hX X Rest hR _ _ ⟨rfl,rfl⟩ hU hUp
 refine bQ call53 G G G (λw ht=>(Bv (s:=a0.bP) h0.mm ai ht :)) ?_;rintro _ _ _ ⟨rfl,a1,a6,rfl,rfl,ab⟩;have ab:=ab HX;exact oe [.row a1 9 (aK.sz RU) a0.bP.length a6] lE ⟨a1,a6,G,G,(ab)⟩;rintro HX hX X Rest hR _ _ ⟨rfl,rfl⟩ _ _ ⟨a1,a6,rfl,rfl,ab⟩ hU hUp;refine bQ call76 G G G (λw ht=>(JF (s:=a0.aT) h1.mm aj ht :)) ?_;rintro _ _ _ ⟨rfl,I,a7,rfl,rfl,ac⟩;have ac:=ac HX;exact oe [.row I 127 (aK.sz aX) a0.aT.length a7] lE ⟨I,a7,G,G,(ac)⟩;rintro HX hX X Rest hR _ _ ⟨rfl,rfl⟩ _ _ ⟨I,a7,rfl,rfl,ac⟩ hU hUp;refine bQ call77 G G G (λw ht=>(JG (s:=a0.aL) h2.mm ak ht :)) ?_;rintro _ _ _ ⟨rfl,J,a8,rfl,rfl,ad⟩;have ad:=ad HX;exact oe [.row J 116 (aK.sz aS) a0.aL.length a8] lE ⟨J,a8,G,G,(ad)⟩;rintro HX hX X Rest hR _ _ ⟨rfl,rfl⟩ _ _ ⟨J,a8,rfl,rfl,ad⟩ hU hUp;refine bQ call78 G G G (λw ht=>(JH (s:=a0.dI) h3.mm am ht :)) ?_
 rintro _ _ _ ⟨rfl,Y,a9,rfl,rfl,ae⟩;have ae:=ae HX;exact oe [.row Y 118 (aK.sz bK) a0.dI.length a9] lE ⟨Y,a9,G,G,(ae)⟩;rintro HX hX X Rest hR _ _ ⟨rfl,rfl⟩ _ _ ⟨Y,a9,rfl,rfl,ae⟩ hU hUp;refine bQ call79 G G G (λw ht=>(JI (s:=a0.bM) h4.mm an ht :)) ?_;rintro _ _ _ ⟨rfl,Z,aa,rfl,rfl,af⟩;have af:=af HX;exact oe [.row Z 120 (aK.sz aI) a0.bM.length aa] lE ⟨Z,aa,G,G,(af)⟩;intro ao ap;refine dr ?_;rintro _ _ ⟨a1,a6,rfl,rfl,ab⟩;refine dr ?_;rintro _ _ ⟨I,a7,rfl,rfl,ac⟩;refine dr ?_;rintro _ _ ⟨J,a8,rfl,rfl,ad⟩;refine dr ?_;rintro _ _ ⟨Y,a9,rfl,rfl,ae⟩;refine dr ?_;rintro _ _ ⟨Z,aa,rfl,rfl,af⟩;refine dz ?_;refine Wp [0,0,0,0,0,0,0] ?_;obtain ⟨aq,O⟩:=aM O;refine bQ call80 G G G (λw ht=>(JJ (s:=a0.cB) h5.mm aq ht :)) ?_;rintro _ _ _ ⟨rfl,ah,ar,rfl,rfl,ag⟩;have ag:=ag ao;refine dX (css:=[[a1],[I],[J],[Y],[Z],[ah]]) (zs:=[.slice none 0 0,.slice none 0 0,.slice none 0 0,.slice none 0 0,.slice none 0 0,.slice none 0 0]) (out:=[a1,I,J,Y,Z,ah]) (places:=[(0,1),(1,1),(2,1),(3,1),(4,1),(5,1)]) G G G ⟨(Rw.cells ab),(Rw.cells ac),(Rw.cells ad),(Rw.cells ae),(Rw.cells af),(Rw.cells ag),RW⟩ zeroValue29 G WI (λw=>by kernel_rfl) G ?_
 refine wt 6 ?_;refine go ?_;obtain rfl:=RX O;exact lx ap G (gK.agg G Vk U4 (.head _) G) (.cons _ (.cons_cons _ (.cons_cons _ (.cons_cons _ (.cons_cons _ (.cons_cons _ (.cons_cons _ (.cons _ (.refl _))))))))) (.trans (.swap _ _ _) (.trans (.cons _ (.swap _ _ _)) (.trans (.cons _ (.cons _ (.swap _ _ _))) (.trans (.cons _ (.cons _ (.cons _ (.swap _ _ _)))) (.cons _ (.cons _ (.cons _ (.cons _ (.swap _ _ _))))))))) ⟨G,a1,a6,I,a7,J,a8,Y,a9,Z,aa,ah,ar,G,G,(ab).pf,(ac).pf,(ad).pf,(ae).pf,(af).pf,(ag).pf⟩
theorem wH {a0:aI}{a1:(List RU)}{b0:Nat}{v0:RV}{r:Bool} (O:nj a0 a1=some r) (Z:aU H v0 a1):
  Cq B w0 127 [.agg [.string (a0.Name),.string (a0.Node),.int .i64 (a0.dY)].toArray,.pointer (some ⟨b0,0,none⟩)] H (.obj b0 (.cells [v0].toArray 22 (0,0))::M) (λH _=>N4 b0 v0 r H M):=by
 unfold nj at O;refine gJ func127 ?_;refine gs ?_;refine bx (λJ=>?_);refine gs ?_;obtain ⟨Y,I,O⟩:=aY O;refine cz @dH I ?_;refine go ?_;refine Ek [1] 1 ?_;exact ef
theorem ob {I:(List aI)}{Y:(List RU)}{v0:RV}{b0:Nat}{v1:RV}{r:Int} (O:f_ I Y=some r) (h0:aU H v0 I) (h1:aU H v1 Y):
  Cq B w0 83 [v0,.func (.func 127) [].toArray [.pointer (some ⟨b0,0,none⟩)].toArray] H (.obj b0 (.cells [v1].toArray 22 (0,0))::M) (λH _=>N5 b0 v1 r H M):=by
 unfold f_ at O;refine gJ func83 ?_;refine g2 ?_;refine gs ?_;obtain ⟨Z,a7,a8,O⟩:=kL O;refine cl [(0,_),(1,_),(7,_)] [] 0 [] 0 (Ir (((I.length:Int):Int).toNat) Z r H 8) _ G ⟨0,_,Sp _,G,O,lE,G,G⟩ ?_;rintro _ af _ _ ⟨a0,a1,a6,rfl,O,ag,rfl,rfl⟩;refine g2 ?_;refine bS G (λJ=>?_) (λJ=>?_);obtain ⟨a9,rfl,aa,ab⟩:=mE a6 J;have O:=(a7 _ _ _).symm.trans O;generalize ac:Z a9 (a0+1)=ah at O;unfold jQ at O;refine g2 ?_;refine gs ?_;obtain ⟨ai,aj,ak,O⟩:=aE O;refine go ?_;obtain ⟨am,ad,O⟩:=aY O;refine oK call127 G G G G (λw ht=>(wH (O:=ad) h1.mm ht :)) ?_;rintro _ _ _ ⟨rfl,rfl,rfl⟩;refine go ?_;refine cd O G (λae O=>?_) (λae O=>?_);refine gs ?_;exact ef;refine gt ?_;refine gj ?_;exact kj (eb aa ac) (kK (fO ab (fP (mn (h0).dN))));obtain rfl:=mD a6 J;have O:=(a8 _ _).symm.trans O;refine gs ?_;exact ef
theorem nM {a4:(List aI)}{I:(List RU)}{v0:RV}{tH:List RV}{b0:Nat}{v1:RV}{r:(List aI)} (O:eX a4 I=some r) (h0:Rw H v0 tH a4) (h1:aU H v1 I):
  Cq B w0 126 [v0,.func (.func 127) [].toArray [.pointer (some ⟨b0,0,none⟩)].toArray] H (.row v0 120 (aK.sz aI) a4.length tH::.obj b0 (.cells [v1].toArray 22 (0,0))::M) (λH _ H' M' v=>H=H'/\∃ Y:RV,∃ J:List RV,.row Y 120 (aK.sz aI) r.length J::.obj b0 (.cells [v1].toArray 22 (0,0))::M=M'/\Y=v/\tS Y J r):=by
 unfold eX at O;refine gJ func126 ?_;refine g2 ?_;obtain ⟨aq,ab,O⟩:=aY O;refine cy @ob ab ?_;rintro _ _ _ ⟨rfl,⟨_,rfl,rfl,rfl⟩⟩;refine g2 ?_;refine cd O G (λac O=>?_) (λac O=>?_);refine gs ?_;exact ef;refine g2 ?_;obtain ⟨a9,ad,ae,O⟩:=lF O;refine cl [(0,_),(1,_)] [1] 1 [] 0 (λu m n H' M' L'=>∃ a0:List aI,∃ a1 Z:Int,∃ a5:List RV,a9 n (a0,a1,Z)=some r/\Rw H' v0 a5 a0/\H.le H'/\.row v0 120 (aK.sz aI) a0.length a5::m=M'/\(5,.int .i64 (a1))::(6,.int .i64 (Z))::u=L') gO G ⟨_,_,_,_,O,h0,lE,G,G⟩ ?_;rintro a6 af _ _ ⟨a0,a1,Z,a5,O,ag,ar,rfl,rfl⟩
 rcases a6 with _ | a6
 exact nomatch (ae _).symm.trans O;have O:=(ad _ _).symm.trans O;generalize ah:a9 a6=ai at O
 try dsimp only at O
 unfold jD at O;refine g2 ?_;refine cd O G (λaj O=>?_) (λaj O=>?_);refine go ?_;refine cj [(0,_),(1,_),(6,_)] [1] 1 (λu m H' M' L'=>∃ a3:List aI,∃ a7:Int,∃ a8:List RV,eH Z ai a3 a7=some r/\Rw H' v0 a8 a3/\af=H'/\.row v0 120 (aK.sz aI) a3.length a8::m=M'/\(5,.int .i64 (a7))::u=L') ?_ (λaa=>?_);rintro _ _ _ ⟨a3,a7,a8,O,au,rfl,rfl,rfl⟩;unfold eH at O;refine gj ?_;exact kj (Ff ah);refine gs ?_;obtain ⟨ak,av,aw,O⟩:=aE O;refine go ?_;refine al (λax=>?_);refine wt 0 ?_;refine gs ?_;refine Wp [2] ?_;obtain ⟨ay,am,O⟩:=aY O;refine oK call127 G G G G (λw ht=>(wH (O:=am) h1.mm ht :)) ?_;rintro _ _ _ ⟨rfl,rfl,rfl⟩;refine go ?_;refine cd O G (λan O=>?_) (λan O=>?_);refine gs ?_;obtain ⟨az,b1,b2,O⟩:=aE O;refine go ?_;refine wF 2 0 ak ?_;intro b3 b4 b5;refine bD (aV ?_);refine gj ?_;exact kx [0,0] 1 (aa _ _ _ pk)
 refine gj ?_;exact kx [2,0] 1 (aa _ _ _ pk);refine gs ?_;obtain ⟨ao,O⟩:=aM O;refine w4 (α:=aI) (zs:=[.string (⟨#[]⟩),.string (⟨#[]⟩),.int .i64 (0)]) (ze:=(aI.mk (⟨#[]⟩) (⟨#[]⟩) 0)) G G (λ_=>G) underlying26 UI WR Xn G G G G G G ag ao ?_;intro b6 b7 ap;refine gs ?_;obtain ⟨b8,O⟩:=aM O;refine xw (α:=aI) (l:=0) (h:=(a1:Int).toNat) G G UI WR G G ap (by omega) (by omega) (λm hmm=>(.inr ⟨_,_,_,G,G,by omega,by omega,G⟩)) (.inl ⟨G,G⟩) ?_
 intro b9 ba bb;refine go ?_;exact ef
theorem xH {a0:aG}{on:(List RU)}{v0 v1 v2 v3 v4 v5 v6:RV}{r:aG} (O:qP a0 on=some r) (h0:aU H v0 a0.bP) (h1:aU H v1 a0.aT) (h2:aU H v2 a0.aL) (h3:aU H v3 a0.dI) (h4:aU H v4 a0.bM) (h5:aU H v5 a0.cB) (h6:aU H v6 on):
  Cq B w0 103 [.agg [v0,v1,v2,v3,v4,v5].toArray,v6] H M (N2 r):=by
 unfold qP at O;refine gJ func103 ?_;refine gs ?_;refine bx (λan=>?_);refine bx (λao=>?_);refine al (λap=>?_);refine gs ?_;obtain ⟨aq,a8,O⟩:=aY O;refine ca @qk a8 ?_;rintro _ _ _ ⟨rfl,a9,aa,ab,ac,ad,ae,af,ag,ar,au,ah,ai,rfl,rfl,a1,I,J,Y,a7,Z⟩;have a1:=a1 H;have I:=I H;have J:=J H;have Y:=Y H;have a7:=a7 H;have Z:=Z H;refine al (λav=>?_);refine wt 0 ?_;refine gs ?_;refine Wp [5,7] ?_;obtain ⟨aw,aj,O⟩:=aY O;refine ca @nM aj ?_;rintro _ _ _ ⟨rfl,ak,am,rfl,rfl,a6⟩;have a6:=a6 H;refine go ?_;refine wt 2 ?_;refine gs ?_;refine wt 8 ?_;refine go ?_;obtain rfl:=RX O;exact lx lE G (gK.agg G Vk U4 (.head _) G) (.cons _ (.cons _ (.cons_cons _ (.cons _ (.cons_cons _ (.cons_cons _ (.cons_cons _ (.cons_cons _ (.cons_cons _ (.cons _ (.refl _))))))))))) (.trans (.swap _ _ _) (.trans (.cons _ (.swap _ _ _)) (.trans (.cons _ (.cons _ (.swap _ _ _))) (.cons _ (.cons _ (.cons _ (.swap _ _ _))))))) ⟨G,a9,aa,ab,ac,ad,ae,af,ag,ak,am,ah,ai,G,G,(a1).pf,(I).pf,(J).pf,(Y).pf,(a6).pf,(Z).pf⟩
theorem BD {a0:aG}{on:(List RU)}{v0 v1 v2 v3 v4 v5 v6:RV}{r:aG×Int} (O:pA a0 on=some r) (h0:aU H v0 a0.bP) (h1:aU H v1 a0.aT) (h2:aU H v2 a0.aL) (h3:aU H v3 a0.dI) (h4:aU H v4 a0.bM) (h5:aU H v5 a0.cB) (h6:aU H v6 on):
  Cq B w0 73 [.agg [v0,v1,v2,v3,v4,v5].toArray,v6] H M (λH M H' M' v=>H=H'/\∃ qv0:RV,∃ I:List RV,∃ qv1:RV,∃ J:List RV,∃ qv2:RV,∃ Y:List RV,∃ qv3:RV,∃ Z:List RV,∃ qv4:RV,∃ qxs4:List RV,∃ qv5:RV,∃ qxs5:List RV,.row qv0 9 (aK.sz RU) r.1.bP.length I::.row qv1 127 (aK.sz aX) r.1.aT.length J::.row qv2 116 (aK.sz aS) r.1.aL.length Y::.row qv3 118 (aK.sz bK) r.1.dI.length Z::.row qv4 120 (aK.sz aI) r.1.bM.length qxs4::.row qv5 140 (aK.sz bW) r.1.cB.length qxs5::M=M'/\.tuple #[.agg [qv0,qv1,qv2,qv3,qv4,qv5].toArray,.int .i64 (r.2)]=v/\tS qv0 I r.1.bP/\tS qv1 J r.1.aT/\tS qv2 Y r.1.aL/\tS qv3 Z r.1.dI/\tS qv4 qxs4 r.1.bM/\tS qv5 qxs5 r.1.cB):=by
 unfold pA at O;refine gJ func73 ?_;refine gs ?_;refine bx (λan=>?_);refine al (λao=>?_);refine g2 ?_;obtain ⟨ap,a7,O⟩:=aY O;refine cz @xd a7 ?_;refine gs ?_;refine cd O G (λa8 O=>?_) (λa8 O=>?_);refine gs ?_;refine dX (css:=[]) (zs:=[.slice none 0 0,.slice none 0 0,.slice none 0 0,.slice none 0 0,.slice none 0 0,.slice none 0 0]) (out:=[.slice none 0 0,.slice none 0 0,.slice none 0 0,.slice none 0 0,.slice none 0 0,.slice none 0 0]) (places:=[(0,1),(1,1),(2,1),(3,1),(4,1),(5,1)]) G G G RW zeroValue29 G WI (λw=>by kernel_rfl) G ?_
 refine go ?_;refine wt 0 ?_;refine gt ?_;refine gj ?_;refine cO 9 (aK.sz RU) (cO 127 (aK.sz aX) (cO 116 (aK.sz aS) (cO 118 (aK.sz bK) (cO 120 (aK.sz aI) (cO 140 (aK.sz bW) ?_)))));obtain rfl:=RX O;exact BV lE G (gK.agg G Vk U4 (.tail _ (.tail _ (.tail _ (.tail _ (.tail _ (.tail _ (.head _))))))) G) (gK.tmp G) (.cons_cons _ (.cons_cons _ (.cons_cons _ (.cons_cons _ (.cons_cons _ (.cons_cons _ (.cons _ (.cons _ (.refl _))))))))) (.trans (.cons _ (.cons _ (.cons _ (.cons _ (.swap _ _ _))))) (.trans (.cons _ (.cons _ (.cons _ (.swap _ _ _)))) (.trans (.cons _ (.cons _ (.swap _ _ _))) (.trans (.cons _ (.swap _ _ _)) (.trans (.swap _ _ _) (.trans (.cons _ (.cons _ (.cons _ (.cons _ (.swap _ _ _))))) (.trans (.cons _ (.cons _ (.cons _ (.swap _ _ _)))) (.trans (.cons _ (.cons _ (.swap _ _ _))) (.trans (.cons _ (.swap _ _ _)) (.trans (.cons _ (.cons _ (.cons _ (.cons _ (.swap _ _ _))))) (.trans (.cons _ (.cons _ (.cons _ (.swap _ _ _)))) (.trans (.cons _ (.cons _ (.swap _ _ _))) (.trans (.cons _ (.cons _ (.cons _ (.cons _ (.swap _ _ _))))) (.trans (.cons _ (.cons _ (.cons _ (.swap _ _ _)))) (.cons _ (.cons _ (.cons _ (.cons _ (.swap _ _ _))))))))))))))))))) ⟨G,(.slice none 0 0),[],(.slice none 0 0),[],(.slice none 0 0),[],(.slice none 0 0),[],(.slice none 0 0),[],(.slice none 0 0),[],G,G,(Rw.nil (H:=H)).pf,(Rw.nil (H:=H)).pf,(Rw.nil (H:=H)).pf,(Rw.nil (H:=H)).pf,(Rw.nil (H:=H)).pf,(Rw.nil (H:=H)).pf⟩
 refine gs ?_;obtain ⟨aq,a9,O⟩:=aY O;refine ca @xH a9 ?_;rintro _ _ _ ⟨rfl,aa,ab,ac,ad,ae,af,ag,ah,ai,aj,ak,am,rfl,rfl,a1,a2,a3,a4,a5,a6⟩;have a1:=a1 H;have a2:=a2 H;have a3:=a3 H;have a4:=a4 H;have a5:=a5 H;have a6:=a6 H;refine wt 6 ?_;refine go ?_;obtain rfl:=RX O;exact BV lE G (gK.agg G Vk U4 (.head _) G) (gK.tmp G) (.cons _ (.cons_cons _ (.cons_cons _ (.cons_cons _ (.cons_cons _ (.cons_cons _ (.cons_cons _ (.cons _ (.refl _))))))))) (.refl _) ⟨G,aa,ab,ac,ad,ae,af,ag,ah,ai,aj,ak,am,G,G,(a1).pf,(a2).pf,(a3).pf,(a4).pf,(a5).pf,(a6).pf⟩
theorem A4 {J:aG}{ak:Bool}{v0 v1 v2 v3 v4 v5:RV}{r:(List cS)×(List Int)} (O:rI J ak=some r) (h0:aU H v0 J.bP) (h1:aU H v1 J.aT) (h2:aU H v2 J.aL) (h3:aU H v3 J.dI) (h4:aU H v4 J.bM) (h5:aU H v5 J.cB):
  Cq B w0 207 [.agg [v0,v1,v2,v3,v4,v5].toArray,.bool (ak)] H M (λH M H' M' v=>H=H'/\∃ qv0:RV,∃ Y:List RV,∃ qv1:RV,∃ Z:List RV,.row qv0 256 (aK.sz cS) r.1.length Y::.row qv1 3 (aK.sz Int) r.2.length Z::M=M'/\.tuple #[qv0,qv1]=v/\tS qv0 Y r.1/\tS qv1 Z r.2):=by
 unfold rI at O;refine gJ func207 ?_;refine gs ?_;refine bx (λbc=>?_);refine g2 ?_;refine g2 ?_;refine lD 256 (aK.sz cS) (lD 3 (aK.sz Int) ?_);obtain ⟨am,aq,ar,O⟩:=dG O;refine cl [(1,_),(2,_),(11,_),(12,_)] [2] 2 [1] 0 (λu m n H' M' L'=>∃ (I:Nat) (a7:List aX),∃ a5:List cS,∃ a6:List Int,∃ a8:RV,∃ ae:List RV,∃ a9:RV,∃ af:List RV,(J.aT).drop I=a7/\a7.length=n/\am I a7 (a5,a6)=some r/\Rw H' a8 ae a5/\Rw H' a9 af a6/\H.le H'/\.row a8 256 (aK.sz cS) a5.length ae::.row a9 3 (aK.sz Int) a6.length af::m=M'/\(6,a8)::(7,a9)::(13,.int .i64 ((I:Int)))::u=L') _ G ⟨0,_,_,_,_,_,_,_,G,G,O,Rw.nil,Rw.nil,lE,G,G⟩ ?_;rintro _ au _ _ ⟨I,a7,a5,a6,a8,ae,a9,af,an,rfl,O,av,aw,bd,rfl,rfl⟩;refine g2 ?_;refine bS G (λag=>?_) (λag=>?_);obtain ⟨be,ax,rfl,ay,az⟩:=gU an ag;have O:=(aq _ _ _ _).symm.trans O
 generalize b0:am (I+1) ax=b1 at O
 try dsimp only at O
 unfold tF at O;refine go ?_;refine cj [(1,_),(2,_),(11,_),(12,_),(13,_)] [2] 2 (λu m H' M' L'=>∃ aa:List cS,∃ ab:List Int,∃ ac:RV,∃ ah:List RV,∃ ad:RV,∃ ai:List RV,pD b1 aa ab=some r/\Rw H' ac ah aa/\Rw H' ad ai ab/\au.le H'/\.row ac 256 (aK.sz cS) aa.length ah::.row ad 3 (aK.sz Int) ab.length ai::m=M'/\(6,ac)::(7,ad)::u=L') ?_ (λao=>?_);rintro bf _ _ ⟨aa,ab,ac,ah,ad,ai,O,bg,bh,bi,rfl,rfl⟩;unfold pD at O;refine gj ?_;exact kj (eb az b0) (kK (cQ ay h1.mm.dN));refine gs ?_;refine al (λbj=>?_);refine go ?_;refine wt 0 ?_;refine gs ?_;refine CT G G WZ G G (go ?_);refine cd O G (λb2 O=>?_) (λb2 O=>?_);refine gs ?_;obtain ⟨a0,b3,O⟩:=aY O;obtain ⟨a1,b4,O⟩:=aY O;refine oU fm 13 [aH,aH,aH,aH,aH,ph (.int .i64 (a0)),aH,aH,aH,aH,ph (.int .i64 (a1)),ph (.agg [.int .i64 (a0),.int .i64 (a1)].toArray),(λH rs v=>∃ a4:RV,[]=rs/\a4=v/\aU H a4 ([(cS.mk a0 a1)])/\Value.lX a4=([(cS.mk a0 a1)]).length)] ⟨om,om,om,om,om,?_,om,om,om,om,?_,?_,?_,RW⟩ ?_
 exact rk tt @cW b3;exact rk tt @cW b4;rintro HX hX X Rest hR _ _ ⟨rfl,rfl⟩ _ _ ⟨rfl,rfl⟩ hU hUp;refine Af (css:=[[.int .i64 (a0)],[.int .i64 (a1)]]) (zs:=[.int .i64 (0),.int .i64 (0)]) (out:=[.int .i64 (a0),.int .i64 (a1)]) (places:=[(0,1),(1,1)]) G G G ⟨G,G,RW⟩ zeroValue256 G T8 TD G G ?_;exact o0 ⟨G,G⟩;rintro HX hX X Rest hR _ _ ⟨rfl,rfl⟩ hU hUp;refine dQ (α:=cS) (css:=[[.int .i64 (a0),.int .i64 (a1)]]) (zs:=[.int .i64 (0),.int .i64 (0)]) (out:=[.int .i64 (a0),.int .i64 (a1)]) (ys:=[(cS.mk a0 a1)]) G G G ⟨G,RW⟩ runUnderlying255 sizeOf256 G zeroValue256 (by kernel_rfl) G G G G ⟨[.int .i64 (a0),.int .i64 (a1)],[],G,G,G⟩ G ?_
 intro bk a4 bl b5 b6 aj;have ap:Value.lX a4=([(cS.mk a0 a1)]).length:=by rw [b5]; rfl
 exact oe [] b6 ⟨a4,G,G,(aj),(ap)⟩;intro bm bn;refine dr ?_;rintro _ _ ⟨a4,rfl,rfl,aj,ap⟩;refine v_ ?_;obtain ⟨b7,O⟩:=aM O;refine Wp [1] ?_;refine dD (α:=cS) (l:=a5) (ys:=[(cS.mk a0 a1)]) G G underlying255 ⟨_,G,G,G,G⟩ G G G G G av.mm aj b7 ?_;intro bo bp bq;refine go ?_;refine dQ (α:=Int) (css:=[[.int .i64 ((I:Int))]]) (zs:=[.int .i64 (0)]) (out:=[.int .i64 ((I:Int))]) (ys:=([((I:Int))]:List Int)) G G G ⟨G,RW⟩ Td TD G UD (by kernel_rfl) G G G G ⟨[.int .i64 ((I:Int))],[],G,G,G⟩ G ?_
 intro br b8 bs b9 bt ba;have bu:Value.lX b8=([((I:Int))]:List Int).length:=by rw [b9]; rfl
 obtain ⟨bb,O⟩:=aM O;refine Wp [2] ?_;refine dD (α:=Int) (l:=a6) (ys:=([((I:Int))]:List Int)) G G TH ⟨_,G,G,G,G⟩ G G G G G aw.mm ba bb ?_;intro bv bw bz;refine gj ?_;exact kx [1,0,1] 1 (ao _ _ _ pk);refine gj ?_;exact kx [1,1,1] 1 (ao _ _ _ pk);obtain rfl:=gT an ag;have O:=(ar _ _).symm.trans O
 try dsimp only at O
 refine gs ?_;refine Ek [0,0] 1 ?_;exact ef
theorem Ca {I:Int}{Y:(List cS)}{v0:RV}{r:Int} (O:s9 I Y=some r) (h0:aU H v0 Y):
  Cq B w0 208 [.int .i64 (I),v0] H M (AE r):=by
 unfold s9 at O;refine gJ func208 ?_;refine g2 ?_;refine cj [(0,_),(1,_)] [] 0 (wU H 17 (((decide (I<0)) || (decide (24<I))) || (decide (64<(Y.length:Int))))) ?_ (λa6=>?_);rintro _ _ _ ⟨rfl,rfl,rfl⟩;refine cd O G (λae O=>?_) (λae O=>?_);refine gs ?_;exact ef;refine g2 ?_;obtain ⟨a9,af,ag,O⟩:=dG O;refine cl [(0,_),(18,_),(19,_)] [] 0 [] 0 (λu m n H' M' L'=>∃ (J:Nat) (Z:List cS),(Y).drop J=Z/\Z.length=n/\a9 J Z ()=some r/\H.le H'/\m=M'/\(20,.int .i64 ((J:Int)))::u=L') _ G ⟨0,_,G,G,O,lE,G,G⟩ ?_;rintro _ an _ _ ⟨J,Z,aa,rfl,O,ao,rfl,rfl⟩;refine g2 ?_;refine bS G (λa7=>?_) (λa7=>?_);obtain ⟨a8,ah,rfl,ai,aj⟩:=gU aa a7;have O:=(af _ _ _ _).symm.trans O;generalize ak:a9 (J+1) ah=ap at O;unfold uH at O;refine g2 ?_;refine al (λaq=>?_);refine wt 0 ?_;refine gs ?_;refine eA G G T8 TD G G (by decide) (by decide) (go ?_)
 cases ab:(decide (a8.a0<0));have O:=dL ab O;refine eA G G T8 TD G G (by decide) (by decide) (go ?_)
 cases ac:(decide (I<=a8.a0));have O:=dL ac O;refine eA G G T8 TD G G (by decide) (by decide) (go ?_)
 cases ad:(decide (a8.a1<0));have O:=dL ad O;refine eA G G T8 TD G G (by decide) (by decide) (go ?_)
 refine cd O G (λam O=>?_) (λam O=>?_);refine gs ?_;refine Ek [] 1 ?_;exact ef;refine gt ?_;refine gj ?_;exact kx [] 1 (eb aj ak) G (kK (cQ ai h0.mm.dN));have O:=dM ad O;refine go ?_;refine cT G ?_;refine gs ?_;refine Ek [] 1 ?_;exact ef;have O:=dM ac O;refine go ?_;refine cT G ?_;refine gs ?_;refine Ek [] 1 ?_;exact ef;have O:=dM ab O;refine go ?_;refine cT G ?_;refine gs ?_;refine Ek [] 1 ?_;exact ef;obtain rfl:=gT aa a7;have O:=(ag _ _).symm.trans O;refine gs ?_;exact ef;refine go ?_;cases ar:(decide (I<0));refine go ?_;cases au:(decide (24<I));refine gj ?_;exact kj (a6 _ _ _ pk) kS;refine gj ?_;exact kj (a6 _ _ _ pk) kS;refine gj ?_;exact kj (a6 _ _ _ pk) kS
theorem zM {a0 a1:Int}{r:Int×Int} (O:nV a0 a1=r):
  Cq B w0 164 [.int .u64 (a0),.int .u64 (a1)] H M (λH M H' M' v=>H=H'/\M=M'/\.tuple #[.int .u64 (r.1),.int .u64 (r.2)]=v):=by
 unfold nV at O;refine gJ func164 ?_;refine g2 ?_;refine gs ?_;refine vB G G G G (by decide) (g2 ?_)
 refine vB G G G G (by decide) (g2 ?_)
 refine vB G G G G (by decide) (g2 ?_)
 refine vB G G G G (by decide) (g2 ?_)
 refine vB G G G G (by decide) (gs ?_)
 obtain rfl:=O;refine Ew H ?_;exact yH G G G ⟨G,G,G⟩
theorem xc {a0 a1:Int}{r:Int×Int} (O:tk a0 a1=r):
  Cq B w0 136 [.int .u64 (a0),.int .u64 (a1)] H M (λH M H' M' v=>H=H'/\M=M'/\.tuple #[.int .u64 (r.1),.int .u64 (r.2)]=v):=by
 unfold tk at O;refine gJ func136 ?_;refine g2 ?_;refine cF G ?_;refine gs ?_;refine cz @zM (G:nV a0 a1=_) ?_;refine gs ?_;obtain rfl:=O;refine Ew H ?_;exact yH G G G ⟨G,G,G⟩
theorem BX (m:Nat) (O:m<9223372036854775808):tk (u64.wrap (1:Int)) (u64.wrap (m:Int))=(0,(m:Int)):=by
 have hw:u64.wrap (m:Int)=m:=by rw [IntKind.wrap_u64]; omega
 have h1:u64.wrap (1:Int)=1:=rfl;have Y:u64.wrap ((BitVec.ofInt (u64).bits (m:Int) &&& BitVec.ofInt (u64).bits 4294967295).toNat)=((m%4294967296:Nat):Int):=by
  have h:=bits_and_u64_nat m 4294967295 (by omega) (by omega)
  have e:m &&& 4294967295=m%4294967296:=V2 m 32;rw [e] at h;exact h
 have hand2:u64.wrap ((BitVec.ofInt (u64).bits ((m / 4294967296%4294967296:Nat):Int) &&& BitVec.ofInt (u64).bits 4294967295).toNat)=((m / 4294967296%4294967296:Nat):Int):=by
  have h:=bits_and_u64_nat (m / 4294967296%4294967296) 4294967295 (by omega) (by omega)
  have e:(m / 4294967296%4294967296) &&& 4294967295=(m / 4294967296%4294967296)%4294967296:=V2 _ 32;rw [e,Nat.mod_mod] at h;exact h
 have hs0:pL .u64 (1:Int) 32=0:=rfl;have Z:pL .u64 (0:Int) 32=0:=rfl;have J:u64.wrap ((BitVec.ofInt (u64).bits (1:Int) &&& BitVec.ofInt (u64).bits 4294967295).toNat)=1:=rfl;have I:u64.wrap ((BitVec.ofInt (u64).bits (0:Int) &&& BitVec.ofInt (u64).bits 4294967295).toNat)=0:=rfl;have hsm:∀ k:Nat,pL .u64 (k:Int) 32=((k / 4294967296:Nat):Int):=λk=>Il k;have e0:((m%4294967296:Nat):Int)=((m%4294967296:Nat):Int):=rfl;have w1:u64.wrap ((m%4294967296:Nat):Int)=((m%4294967296:Nat):Int):=by rw [IntKind.wrap_u64]; omega
 have w2:u64.wrap ((m / 4294967296:Nat):Int)=((m / 4294967296:Nat):Int):=by rw [IntKind.wrap_u64]; omega
 have d1:m%4294967296 / 4294967296=0:=by omega
 have d2:m / 4294967296 / 4294967296=0:=by omega
 have z0:u64.wrap (0:Int)=0:=rfl;unfold tk nV;rw [hw,h1]
 simp only [hs0,Z,J,Y,hsm,Int.zero_mul,Int.one_mul,z0,Int.zero_add,w1,d1,Int.ofNat_zero,Int.natCast_zero,Int.add_zero,I,w2,d2,hw]
theorem GX {s:List Int}{v0:RV}{n:Int} (h0:aU H v0 s) (hz:s.length=1/\0<=n/\n*8<=140737488355328) (ht:St B w0 H M w):
  Calls prog 225 [v0,.int .i64 n].toArray w (vi B w0 (Pm (Ie s n) H M)):=by
 obtain ⟨hs1,hn0,Y⟩:=hz;obtain ⟨a,rfl⟩:=V8.1 hs1;obtain ⟨m,rfl⟩:∃ m:Nat,n=m:=⟨n.toNat,by omega⟩
 have hrep:=zq a m;rw [hrep];have hlr:(List.replicate m a).length=m:=Tl;have hmb:m<9223372036854775808:=by omega
 obtain ⟨o,c,hv0,_⟩:=h0.len
 simp only [R_,SR,Sp] at hv0
 subst hv0;refine enter func225 G G G ht ?_;refine bT ?_;refine aQ (aO G G G ?_);refine bD (aV ?_);refine bT ?_;refine bT ?_;refine aQ (bY G G G (we G G G G G ?_));refine bD (aV ?_);refine bS (b:=decide ((m:Int)<0)) G (λY=>absurd (R7 Y) (by omega)) (λ_=>?_)
 refine mS (aV ?_);refine bT ?_;refine aQ (bY G G G (Ai G G Td G (sA G G Uo VP G (bY G G G (sA G G Uo VP G ?_)))));refine bQ call136 G G G (λw ht=>by have h:=xc (O:=BX m hmb) ht; exact h) ?_
 rintro _ _ _ ⟨rfl,rfl,rfl⟩;refine bY G G G (tJ G G G G (tJ G G G G (aO G G G (aO G G G ?_))));refine bD (aV ?_);refine bT ?_;refine bT ?_;refine aQ (bY G G G (we G G G G G (bY G G G (bY G G G (we G G G G G (EW (b:=false) G G G G ?_))))));refine bD (aV ?_);refine bS (b:=decide (9223372036854775807<(m:Int))) G (λY=>absurd (R7 Y) (by omega)) (λ_=>?_)
 refine mS (aV ?_);have hw:i64.wrap (m:Int)=m:=zd (by omega) (by omega)
 refine bT ?_;refine aQ (bY G G G (sA G G VP Uo G ?_));rw [hw];refine gQ (α:=Int) (ze:=0) (bytes:=8) G G TH ⟨_,G,G,G,G⟩ G G G G G G (by omega) Y ?_
 intro v1 xt hx1;rw [RZ] at hx1 ⊢;refine aO G G G ?_;refine bD (aV ?_);generalize hl1:List.replicate m (0:Int)=l1 at hx1 ⊢;have hll:l1.length=m:=by rw [<- hl1]; exact Tl
 refine bT ?_;refine aQ (bY G G G (bY G G G (Iz (α:=Int) (l:=l1) (ys:=[a]) G G TH TD G G G hx1 h0 (by simp) ?_)))
 rw [S4,hll];generalize hl2:[a].take (min 1 m)++l1.drop (min 1 m)=l2;have hl2l:l2.length=m:=by rw [<- hl2,Sg,Ss,Tx,S4]; omega
 have hl2t:l2.take (min 1 m)=List.replicate (min 1 m) a:=by
  rw [<- hl2];cases m with
  | zero=>rfl
  | succ q=>rw [show min 1 (q+1)=1 by omega]; rfl
 intro sM hx2;refine aO G G G ?_;refine bD (aV ?_);obtain ⟨o1,m1,c1,hv1⟩:=hx2.sl;refine bT ?_;refine vG (CF (L':=[(7,v1),(8,.int .i64 ((min 1 m:Nat):Int))]) ⟨G,G,RW⟩ (UC _) ?_);refine CG (λn H' M' L'=>∃ (q:Nat) (l:List Int) (xs:List RV),m-q=n/\(1<=q\/m=0)/\q<=m/\l.length=m/\l.take q=List.replicate q a/\Rw H' v1 xs l/\H.le H'/\.row v1 3 (aK.sz Int) m xs::M=M'/\[(7,v1),(8,.int .i64 (q:Int))]=L') (m-min 1 m) ⟨min 1 m,l2,sM,G,by omega,by omega,hl2l,hl2t,hx2,SP _,G,G⟩ ?_
 rintro n3 H3 _ _ ⟨q,l3,Cj,hn3,hq1,hqm,hl3,ht3,hx3,hle3,rfl,rfl⟩;refine bT ?_;refine bT ?_;refine aQ (bY G G G (bY G G G (se (M':=.row v1 3 (aK.sz Int) l3.length Cj::M) (by rw [hl3]) (Ah (R6 ..) G G Td G (we G G G G G ?_)))))
 refine bD (aV ?_);refine bS (b:=decide ((q:Int)<(l3.length:Int))) G (λY=>?_) (λY=>?_)
 ·have hlt:q<l3.length:=by have:=R7 Y; omega
  refine mS (aV ?_);refine zw (by omega) (λJ off cap hv hcap=>?_)
  subst hv;refine vG (Kx (M':=[[.row (.slice (some ⟨J,off,none⟩) l3.length cap) 3 (aK.sz Int) l3.length Cj]].flatten++M) G ?_);refine rK 8 (AB [(FU (q:Int)),(λH rs v=>[]=rs/\.slice (some ⟨J,off,none⟩) l3.length cap=v),(FU (q:Int)),(λH rs v=>[]=rs/\.slice (some ⟨J,off+q*aK.sz Int,none⟩) (l3.length-q) (cap-q)=v),(λH rs v=>[]=rs/\.slice (some ⟨J,off,none⟩) l3.length cap=v),(FU (q:Int)),(λH rs v=>[]=rs/\.slice (some ⟨J,off,none⟩) q cap=v),(λH rs v=>∃ Bf:List RV,[.row (.slice (some ⟨J,off,none⟩) l3.length cap) 3 (aK.sz Int) l3.length Bf]=rs/\.int .i64 ((min q (l3.length-q):Nat):Int)=v/\Rw H (.slice (some ⟨J,off,none⟩) l3.length cap) Bf (l3.take q++l3.take (min q (l3.length-q))++l3.drop (q+min q (l3.length-q))))]) [[],[],[],[],[],[],[],[8]] [[],[],[],[],[],[],[],[]] [[.row (.slice (some ⟨J,off,none⟩) l3.length cap) 3 (aK.sz Int) l3.length Cj]] [0,1,2,3,4,5,6,7] F1.mixed (by kernel_rfl) G G G (by kernel_rfl) (uQ ⟨gB _ _,gB _ _,gB _ _,gB _ _,gB _ _,gB _ _,gB _ _,(by rintro H1 H2 rs v hle ⟨Bf,rfl,rfl,h⟩; exact ⟨Bf,G,G,h.mono hle⟩),RW⟩) ⟨?_,?_,?_,?_,?_,?_,?_,?_,RW⟩ ?_
  ·intro HX Z X Rest hR
   intro hU I;refine bY G G G ?_;exact bD (fQ [] (SP _) ⟨G,G⟩)
  ·intro HX Z X Rest hR
   intro hU I;refine bY G G G ?_;exact bD (fQ [] (SP _) ⟨G,G⟩)
  ·intro HX Z X Rest hR
   intro hU I;refine bY G G G ?_;exact bD (fQ [] (SP _) ⟨G,G⟩)
  ·intro HX Z X Rest hR
   rintro _ _ ⟨rfl,rfl⟩;rintro _ _ ⟨rfl,rfl⟩;intro hU I;refine rD (m:=cap) (h:=l3.length) (l:=q) G G Td TD G (.inl G) (.inl ⟨G,G⟩) (.inl ⟨G,G⟩) (.inr ⟨_,_,_,G,G,by omega,by omega,by omega⟩) (by rw [R8 (by omega),Tq,SZ]) ?_
   exact bD (fQ [] (SP _) ⟨G,G⟩)
  ·intro HX Z X Rest hR
   intro hU I;refine bY G G G ?_;exact bD (fQ [] (SP _) ⟨G,G⟩)
  ·intro HX Z X Rest hR
   intro hU I;refine bY G G G ?_;exact bD (fQ [] (SP _) ⟨G,G⟩)
  ·intro HX Z X Rest hR
   rintro _ _ ⟨rfl,rfl⟩;rintro _ _ ⟨rfl,rfl⟩;intro hU I;refine rD (m:=cap) (h:=q) (l:=0) G G Td TD G (.inl G) (.inl ⟨G,G⟩) (.inr ⟨_,_,_,G,G,by omega,by omega,by omega⟩) (.inl ⟨G,G⟩) (by rw [R8 (by omega),UQ,UQ,Tq,SZ,TC,Tt]) ?_
   exact bD (fQ [] (SP _) ⟨G,G⟩)
  ·intro HX Z X Rest hR
   rintro _ _ ⟨rfl,rfl⟩;rintro _ _ ⟨rfl,rfl⟩;intro hU I;refine se (M':=.row (.slice (some ⟨J,off,none⟩) l3.length cap) 3 (aK.sz Int) l3.length Cj::Rest) G (CS (α:=Int) (l:=l3) (q:=q) G G TH TD G (hx3.mono Z) (by omega) G G ?_)
   intro Bf hx4;exact bD (fQ [.row (.slice (some ⟨J,off,none⟩) l3.length cap) 3 (aK.sz Int) l3.length Bf] (SP _) ⟨Bf,G,G,hx4⟩)
  intro H5 hle5;rintro _ _ ⟨rfl,rfl⟩;rintro _ _ ⟨rfl,rfl⟩;rintro _ _ ⟨rfl,rfl⟩;rintro _ _ ⟨rfl,rfl⟩;rintro _ _ ⟨rfl,rfl⟩;rintro _ _ ⟨rfl,rfl⟩;rintro _ _ ⟨rfl,rfl⟩;rintro _ _ ⟨Bf,rfl,rfl,hx4⟩;refine se (M':=.row (.slice (some ⟨J,off,none⟩) l3.length cap) 3 (aK.sz Int) l3.length Bf::M) G ?_;have hrs:=GV ht3 (by omega)
  refine we G G G G G (aO G G G (bD (nE ?_)));have hwr:i64.wrap ((q:Int)+((min q (l3.length-q):Nat):Int))=((q+min q (l3.length-q):Nat):Int):=by
   rw [zd (by omega) (by omega)]; omega
  exact EP (sh (by omega:m-(q+min q (l3.length-q))<n3) ⟨q+min q (l3.length-q),_,Bf,G,by omega,by omega,by simp only [Sg,Ss,Tx]; omega,hrs,hx4,Ww hle3 hle5,by rw [hl3],G⟩) (UC _) ⟨G,SJ (λz=>some (Value.int .i64 z)) hwr,RW⟩
 ·have hge:q=m:=by have:=Sc Y; omega
  refine vh (gW (gW (nZ (aV ?_))));have hfin:l3=List.replicate m a:=by
   have h:=ht3;rw [hge,Sh (by omega)] at h
   exact h
  refine bT ?_;refine aQ (bY G G G (aO G G G ?_));refine bD (aV ?_);refine mM (ER hle3 ?_);rw [<- hfin];exact iZ G G ⟨G,v1,Cj,G,G,hx3.pf⟩
theorem Cb {an:Int}{ao:(List cS)}{J:Int}{v0:RV}{r:(List Int)} (O:qC an ao J=some r) (h0:aU H v0 ao):
  Cq B w0 209 [.int .i64 (an),v0,.int .i64 (J)] H M (Pm r):=by
 unfold qC at O;refine gJ func209 ?_;refine g2 ?_;refine eZ (α:=Int) (css:=[[.int .i64 ((-1))]]) (zs:=[.int .i64 (0)]) (out:=[.int .i64 ((-1))]) (ys:=([((-1))]:List Int)) G G G ⟨G,RW⟩ Td TD G UD (by kernel_rfl) G G G G ⟨[.int .i64 ((-1))],[],G,G,G⟩ G ?_
 intro co cp be;refine go ?_;obtain ⟨bf,O⟩:=aM O;refine bQ call225 G G G (λw ht=>by obtain ⟨H0_,hl0_,ht0_,hr0_,bk0_⟩:=ht.lU be G; have h:=GX hr0_ bf ht0_; exact gV bk0_ h) ?_
 rintro _ _ _ ⟨rfl,_,rfl,Z,cq,rfl,rfl,ap⟩;have ap:=ap H;refine g2 ?_;refine gs ?_;obtain ⟨bg,O⟩:=aM O;obtain ⟨b4,bh,bi,O⟩:=kL O;refine cl [(1,_),(2,_),(7,_),(18,_)] [] 2 [1] 1 (λu m n H' M' L'=>∃ (a5:Nat) (ab:Nat),∃ ac:List Int,∃ a6:Int,∃ aq:List RV,a5+ab=(an:Int).toNat/\ab=n/\b4 ab a5 (ac,a6)=some r/\Rw H' Z aq ac/\H.le H'/\.row Z 3 (aK.sz Int) ac.length aq::m=M'/\(8,.int .i64 (a6))::(19,.int .i64 ((a5:Int)))::u=L') _ G ⟨0,_,_,_,_,Sp _,G,O,ap,lE,G,G⟩ ?_;rintro _ b5 _ _ ⟨a5,ab,ac,a6,aq,b6,rfl,O,cr,cs,rfl,rfl⟩;refine g2 ?_;refine bS G (λar=>?_) (λar=>?_);obtain ⟨bj,rfl,bk,bl⟩:=mE b6 ar;have O:=(bh _ _ _).symm.trans O;generalize bm:b4 bj (a5+1)=bn at O
 try dsimp only at O
 unfold rU at O;refine go ?_;refine cj [(1,_),(2,_),(7,_),(18,_),(19,_)] [] 1 (λu m H' M' L'=>∃ ad:List Int,∃ au:Int,∃ av:List RV,lK bn ad au=some r/\Rw H' Z av ad/\b5.le H'/\.row Z 3 (aK.sz Int) ad.length av::m=M'/\(8,.int .i64 (au))::u=L') ?_ (λb7=>?_);rintro ct _ _ ⟨ad,au,av,O,cu,cv,rfl,rfl⟩;unfold lK at O;refine gj ?_;exact kj (eb bk bm) (kK (fO bl (fP bg)));refine g2 ?_;refine gs ?_;obtain ⟨cw,cx,d0,O⟩:=aE O;refine go ?_;refine cd O G (λbo O=>?_) (λbo O=>?_);refine gj ?_;exact kj (b7 _ _ _ pk);refine gs ?_;obtain ⟨d1,d2,d3,O⟩:=aE O;refine go ?_;refine wF 0 0 a6 ?_;intro d4 bp d5;refine g2 ?_;refine eZ (α:=Int) (css:=[[.int .i64 ((a5:Int))]]) (zs:=[.int .i64 (0)]) (out:=[.int .i64 ((a5:Int))]) (ys:=([((a5:Int))]:List Int)) G G G ⟨G,RW⟩ Td TD G UD (by kernel_rfl) G G G G ⟨[.int .i64 ((a5:Int))],[],G,G,G⟩ G ?_
 intro d6 d7 bq;refine go ?_;obtain ⟨b8,br,bs,O⟩:=lF O;refine cl [(1,_),(2,_),(7,_),(8,_),(18,_),(19,_)] [] 2 [1] 0 (λu m n H' M' L'=>∃ ae aa:List Int,∃ aw:List RV,∃ af:RV,∃ ax:List RV,b8 n (ae,aa)=some r/\Rw H' Z aw ae/\Rw H' af ax aa/\b5.le H'/\.row Z 3 (aK.sz Int) ae.length aw::.row af 3 (aK.sz Int) aa.length ax::m=M'/\(10,af)::u=L') gO G ⟨_,_,_,_,_,O,bp,bq,lE,G,G⟩ ?_;rintro ay bt _ _ ⟨ae,aa,aw,af,ax,O,bu,bv,d8,rfl,rfl⟩
 rcases ay with _ | ay
 exact nomatch (bs _).symm.trans O;have O:=(br _ _).symm.trans O;generalize bw:b8 ay=d9 at O
 try dsimp only at O
 unfold rV at O;refine g2 ?_;refine cd O G (λbz O=>?_) (λbz O=>?_);refine gs ?_;obtain ⟨Y,da,db,O⟩:=aE O;refine gs ?_;obtain ⟨dc,O⟩:=aM O;refine Wp [1] ?_;refine xw (α:=Int) (l:=(1:Int).toNat) (h:=aa.length) G G Td TD G G bv (by omega) (by omega) (λm hmm=>(.inl ⟨G,G⟩)) (.inr ⟨_,_,_,G,G,by omega,by omega,G⟩) ?_
 intro dd de c0;refine gs ?_;obtain ⟨b9,c1,c2,O⟩:=dG O;refine cl [(1,_),(2,_),(7,_),(8,_),(11,_),(18,_),(19,_),(41,_),(42,_)] [] 2 [1] 0 (λu m n H' M' L'=>∃ (a7:Nat) (ag:List cS),∃ ah a8:List Int,∃ az:List RV,∃ ai:RV,∃ b0:List RV,(ao).drop a7=ag/\ag.length=n/\b9 a7 ag (ah,a8)=some r/\Rw H' Z az ah/\Rw H' ai b0 a8/\bt.le H'/\.row Z 3 (aK.sz Int) ah.length az::.row ai 3 (aK.sz Int) a8.length b0::m=M'/\(10,ai)::(43,.int .i64 ((a7:Int)))::u=L') _ G ⟨0,_,_,_,_,_,_,G,G,O,bu,c0,lE,G,G⟩ ?_;rintro _ c3 _ _ ⟨a7,ag,ah,a8,az,ai,b0,ba,rfl,O,df,bb,dg,rfl,rfl⟩;refine g2 ?_;refine bS G (λb1=>?_) (λb1=>?_);obtain ⟨I,c4,rfl,c5,c6⟩:=gU ba b1;have O:=(c1 _ _ _ _).symm.trans O;generalize c7:b9 (a7+1) c4=c8 at O
 try dsimp only at O
 unfold rW at O;refine go ?_;refine cj [(1,_),(2,_),(7,_),(8,_),(11,_),(18,_),(19,_),(41,_),(42,_),(43,_)] [] 2 (λu m H' M' L'=>∃ aj ak:List Int,∃ b2:List RV,∃ am:RV,∃ b3:List RV,fL c8 aj ak=some r/\Rw H' Z b2 aj/\Rw H' am b3 ak/\c3.le H'/\.row Z 3 (aK.sz Int) aj.length b2::.row am 3 (aK.sz Int) ak.length b3::m=M'/\(10,am)::u=L') ?_ (λa9=>?_);rintro dh _ _ ⟨aj,ak,b2,am,b3,O,di,dj,dk,rfl,rfl⟩;unfold fL at O;refine gj ?_;exact kj (eb c6 c7) (kK (cQ c5 h0.mm.dN));refine gs ?_;refine al (λdl=>?_);refine go ?_;refine wt 0 ?_;refine g2 ?_;cases bc:(decide ((a7:Int)=J));have O:=dL bc O;refine eA G G T8 TD G G (by decide) (by decide) (go ?_)
 cases bd:(decide (I.a0=Y));have O:=dL bd O;refine eA G G T8 TD G G (by decide) (by decide) (go ?_)
 refine cd O G (λc9 O=>?_) (λc9 O=>?_);refine gj ?_;exact kx [1,1] 1 (a9 _ _ _ pk);refine gs ?_;refine eA G G T8 TD G G (by decide) (by decide) (go ?_)
 refine eA G G T8 TD G G (by decide) (by decide) (gs ?_)
 obtain ⟨dm,dn,dp,O⟩:=aE O;refine go ?_;refine cd O G (λcb O=>?_) (λcb O=>?_);refine gs ?_;obtain ⟨dq,ds,dt,O⟩:=aE O;refine go ?_;refine wF 1 0 a6 ?_;intro du dv dw;refine go ?_;refine dQ (α:=Int) (css:=[[.int .i64 (i64.wrap ((i64.wrap (I.a0+I.a1))-Y))]]) (zs:=[.int .i64 (0)]) (out:=[.int .i64 (i64.wrap ((i64.wrap (I.a0+I.a1))-Y))]) (ys:=([(i64.wrap ((i64.wrap (I.a0+I.a1))-Y))]:List Int)) G G G ⟨G,RW⟩ Td TD G UD (by kernel_rfl) G G G G ⟨[.int .i64 (i64.wrap ((i64.wrap (I.a0+I.a1))-Y))],[],G,G,G⟩ G ?_
 intro dx cc dy ce e0 cf;have e1:Value.lX cc=([(i64.wrap ((i64.wrap (I.a0+I.a1))-Y))]:List Int).length:=by rw [ce]; rfl
 obtain ⟨cg,O⟩:=aM O;refine Wp [2] ?_;refine dD (α:=Int) (l:=a8) (ys:=([(i64.wrap ((i64.wrap (I.a0+I.a1))-Y))]:List Int)) G G TH ⟨_,G,G,G,G⟩ G G G G G bb.mm cf cg ?_;intro e2 e3 e4;refine gj ?_;exact kx [1,0] 1 (a9 _ _ _ pk);refine gj ?_;exact kx [1,1] 1 (a9 _ _ _ pk);have O:=dM bd O;refine go ?_;refine cF G ?_;refine gs ?_;refine eA G G T8 TD G G (by decide) (by decide) (go ?_)
 refine eA G G T8 TD G G (by decide) (by decide) (gs ?_)
 obtain ⟨e5,e6,e7,O⟩:=aE O;refine go ?_;refine cd O G (λch O=>?_) (λch O=>?_);refine gs ?_;obtain ⟨e8,e9,ea,O⟩:=aE O;refine go ?_;refine wF 1 0 a6 ?_;intro ec ed ee;refine go ?_;refine dQ (α:=Int) (css:=[[.int .i64 (i64.wrap ((i64.wrap (I.a0+I.a1))-Y))]]) (zs:=[.int .i64 (0)]) (out:=[.int .i64 (i64.wrap ((i64.wrap (I.a0+I.a1))-Y))]) (ys:=([(i64.wrap ((i64.wrap (I.a0+I.a1))-Y))]:List Int)) G G G ⟨G,RW⟩ Td TD G UD (by kernel_rfl) G G G G ⟨[.int .i64 (i64.wrap ((i64.wrap (I.a0+I.a1))-Y))],[],G,G,G⟩ G ?_
 intro eg ci eh ck ei cm;have ej:Value.lX ci=([(i64.wrap ((i64.wrap (I.a0+I.a1))-Y))]:List Int).length:=by rw [ck]; rfl
 obtain ⟨cn,O⟩:=aM O;refine Wp [2] ?_;refine dD (α:=Int) (l:=a8) (ys:=([(i64.wrap ((i64.wrap (I.a0+I.a1))-Y))]:List Int)) G G TH ⟨_,G,G,G,G⟩ G G G G G bb.mm cm cn ?_;intro ek el em;refine gj ?_;exact kx [1,0] 1 (a9 _ _ _ pk);refine gj ?_;exact kx [1,1] 1 (a9 _ _ _ pk);have O:=dM bc O;refine go ?_;refine cT G ?_;refine gj ?_;exact kx [1,1] 1 (a9 _ _ _ pk);obtain rfl:=gT ba b1;have O:=(c2 _ _).symm.trans O
 try dsimp only at O
 refine gj ?_;exact kj (Ff bw);refine gt ?_;refine gj ?_;exact kx [0] 1 (b7 _ _ _ pk);obtain rfl:=mD b6 ar;have O:=(bi _ _).symm.trans O
 try dsimp only at O
 refine gs ?_;exact ef
theorem u5 {a0:Int}{a1:(List cS)}{v0:RV}{r:(List Int)×Int} (O:kW a0 a1=some r) (h0:aU H v0 a1):
  Cq B w0 180 [.int .i64 (a0),v0] H M (MG r.1 r.2):=by
 unfold kW at O;refine gJ func180 ?_;refine g2 ?_;refine gs ?_;obtain ⟨a6,J,O⟩:=aY O;refine cz @Ca J ?_;refine gs ?_;refine cd O G (λY O=>?_) (λY O=>?_);refine bT (aQ (bY G G G (aO G G G (aO G G G (bD (aV ?_))))));refine gj ?_;refine cO 3 (aK.sz Int) ?_;exact ef;refine gs ?_;obtain ⟨a7,Z,O⟩:=aY O;refine ca @Cb Z ?_;rintro _ _ _ ⟨rfl,a8,a9,rfl,rfl,I⟩;have I:=I H;refine go ?_;exact ef
theorem A3 {a0:aG}{v0 v1 v2 v3 v4 v5:RV}{r:(List Int)} (O:pS a0=some r) (h0:aU H v0 a0.bP) (h1:aU H v1 a0.aT) (h2:aU H v2 a0.aL) (h3:aU H v3 a0.dI) (h4:aU H v4 a0.bM) (h5:aU H v5 a0.cB):
  Cq B w0 179 [.agg [v0,v1,v2,v3,v4,v5].toArray] H M (Pm r):=by
 unfold pS at O;refine gJ func179 ?_;refine gs ?_;refine bx (λa6=>?_);refine gs ?_;obtain ⟨a7,Y,O⟩:=aY O;refine ca @A4 Y ?_;rintro _ _ _ ⟨rfl,a8,a9,aa,ab,rfl,rfl,a1,I⟩;have a1:=a1 H;have I:=I H;refine gs ?_;obtain ⟨ac,Z,O⟩:=aY O;refine cy @u5 Z ?_;rintro _ _ _ ⟨rfl,⟨_,rfl,ad,ae,rfl,rfl,J⟩⟩;have J:=J H;refine gs ?_;refine Ek [1] 3 ?_;exact ef
theorem qS {I:aG}{v0 v1 v2 v3 v4 v5:RV}{r:bL} (O:fE I=some r) (h0:aU H v0 I.bP) (h1:aU H v1 I.aT) (h2:aU H v2 I.aL) (h3:aU H v3 I.dI) (h4:aU H v4 I.bM) (h5:aU H v5 I.cB):
  Cq B w0 149 [.agg [v0,v1,v2,v3,v4,v5].toArray] H M (λH M H' M' v=>H=H'/\∃ qv0:RV,∃ J:List RV,∃ qv1:RV,∃ Y:List RV,.row qv0 3 (aK.sz Int) r.rA.length J::.row qv1 3 (aK.sz Int) r.cH.length Y::M=M'/\.agg [qv0,qv1].toArray=v/\tS qv0 J r.rA/\tS qv1 Y r.cH):=by
 unfold fE at O;refine gJ func149 ?_;refine gs ?_;refine bx (λbj=>?_);refine al (λbk=>?_);refine gs ?_;obtain ⟨ao,ap,O⟩:=aY O;refine ca @A3 ap ?_;rintro _ _ _ ⟨rfl,ab,aq,rfl,rfl,a7⟩;have a7:=a7 H;refine dX (css:=[[ab]]) (zs:=[.slice none 0 0,.slice none 0 0]) (out:=[ab,.slice none 0 0]) (places:=[(0,1),(1,1)]) G G G ⟨(Rw.cells a7),RW⟩ zeroValue221 G runUnderlying221 (λw=>by kernel_rfl) G ?_
 refine al (λbl=>?_);refine wt 0 ?_;refine g2 ?_;refine gs ?_;refine s5 (.tail _ (.head _)) (λar=>?_);obtain ⟨ai,au,av,O⟩:=dG O;refine cl [(1,_),(2,_),(3,_),(14,_),(15,_)] [] 0 [] 0 (λu m n H' M' L'=>∃ (a4:Nat) (a8:List Int),∃ ac:Int,(ao).drop a4=a8/\a8.length=n/\ai a4 a8 ac=some r/\H.le H'/\m=M'/\(4,.int .i64 (ac))::(16,.int .i64 ((a4:Int)))::u=L') _ G ⟨0,_,_,G,G,O,lE,G,G⟩ ?_;rintro _ aw _ _ ⟨a4,a8,ac,aj,rfl,O,bm,rfl,rfl⟩;refine g2 ?_;refine bS G (λad=>?_) (λad=>?_);obtain ⟨bn,ax,rfl,ay,az⟩:=gU aj ad;have O:=(au _ _ _ _).symm.trans O;generalize b0:ai (a4+1) ax=bo at O;unfold ug at O;refine g2 ?_;refine IB G G G G (gt ?_);refine gj ?_;exact kj (eb az b0) (kK (cQ ay ar));obtain rfl:=gT aj ad;have O:=(av _ _).symm.trans O;refine g2 ?_;refine gs ?_;refine lD 256 (aK.sz cS) ?_;obtain ⟨ak,b1,b2,O⟩:=dG O
 refine cl [(1,_),(2,_),(3,_),(4,_),(26,_),(27,_)] [1,1,1,1] 1 [] 0 (λu m n H' M' L'=>∃ (a5:Nat) (a9:List aS),∃ a6:List cS,∃ aa:RV,∃ ae:List RV,(I.aL).drop a5=a9/\a9.length=n/\ak a5 a9 a6=some r/\Rw H' aa ae a6/\aw.le H'/\.row aa 256 (aK.sz cS) a6.length ae::m=M'/\(7,aa)::(28,.int .i64 ((a5:Int)))::u=L') _ G ⟨0,_,_,_,_,G,G,O,Rw.nil,lE,G,G⟩ ?_;rintro _ b3 _ _ ⟨a5,a9,a6,aa,ae,am,rfl,O,b4,bp,rfl,rfl⟩;refine g2 ?_;refine bS G (λaf=>?_) (λaf=>?_);obtain ⟨bq,b5,rfl,b6,b7⟩:=gU am af;have O:=(b1 _ _ _ _).symm.trans O;generalize b8:ak (a5+1) b5=br at O;unfold uh at O;refine g2 ?_;refine al (λbs=>?_);refine wt 0 ?_;refine go ?_;obtain ⟨b9,ba,O⟩:=aY O;obtain ⟨a0,bt,bu,O⟩:=aE O;obtain ⟨bb,bc,O⟩:=aY O;obtain ⟨a1,bv,bw,O⟩:=aE O;refine oU fm 21 [aH,aH,aH,aH,aH,aH,aH,ph (.int .i64 (b9)),aH,aH,aH,aH,aH,aH,aH,aH,ph (.int .i64 (bb)),aH,aH,ph (.agg [.int .i64 (a0),.int .i64 (a1)].toArray),(λH rs v=>∃ Z:RV,[]=rs/\Z=v/\aU H Z ([(cS.mk a0 a1)])/\Value.lX Z=([(cS.mk a0 a1)]).length)] ⟨om,om,om,om,om,om,om,?_,om,om,om,om,om,om,om,om,?_,om,om,?_,?_,RW⟩ ?_
 exact rk tt @cW ba;exact rk tt @cW bc;rintro HX hX X Rest hR _ _ ⟨rfl,rfl⟩ _ _ ⟨rfl,rfl⟩ hU hUp;refine Af (css:=[[.int .i64 (a0)],[.int .i64 (a1)]]) (zs:=[.int .i64 (0),.int .i64 (0)]) (out:=[.int .i64 (a0),.int .i64 (a1)]) (places:=[(0,1),(1,1)]) G G G ⟨G,G,RW⟩ zeroValue256 G T8 TD G G ?_;exact o0 ⟨G,G⟩;rintro HX hX X Rest hR _ _ ⟨rfl,rfl⟩ hU hUp;refine dQ (α:=cS) (css:=[[.int .i64 (a0),.int .i64 (a1)]]) (zs:=[.int .i64 (0),.int .i64 (0)]) (out:=[.int .i64 (a0),.int .i64 (a1)]) (ys:=[(cS.mk a0 a1)]) G G G ⟨G,RW⟩ runUnderlying255 sizeOf256 G zeroValue256 (by kernel_rfl) G G G G ⟨[.int .i64 (a0),.int .i64 (a1)],[],G,G,G⟩ G ?_
 intro bz Z c0 bd be ag;have an:Value.lX Z=([(cS.mk a0 a1)]).length:=by rw [bd]; rfl
 exact oe [] be ⟨Z,G,G,(ag),(an)⟩;intro c1 c2;refine dr ?_;rintro _ _ ⟨Z,rfl,rfl,ag,an⟩;refine v_ ?_;obtain ⟨bf,O⟩:=aM O;refine Wp [1] ?_;refine dD (α:=cS) (l:=a6) (ys:=[(cS.mk a0 a1)]) G G underlying255 ⟨_,G,G,G,G⟩ G G G G G b4.mm ag bf ?_;intro c3 c4 c5;refine gt ?_;refine gj ?_;exact kx [0,1,1,1,1] 1 (eb b7 b8) G (kK (cQ b6 h2.mm.dN));obtain rfl:=gT am af;have O:=(b2 _ _).symm.trans O;refine gs ?_;obtain ⟨c6,bg,O⟩:=aY O;refine cy @u5 bg ?_;rintro _ _ _ ⟨rfl,⟨_,rfl,bh,bi,rfl,rfl,ah⟩⟩;have ah:=ah b3;refine go ?_;refine wt 2 ?_;refine gs ?_;refine wt 4 ?_;refine go ?_;obtain rfl:=RX O;exact lx lE G (gK.agg G isAgg221 sizeOf221 (.head _) G) (.cons _ (.cons _ (.cons _ (.cons_cons _ (.cons_cons _ (.cons _ (.refl _))))))) (.swap _ _ _) ⟨G,ab,aq,bh,bi,G,G,a7.mm.pf,(ah).pf⟩
theorem Au {a0:aG}{v0 v1 v2 v3 v4 v5:RV}{r:Int} (O:nf a0=some r) (h0:aU H v0 a0.bP) (h1:aU H v1 a0.aT) (h2:aU H v2 a0.aL) (h3:aU H v3 a0.dI) (h4:aU H v4 a0.bM) (h5:aU H v5 a0.cB):
  Cq B w0 181 [.agg [v0,v1,v2,v3,v4,v5].toArray] H M (AE r):=by
 unfold nf at O;refine gJ func181 ?_;refine gs ?_;refine bx (λai=>?_);refine g2 ?_;refine gs ?_;obtain ⟨a9,aa,O⟩:=aY O;refine ca @qS aa ?_;rintro _ _ _ ⟨rfl,aj,ak,am,an,rfl,rfl,Z,a6⟩;have Z:=Z H;have a6:=a6 H;refine yZ G G runUnderlying221 G isAgg34 G G (go ?_);refine s5 (.tail _ (.head _)) (λab=>?_);obtain ⟨a7,ac,ad,O⟩:=dG O;refine cl [(8,_),(9,_)] [1] 2 [1] 2 (λu m n H' M' L'=>∃ (a1:Nat) (I:List Int),∃ J:Int,(a9.cH).drop a1=I/\I.length=n/\a7 a1 I J=some r/\H.le H'/\m=M'/\(3,.int .i64 (J))::(10,.int .i64 ((a1:Int)))::u=L') _ G ⟨0,_,_,G,G,O,lE,G,G⟩ ?_;rintro _ ao _ _ ⟨a1,I,J,a8,rfl,O,ap,rfl,rfl⟩;refine g2 ?_;refine bS G (λY=>?_) (λY=>?_);obtain ⟨aq,ae,rfl,af,ag⟩:=gU a8 Y;have O:=(ac _ _ _ _).symm.trans O;generalize ah:a7 (a1+1) ae=ar at O;unfold sP at O;refine g2 ?_
 refine IB G G G G (gt ?_);refine gj ?_;exact kj (eb ag ah) (kK (cQ af ab));obtain rfl:=gT a8 Y;have O:=(ad _ _).symm.trans O;refine gs ?_;refine Ek [] 1 ?_;exact ef
theorem tV {a0:aG}{a1:bL}{I:RU}{v0 v1 v2 v3 v4 v5 v6 v7:RV}{r:Int} (O:n8 a0 a1 I=some r) (h0:aU H v0 a0.bP) (h1:aU H v1 a0.aT) (h2:aU H v2 a0.aL) (h3:aU H v3 a0.dI) (h4:aU H v4 a0.bM) (h5:aU H v5 a0.cB) (h6:aU H v6 a1.rA) (h7:aU H v7 a1.cH):
  Cq B w0 151 [.agg [v0,v1,v2,v3,v4,v5].toArray,.agg [v6,v7].toArray,.string (I)] H M (AE r):=by
 unfold n8 at O;refine gJ func151 ?_;refine gs ?_;refine bx (λZ=>?_);refine bx (λa5=>?_);refine gs ?_;obtain ⟨J,Y,O⟩:=aY O;obtain ⟨a6,a7,a8,O⟩:=aE O;refine oU fm 10 [aH,aH,aH,aH,aH,aH,aH,ph (.int .i64 (J)),aH,aH] ⟨om,om,om,om,om,om,om,?_,om,om,RW⟩ ?_;exact rk tt @cW Y;intro a9 aa;refine dz ?_;obtain ⟨ab,ac,ad,O⟩:=aE O;refine go ?_;refine Ek [] 2 ?_;exact ef
theorem BB {a0:aG}{v0 v1 v2 v3 v4 v5:RV}{r:(List cC)} (O:sq a0=some r) (h0:aU H v0 a0.bP) (h1:aU H v1 a0.aT) (h2:aU H v2 a0.aL) (h3:aU H v3 a0.dI) (h4:aU H v4 a0.bM) (h5:aU H v5 a0.cB):
  Cq B w0 150 [.agg [v0,v1,v2,v3,v4,v5].toArray] H M (λH M H' M' v=>H=H'/\∃ J:RV,∃ I:List RV,.row J 226 (aK.sz cC) r.length I::M=M'/\J=v/\tS J I r):=by
 unfold sq at O;refine gJ func150 ?_;refine gs ?_;refine bx (λbg=>?_);refine gs ?_;obtain ⟨a4,au,O⟩:=aY O;refine ca @qS au ?_;rintro _ _ _ ⟨rfl,af,ag,ah,ai,rfl,rfl,aj,ak⟩;have aj:=aj H;have ak:=ak H;refine al (λbh=>?_);refine wt 0 ?_;refine gs ?_;obtain ⟨bi,av,O⟩:=aY O;refine cz @Au av ?_;obtain ⟨am,O⟩:=aM O;refine gQ (α:=cC) (zs:=[.int .i64 (0),.int .i64 (0),.int .i64 (0)]) (ze:=(cC.mk 0 0 0)) G G underlying223 ⟨_,G,G,G,G⟩ G G G G G G am.1 am.2 ?_;intro a5 bj aw;refine g2 ?_;obtain ⟨an,ax,ay,O⟩:=dG O;refine cl [(1,_),(3,_),(4,_),(16,_),(17,_)] [1,1,1,1] 1 [] 0 (λu m n H' M' L'=>∃ (Y:Nat) (a6:List bK),∃ a7:List cC,∃ aa:List RV,(a0.dI).drop Y=a6/\a6.length=n/\an Y a6 a7=some r/\Rw H' a5 aa a7/\H.le H'/\.row a5 226 (aK.sz cC) a7.length aa::m=M'/\(18,.int .i64 ((Y:Int)))::u=L') _ G ⟨0,_,_,_,G,G,O,aw,lE,G,G⟩ ?_
 rintro _ az _ _ ⟨Y,a6,a7,aa,ao,rfl,O,b0,bk,rfl,rfl⟩;refine g2 ?_;refine bS G (λab=>?_) (λab=>?_);obtain ⟨ac,b1,rfl,b2,b3⟩:=gU ao ab;have O:=(ax _ _ _ _).symm.trans O;generalize b4:an (Y+1) b1=bl at O;unfold tW at O;refine g2 ?_;refine al (λbm=>?_);refine wt 0 ?_;refine gs ?_;refine Wp [3,3] ?_;obtain ⟨bn,b5,O⟩:=aY O;refine cY @tV b5 ?_;rintro _ _ _ ⟨rfl,⟨_,rfl,⟨_,rfl,rfl,rfl⟩⟩⟩;obtain ⟨a1,bo,bp,O⟩:=aE O;refine gs ?_;refine oU fm 6 [aH,aH,aH,aH,aH,aH] ⟨om,om,om,om,om,om,RW⟩ ?_;intro bq br;refine dz ?_;refine go ?_;refine wF 3 0 (cC.mk (i64.wrap (a1.kB+ac.kB)) a1.rB a1.dY) ?_;intro bs bt bu;refine go ?_;refine oU fm 6 [aH,aH,aH,aH,aH,aH] ⟨om,om,om,om,om,om,RW⟩ ?_;intro bv bw;refine dz ?_;refine go ?_;refine wF 0 1 (cC.mk (i64.wrap (a1.kB+ac.kB)) (i64.wrap (a1.rB+ac.rB)) a1.dY) ?_;intro bz c0 c1;refine gt ?_
 refine gj ?_;exact kx [0,3,0,0,1] 1 (eb b3 b4) G (kK (cQ b2 h3.mm.dN));obtain rfl:=gT ao ab;have O:=(ay _ _).symm.trans O;refine g2 ?_;obtain ⟨ap,b6,b7,O⟩:=dG O;refine cl [(1,_),(3,_),(4,_),(49,_),(50,_)] [1,1,1,1] 1 [] 0 (λu m n H' M' L'=>∃ (Z:Nat) (a8:List aI),∃ a9:List cC,∃ ad:List RV,(a0.bM).drop Z=a8/\a8.length=n/\ap Z a8 a9=some r/\Rw H' a5 ad a9/\az.le H'/\.row a5 226 (aK.sz cC) a9.length ad::m=M'/\(51,.int .i64 ((Z:Int)))::u=L') _ G ⟨0,_,_,_,G,G,O,b0,lE,G,G⟩ ?_;rintro _ c2 _ _ ⟨Z,a8,a9,ad,aq,rfl,O,c3,c4,rfl,rfl⟩;refine g2 ?_;refine bS G (λae=>?_) (λae=>?_);obtain ⟨b8,b9,rfl,ba,bb⟩:=gU aq ae;have O:=(b6 _ _ _ _).symm.trans O;generalize bc:ap (Z+1) b9=c5 at O;unfold tX at O;refine g2 ?_;refine al (λc6=>?_);refine wt 0 ?_;refine go ?_;obtain ⟨bd,be,O⟩:=aY O;obtain ⟨bf,c7,c8,O⟩:=aE O
 refine yF fm 11 [aH,aH,aH,aH,aH,(λH rs v=>[.row af 3 (aK.sz Int) a4.rA.length ag,.row ah 3 (aK.sz Int) a4.cH.length ai]=rs/\.int .i64 (bd)=v),aH,aH,aH,aH,aH] (sp 11 [(5,[11,12])]) (nn 11) [3,3] [0,1,2,3,4,5,6,7,8,9,10] G ⟨om,om,om,om,om,?_,om,om,om,om,om,RW⟩ ?_;intro HX hX X Rest hR;refine dr ?_;intro hU hUp;refine Wp [0,0] ?_;refine cY @tV be ?_;rintro _ _ _ ⟨rfl,⟨_,rfl,⟨_,rfl,rfl,rfl⟩⟩⟩;exact oe [.row af 3 (aK.sz Int) a4.rA.length ag,.row ah 3 (aK.sz Int) a4.cH.length ai] lE ⟨G,G⟩;intro c9 cb;refine dz ?_;refine Wp [0,0,0,0,0,0] ?_;refine go ?_;obtain ⟨ar,cc,ce,O⟩:=aE O;refine go ?_;refine wF 3 2 (cC.mk ar.kB ar.rB (i64.wrap (bf.dY+b8.dY))) ?_;intro cf cg ch;refine gt ?_;refine gj ?_;exact kx [0,3,0,0,1] 1 (eb bb bc) G (kK (cQ ba h4.mm.dN));obtain rfl:=gT aq ae;have O:=(b7 _ _).symm.trans O;refine gs ?_;refine Ek [0] 4 ?_
 exact ef
end Go.Sim
