/-
  The proof, part C1.
-/
import Derived.KernelRfl
import Derived.Shelf.Strconv.Itoa0
import Derived.Shelf.Strconv.Itoa1
import Derived.Shelf.LaysM
import Derived.Shelf.Strconv.Itoa2
import Derived.Shelf.Strconv.Itoa3
import Derived.Shelf.Strconv.Clone
import Derived.Shelf.Strconv.SyntaxError
import Derived.Shelf.LaysC
import Derived.Shelf.Strconv.ToError
import Derived.Shelf.Strconv.Lower
import Derived.Shelf.Strconv.ParseUint10
import Derived.Shelf.Strconv.ParseUint10Empty
import Derived.Shelf.Strconv.ParseUint10Any
import Derived.Shelf.Strconv.RangeError
import Derived.Shelf.Strconv.ToErrorRange
import Derived.Shelf.Strconv.ParseUintEmpty
import Derived.Shelf.Strconv.ParseUint10b64
import Derived.Shelf.Strconv.ParseUint10b32
import Derived.Shelf.Strconv.ParseUint10b16
import Derived.Shelf.Strconv.ParseUint10b8
import Derived.Test.YtkpbgofhndmbnaaGreatDoorProg
import Derived.Test.YtkpbgofhndmbnaaGreatDoorRows
import Derived.Test.YtkpbgofhndmbnaaGreatDoorSqA2
set_option linter.unusedVariables false
set_option linter.unusedSimpArgs false
set_option linter.unusedSectionVars false
set_option linter.unnecessarySimpa false
namespace Go.Sim
abbrev Tp := @Int.natCast_nonneg
abbrev SO := @List.Perm.refl
abbrev T4 := @List.length_eq_one_iff
abbrev Sf := @List.length_nil
abbrev TW := @Nat.and_two_pow_sub_one_eq_mod
abbrev Tk := @Go.Proofs.Tryz.isAgg29
abbrev Ui := @Go.Proofs.Tryz.runUnderlying206
abbrev TM := @Go.Proofs.Tryz.runUnderlying213
abbrev Rq := @Go.Proofs.Tryz.runUnderlying22
abbrev Sm := @Go.Proofs.Tryz.runUnderlying231
abbrev UZ := @Go.Proofs.Tryz.runUnderlying25
abbrev Tu := @Go.Proofs.Tryz.runUnderlying26
abbrev U1 := @Go.Proofs.Tryz.runUnderlying29
abbrev SA := @Go.Proofs.Tryz.runUnderlying3
abbrev Ud := @Go.Proofs.Tryz.runUnderlying4
abbrev UD := @Go.Proofs.Tryz.runUnderlying5
abbrev RS := @Go.Proofs.Tryz.runUnderlying80
abbrev Q4 := @Go.Proofs.Tryz.runUnderlying9
abbrev S_ := @Go.Proofs.Tryz.sizeOf29
abbrev R8 := @Go.Proofs.Tryz.sizeOf3
abbrev Sp := @Go.Proofs.Tryz.sizeOf9
abbrev S6 := @Go.Proofs.Tryz.underlying22
abbrev R5 := @Go.Proofs.Tryz.underlying80
abbrev SR := @Go.Proofs.Tryz.zeroValue3
abbrev Sx := @Go.Proofs.Tryz.zeroValue9
end Go.Sim
namespace Go.Sim
open Go
open _root_.Go.IntKind (i64 u64 u32 u8)
theorem G {α : Sort _} {a : α} : a = a := rfl
def Ay:Nat->List bQ->Option (bQ×List bQ)
 | _,[]=>none
 | 0,r::l=>some (r,l)
 | n+1,r::l=>match Ay n l with
  | some (s,l')=>some (s,r::l')
  | none=>none
theorem uO:∀ {n:Nat}{l:List bQ}{r:bQ}{l':List bQ},Ay n l=some (r,l')->l.Perm (r::l')
 | _,[],_,_,h=>by simp [Ay] at h
 | 0,s::l,r,l',h=>by simp only [Ay,QL,SG] at h; rw [h.1,h.2]
 | n+1,s::l,r,l',h=>by
  simp only [Ay] at h
  split at h
  ·rename_i q l2 e
   simp only [QL,SG] at h;obtain ⟨rfl,rfl⟩:=h;exact ((uO e).cons s).trans (List.Perm.swap _ _ _)
  ·cases h
def Ao:List Nat->List bQ->Option (List bQ)
 | [],l=>some l
 | i::J,l=>match Ay i l with
  | some (r,l')=>(match Ao J l' with
   | some I=>some (r::I)
   | none=>none)
  | none=>none
theorem w5:∀ {ix:List Nat}{l l':List bQ},Ao ix l=some l'->l.Perm l'
 | [],l,l',h=>by simp only [Ao,QL] at h; rw [h]
 | i::I,l,l',h=>by
  simp only [Ao] at h
  split at h
  ·rename_i r l1 e
   split at h
   ·rename_i l2 e2
    simp only [QL] at h;subst h;exact (uO e).trans ((w5 e2).cons r)
   ·cases h
  ·cases h
def EM:Nat->List bQ->Option (List bQ)
 | 0,l=>some l
 | _+1,[]=>none
 | n+1,_::l=>EM n l
theorem CH:∀ {n:Nat}{l l':List bQ},EM n l=some l'->l'.Sublist l
 | 0,l,l',h=>by simp only [EM,QL] at h; rw [h]; exact SI _
 | n+1,[],l',h=>by simp [EM] at h
 | n+1,r::l,l',h=>(CH (n:=n) (l:=l) h).cons r
def yv:List Nat->Nat->List bQ->Option (List bQ)
 | [],d,l=>EM d l
 | i::J,d,l=>match Ay i l with
  | some (r,l')=>(match yv J d l' with
   | some I=>some (r::I)
   | none=>none)
  | none=>none
theorem zY:∀ {ix:List Nat}{d:Nat}{l l':List bQ},yv ix d l=some l'->∃ k,l.Perm k/\l'.Sublist k
 | [],d,l,l',h=>⟨l,SO _,CH h⟩
 | i::J,d,l,l',h=>by
  simp only [yv] at h
  split at h
  ·rename_i r l1 e
   split at h
   ·rename_i l2 e2
    simp only [QL] at h;subst h;obtain ⟨k,I,hs⟩:=zY e2;exact ⟨r::k,(uO e).trans (I.cons r),hs.cons_cons r⟩
   ·cases h
  ·cases h
def KU:List Nat->List bQ->Option (List (List bQ)×List bQ)
 | [],l=>some ([],l)
 | i::J,l=>match Ay i l with
  | some (r,l')=>(match KU J l' with
   | some (I,m)=>some ([r]::I,m)
   | none=>none)
  | none=>none
theorem C0:∀ {ix:List Nat}{l:List bQ}{I:List (List bQ)}{m:List bQ},KU ix l=some (I,m)->l.Perm (I.flatten++m)
 | [],l,I,m,h=>by simp only [KU,QL,SG] at h; obtain ⟨rfl,rfl⟩:=h; exact SO _
 | i::J,l,I,m,h=>by
  simp only [KU] at h
  split at h
  ·rename_i r l1 e
   split at h
   ·rename_i I2 m2 e2
    simp only [QL,SG] at h;obtain ⟨rfl,rfl⟩:=h;simpa using (uO e).trans ((C0 e2).cons r)
   ·cases h
  ·cases h
section
variable {x:Cx}{ops:Array Oper}{Q:l8}{rest:List Oper}{H:Hp}{M M':List bQ}{L L':Env}{e:Exit}{c:Code}
theorem Wp (ix:List Nat) (k:W x ops Q rest H M' L) (h:Ao ix M=some M':=by rfl):W x ops Q rest H M L:=oB (w5 h) k
theorem Cp (ix:List Nat) (k:Sim.C x c Q H M' L) (h:Ao ix M=some M':=by rfl):Sim.C x c Q H M L:=AS (w5 h) k
theorem Ep (ix:List Nat) (k:E x e Q H M' L) (h:Ao ix M=some M':=by rfl):E x e Q H M L:=FE (w5 h) k
theorem Ek (ix:List Nat) (d:Nat) (k:E x e Q H M' L) (h:yv ix d M=some M':=by rfl):E x e Q H M L:=by
 obtain ⟨n,I,hs⟩:=zY h;exact FE I (IZ hs k)
theorem Ck (ix:List Nat) (d:Nat) (k:Sim.C x c Q H M' L) (h:yv ix d M=some M':=by rfl):Sim.C x c Q H M L:=by
 obtain ⟨n,I,hs⟩:=zY h;exact AS I (λa w s t=>k a w s (t.sub hs))
theorem kx (ix:List Nat) (d:Nat) (k:E x e Q H M' L') (h:yv ix d M=some M':=by rfl) (hL:Kept L L':=by repeat first | exact Qo | refine ⟨rfl,?_⟩):E x e Q H M L:=
 Ek ix d (C1 hL (SO _) k) h
theorem Pj (ix:List Nat) (d:Nat) (S:CA) (n:Nat) (I:S n H M' L') (step:∀ n H M L,S n H M L->Sim.C x c (Exit.then (IX x S n) Q) H M L) (h:yv ix d M=some M':=by rfl) (hL:Kept L L':=by repeat first | exact Qo | refine ⟨rfl,?_⟩):Sim.C x (.loop c) Q H M L:=
 Ck ix d (AQ hL (SO _) (AR S n I step)) h
end
def IE:Nat->Qn->List Qn->Option (List Qn)
 | _,_,[]=>none
 | 0,v,_::l=>some (v::l)
 | n+1,v,u::l=>match IE n v l with
  | some l'=>some (u::l')
  | none=>none
def Am:List Qn->Nat->List Qn->Option (List Qn)
 | l,_,[]=>some l
 | l,k,v::vs=>match IE k v l with
  | some l'=>Am l' (k+1) vs
  | none=>none
theorem HA:∀ {n:Nat}{v:Qn}{l l':List Qn},IE n v l=some l'->l.set n v=l'/\n<l.length
 | _,_,[],_,h=>by simp [IE] at h
 | 0,v,u::l,l',h=>by simp only [IE,QL] at h; subst h; exact ⟨rfl,by simp⟩
 | n+1,v,u::l,l',h=>by
  simp only [IE] at h
  split at h
  ·rename_i l2 e
   simp only [QL] at h;subst h;obtain ⟨I,J⟩:=HA e;exact ⟨by simp [I],by simp; omega⟩
  ·cases h
theorem BZ:∀ {vs:List Qn}{l:List Qn}{k:Nat}{l':List Qn},Am l k vs=some l'->over l k vs=l'/\(vs=[]\/k+vs.length<=l.length)
 | [],l,k,l',h=>by simp only [Am,QL] at h; subst h; exact ⟨rfl,.inl rfl⟩
 | v::vs,l,k,l',h=>by
  simp only [Am] at h
  split at h
  ·rename_i l2 e
   obtain ⟨I,Y⟩:=HA e;obtain ⟨O,J⟩:=BZ h;refine ⟨by simp only [over]; rw [I]; exact O,.inr ?_⟩
   have hl:l2.length=l.length:=by rw [<- I]; simp
   rcases J with rfl | J
   ·simp; omega
   ·simp only [QA]; omega
  ·cases h
section
variable {x:Cx}{ops:Array Oper}{Q:l8}{rest:List Oper}{H:Hp}{M M':List bQ}{L L':Env}{ty:TypeId}{pos:String}{aft:Array Edge}{g:Option (Nat×Bool)}
theorem ws (i:Nat) {T U n b o:Nat}{y z:Operand}{l cs out:List Qn}{v:Qn}{M1:List bQ} (Z:v.cells=cs.toArray)
  (k:W x ops Q rest H (.obj b (.cells out.toArray U (0,0))::M1) L)
  (h1:∀ c ∈ cs,c.oneCell'=true:=by repeat first | exact Se | refine cO rfl ?_)
  (hy:ev L y=some (.pointer (some ⟨b,o,none⟩)):=by rfl) (hz:ev L z=some v:=by rfl) (hM:Ay i M=some (.obj b (.cells l.toArray U (0,0)),M1):=by rfl)
  (Y:gd ops L ⟨none,.store T y z,ty,pos,aft,g⟩=some true:=by rfl) (hn:∀ w,(sizeOf T).run x.P w=.ok n w:=by exact λ_=>rfl) (hl:cs.length=n:=by rfl) (ho:Am l o cs=some out:=by rfl):
  W x ops Q (⟨none,.store T y z,ty,pos,aft,g⟩::rest) H M L:=by
 refine oB (uO hM) ?_;obtain ⟨I,J⟩:=BZ ho;rcases J with rfl | J
 ·have I:l=out:=I
  subst I;exact C_ rfl Y (λa w hs ht=>⟨w,by
   have O:n=0:=hl.symm;subst O;simp [execOp,hs.ev hy,hs.ev hz,Instr.storeAt,Instr.sureAddr,storeVar,hn,Z,storeCells],H,_,ht,k⟩)
 ·exact Da Y hn hy hz Z hl (by simpa [S8] using J) h1 I k
end
def Nj:Nat->List bQ->Option (List bQ)
 | 0,l=>some l
 | _+1,[]=>none
 | n+1,r::l=>match Nj n l with
  | some l'=>some (r::l')
  | none=>none
theorem F9:∀ {n:Nat}{l l':List bQ},Nj n l=some l'->l=l'
 | 0,l,l',h=>by simpa [Nj] using h
 | n+1,[],l',h=>by simp [Nj] at h
 | n+1,r::l,l',h=>by
  simp only [Nj] at h
  split at h
  ·rename_i l2 e
   simp only [QL] at h;subst h;rw [F9 e]
  ·cases h
section
variable {x:Cx}{ops:Array Oper}{Q:l8}{rest:List Oper}{H:Hp}{M M' M1:List bQ}{rs:List bQ}{L L':Env}{e:Exit}{c:Code}
theorem Wu (n:Nat) (k:W x ops Q rest H M' L) (h:M=eJ rs::M1:=by rfl) (I:Nj n (rs++M1)=some M':=by rfl):W x ops Q rest H M L:=λa w hs ht=>k a w hs (by rw [<- F9 I]; rw [h] at ht; exact ht.unpack)
theorem Cu (n:Nat) (k:Sim.C x c Q H M' L) (h:M=eJ rs::M1:=by rfl) (I:Nj n (rs++M1)=some M':=by rfl):Sim.C x c Q H M L:=λa w hs ht=>k a w hs (by rw [<- F9 I]; rw [h] at ht; exact ht.unpack)
theorem Wk (rs:List bQ) (k:W x ops Q rest H (eJ rs::M1) L) (h:rs++M1=M:=by rfl):W x ops Q rest H M L:=λa w hs ht=>k a w hs (by rw [<- h] at ht; exact ht.pack)
theorem xT (rs:List bQ) (k:E x e Q H (eJ rs::M1) L) (h:rs++M1=M:=by rfl):E x e Q H M L:=λa w hs ht=>k a w hs (by rw [<- h] at ht; exact ht.pack)
end
section
variable {x:Cx}{ops:Array Oper}{Q:l8}{rest:List Oper}{H:Hp}{M:List bQ}{L:Env}{e:Exit}{c:Code}
theorem uD (k:W x ops Q rest H M L):W x ops Q rest H M L:=k
theorem Om (k:E x e Q H M L):E x e Q H M L:=k
theorem Ol (k:Go.Sim.C x c Q H M L):Go.Sim.C x c Q H M L:=k
end
section
variable {x:Cx}{ops:Array Oper}{Q:l8}{rest:List Oper}{H:Hp}{M:List bQ}{L:Env}{d:Nat}{ty:TypeId}{pos:String}{aft:Array Edge}{g:Option (Nat×Bool)}
theorem fq {T:TypeId}{y:Operand}{ad:Addr}{f n o J O:Nat}{fs:Array Field}{nm tg pp:String}{em:Bool} (k:W x ops Q rest H M ((d,.pointer (some (ad.add o)))::L))
  (hy:ev L y=some (.pointer (some ad)):=by rfl) (Y:∀ w,(underlying T).run x.P w=.ok (.struct fs) w:=by exact λ_=>rfl) (Z:fs[f]? = some ⟨nm,J,o,em,tg,pp,O⟩:=by rfl) (hn:∀ w,(sizeOf J).run x.P w=.ok n w:=by exact λ_=>rfl)
  (I:Nat.beq n 0=false:=by rfl) (hg:gd ops L ⟨some d,.fieldAddr T y f,ty,pos,aft,g⟩=some true:=by rfl) (hN:Nat.blt d x.N=true:=by rfl):
  W x ops Q (⟨some d,.fieldAddr T y f,ty,pos,aft,g⟩::rest) H M L:=uy hg hN Y Z hn I rfl hy k
end
section
variable {x:Cx}{ops:Array Oper}{Q:l8}{rest:List Oper}{H:Hp}{M:List bQ}{L:Env}{d:Nat}{ty:TypeId}{pos:String}{aft:Array Edge}{g:Option (Nat×Bool)}{y z c:Operand}{T U:TypeId}{n:Nat}{o:Oper}{op:BinOp}{uo:UnOp}{tys:Array TypeId}{fn:Fn}{ys bs:Array Operand}
theorem On (k:W x ops Q (o::rest) H M L):W x ops Q (o::rest) H M L:=k
theorem p1 (k:W x ops Q (⟨some d,.move y,ty,pos,aft,g⟩::rest) H M L):W x ops Q (⟨some d,.move y,ty,pos,aft,g⟩::rest) H M L:=k
theorem p2 (k:W x ops Q (⟨some d,.assign y,ty,pos,aft,g⟩::rest) H M L):W x ops Q (⟨some d,.assign y,ty,pos,aft,g⟩::rest) H M L:=k
theorem p3 (k:W x ops Q (⟨some d,.fieldAddr T y n,ty,pos,aft,g⟩::rest) H M L):W x ops Q (⟨some d,.fieldAddr T y n,ty,pos,aft,g⟩::rest) H M L:=k
theorem p4 (k:W x ops Q (⟨some d,.load T y,ty,pos,aft,g⟩::rest) H M L):W x ops Q (⟨some d,.load T y,ty,pos,aft,g⟩::rest) H M L:=k
theorem p5 (k:W x ops Q (⟨some d,.binOp op T y z U,ty,pos,aft,g⟩::rest) H M L):W x ops Q (⟨some d,.binOp op T y z U,ty,pos,aft,g⟩::rest) H M L:=k
theorem p6 (k:W x ops Q (⟨some d,.pick c y z,ty,pos,aft,g⟩::rest) H M L):W x ops Q (⟨some d,.pick c y z,ty,pos,aft,g⟩::rest) H M L:=k
theorem p7 (k:W x ops Q (⟨some d,.extract y n,ty,pos,aft,g⟩::rest) H M L):W x ops Q (⟨some d,.extract y n,ty,pos,aft,g⟩::rest) H M L:=k
theorem p8 (k:W x ops Q (⟨some d,.nilCheck y,ty,pos,aft,g⟩::rest) H M L):W x ops Q (⟨some d,.nilCheck y,ty,pos,aft,g⟩::rest) H M L:=k
theorem p9 (k:W x ops Q (⟨some d,.unOp uo T y,ty,pos,aft,g⟩::rest) H M L):W x ops Q (⟨some d,.unOp uo T y,ty,pos,aft,g⟩::rest) H M L:=k
theorem pa (k:W x ops Q (⟨some d,.convert T U y,ty,pos,aft,g⟩::rest) H M L):W x ops Q (⟨some d,.convert T U y,ty,pos,aft,g⟩::rest) H M L:=k
theorem pb (k:W x ops Q (⟨some d,.makeFunc fn ys bs,ty,pos,aft,g⟩::rest) H M L):W x ops Q (⟨some d,.makeFunc fn ys bs,ty,pos,aft,g⟩::rest) H M L:=k
theorem pc (k:W x ops Q (⟨some d,.call ⟨.builtin .len,#[y],#[T]⟩,ty,pos,aft,g⟩::rest) H M L):W x ops Q (⟨some d,.call ⟨.builtin .len,#[y],#[T]⟩,ty,pos,aft,g⟩::rest) H M L:=k
theorem pg {j:Nat}{w:Bool}{J:Op}{I:Option Nat} (k:W x ops Q (⟨I,J,ty,pos,aft,some (j,w)⟩::rest) H M L):W x ops Q (⟨I,J,ty,pos,aft,some (j,w)⟩::rest) H M L:=k
end
abbrev ph (a:Qn):Hp->List bQ->Qn->Prop:=λ_ rs v=>[]=rs/\a=v
def nn (n:Nat):List (List Nat):=List.replicate n []
section
variable {x:Cx}{ops:Array Oper}{Q:l8}{H H':Hp}{M:List bQ}{L:Env}{t:Nat}{ps:Option Nat}{v:Qn}{φ:Hp->List bQ->Qn->Prop}
theorem o0 (h:φ H [] v):W x ops (C3 x H M L (some t) ps φ) [] H M ((t,v)::L):=bC (fU [] (Rk _) h)
theorem oe (rs:List bQ) (I:H.le H') (h:φ H' rs v):W x ops (C3 x H M L (some t) ps φ) [] H' (rs++M) ((t,v)::L):=bC (fU rs I h)
end
theorem dr {P Q:Prop} (k:Q) (h:Q->P:=by
  intro k
  repeat (rintro _ _ ⟨rfl,rfl⟩)
  exact k):P:=h k
theorem dz {P Q:Prop} (k:Q) (h:Q->P:=by
  intro k
  repeat (rintro _ _ ⟨rfl,rfl⟩)
  refine uD ?_;exact k):P:=h k
theorem ma {P:Prop} (h:P:=by
    repeat' first
      | exact Qo
      | exact gZ _ _
      | refine ⟨?_,?_⟩
      | (intro J O rs v I
         repeat' first
           | exact λh=>h
           | exact λh=>aQ.mono I h
           | exact λh=>Rw.mono I h
           | exact λh=>qA.mono I h
           | exact λh=>i_.mono I h
           | exact λh=>Mx.mono h I
           | refine Exists.imp (λ_=>?_)
           | refine And.imp ?_ ?_)):P:=h
theorem Pt {x:Cx}{l:List Oper}{Q:l8}{H:Hp}{M:List bQ}{L:Env}{id:Nat} (O:x.P.follows .mixedOrders=true) (m:Nat) (F:List (Hp->List bQ->Qn->Prop)) (C U:List (List Nat)) (I:List (List bQ)) (live:List Nat)
  (hop:xt x l (zw F) C U [] (El m I) H M L 0 (l.take m))
  (k:∀ H',H.le H'->wL l (zw F) H' (List.range m) L (El m I) (λL' R=>W x l.toArray Q (l.drop m) H' (ua live R M) L'))
  (hB:vi l m=true:=by kernel_rfl) (Z:Nat.ble m l.length=true:=by rfl) (hD:yJ l m L=true:=by rfl) (Y:yK l m=true:=by rfl)
  (hT:GG l m (m+I.length) C U live=true:=by kernel_rfl) (J:AV F:=by exact ma):Go.Sim.C x (.region id l.toArray true) Q H (I.flatten++M) L:=
 rL m (zw F) C U I live O hB Z hD Y hT (uP J) hop k
def O6:Nat->Nat->List (Nat×List Nat)->List (List Nat)
 | 0,_,_=>[]
 | n+1,i,[]=>[]::O6 n (i+1) []
 | n+1,i,(j,c)::l=>bif Nat.beq i j then c::O6 n (i+1) l else []::O6 n (i+1) ((j,c)::l)
def sp (n:Nat) (l:List (Nat×List Nat)):List (List Nat):=O6 n 0 l
theorem yw {x:Cx}{l:List Oper}{Q:l8}{H:Hp}{M Y:List bQ}{L:Env}{id:Nat}{I:List (List bQ)} (O:x.P.follows .mixedOrders=true) (m:Nat) (F:List (Hp->List bQ->Qn->Prop)) (C U:List (List Nat)) (ix live:List Nat)
  (hI:KU ix M=some (I,Y))
  (hop:xt x l (zw F) C U [] (El m I) H Y L 0 (l.take m))
  (k:∀ H',H.le H'->wL l (zw F) H' (List.range m) L (El m I) (λL' R=>W x l.toArray Q (l.drop m) H' (ua live R Y) L'))
  (hB:vi l m=true:=by kernel_rfl) (hml:Nat.ble m l.length=true:=by rfl) (hD:yJ l m L=true:=by rfl) (Z:yK l m=true:=by rfl)
  (hT:GG l m (m+I.length) C U live=true:=by kernel_rfl) (J:AV F:=by exact ma):Go.Sim.C x (.region id l.toArray true) Q H M L:=
 AS (C0 hI) (Pt O m F C U I live hop k hB hml hD Z hT J)
theorem pA {x:Cx}{l:List Oper}{Q:l8}{H:Hp}{M:List bQ}{L:Env}{id:Nat} (J:x.P.follows .mixedOrders=true) (m:Nat) (F:List (Hp->List bQ->Qn->Prop))
  (Z:xt x l (zw F) (nn m) (nn m) [] (El m []) H M L 0 (l.take m))
  (k:∀ H',H.le H'->wL l (zw F) H' (List.range m) L (El m []) (λL' R=>W x l.toArray Q (l.drop m) H' (ua (List.range m) R M) L'))
  (hB:vi l m=true:=by kernel_rfl) (Y:Nat.ble m l.length=true:=by rfl) (hD:yJ l m L=true:=by rfl) (O:yK l m=true:=by rfl)
  (hT:GG l m m (nn m) (nn m) (List.range m)=true:=by kernel_rfl) (I:AV F:=by exact ma):Go.Sim.C x (.region id l.toArray true) Q H M L:=
 rL m (zw F) (nn m) (nn m) [] (List.range m) J hB Y hD O hT (uP I) Z k
theorem cQ {α σ R:Type}{B:Nat->α->σ->(σ->Option R)->Option R}{K:σ->Option R}{l:List α}{s:σ}{r:Option R}{i:Nat} (h:dO B K i l s=r):
  ∃ F:Nat->List α->σ->Option R,(∀ i y ys s,F i (y::ys) s=B i y s (F (i+1) ys))/\(∀ i s,F i [] s=K s)/\F i l s=r:=⟨dO B K,λ_ _ _ _=>rfl,λ_ _=>rfl,h⟩
theorem jP {σ R:Type}{B:Nat->σ->(σ->Option R)->Option R}{K:σ->Option R}{m:Nat}{s:σ}{r:Option R}{i:Nat} (h:kW B K m i s=r):
  ∃ F:Nat->Nat->σ->Option R,(∀ m i s,F (m+1) i s=B i s (F m (i+1)))/\(∀ i s,F 0 i s=K s)/\F m i s=r:=⟨kW B K,λ_ _ _=>rfl,λ_ _=>rfl,h⟩
theorem kG {σ R:Type}{B:σ->(σ->Option R)->Option R}{m:Nat}{s:σ}{r:Option R} (h:iL B m s=r):
  ∃ F:Nat->σ->Option R,(∀ m s,F (m+1) s=B s (F m))/\(∀ s,F 0 s=none)/\F m s=r:=⟨iL B,λ_ _=>rfl,λ_=>rfl,h⟩
section
variable {x:Cx}{Q:l8}{H:Hp}{M M':List bQ}{L L':Env}{e:Exit}{c:Code}
theorem kj (k:E x e Q H M L') (hL:Kept L L':=by repeat first | exact Qo | refine ⟨rfl,?_⟩):E x e Q H M L:=C1 hL (SO _) k
theorem kp (k:E x e Q H M' L') (I:M.Perm M') (hL:Kept L L':=by repeat first | exact Qo | refine ⟨rfl,?_⟩):E x e Q H M L:=C1 hL I k
theorem M8 (S:CA) (n:Nat) (I:S n H M L') (step:∀ n H M L,S n H M L->Go.Sim.C x c (Exit.then (IX x S n) Q) H M L) (hL:Kept L L':=by repeat first | exact Qo | refine ⟨rfl,?_⟩):Go.Sim.C x (.loop c) Q H M L:=
 AQ hL (SO _) (AR S n I step)
theorem cj {m:List bQ}{d:Code} (u:Env) (ix:List Nat) (e:Nat) (S:Env->List bQ->N4) (rest:∀ H M L,S u m H M L->Go.Sim.C x d Q H M L)
  (k:(∀ H M L,S u m H M L->E x .normal (Exit.then (d.wp x.P Q) Q) H M L)->Go.Sim.C x c (Exit.then (d.wp x.P Q) Q) H M L) (hm:yv ix e M=some m:=by rfl) (I:Kept L u:=by repeat first | exact Qo | refine ⟨rfl,?_⟩):Go.Sim.C x (.seq c d) Q H M L:=
 r7 (S u m) rest k
theorem cl {m:List bQ} (u:Env) (J:List Nat) (e:Nat) (ix:List Nat) (d:Nat) (S:Env->List bQ->CA) (n:Nat) (hm:yv J e M=some m) (I:S u m n H M' L') (step:∀ n H M L,S u m n H M L->Go.Sim.C x c (Exit.then (IX x (S u m) n) Q) H M L)
  (h:yv ix d M=some M':=by rfl) (O:Kept L u:=by repeat first | exact Qo | refine ⟨rfl,?_⟩) (hL:Kept L L':=by repeat first | exact Qo | refine ⟨rfl,?_⟩):Go.Sim.C x (.loop c) Q H M L:=
 Pj ix d (S u m) n I step h hL
theorem cd {α:Type}{o:Operand}{p q:Code}{b:Bool}{u v r:α} (hm:(if b=true then u else v)=r) (I:ev L o=some (.bool b)) (J:b=true->u=r->Go.Sim.C x p Q H M L) (O:b=false->v=r->Go.Sim.C x q Q H M L):Go.Sim.C x (.cond o p q) Q H M L:=
 bI I (λh=>J h (eQ h hm)) (λh=>O h (eP h hm))
theorem cT {o:Operand}{p q:Code} (I:ev L o=some (.bool true)) (k:Go.Sim.C x p Q H M L):Go.Sim.C x (.cond o p q) Q H M L:=bI I (λ_=>k) (λh=>Bool.noConfusion h)
theorem cF {o:Operand}{p q:Code} (I:ev L o=some (.bool false)) (k:Go.Sim.C x q Q H M L):Go.Sim.C x (.cond o p q) Q H M L:=bI I (λh=>Bool.noConfusion h) (λ_=>k)
end
theorem sb {a b:Bool} (h:a=b):some (Value.bool a)=some (Value.bool b):=by rw [h]
theorem PD:(∀ b,(b && true)=b)/\(∀ b,(true && b)=b)/\(∀ b,(false && b)=false)/\(∀ b,(b && false)=false)/\(∀ b,(b || true)=true)/\(∀ b,(true || b)=true)/\(∀ b,(b || false)=b)/\(∀ b,(false || b)=b)/\(!true)=false/\(!false)=true/\(∀ α:Type,(none:Option α).isNone=true)/\(∀ (α:Type) (a:α),(some a).isNone=false):=by
 refine ⟨?_,?_,?_,?_,?_,?_,?_,?_,rfl,rfl,λ_=>rfl,λ_ _=>rfl⟩ <;> intro b <;> cases b <;> rfl
section
variable {x:Cx}{ops:Array Oper}{Q:l8}{rest:List Oper}{H:Hp}{M:List bQ}{L:Env}{d:Nat}{ty:TypeId}{pos:String}{aft:Array Edge}{g:Option (Nat×Bool)}
theorem lo {T b i U:Nat}{fz:Nat×Nat}{y:Operand}{l:List Qn}{v:Qn} (I:∀ w,(isAgg T).run x.P w=.ok false w) (Y:ev L y=some (.pointer (some ⟨b,i,none⟩))) (hm:bQ.obj b (.cells l.toArray U fz) ∈ M) (J:l[i]? = some v)
  (k:W x ops Q rest H M ((d,v)::L)) (O:gd ops L ⟨some d,.load T y,ty,pos,aft,g⟩=some true:=by rfl) (hN:Nat.blt d x.N=true:=by rfl):W x ops Q (⟨some d,.load T y,ty,pos,aft,g⟩::rest) H M L:=
 qF O hN I Y (vT hm J) k
theorem la {T b U n:Nat}{fz:Nat×Nat}{y:Operand}{l:List Qn} (I:∀ w,(isAgg T).run x.P w=.ok true w) (hn:∀ w,(sizeOf T).run x.P w=.ok n w) (O:ev L y=some (.pointer (some ⟨b,0,none⟩))) (hm:bQ.obj b (.cells l.toArray U fz) ∈ M) (hl:l.length=n)
  (k:W x ops Q rest H M ((d,.agg l.toArray)::L)) (J:gd ops L ⟨some d,.load T y,ty,pos,aft,g⟩=some true:=by rfl) (hN:Nat.blt d x.N=true:=by rfl):W x ops Q (⟨some d,.load T y,ty,pos,aft,g⟩::rest) H M L:=
 iG J hN I hn O (DM hm) hl k
theorem fi {T:TypeId}{y:Operand}{ad:Addr}{f n:Nat}{fs:Array Field}{I:Field} (o:Nat) (O:∀ w,(underlying T).run x.P w=.ok (.struct fs) w) (Y:fs[f]? = some I) (hn:∀ w,(sizeOf I.type).run x.P w=.ok n w) (hy:ev L y=some (.pointer (some ad)))
  (k:W x ops Q rest H M ((d,.pointer (some (ad.add o)))::L)) (ho:I.offset=o:=by rfl) (J:Nat.beq n 0=false:=by rfl) (Z:gd ops L ⟨some d,.fieldAddr T y f,ty,pos,aft,g⟩=some true:=by rfl) (hN:Nat.blt d x.N=true:=by rfl):
  W x ops Q (⟨some d,.fieldAddr T y f,ty,pos,aft,g⟩::rest) H M L:=uy Z hN O Y hn J ho hy k
end
theorem lE {H H':Hp} (h:H.le H':=by first | exact Rk _ | assumption | ((repeat first | assumption | exact Rk _ | refine Uk ?_ (by assumption)); done)):H.le H':=h
section
variable {α:Type}[aG α] {H H':Hp}{v:Qn}{xs:List Qn}{l:List α}{ad:Addr}
theorem aQ.mm (h:aQ H v l) (e:H.le H':=by exact lE):aQ H' v l:=aQ.mono e h
theorem Rw.mm (h:Rw H v xs l) (e:H.le H':=by exact lE):Rw H' v xs l:=Rw.mono e h
theorem qA.mm (h:qA H xs l) (e:H.le H':=by exact lE):qA H' xs l:=qA.mono e h
theorem i_.mm (h:i_ H ad xs) (e:H.le H':=by exact lE):i_ H' ad xs:=i_.mono e h
theorem Mx.mm {T1 T2:TypeId}{hs:List Qn}{mx:List bQ}{sg:List Nat}{ls:List (List α)} (h:Mx T1 T2 H v hs mx sg ls) (e:H.le H':=by exact lE):Mx T1 T2 H' v hs mx sg ls:=Mx.mono h e
end
section
variable {x:Cx}{ops:Array Oper}{Q:l8}{rest:List Oper}{H H0:Hp}{M:List bQ}{L:Env}{d:Nat}{ty:TypeId}{pos:String}{aft:Array Edge}{g:Option (Nat×Bool)}{ee:Exit}
theorem Ew (H0:Hp) (k:E x ee Q H0 M L) (h:H0.le H:=by exact lE):E x ee Q H M L:=FF h k
theorem AK {α:Type}[aG α] {t e:TypeId}{y z:Operand}{v:Qn}{xs:List α}{el:α}{kk:IntKind}{i:Int}{n:Nat} (hR:aQ H0 v xs) (he:xs[n]? = some el)
  (k:W x ops Q rest H M ((d,.pointer (some ((Value.base v).add (i.toNat*aG.sz α))))::L)) (I:H0.le H:=by exact lE) (Z:ev L y=some v:=by rfl) (hz:ev L z=some (.int kk i):=by rfl) (hn:i.toNat=n:=by rfl)
  (J:0<=i:=by first | exact Tp _ | assumption | decide) (O:∀ w,(underlying t).run x.P w=.ok (.slice e) w:=by exact λ_=>rfl) (hs:∀ w,(sizeOf e).run x.P w=.ok (aG.sz α) w:=by exact λ_=>rfl)
  (Y:gd ops L ⟨some d,.indexAddr t y z,ty,pos,aft,g⟩=some true:=by rfl) (hN:Nat.blt d x.N=true:=by rfl):W x ops Q (⟨some d,.indexAddr t y z,ty,pos,aft,g⟩::rest) H M L:=
 Ez Y hN O hs Z (aQ.mono I hR) hz J (by rw [hn]; exact he) k
theorem lr {α:Type}[aG α] {t e:TypeId}{y:Operand}{v:Qn}{xs:List α} (hR:aQ H0 v xs) (k:W x ops Q rest H M ((d,.int .i64 xs.length)::L)) (I:H0.le H:=by exact lE) (Y:ev L y=some v:=by rfl)
  (J:∀ w,(underlying t).run x.P w=.ok (.slice e) w:=by exact λ_=>rfl) (O:gd ops L ⟨some d,.call ⟨.builtin .len,#[y],#[t]⟩,ty,pos,aft,g⟩=some true:=by rfl) (hN:Nat.blt d x.N=true:=by rfl):
  W x ops Q (⟨some d,.call ⟨.builtin .len,#[y],#[t]⟩,ty,pos,aft,g⟩::rest) H M L:=Jg O hN J Y (aQ.mono I hR) k
theorem ub {α:Type}{v:Qn}{T:TypeId}{sz n:Nat}{xs:List Qn}{t e:TypeId}{y z:Operand}{kk:IntKind}{i:Int}{l:List α}{el:α} (he:l[n]? = some el)
  (k:W x ops Q rest H M ((d,.pointer (some ((Value.base v).add (i.toNat*sz))))::L)) (Y:ev L y=some v:=by rfl) (Z:ev L z=some (.int kk i):=by rfl) (hn:i.toNat=n:=by rfl)
  (hm:bQ.row v T sz l.length xs ∈ M:=by first | ((repeat first | exact List.Mem.head _ | refine List.Mem.tail _ ?_); done) | (refine hR _ ?_; (repeat first | exact List.Mem.head _ | refine List.Mem.tail _ ?_); done) | (refine hU _ ?_; (repeat first | exact List.Mem.head _ | refine List.Mem.tail _ ?_); done))
  (I:0<=i:=by first | exact Tp _ | assumption | decide) (J:∀ w,(underlying t).run x.P w=.ok (.slice e) w:=by exact λ_=>rfl) (hs:∀ w,(sizeOf e).run x.P w=.ok sz w:=by exact λ_=>rfl)
  (O:gd ops L ⟨some d,.indexAddr t y z,ty,pos,aft,g⟩=some true:=by rfl) (hN:Nat.blt d x.N=true:=by rfl):W x ops Q (⟨some d,.indexAddr t y z,ty,pos,aft,g⟩::rest) H M L:=
 y9 hm O hN J hs Y Z I (by rw [hn]; exact (Qt.1 he).1) k
theorem lh {T:TypeId}{y:Operand}{ad:Addr}{cs:List Qn}{v:Qn} (O:i_ H0 ad cs) (o:Nat) (k:W x ops Q rest H M ((d,v)::L)) (I:H0.le H:=by exact lE) (hy:ev L y=some (.pointer (some (ad.add o))):=by rfl) (Z:cs[o]? = some v:=by rfl)
  (J:∀ w,(isAgg T).run x.P w=.ok false w:=by exact λ_=>rfl) (Y:gd ops L ⟨some d,.load T y,ty,pos,aft,g⟩=some true:=by rfl) (hN:Nat.blt d x.N=true:=by rfl):W x ops Q (⟨some d,.load T y,ty,pos,aft,g⟩::rest) H M L:=
 qF Y hN J hy (i_.one (i_.mono I O) o Z).at k
theorem Oq {T:TypeId}{n:Nat}{y:Operand}{ad:Addr}{cs:List Qn} (O:i_ H0 ad cs) (k:W x ops Q rest H M ((d,.agg cs.toArray)::L)) (I:H0.le H:=by exact lE) (Z:ev L y=some (.pointer (some ad)):=by rfl)
  (J:∀ w,(isAgg T).run x.P w=.ok true w:=by exact λ_=>rfl) (hn:∀ w,(sizeOf T).run x.P w=.ok n w:=by exact λ_=>rfl) (hl:cs.length=n:=by rfl) (Y:gd ops L ⟨some d,.load T y,ty,pos,aft,g⟩=some true:=by rfl) (hN:Nat.blt d x.N=true:=by rfl):
  W x ops Q (⟨some d,.load T y,ty,pos,aft,g⟩::rest) H M L:=iG Y hN J hn Z (i_.mono I O).at hl k
theorem yt {T U:TypeId}{y:Operand}{v w:Qn}{sz n i:Nat}{xs cs:List Qn} (J:∀ j u,cs[j]? = some u->xs[i+j]? = some u) (k:W x ops Q rest H M ((d,w)::L)) (Z:ev L y=some (.pointer (some ((Value.base v).add i))):=by rfl)
  (hm:bQ.row v U sz n xs ∈ M:=by first | ((repeat first | exact List.Mem.head _ | refine List.Mem.tail _ ?_); done) | (refine hR _ ?_; (repeat first | exact List.Mem.head _ | refine List.Mem.tail _ ?_); done) | (refine hU _ ?_; (repeat first | exact List.Mem.head _ | refine List.Mem.tail _ ?_); done))
  (O:cs[0]? = some w:=by rfl) (I:∀ w,(isAgg T).run x.P w=.ok false w:=by exact λ_=>rfl) (Y:gd ops L ⟨some d,.load T y,ty,pos,aft,g⟩=some true:=by rfl) (hN:Nat.blt d x.N=true:=by rfl):
  W x ops Q (⟨some d,.load T y,ty,pos,aft,g⟩::rest) H M L:=qF Y hN I Z (B4 hm J O) k
theorem PL {T U:TypeId}{m:Nat}{y:Operand}{v:Qn}{sz n i:Nat}{xs cs:List Qn} (J:∀ j u,cs[j]? = some u->xs[i+j]? = some u) (k:W x ops Q rest H M ((d,.agg cs.toArray)::L)) (Y:ev L y=some (.pointer (some ((Value.base v).add i))):=by rfl)
  (hm:bQ.row v U sz n xs ∈ M:=by first | ((repeat first | exact List.Mem.head _ | refine List.Mem.tail _ ?_); done) | (refine hR _ ?_; (repeat first | exact List.Mem.head _ | refine List.Mem.tail _ ?_); done) | (refine hU _ ?_; (repeat first | exact List.Mem.head _ | refine List.Mem.tail _ ?_); done))
  (I:∀ w,(isAgg T).run x.P w=.ok true w:=by exact λ_=>rfl) (hn:∀ w,(sizeOf T).run x.P w=.ok m w:=by exact λ_=>rfl) (hl:cs.length=m:=by rfl) (O:gd ops L ⟨some d,.load T y,ty,pos,aft,g⟩=some true:=by rfl) (hN:Nat.blt d x.N=true:=by rfl):
  W x ops Q (⟨some d,.load T y,ty,pos,aft,g⟩::rest) H M L:=iG O hN I hn Y (x9 hm J) hl k
theorem bx {T:TypeId}{y:Operand}{v:Qn}{cs:List Qn} (k:∀ b,W x ops Q rest H (.obj b (.cells cs.toArray T (0,0))::M) ((d,.pointer (some ⟨b,0,none⟩))::L)) (O:ev L y=some v:=by rfl)
  (I:v.cells=cs.toArray:=by first | exact aQ.cells (by assumption) | exact Rw.cells (by assumption) | rfl) (J:gd ops L ⟨some d,.box T y,ty,pos,aft,g⟩=some true:=by rfl) (hN:Nat.blt d x.N=true:=by rfl):
  W x ops Q (⟨some d,.box T y,ty,pos,aft,g⟩::rest) H M L:=N8 J hN O I k
theorem al {T:TypeId}{z:Qn}{cs:List Qn} (k:∀ b,W x ops Q rest H (.obj b (.cells cs.toArray T (0,0))::M) ((d,.pointer (some ⟨b,0,none⟩))::L))
  (O:∀ w,(zeroValue T).run x.P w=.ok z w:=by exact λ_=>rfl) (I:z.cells=cs.toArray:=by rfl) (J:gd ops L ⟨some d,.alloc T,ty,pos,aft,g⟩=some true:=by rfl) (hN:Nat.blt d x.N=true:=by rfl):
  W x ops Q (⟨some d,.alloc T,ty,pos,aft,g⟩::rest) H M L:=Lb J hN O I k
theorem wt (i:Nat) {T U n b o:Nat}{y z:Operand}{l cs out:List Qn}{v:Qn}{I:List bQ}
  (k:W x ops Q rest H (.obj b (.cells out.toArray U (0,0))::I) L) (hy:ev L y=some (.pointer (some ⟨b,o,none⟩)):=by rfl) (hz:ev L z=some v:=by rfl)
  (hv:v.cells=cs.toArray:=by first | exact aQ.cells (by assumption) | exact Rw.cells (by assumption) | rfl)
  (J:∀ c ∈ cs,c.oneCell'=true:=by repeat first | exact Se | refine cO rfl ?_ | refine cO (aQ.po (by assumption)) ?_ | refine cO (Rw.one (by assumption)) ?_)
  (O:Ay i M=some (.obj b (.cells l.toArray U (0,0)),I):=by rfl)
  (Y:gd ops L ⟨none,.store T y z,ty,pos,aft,g⟩=some true:=by rfl) (hn:∀ w,(sizeOf T).run x.P w=.ok n w:=by exact λ_=>rfl) (hl:cs.length=n:=by rfl) (Z:Am l o cs=some out:=by rfl):
  W x ops Q (⟨none,.store T y z,ty,pos,aft,g⟩::rest) H M L:=ws i hv k J hy hz O Y hn hl Z
theorem wr {α:Type}[aG α] (i o:Nat) {T U m:Nat}{y z:Operand}{v u:Qn}{xs c cs out:List Qn}{l:List α}{e:α}{I:Nat}{M1:List bQ}{ad:Addr} (e2:α) (h:Rw H0 v xs l) (he:l[I]? = some e) (Z:∀ j w,c[j]? = some w->xs[I*aG.sz α+j]? = some w)
  (hc:aG.E H c e) (hE:aG.E H out e2)
  (k:∀ sA,Rw H v sA (l.set I e2)->(l.set I e2)[I]? = some e2->(∀ j w,out[j]? = some w->sA[I*aG.sz α+j]? = some w)->W x ops Q rest H (.row v U (aG.sz α) (l.set I e2).length sA::M1) L)
  (hle:H0.le H:=by exact lE) (hy:ev L y=some (.pointer (some ad)):=by rfl) (O:ad=(Value.base v).add (I*aG.sz α+o):=by first | exact Hy _ _ | exact KG _ _ _) (hz:ev L z=some u:=by rfl)
  (hv:u.cells=cs.toArray:=by first | exact aQ.cells (by assumption) | exact Rw.cells (by assumption) | rfl)
  (h1:∀ c ∈ cs,c.oneCell'=true:=by repeat first | exact Se | refine cO rfl ?_ | refine cO (aQ.po (by assumption)) ?_ | refine cO (Rw.one (by assumption)) ?_)
  (hM:Ay i M=some (.row v U (aG.sz α) l.length xs,M1):=by rfl) (hg:gd ops L ⟨none,.store T y z,ty,pos,aft,g⟩=some true:=by rfl) (hn:∀ w,(sizeOf T).run x.P w=.ok m w:=by exact λ_=>rfl) (hl:cs.length=m:=by rfl)
  (ho:Am c o cs=some out:=by rfl) (hb:Nat.ble (o+cs.length) c.length=true:=by rfl) (Y:Nat.ble (o+cs.length) (aG.sz α)=true:=by rfl) (J:Nat.blt 0 cs.length=true:=by rfl):
  W x ops Q (⟨none,.store T y z,ty,pos,aft,g⟩::rest) H M L:=by
 have h':=Rw.mono hle h;obtain ⟨ho1,_⟩:=BZ ho;obtain ⟨p1,p2,p3⟩:=Rw.put h' he hc Z hb ho1 hE;refine oB (uO hM) ?_;refine HM (n':=(l.set I e2).length) hg hn hy O hz hv hl (Rw.room h' he Y) J h1 RM ?_;exact k _ p1 p2 p3
end
class wH (α:Type) [aG α] where
 cs:α->List Qn
 eq:∀ {H c x},aG.E H c x->c=cs x
instance:wH Int:=⟨λn=>[.int .i64 n],λh=>h⟩
instance:wH Bool:=⟨λb=>[.bool b],λh=>h⟩
instance:wH Qm:=⟨λs=>[.string s],λh=>h⟩
instance:wH U8:=⟨λn=>[.int .u8 n.n],λh=>h⟩
instance:wH O3:=⟨λn=>[.int .u16 n.n],λh=>h⟩
instance:wH bU:=⟨λn=>[.int .u32 n.n],λh=>h⟩
instance:wH CB:=⟨λn=>[.int .u64 n.n],λh=>h⟩
instance:wH O1:=⟨λn=>[.int .i32 n.n],λh=>h⟩
def M_:List Qn->Option (List Qn)
 | []=>some []
 | v::l=>match M_ l with
  | some m=>some (v::m)
  | none=>none
theorem Dj:∀ {l m:List Qn},M_ l=some m->l=m
 | [],m,h=>by simpa [M_] using h
 | v::l,m,h=>by
  simp only [M_] at h
  split at h
  ·rename_i k e
   simp only [QL] at h;rw [Dj e,h]
  ·cases h
theorem mA {P:Prop} (h:P:=by
  first
   | ((repeat first | exact List.Mem.head _ | refine List.Mem.tail _ ?_); done)
   | (refine hR _ ?_; (repeat first | exact List.Mem.head _ | refine List.Mem.tail _ ?_); done)
   | (refine hU _ ?_; (repeat first | exact List.Mem.head _ | refine List.Mem.tail _ ?_); done)):P:=h
section
variable {x:Cx}{ops:Array Oper}{Q:l8}{rest:List Oper}{H H0:Hp}{M:List bQ}{L:Env}{d:Nat}{ty:TypeId}{pos:String}{aft:Array Edge}{g:Option (Nat×Bool)}{y z:Operand}{T U:TypeId}
theorem P4 {t:TypeId} (k:W x ops Q (⟨some d,.indexAddr t y z,ty,pos,aft,g⟩::rest) H M L):W x ops Q (⟨some d,.indexAddr t y z,ty,pos,aft,g⟩::rest) H M L:=k
theorem iA {α:Type}{iR:aG α}{t e:TypeId}{v:Qn}{xs:List α}{el:α}{kk:IntKind}{i:Int} (k:W x ops Q rest H M ((d,.pointer (some ((Value.base v).add (i.toNat*aG.sz α))))::L))
  (Z:ev L y=some v:=by rfl) (hz:ev L z=some (.int kk i):=by rfl) (hR:aQ H0 v xs:=by with_reducible assumption) (he:xs[i.toNat]? = some el:=by first | with_reducible assumption | assumption) (I:H0.le H:=by exact lE)
  (J:0<=i:=by first | exact Tp _ | assumption | decide) (O:∀ w,(underlying t).run x.P w=.ok (.slice e) w:=by exact λ_=>rfl) (hs:∀ w,(sizeOf e).run x.P w=.ok (aG.sz α) w:=by exact λ_=>rfl)
  (Y:gd ops L ⟨some d,.indexAddr t y z,ty,pos,aft,g⟩=some true:=by rfl) (hN:Nat.blt d x.N=true:=by rfl):W x ops Q (⟨some d,.indexAddr t y z,ty,pos,aft,g⟩::rest) H M L:=
 Ez Y hN O hs Z (aQ.mono I hR) hz J he k
theorem iO {α:Type}{v:Qn}{sz:Nat}{xs:List Qn}{t e:TypeId}{kk:IntKind}{i:Int}{l:List α}{el:α}
  (k:W x ops Q rest H M ((d,.pointer (some ((Value.base v).add (i.toNat*sz))))::L)) (Y:ev L y=some v:=by rfl) (Z:ev L z=some (.int kk i):=by rfl)
  (hm:bQ.row v T sz l.length xs ∈ M:=by exact mA) (he:l[i.toNat]? = some el:=by first | with_reducible assumption | assumption)
  (I:0<=i:=by first | exact Tp _ | assumption | decide) (J:∀ w,(underlying t).run x.P w=.ok (.slice e) w:=by exact λ_=>rfl) (hs:∀ w,(sizeOf e).run x.P w=.ok sz w:=by exact λ_=>rfl)
  (O:gd ops L ⟨some d,.indexAddr t y z,ty,pos,aft,g⟩=some true:=by rfl) (hN:Nat.blt d x.N=true:=by rfl):W x ops Q (⟨some d,.indexAddr t y z,ty,pos,aft,g⟩::rest) H M L:=
 y9 hm O hN J hs Y Z I (Qt.1 he).1 k
theorem nA {α:Type}{Z:aG α}{e:TypeId}{v:Qn}{xs:List α} (k:W x ops Q rest H M ((d,.int .i64 xs.length)::L)) (Y:ev L y=some v:=by rfl) (hR:aQ H0 v xs:=by with_reducible assumption) (I:H0.le H:=by exact lE)
  (J:∀ w,(underlying T).run x.P w=.ok (.slice e) w:=by exact λ_=>rfl) (O:gd ops L ⟨some d,.call ⟨.builtin .len,#[y],#[T]⟩,ty,pos,aft,g⟩=some true:=by rfl) (hN:Nat.blt d x.N=true:=by rfl):
  W x ops Q (⟨some d,.call ⟨.builtin .len,#[y],#[T]⟩,ty,pos,aft,g⟩::rest) H M L:=Jg O hN J Y (aQ.mono I hR) k
theorem PR {ad:Addr}{cs:List Qn}{v:Qn}{o:Nat} (k:W x ops Q rest H M ((d,v)::L)) (hy:ev L y=some (.pointer (some (ad.add o))):=by rfl) (O:i_ H0 ad cs:=by first | with_reducible assumption | assumption) (Z:cs[o]? = some v:=by rfl)
  (J:∀ w,(isAgg T).run x.P w=.ok false w:=by exact λ_=>rfl) (I:H0.le H:=by exact lE) (Y:gd ops L ⟨some d,.load T y,ty,pos,aft,g⟩=some true:=by rfl) (hN:Nat.blt d x.N=true:=by rfl):
  W x ops Q (⟨some d,.load T y,ty,pos,aft,g⟩::rest) H M L:=qF Y hN J hy (i_.one (i_.mono I O) o Z).at k
theorem PQ {ad:Addr}{cs:List Qn}{v:Qn} (k:W x ops Q rest H M ((d,v)::L)) (hy:ev L y=some (.pointer (some ad)):=by rfl) (O:i_ H0 ad cs:=by first | with_reducible assumption | assumption) (Z:cs[0]? = some v:=by rfl)
  (J:∀ w,(isAgg T).run x.P w=.ok false w:=by exact λ_=>rfl) (I:H0.le H:=by exact lE) (Y:gd ops L ⟨some d,.load T y,ty,pos,aft,g⟩=some true:=by rfl) (hN:Nat.blt d x.N=true:=by rfl):
  W x ops Q (⟨some d,.load T y,ty,pos,aft,g⟩::rest) H M L:=qF Y hN J hy (i_.one (i_.mono I O) 0 Z).at k
theorem PS {ad:Addr}{cs:List Qn}{n:Nat} (k:W x ops Q rest H M ((d,.agg cs.toArray)::L)) (Z:ev L y=some (.pointer (some ad)):=by rfl) (O:i_ H0 ad cs:=by first | with_reducible assumption | assumption)
  (J:∀ w,(isAgg T).run x.P w=.ok true w:=by exact λ_=>rfl) (hn:∀ w,(sizeOf T).run x.P w=.ok n w:=by exact λ_=>rfl) (hl:cs.length=n:=by rfl) (I:H0.le H:=by exact lE) (Y:gd ops L ⟨some d,.load T y,ty,pos,aft,g⟩=some true:=by rfl) (hN:Nat.blt d x.N=true:=by rfl):
  W x ops Q (⟨some d,.load T y,ty,pos,aft,g⟩::rest) H M L:=iG Y hN J hn Z (i_.mono I O).at hl k
theorem zO {α:Type}[aG α] [wH α] {v0:Qn}{xs:List α}{el:α}{n:Nat} (hR:aQ H0 v0 xs) (he:xs[n]? = some el):i_ H0 ((Value.base v0).add (n*aG.sz α)) (wH.cs el):=by
 obtain ⟨c,I,J⟩:=aQ.elem hR he;rw [<- wH.eq I]; exact J
theorem AH {α:Type}[aG α] [wH α] {v0:Qn}{xs:List Qn}{l:List α}{el:α}{n:Nat} (hR:Rw H0 v0 xs l) (he:l[n]? = some el):∀ j u,(wH.cs el)[j]? = some u->xs[n*aG.sz α+j]? = some u:=by
 obtain ⟨c,I,J⟩:=Rw.elem hR he;rw [<- wH.eq I]; exact J
theorem PU {α:Type}{iR:aG α}{v0 v:Qn}{xs:List α}{el:α}{n o:Nat} (k:W x ops Q rest H M ((d,v)::L)) (Z:ev L y=some (.pointer (some (((Value.base v0).add (n*@aG.sz α iR)).add o))):=by rfl)
  (hR:aQ H0 v0 xs:=by with_reducible assumption) (he:xs[n]? = some el:=by first | with_reducible assumption | assumption) (iC:wH α:=by infer_instance) (Y:(wH.cs el)[o]? = some v:=by rfl) (I:H0.le H:=by exact lE)
  (J:∀ w,(isAgg T).run x.P w=.ok false w:=by exact λ_=>rfl) (O:gd ops L ⟨some d,.load T y,ty,pos,aft,g⟩=some true:=by rfl) (hN:Nat.blt d x.N=true:=by rfl):
  W x ops Q (⟨some d,.load T y,ty,pos,aft,g⟩::rest) H M L:=qF O hN J Z (i_.one (i_.mono I (zO hR he)) o Y).at k
theorem PT {α:Type}{iR:aG α}{v0 v:Qn}{xs:List α}{el:α}{n:Nat} (k:W x ops Q rest H M ((d,v)::L)) (Z:ev L y=some (.pointer (some ((Value.base v0).add (n*@aG.sz α iR)))):=by rfl)
  (hR:aQ H0 v0 xs:=by with_reducible assumption) (he:xs[n]? = some el:=by first | with_reducible assumption | assumption) (iC:wH α:=by infer_instance) (Y:(wH.cs el)[0]? = some v:=by rfl) (I:H0.le H:=by exact lE)
  (J:∀ w,(isAgg T).run x.P w=.ok false w:=by exact λ_=>rfl) (O:gd ops L ⟨some d,.load T y,ty,pos,aft,g⟩=some true:=by rfl) (hN:Nat.blt d x.N=true:=by rfl):
  W x ops Q (⟨some d,.load T y,ty,pos,aft,g⟩::rest) H M L:=qF O hN J Z (i_.one (i_.mono I (zO hR he)) 0 Y).at k
theorem PV {α:Type}{iR:aG α}{v0:Qn}{cs:List Qn}{xs:List α}{el:α}{n m:Nat} (k:W x ops Q rest H M ((d,.agg cs.toArray)::L)) (Z:ev L y=some (.pointer (some ((Value.base v0).add (n*@aG.sz α iR)))):=by rfl)
  (hR:aQ H0 v0 xs:=by with_reducible assumption) (he:xs[n]? = some el:=by first | with_reducible assumption | assumption) (iC:wH α:=by infer_instance) (Y:M_ (wH.cs el)=some cs:=by rfl) (I:H0.le H:=by exact lE)
  (J:∀ w,(isAgg T).run x.P w=.ok true w:=by exact λ_=>rfl) (hn:∀ w,(sizeOf T).run x.P w=.ok m w:=by exact λ_=>rfl) (hl:cs.length=m:=by rfl) (O:gd ops L ⟨some d,.load T y,ty,pos,aft,g⟩=some true:=by rfl) (hN:Nat.blt d x.N=true:=by rfl):
  W x ops Q (⟨some d,.load T y,ty,pos,aft,g⟩::rest) H M L:=iG O hN J hn Z (i_.mono I (Dj Y▸zO hR he)).at hl k
theorem P0 {α:Type}{Z:aG α}{v0 v:Qn}{sz p:Nat}{xs:List Qn}{l:List α}{el:α}{n o:Nat} (k:W x ops Q rest H M ((d,v)::L)) (Y:ev L y=some (.pointer (some (((Value.base v0).add (n*@aG.sz α Z)).add o))):=by rfl)
  (hm:bQ.row v0 U sz p xs ∈ M:=by exact mA) (hR:Rw H0 v0 xs l:=by with_reducible assumption) (he:l[n]? = some el:=by first | with_reducible assumption | assumption) (iC:wH α:=by infer_instance) (O:(wH.cs el)[o]? = some v:=by rfl)
  (I:∀ w,(isAgg T).run x.P w=.ok false w:=by exact λ_=>rfl) (J:gd ops L ⟨some d,.load T y,ty,pos,aft,g⟩=some true:=by rfl) (hN:Nat.blt d x.N=true:=by rfl):
  W x ops Q (⟨some d,.load T y,ty,pos,aft,g⟩::rest) H M L:=qF J hN I Y (row_one hm (AH hR he) O) k
theorem PZ {α:Type}{Z:aG α}{v0 v:Qn}{sz p:Nat}{xs:List Qn}{l:List α}{el:α}{n:Nat} (k:W x ops Q rest H M ((d,v)::L)) (Y:ev L y=some (.pointer (some ((Value.base v0).add (n*@aG.sz α Z)))):=by rfl)
  (hm:bQ.row v0 U sz p xs ∈ M:=by exact mA) (hR:Rw H0 v0 xs l:=by with_reducible assumption) (he:l[n]? = some el:=by first | with_reducible assumption | assumption) (iC:wH α:=by infer_instance) (O:(wH.cs el)[0]? = some v:=by rfl)
  (I:∀ w,(isAgg T).run x.P w=.ok false w:=by exact λ_=>rfl) (J:gd ops L ⟨some d,.load T y,ty,pos,aft,g⟩=some true:=by rfl) (hN:Nat.blt d x.N=true:=by rfl):
  W x ops Q (⟨some d,.load T y,ty,pos,aft,g⟩::rest) H M L:=qF J hN I Y (B4 hm (AH hR he) O) k
theorem P1 {α:Type}{Z:aG α}{v0:Qn}{sz p m:Nat}{xs cs:List Qn}{l:List α}{el:α}{n:Nat} (k:W x ops Q rest H M ((d,.agg cs.toArray)::L)) (Y:ev L y=some (.pointer (some ((Value.base v0).add (n*@aG.sz α Z)))):=by rfl)
  (hm:bQ.row v0 U sz p xs ∈ M:=by exact mA) (hR:Rw H0 v0 xs l:=by with_reducible assumption) (he:l[n]? = some el:=by first | with_reducible assumption | assumption) (iC:wH α:=by infer_instance) (O:M_ (wH.cs el)=some cs:=by rfl)
  (I:∀ w,(isAgg T).run x.P w=.ok true w:=by exact λ_=>rfl) (hn:∀ w,(sizeOf T).run x.P w=.ok m w:=by exact λ_=>rfl) (hl:cs.length=m:=by rfl) (J:gd ops L ⟨some d,.load T y,ty,pos,aft,g⟩=some true:=by rfl) (hN:Nat.blt d x.N=true:=by rfl):
  W x ops Q (⟨some d,.load T y,ty,pos,aft,g⟩::rest) H M L:=iG J hN I hn Y (x9 hm (Dj O▸AH hR he)) hl k
theorem PX {v0 v:Qn}{sz p i o:Nat}{xs cs:List Qn} (k:W x ops Q rest H M ((d,v)::L)) (Z:ev L y=some (.pointer (some (((Value.base v0).add i).add o))):=by rfl)
  (hm:bQ.row v0 U sz p xs ∈ M:=by exact mA) (J:∀ j u,cs[j]? = some u->xs[i+j]? = some u:=by assumption) (Y:cs[o]? = some v:=by rfl)
  (I:∀ w,(isAgg T).run x.P w=.ok false w:=by exact λ_=>rfl) (O:gd ops L ⟨some d,.load T y,ty,pos,aft,g⟩=some true:=by rfl) (hN:Nat.blt d x.N=true:=by rfl):
  W x ops Q (⟨some d,.load T y,ty,pos,aft,g⟩::rest) H M L:=qF O hN I Z (row_one hm J Y) k
theorem PW {v0 v:Qn}{sz p i:Nat}{xs cs:List Qn} (k:W x ops Q rest H M ((d,v)::L)) (Z:ev L y=some (.pointer (some ((Value.base v0).add i))):=by rfl)
  (hm:bQ.row v0 U sz p xs ∈ M:=by exact mA) (J:∀ j u,cs[j]? = some u->xs[i+j]? = some u:=by assumption) (Y:cs[0]? = some v:=by rfl)
  (I:∀ w,(isAgg T).run x.P w=.ok false w:=by exact λ_=>rfl) (O:gd ops L ⟨some d,.load T y,ty,pos,aft,g⟩=some true:=by rfl) (hN:Nat.blt d x.N=true:=by rfl):
  W x ops Q (⟨some d,.load T y,ty,pos,aft,g⟩::rest) H M L:=qF O hN I Z (B4 hm J Y) k
theorem PY {v0:Qn}{sz p i m:Nat}{xs cs:List Qn} (k:W x ops Q rest H M ((d,.agg cs.toArray)::L)) (Y:ev L y=some (.pointer (some ((Value.base v0).add i))):=by rfl)
  (hm:bQ.row v0 U sz p xs ∈ M:=by exact mA) (J:∀ j u,cs[j]? = some u->xs[i+j]? = some u:=by assumption)
  (I:∀ w,(isAgg T).run x.P w=.ok true w:=by exact λ_=>rfl) (hn:∀ w,(sizeOf T).run x.P w=.ok m w:=by exact λ_=>rfl) (hl:cs.length=m:=by rfl) (O:gd ops L ⟨some d,.load T y,ty,pos,aft,g⟩=some true:=by rfl) (hN:Nat.blt d x.N=true:=by rfl):
  W x ops Q (⟨some d,.load T y,ty,pos,aft,g⟩::rest) H M L:=iG O hN I hn Y (x9 hm J) hl k
theorem PJ {b i U:Nat}{fz:Nat×Nat}{l:List Qn}{v:Qn} (k:W x ops Q rest H M ((d,v)::L)) (Y:ev L y=some (.pointer (some ⟨b,i,none⟩)):=by rfl)
  (hm:bQ.obj b (.cells l.toArray U fz) ∈ M:=by exact mA) (J:l[i]? = some v:=by rfl) (I:∀ w,(isAgg T).run x.P w=.ok false w:=by exact λ_=>rfl)
  (O:gd ops L ⟨some d,.load T y,ty,pos,aft,g⟩=some true:=by rfl) (hN:Nat.blt d x.N=true:=by rfl):W x ops Q (⟨some d,.load T y,ty,pos,aft,g⟩::rest) H M L:=
 qF O hN I Y (vT hm J) k
theorem PK {b U n:Nat}{fz:Nat×Nat}{l:List Qn} (k:W x ops Q rest H M ((d,.agg l.toArray)::L)) (O:ev L y=some (.pointer (some ⟨b,0,none⟩)):=by rfl)
  (hm:bQ.obj b (.cells l.toArray U fz) ∈ M:=by exact mA) (I:∀ w,(isAgg T).run x.P w=.ok true w:=by exact λ_=>rfl) (hn:∀ w,(sizeOf T).run x.P w=.ok n w:=by exact λ_=>rfl) (hl:l.length=n:=by rfl)
  (J:gd ops L ⟨some d,.load T y,ty,pos,aft,g⟩=some true:=by rfl) (hN:Nat.blt d x.N=true:=by rfl):W x ops Q (⟨some d,.load T y,ty,pos,aft,g⟩::rest) H M L:=
 iG J hN I hn O (DM hm) hl k
theorem PI {v:Qn}{sz n:Nat}{xs:List Qn}{t e:TypeId} (k:W x ops Q rest H M ((d,.int .i64 n)::L)) (O:ev L y=some v:=by rfl) (hm:bQ.row v T sz n xs ∈ M:=by exact mA)
  (I:∀ w,(underlying t).run x.P w=.ok (.slice e) w:=by exact λ_=>rfl) (J:gd ops L ⟨some d,.call ⟨.builtin .len,#[y],#[t]⟩,ty,pos,aft,g⟩=some true:=by rfl) (hN:Nat.blt d x.N=true:=by rfl):
  W x ops Q (⟨some d,.call ⟨.builtin .len,#[y],#[t]⟩,ty,pos,aft,g⟩::rest) H M L:=A4 hm J hN I O k
end
structure Kp (Q:Prop):Prop where
 o:Q
theorem Ml {P Q:Prop} (k:Q) (h:Kp Q->P:=by
  intro k;refine On ?_; first
   | (with_reducible refine p1 ?_); refine bW rfl rfl rfl ?_
   | (with_reducible refine p2 ?_); refine aJ rfl rfl rfl ?_
   | (with_reducible refine p3 ?_); refine fq ?_
   | (with_reducible refine p4 ?_); first
    | refine PJ ?_
    | refine PK ?_
    | refine PR ?_
    | refine PQ ?_
    | refine PS ?_
    | refine PU ?_
    | refine PT ?_
    | refine PV ?_
    | refine P0 ?_
    | refine PZ ?_
    | refine P1 ?_
    | refine PX ?_
    | refine PW ?_
    | refine PY ?_
   | (with_reducible refine p5 ?_); refine vr rfl rfl rfl rfl rfl ?_
   | (with_reducible refine p8 ?_); refine pX rfl rfl rfl ?_
   | (with_reducible refine p7 ?_); refine ss rfl rfl rfl rfl ?_
   | (with_reducible refine p6 ?_); refine C9 rfl rfl rfl rfl ?_
   | (with_reducible refine p9 ?_); refine N_ rfl rfl rfl rfl ?_
   | (with_reducible refine pa ?_); refine ra rfl rfl (λ_=>rfl) (λ_=>rfl) rfl ?_
   | (with_reducible refine pb ?_); refine A6 rfl rfl rfl rfl ?_
   | (with_reducible refine pc ?_); first
    | refine PI ?_
    | refine nA ?_
   | (with_reducible refine P4 ?_); first
    | refine iO ?_
    | refine iA ?_
   | (with_reducible refine pg ?_); first
    | refine N9 rfl rfl rfl ?_
    | refine MG rfl rfl ?_
  exact k.o):P:=h ⟨k⟩
theorem NY {P Q:Prop} (k:Q) (h:Kp Q->P:=by
  intro k
  first
   | refine bC ?_
   | (with_reducible refine Om ?_); first
    | with_reducible refine aT ?_
    | with_reducible refine gY ?_
    | with_reducible refine mD ?_
    | with_reducible refine jQ ?_
    | with_reducible refine tO ?_
    | with_reducible refine nX ?_
    | refine tN rfl ?_
   | (with_reducible refine Ol ?_); first
    | with_reducible refine aP ?_
    | with_reducible refine mC ?_
    | with_reducible refine uQ ?_
    | with_reducible refine mB ?_
    | with_reducible refine uw ?_
  exact k.o):P:=h ⟨k⟩
theorem wo {P Q:Prop} (k:Q) (h:Kp Q->P:=by
  intro k
  repeat first
   | refine Ml ?_
  exact k.o):P:=h ⟨k⟩
theorem go {P Q:Prop} (k:Q) (h:Kp Q->P:=by
  intro k
  repeat first
   | refine Ml ?_
   | refine NY ?_
  exact k.o):P:=h ⟨k⟩
theorem gj {P Q:Prop} (k:Q) (h:Kp Q->P:=by
  intro k
  repeat first
   | refine Ml ?_
   | refine bC ?_
   | (with_reducible refine Om ?_); first
    | with_reducible refine gY ?_
    | with_reducible refine mD ?_
    | with_reducible refine jQ ?_
    | with_reducible refine tO ?_
    | with_reducible refine nX ?_
    | refine tN rfl ?_
   | (with_reducible refine Ol ?_); first
    | with_reducible refine aP ?_
    | with_reducible refine mC ?_
    | with_reducible refine uQ ?_
    | with_reducible refine mB ?_
    | with_reducible refine uw ?_
  exact k.o):P:=h ⟨k⟩
theorem gt {P Q:Prop} (k:Q) (h:Kp Q->P:=by
  intro k
  repeat first
   | refine Ml ?_
   | refine bC ?_
   | (with_reducible refine Om ?_); first
    | with_reducible refine gY ?_
    | with_reducible refine mD ?_
    | with_reducible refine jQ ?_
    | with_reducible refine tO ?_
    | with_reducible refine nX ?_
    | refine tN rfl ?_
   | (with_reducible refine Ol ?_); first
    | with_reducible refine aP ?_
    | with_reducible refine mC ?_
    | with_reducible refine uQ ?_
    | with_reducible refine mB ?_
    | with_reducible refine uw ?_
  with_reducible refine aT ?_
  exact k.o):P:=h ⟨k⟩
theorem gs {P Q:Prop} (k:Q) (h:Kp Q->P:=by
  intro k
  repeat first
   | refine Ml ?_
   | refine NY ?_
  refine bN ?_
  repeat first
   | refine Ml ?_
   | refine NY ?_
  exact k.o):P:=h ⟨k⟩
theorem g2 {P Q:Prop} (k:Q) (h:Kp Q->P:=by
  intro k;refine gs ?_;refine gs ?_;exact k.o):P:=h ⟨k⟩
theorem om {P:Prop} (h:P:=by
  intro J O X Rest hR
  repeat (rintro _ _ ⟨rfl,rfl⟩)
  intro hU I
  repeat refine Ml ?_
  exact o0 ⟨rfl,rfl⟩):P:=h
theorem Ks {P q:Prop} (I:q) (h:q->P:=by
  intro I;intro O Y X Rest hR
  repeat (rintro _ _ ⟨rfl,rfl⟩)
  intro hU J
  repeat refine Ml ?_
  exact o0 ⟨rfl,(by first | rfl | (rw [I]; try rfl))⟩):P:=h I
theorem MQ {P Q:Prop} (k:Q) (h:Kp Q->P:=by
  intro k;refine On ?_; first
   | (with_reducible refine p1 ?_); refine bW rfl rfl rfl ?_
   | (with_reducible refine p2 ?_); refine aJ rfl rfl rfl ?_
   | (with_reducible refine p3 ?_); refine fq ?_
   | (with_reducible refine p4 ?_); first
    | refine PJ ?_
    | refine PK ?_
   | (with_reducible refine p5 ?_); refine vr rfl rfl rfl rfl rfl ?_
   | (with_reducible refine p8 ?_); refine pX rfl rfl rfl ?_
   | (with_reducible refine p7 ?_); refine ss rfl rfl rfl rfl ?_
   | (with_reducible refine p6 ?_); refine C9 rfl rfl rfl rfl ?_
   | (with_reducible refine p9 ?_); refine N_ rfl rfl rfl rfl ?_
   | (with_reducible refine pa ?_); refine ra rfl rfl (λ_=>rfl) (λ_=>rfl) rfl ?_
   | (with_reducible refine pb ?_); refine A6 rfl rfl rfl rfl ?_
   | (with_reducible refine pc ?_); first
    | refine PI ?_
   | (with_reducible refine pg ?_); first
    | refine N9 rfl rfl rfl ?_
    | refine MG rfl rfl ?_
  exact k.o):P:=h ⟨k⟩
theorem qo {P Q:Prop} (k:Q) (h:Kp Q->P:=by
  intro k
  repeat first
   | refine MQ ?_
  exact k.o):P:=h ⟨k⟩
theorem qg {P Q:Prop} (k:Q) (h:Kp Q->P:=by
  intro k
  repeat first
   | refine MQ ?_
   | refine NY ?_
  exact k.o):P:=h ⟨k⟩
theorem qj {P Q:Prop} (k:Q) (h:Kp Q->P:=by
  intro k
  repeat first
   | refine MQ ?_
   | refine bC ?_
   | (with_reducible refine Om ?_); first
    | with_reducible refine gY ?_
    | with_reducible refine mD ?_
    | with_reducible refine jQ ?_
    | with_reducible refine tO ?_
    | with_reducible refine nX ?_
    | refine tN rfl ?_
   | (with_reducible refine Ol ?_); first
    | with_reducible refine aP ?_
    | with_reducible refine mC ?_
    | with_reducible refine uQ ?_
    | with_reducible refine mB ?_
    | with_reducible refine uw ?_
  exact k.o):P:=h ⟨k⟩
theorem qt {P Q:Prop} (k:Q) (h:Kp Q->P:=by
  intro k
  repeat first
   | refine MQ ?_
   | refine bC ?_
   | (with_reducible refine Om ?_); first
    | with_reducible refine gY ?_
    | with_reducible refine mD ?_
    | with_reducible refine jQ ?_
    | with_reducible refine tO ?_
    | with_reducible refine nX ?_
    | refine tN rfl ?_
   | (with_reducible refine Ol ?_); first
    | with_reducible refine aP ?_
    | with_reducible refine mC ?_
    | with_reducible refine uQ ?_
    | with_reducible refine mB ?_
    | with_reducible refine uw ?_
  with_reducible refine aT ?_
  exact k.o):P:=h ⟨k⟩
theorem qs {P Q:Prop} (k:Q) (h:Kp Q->P:=by
  intro k
  repeat first
   | refine MQ ?_
   | refine NY ?_
  refine bN ?_
  repeat first
   | refine MQ ?_
   | refine NY ?_
  exact k.o):P:=h ⟨k⟩
theorem q2 {P Q:Prop} (k:Q) (h:Kp Q->P:=by
  intro k;refine qs ?_;refine qs ?_;exact k.o):P:=h ⟨k⟩
theorem qm {P:Prop} (h:P:=by
  intro J O X Rest hR
  repeat (rintro _ _ ⟨rfl,rfl⟩)
  intro hU I
  repeat refine MQ ?_
  exact o0 ⟨rfl,rfl⟩):P:=h
theorem qn {P q:Prop} (I:q) (h:q->P:=by
  intro I;intro O Y X Rest hR
  repeat (rintro _ _ ⟨rfl,rfl⟩)
  intro hU J
  repeat refine MQ ?_
  exact o0 ⟨rfl,(by first | rfl | (rw [I]; try rfl))⟩):P:=h I
section
variable {x:Cx}{ops:Array Oper}{Q:l8}{rest:List Oper}{H H0:Hp}{M:List bQ}{L:Env}{ty:TypeId}{pos:String}{aft:Array Edge}{g:Option (Nat×Bool)}
theorem wF {α:Type}{iR:aG α} (i o:Nat) {T U m:Nat}{y z:Operand}{v u:Qn}{xs cs out:List Qn}{l:List α}{e:α}{I:Nat}{M1:List bQ}{ad:Addr} (e2:α)
  (k:∀ sA,Rw H v sA (l.set I e2)->(l.set I e2)[I]? = some e2->W x ops Q rest H (.row v U (aG.sz α) (l.set I e2).length sA::M1) L)
  (hy:ev L y=some (.pointer (some ad)):=by rfl) (hM:Ay i M=some (.row v U (aG.sz α) l.length xs,M1):=by rfl) (Y:ad=(Value.base v).add (I*aG.sz α+o):=by first | exact Hy _ _ | exact KG _ _ _)
  (h:Rw H0 v xs l:=by with_reducible assumption) (he:l[I]? = some e:=by first | with_reducible assumption | assumption) (iC:wH α:=by infer_instance) (hle:H0.le H:=by exact lE) (hz:ev L z=some u:=by rfl)
  (hv:u.cells=cs.toArray:=by first | exact aQ.cells (by assumption) | exact Rw.cells (by assumption) | rfl)
  (h1:∀ c ∈ cs,c.oneCell'=true:=by repeat first | exact Se | refine cO rfl ?_ | refine cO (aQ.po (by assumption)) ?_ | refine cO (Rw.one (by assumption)) ?_)
  (hg:gd ops L ⟨none,.store T y z,ty,pos,aft,g⟩=some true:=by rfl) (hn:∀ w,(sizeOf T).run x.P w=.ok m w:=by exact λ_=>rfl) (hl:cs.length=m:=by rfl)
  (ho:Am (wH.cs e) o cs=some out:=by rfl) (hE:aG.E H out e2:=by rfl) (O:aG.E H (wH.cs e) e:=by rfl) (hb:Nat.ble (o+cs.length) (wH.cs e).length=true:=by rfl) (Z:Nat.ble (o+cs.length) (aG.sz α)=true:=by rfl) (J:Nat.blt 0 cs.length=true:=by rfl):
  W x ops Q (⟨none,.store T y z,ty,pos,aft,g⟩::rest) H M L:=
 wr i o e2 h he (AH h he) O hE (λsA a b _=>k sA a b) hle hy Y hz hv h1 hM hg hn hl ho hb Z J
end
theorem fc {P:Prop} (h:P:=by
  first
   | with_reducible assumption
   | exact aQ.mm (by with_reducible assumption)
   | exact Rw.mm (by with_reducible assumption)
   | exact Rw.pw (by with_reducible assumption)
   | exact aQ.nil
   | exact Rw.nil
   | exact (Rw.nil (H:=H)).pw
   | exact lE
   | exact qA.mm (by assumption)
   | exact i_.mm (by assumption)
   | exact Mx.mm (by assumption)
   | exact qA.pw (by assumption)
   | exact cE.mm (by with_reducible assumption)
   | exact aQ.mm (by assumption)
   | exact Rw.mm (by assumption)
   | exact Rw.pw (by assumption)
   | assumption
   | rfl):P:=h
theorem pk {P:Prop} (h:P:=by
  repeat apply Exists.intro
  repeat' first
   | refine And.intro ?_ ?_
   | exact rfl
   | exact hm
  all_goals first | exact fc | skip):P:=h
section
variable {x:Cx}{ops:Array Oper}{Q:l8}{rest:List Oper}{H H0:Hp}{M:List bQ}{L:Env}{d:Nat}{ty:TypeId}{pos:String}{aft:Array Edge}{g:Option (Nat×Bool)}
theorem AG {P:Program}{f:FuncId}{bs:Array Qn}{B:Nat}{w0 w:World}{J I:Hp->List bQ->Qn->Prop} (h:Calls P f bs w (ux B w0 I)) (e:I=J):Calls P f bs w (ux B w0 J):=e▸h
theorem ca {C:Prop}{f:FuncId}{args:List Operand}{J:Array TypeId}{vs:List Qn}{A:Prop}{O:Hp->List bQ->Qn->Prop} (c:C) (a:A)
  (k:∀ v H' M',O H' M' v->W x ops Q rest H' M' ((d,v)::L)) (I:∀ bs w,(callFunc f bs).run x.P w=.ok (.enter f bs) w:=by exact λ_ _=>rfl) (hv:yL L args=some vs:=by rfl)
  (Y:C->A->∀ w,St x.B x.w0 H M w->Calls x.P f vs.toArray w (ux x.B x.w0 O):=by
   intro c a w ht;apply AG;apply c a
   all_goals first | exact ht | skip
   all_goals first | exact fc | exact rfl) (Z:gd ops L ⟨some d,.call ⟨.value (.func f),args.toArray,J⟩,ty,pos,aft,g⟩=some true:=by rfl) (hN:Nat.blt d x.N=true:=by rfl):
  W x ops Q (⟨some d,.call ⟨.value (.func f),args.toArray,J⟩,ty,pos,aft,g⟩::rest) H M L:=fJ I Z hN hv (Y c a) k
theorem cy {C:Prop}{f:FuncId}{args:List Operand}{Y:Array TypeId}{vs:List Qn}{A:Prop}{Φ:Hp->List bQ->Qn->Prop} (c:C) (a:A)
  (k:∀ v H' M',Φ H' M' v->W x ops Q rest H' M' ((d,v)::L)) (I:∀ bs w,(callFunc f bs).run x.P w=.ok (.enter f bs) w:=by exact λ_ _=>rfl) (hv:yL L args=some vs:=by rfl)
  (hc:C->A->∀ w,St x.B x.w0 H M w->Calls x.P f vs.toArray w (ux x.B x.w0 Φ):=by
   intro c a w ht;apply AG;obtain ⟨H0_,Z,O,hr0_,J⟩:=St.fP ht (by exact fc) rfl
   apply dU J;apply c a
   all_goals first | exact O | skip
   all_goals first | exact fc | exact rfl) (hg:gd ops L ⟨some d,.call ⟨.value (.func f),args.toArray,Y⟩,ty,pos,aft,g⟩=some true:=by rfl) (hN:Nat.blt d x.N=true:=by rfl):
  W x ops Q (⟨some d,.call ⟨.value (.func f),args.toArray,Y⟩,ty,pos,aft,g⟩::rest) H M L:=fJ I hg hN hv (hc c a) k
theorem cY {C:Prop}{f:FuncId}{args:List Operand}{tys:Array TypeId}{vs:List Qn}{A:Prop}{Φ:Hp->List bQ->Qn->Prop} (c:C) (a:A)
  (k:∀ v H' M',Φ H' M' v->W x ops Q rest H' M' ((d,v)::L)) (I:∀ bs w,(callFunc f bs).run x.P w=.ok (.enter f bs) w:=by exact λ_ _=>rfl) (hv:yL L args=some vs:=by rfl)
  (hc:C->A->∀ w,St x.B x.w0 H M w->Calls x.P f vs.toArray w (ux x.B x.w0 Φ):=by
   intro c a w ht;apply AG;obtain ⟨H0_,hl0_,Y,hr0_,J⟩:=St.fP ht (by exact fc) rfl
   apply dU J;obtain ⟨H1_,hl1_,Z,hr1_,O⟩:=St.fP Y (by exact fc) rfl
   apply dU O;apply c a
   all_goals first | exact Z | skip
   all_goals first | exact fc | exact rfl) (hg:gd ops L ⟨some d,.call ⟨.value (.func f),args.toArray,tys⟩,ty,pos,aft,g⟩=some true:=by rfl) (hN:Nat.blt d x.N=true:=by rfl):
  W x ops Q (⟨some d,.call ⟨.value (.func f),args.toArray,tys⟩,ty,pos,aft,g⟩::rest) H M L:=fJ I hg hN hv (hc c a) k
theorem cz {C:Prop}{f:FuncId}{args:List Operand}{J:Array TypeId}{vs:List Qn}{A:Prop}{u:Qn} (c:C) (a:A)
  (k:W x ops Q rest H M ((d,u)::L)) (I:∀ bs w,(callFunc f bs).run x.P w=.ok (.enter f bs) w:=by exact λ_ _=>rfl) (Z:yL L args=some vs:=by rfl)
  (O:C->A->∀ w,St x.B x.w0 H M w->Calls x.P f vs.toArray w (ux x.B x.w0 λH' M' v=>H=H'/\M=M'/\u=v):=by
   intro c a w ht;apply AG;apply c a
   all_goals first | exact ht | skip
   all_goals first | exact fc | exact rfl) (Y:gd ops L ⟨some d,.call ⟨.value (.func f),args.toArray,J⟩,ty,pos,aft,g⟩=some true:=by rfl) (hN:Nat.blt d x.N=true:=by rfl):
  W x ops Q (⟨some d,.call ⟨.value (.func f),args.toArray,J⟩,ty,pos,aft,g⟩::rest) H M L:=fJ I Y hN Z (O c a) (by rintro _ _ _ ⟨rfl,rfl,rfl⟩; exact k)
end
theorem ki {a b:Int} (h:a=b):some (Value.int .i64 a)=some (Value.int .i64 b):=by rw [h]
theorem kS {P:Prop} (h:P:=by
  repeat first
   | exact Qo
   | refine ⟨rfl,?_⟩
   | refine ⟨sb (by simp only [PD, *]),?_⟩):P:=h
theorem kK {a b:Int}{P:Prop} (e:a=b) (h:a=b->P:=by
  intro e
  repeat first
   | exact Qo
   | refine ⟨rfl,?_⟩
   | refine ⟨ki e,?_⟩
   | refine ⟨sb (by simp only [PD, *]),?_⟩):P:=h e
theorem eb {A B P:Prop} (a:A) (b:B) (h:A->B->P:=by
  intro a b;apply vH (Si _)
  repeat apply Exists.intro
  refine And.intro a ?_;refine And.intro rfl ?_;refine And.intro ((congrFun b _).trans hm) ?_
  repeat' first
   | refine And.intro ?_ ?_
   | exact rfl
  all_goals first | exact fc | skip):P:=h a b
theorem Cn {B P:Prop} (b:B) (h:B->P:=by
  intro b;apply vH (Si _)
  repeat apply Exists.intro
  refine And.intro ((congrFun b _).trans hm) ?_
  repeat' first
   | refine And.intro ?_ ?_
   | exact rfl
  all_goals first | exact fc | skip):P:=h b
theorem en {P:Prop} (h:P:=by
  obtain rfl:=Qs hm
  first
   | refine l9 rfl rfl ?_
   | refine Co rfl rfl rfl ?_
   | refine Of rfl rfl rfl rfl ?_
   | refine Ia rfl ?_
  refine And.intro lE ?_
  repeat apply Exists.intro
  refine And.intro rfl ?_
  repeat' first
   | refine And.intro ?_ ?_
   | exact rfl
  all_goals first | exact fc | skip):P:=h
theorem ef {P:Prop} (h:P:=by
  obtain rfl:=Qs hm;refine Ew H ?_
  first
   | refine l9 rfl rfl ?_
   | refine Co rfl rfl rfl ?_
   | refine Of rfl rfl rfl rfl ?_
   | refine Ia rfl ?_
  refine And.intro rfl ?_
  repeat apply Exists.intro
  refine And.intro rfl ?_
  repeat' first
   | refine And.intro ?_ ?_
   | exact rfl
  all_goals first | exact fc | skip):P:=h
section
variable {x:Cx}{ops:Array Oper}{Q:l8}{rest:List Oper}{H:Hp}{M:List bQ}{L:Env}{d:Nat}{ty:TypeId}{pos:String}{aft:Array Edge}{g:Option (Nat×Bool)}{y:Operand}{T:TypeId}
theorem P2 {b i U n:Nat}{fz:Nat×Nat}{l cs:List Qn} (k:W x ops Q rest H M ((d,.agg cs.toArray)::L)) (Y:ev L y=some (.pointer (some ⟨b,i,none⟩)):=by rfl)
  (hm:bQ.obj b (.cells l.toArray U fz) ∈ M:=by exact mA) (I:∀ w,(isAgg T).run x.P w=.ok true w:=by exact λ_=>rfl) (hn:∀ w,(sizeOf T).run x.P w=.ok n w:=by exact λ_=>rfl)
  (J:M_ ((l.drop i).take n)=some cs:=by rfl) (hl:cs.length=n:=by rfl) (O:gd ops L ⟨some d,.load T y,ty,pos,aft,g⟩=some true:=by rfl) (hN:Nat.blt d x.N=true:=by rfl):
  W x ops Q (⟨some d,.load T y,ty,pos,aft,g⟩::rest) H M L:=
 iG O hN I hn Y (pP hm (by rw [hl]; exact Dj J)) hl k
end
theorem PO {F:Qn->List bQ->Prop} (k:∀ v rs,F v rs):∀ v rs,F v rs:=k
structure Ix (l:List Nat):Prop where
 o:True
theorem ix (l:List Nat):Ix l:=⟨Qo⟩
theorem Wi {x:Cx}{ops:Array Oper}{Q:l8}{rest:List Oper}{H:Hp}{M M':List bQ}{L:Env}{l:List Nat} (i:Ix l) (k:W x ops Q rest H M' L) (h:Ao l M=some M':=by rfl):W x ops Q rest H M L:=Wp l k h
theorem rz {P:Prop} (h:P:=by
  first
   | exact o0 ⟨rfl,rfl⟩
   | exact o0 pk
   | exact oe [] lE pk
   | exact oe [_] lE pk
   | exact oe [_,_] lE pk
   | exact oe [_,_,_] lE pk
   | exact oe [_,_,_,_,_,_] lE pk
   | exact oe [_,_,_,_,_,_,_] lE pk
   | exact bC (zG [_] lE pk)):P:=h
theorem rk {C A I P:Prop} (i:I) (c:C) (a:A) (h:I->C->A->P:=by
  intro i c a Y Z X Rest hR
  repeat (refine PO ?_; (first | rintro _ _ ⟨rfl,rfl⟩ | rintro _ _ ⟨_,rfl,rfl⟩ | rintro _ _ ⟨_,_,rfl,rfl⟩ | rintro _ _ ⟨_,_,_,rfl,rfl⟩ | rintro _ _ ⟨_,_,_,_,rfl,rfl⟩ | rintro _ _ ⟨_,_,_,_,_,rfl,rfl⟩ | rintro _ _ ⟨_,_,_,_,_,_,rfl,rfl⟩ | rintro _ _ ⟨_,_,_,_,_,_,_,rfl,rfl⟩ | rintro _ _ ⟨_,_,_,_,_,_,_,_,rfl,rfl⟩ | rintro _ _ ⟨_,_,_,_,_,_,_,_,_,_,rfl,rfl⟩ | rintro _ _ ⟨_,_,_,_,_,_,_,_,_,_,_,_,rfl,rfl⟩ | rintro _ _ ⟨_,_,_,_,_,_,_,_,_,_,_,_,_,_,rfl,rfl⟩ | rintro _ _ ⟨rfl,rfl,J⟩ | rintro _ _ ⟨_,rfl,rfl,J⟩ | rintro _ _ ⟨_,_,rfl,rfl,J⟩ | rintro _ _ ⟨_,_,_,rfl,rfl,J⟩ | rintro _ _ ⟨_,_,_,_,rfl,rfl,J⟩ | rintro _ _ ⟨_,_,_,_,_,rfl,rfl,J⟩ | rintro _ _ ⟨_,_,_,_,_,_,rfl,rfl,J⟩ | rintro _ _ ⟨_,_,_,_,_,_,_,rfl,rfl,J⟩ | rintro _ _ ⟨_,_,_,_,_,_,_,_,rfl,rfl,J⟩ | rintro _ _ ⟨_,_,_,_,_,_,_,_,_,_,rfl,rfl,J⟩ | rintro _ _ ⟨_,_,_,_,_,_,_,_,_,_,_,_,rfl,rfl,J⟩ | rintro _ _ ⟨_,_,_,_,_,_,_,_,_,_,_,_,_,_,rfl,rfl,J⟩); repeat (with_reducible refine And.elim (λ_ J=>?_) J))
  intro hU O
  first | refine Wi i ?_ | skip
  repeat first
   | refine Ml ?_
   | refine P2 ?_
   | (refine ca c a ?_; (first | rintro _ _ _ ⟨rfl,rfl,rfl⟩ | rintro _ _ _ ⟨rfl,_,rfl,rfl⟩ | rintro _ _ _ ⟨rfl,_,_,rfl,rfl⟩ | rintro _ _ _ ⟨rfl,_,_,_,rfl,rfl⟩ | rintro _ _ _ ⟨rfl,_,_,_,_,rfl,rfl⟩ | rintro _ _ _ ⟨rfl,_,_,_,_,_,rfl,rfl⟩ | rintro _ _ _ ⟨rfl,_,_,_,_,_,_,rfl,rfl⟩ | rintro _ _ _ ⟨rfl,_,_,_,_,_,_,_,rfl,rfl⟩ | rintro _ _ _ ⟨rfl,_,_,_,_,_,_,_,_,rfl,rfl⟩ | rintro _ _ _ ⟨rfl,_,_,_,_,_,_,_,_,_,_,rfl,rfl⟩ | rintro _ _ _ ⟨rfl,_,_,_,_,_,_,_,_,_,_,_,_,rfl,rfl⟩ | rintro _ _ _ ⟨rfl,_,_,_,_,_,_,_,_,_,_,_,_,_,_,rfl,rfl⟩ | rintro _ _ _ ⟨rfl,rfl,rfl,J⟩ | rintro _ _ _ ⟨rfl,_,rfl,rfl,J⟩ | rintro _ _ _ ⟨rfl,_,_,rfl,rfl,J⟩ | rintro _ _ _ ⟨rfl,_,_,_,rfl,rfl,J⟩ | rintro _ _ _ ⟨rfl,_,_,_,_,rfl,rfl,J⟩ | rintro _ _ _ ⟨rfl,_,_,_,_,_,rfl,rfl,J⟩ | rintro _ _ _ ⟨rfl,_,_,_,_,_,_,rfl,rfl,J⟩ | rintro _ _ _ ⟨rfl,_,_,_,_,_,_,_,rfl,rfl,J⟩ | rintro _ _ _ ⟨rfl,_,_,_,_,_,_,_,_,rfl,rfl,J⟩ | rintro _ _ _ ⟨rfl,_,_,_,_,_,_,_,_,_,_,rfl,rfl,J⟩ | rintro _ _ _ ⟨rfl,_,_,_,_,_,_,_,_,_,_,_,_,rfl,rfl,J⟩ | rintro _ _ _ ⟨rfl,_,_,_,_,_,_,_,_,_,_,_,_,_,_,rfl,rfl,J⟩ | rintro _ _ _ ⟨_,rfl,rfl⟩ | rintro _ _ _ ⟨_,_,rfl,rfl⟩ | rintro _ _ _ ⟨_,_,_,rfl,rfl⟩ | rintro _ _ _ ⟨_,_,_,_,rfl,rfl⟩ | rintro _ _ _ ⟨_,_,_,_,_,rfl,rfl⟩ | rintro _ _ _ ⟨_,_,_,_,_,_,rfl,rfl⟩ | rintro _ _ _ ⟨_,_,_,_,_,_,_,rfl,rfl⟩ | rintro _ _ _ ⟨_,_,_,_,_,_,_,_,rfl,rfl⟩ | rintro _ _ _ ⟨_,_,_,_,_,_,_,_,_,rfl,rfl⟩ | rintro _ _ _ ⟨_,_,_,_,_,_,_,_,_,_,_,rfl,rfl⟩ | rintro _ _ _ ⟨_,_,_,_,_,_,_,_,_,_,_,_,_,rfl,rfl⟩ | rintro _ _ _ ⟨_,_,_,_,_,_,_,_,_,_,_,_,_,_,_,rfl,rfl⟩ | rintro _ _ _ ⟨_,rfl,rfl,J⟩ | rintro _ _ _ ⟨_,_,rfl,rfl,J⟩ | rintro _ _ _ ⟨_,_,_,rfl,rfl,J⟩ | rintro _ _ _ ⟨_,_,_,_,rfl,rfl,J⟩ | rintro _ _ _ ⟨_,_,_,_,_,rfl,rfl,J⟩ | rintro _ _ _ ⟨_,_,_,_,_,_,rfl,rfl,J⟩ | rintro _ _ _ ⟨_,_,_,_,_,_,_,rfl,rfl,J⟩ | rintro _ _ _ ⟨_,_,_,_,_,_,_,_,rfl,rfl,J⟩ | rintro _ _ _ ⟨_,_,_,_,_,_,_,_,_,rfl,rfl,J⟩ | rintro _ _ _ ⟨_,_,_,_,_,_,_,_,_,_,_,rfl,rfl,J⟩ | rintro _ _ _ ⟨_,_,_,_,_,_,_,_,_,_,_,_,_,rfl,rfl,J⟩ | rintro _ _ _ ⟨_,_,_,_,_,_,_,_,_,_,_,_,_,_,_,rfl,rfl,J⟩); repeat (with_reducible refine And.elim (λ_ J=>?_) J))
  exact rz):P:=h i c a
theorem tt:True:=Qo
theorem ro {P:Prop} (h:P:=by exact rk tt tt tt):P:=h
end Go.Sim
namespace Go.Proofs
open Go.Shelf
open _root_.Go.IntKind (i64 u64 u32 u8)
def Tryz.EY:Go.Shelf.Ren:=⟨fun | 283=>220 | n=>n,fun | 3=>3 | 9=>9 | 4=>4 | n=>n,fun | n=>n⟩
theorem Tryz.LD:Go.Proofs.Lays.n283 Tryz.prog Tryz.EY:={
 mixed:=by kernel_rfl
 f283:=Tryz.func220.trans (congrArg some (by kernel_rfl))
 t3:=Tryz.underlying3
 a3:=Tryz.isAgg3
 z3:=Tryz.sizeOf3
 v3:=Tryz.zeroValue3
 t4:=Tryz.underlying4
 a4:=Tryz.isAgg4
 z4:=Tryz.sizeOf4
 v4:=Tryz.zeroValue4
 t9:=Tryz.underlying9
 a9:=Tryz.isAgg9
 z9:=Tryz.sizeOf9
 v9:=Tryz.zeroValue9 }
open Go.Lib in
theorem Tryz.internal_strconv_small (i:Nat) (h:i<100) (w:World):
  Calls Tryz.prog 220 #[.int .i64 i] w λe w'=>e=.returned (.string ⟨(Lib.decDigits i).toArray⟩)/\w'=w:=Any.internal_strconv_small Tryz.LD i h w
def Tryz.DC:Go.Shelf.Ren:=⟨fun | 284=>221 | 129=>228 | 317=>227 | 318=>229 | n=>n,fun | 53=>72 | 3=>3 | 212=>313 | 0=>0 | 4=>4 | 46=>213 | 5=>5 | 9=>9 | n=>n,fun | 17=>3 | n=>n⟩
theorem Tryz.J9:Go.Proofs.LaysM.n284 Tryz.prog Tryz.DC:={
 mixed:=by kernel_rfl
 f129:=Tryz.func228.trans (congrArg some (by kernel_rfl))
 f284:=Tryz.func221.trans (congrArg some (by kernel_rfl))
 f317:=Tryz.func227.trans (congrArg some (by kernel_rfl))
 f318:=Tryz.func229.trans (congrArg some (by kernel_rfl))
 t0:=Tryz.underlying0
 a0:=Tryz.isAgg0
 z0:=Tryz.sizeOf0
 v0:=Tryz.zeroValue0
 t3:=Tryz.underlying3
 a3:=Tryz.isAgg3
 z3:=Tryz.sizeOf3
 v3:=Tryz.zeroValue3
 t4:=Tryz.underlying4
 a4:=Tryz.isAgg4
 z4:=Tryz.sizeOf4
 v4:=Tryz.zeroValue4
 t5:=Tryz.underlying5
 a5:=Tryz.isAgg5
 z5:=Tryz.sizeOf5
 v5:=Tryz.zeroValue5
 t9:=Tryz.underlying9
 a9:=Tryz.isAgg9
 z9:=Tryz.sizeOf9
 v9:=Tryz.zeroValue9
 t46:=Tryz.underlying213
 a46:=Tryz.isAgg213
 z46:=Tryz.sizeOf213
 v46:=Tryz.zeroValue213
 t53:=Tryz.underlying72
 a53:=Tryz.isAgg72
 z53:=Tryz.sizeOf72
 v53:=Tryz.zeroValue72
 t212:=Tryz.underlying313
 a212:=Tryz.isAgg313
 z212:=Tryz.sizeOf313
 v212:=Tryz.zeroValue313
 g17:=by kernel_rfl
 i0:=by kernel_rfl
 i3:=by kernel_rfl
 i4:=by kernel_rfl
 i5:=by kernel_rfl
 i9:=by kernel_rfl
 i46:=by kernel_rfl
 i53:=by kernel_rfl
 i212:=by kernel_rfl
 m17:=by kernel_rfl }
open Go.Lib in
theorem Tryz.internal_strconv_numDigits (u:Nat) (h1:1<=u) (h2:u<18446744073709551616) (w:World) (htab:Lib.TabIs Tryz.prog w "internal/strconv.uint64pow10" .u64 Lib.pow10Tab):
  Calls Tryz.prog 221 #[.int .u64 u] w λe w'=>e=.returned (.int .i64 (Lib.nDigits u))/\w'=w:=Any.internal_strconv_numDigits Tryz.J9 u h1 h2 w htab
def Tryz.EZ:Go.Shelf.Ren:=⟨fun | 285=>222 | n=>n,fun | 37=>206 | 53=>72 | 3=>3 | 4=>4 | 51=>223 | 9=>9 | 5=>5 | 0=>0 | n=>n,fun | n=>n⟩
theorem Tryz.LF:Go.Proofs.Lays.n285 Tryz.prog Tryz.EZ:={
 mixed:=by kernel_rfl
 f285:=Tryz.func222.trans (congrArg some (by kernel_rfl))
 t0:=Tryz.underlying0
 a0:=Tryz.isAgg0
 z0:=Tryz.sizeOf0
 v0:=Tryz.zeroValue0
 t3:=Tryz.underlying3
 a3:=Tryz.isAgg3
 z3:=Tryz.sizeOf3
 v3:=Tryz.zeroValue3
 t4:=Tryz.underlying4
 a4:=Tryz.isAgg4
 z4:=Tryz.sizeOf4
 v4:=Tryz.zeroValue4
 t5:=Tryz.underlying5
 a5:=Tryz.isAgg5
 z5:=Tryz.sizeOf5
 v5:=Tryz.zeroValue5
 t9:=Tryz.underlying9
 a9:=Tryz.isAgg9
 z9:=Tryz.sizeOf9
 v9:=Tryz.zeroValue9
 t37:=Tryz.underlying206
 a37:=Tryz.isAgg206
 z37:=Tryz.sizeOf206
 v37:=Tryz.zeroValue206
 t51:=Tryz.underlying223
 a51:=Tryz.isAgg223
 z51:=Tryz.sizeOf223
 v51:=Tryz.zeroValue223
 t53:=Tryz.underlying72
 a53:=Tryz.isAgg72
 z53:=Tryz.sizeOf72
 v53:=Tryz.zeroValue72 }
open Go.RowKit Go.Sort Go.Lib in
theorem Tryz.internal_strconv_formatBase10 (blk off cap:Nat) (u:Nat) (d:Array UInt8) (w:World) (hH:Holds (λ(b:UInt8)=>Value.int .u8 (b.toNat:Int)) w blk off d) (hu:u<10 ^ d.size) (hu64:u<18446744073709551616) (hsz:d.size<4611686018427387904):
  Calls Tryz.prog 222 #[.slice (some ⟨blk,off,none⟩) d.size cap,.int .u64 u] w λe w'=>
   e=.returned (.tuple #[])/\∃ (n v':Nat) (dk:Array UInt8),w'=(putRow (λ(b:UInt8)=>Value.int .u8 (b.toNat:Int)) w blk off dk).drewN n/\FmtInv d.size u 0 v' dk:=Any.internal_strconv_formatBase10 Tryz.LF blk off cap u d w hH hu hu64 hsz
def Tryz.DB:Go.Shelf.Ren:=⟨fun | 171=>152 | 243=>179 | 246=>204 | 283=>220 | 284=>221 | 285=>222 | 286=>223 | 129=>228 | 317=>227 | 318=>229 | 319=>230 | 320=>231 | 337=>233 | 338=>234 | n=>n,fun | 3=>3 | 9=>9 | 2=>2 | 4=>4 | 171=>303 | 0=>0 | 53=>72 | 37=>206 | 5=>5 | 173=>306 | 212=>313 | 51=>223 | 20=>20 | 213=>314 | 46=>213 | 232=>318 | 233=>319 | n=>n,fun | 17=>3 | 18=>4 | 19=>5 | n=>n⟩
theorem Tryz.J8:Go.Proofs.LaysM.n171 Tryz.prog Tryz.DB:={
 mixed:=by kernel_rfl
 f129:=Tryz.func228.trans (congrArg some (by kernel_rfl))
 f171:=Tryz.func152.trans (congrArg some (by kernel_rfl))
 f243:=Tryz.func179.trans (congrArg some (by kernel_rfl))
 f246:=Tryz.func204.trans (congrArg some (by kernel_rfl))
 f283:=Tryz.func220.trans (congrArg some (by kernel_rfl))
 f284:=Tryz.func221.trans (congrArg some (by kernel_rfl))
 f285:=Tryz.func222.trans (congrArg some (by kernel_rfl))
 f286:=Tryz.func223.trans (congrArg some (by kernel_rfl))
 f317:=Tryz.func227.trans (congrArg some (by kernel_rfl))
 f318:=Tryz.func229.trans (congrArg some (by kernel_rfl))
 f319:=Tryz.func230.trans (congrArg some (by kernel_rfl))
 f320:=Tryz.func231.trans (congrArg some (by kernel_rfl))
 f337:=Tryz.func233.trans (congrArg some (by kernel_rfl))
 f338:=Tryz.func234.trans (congrArg some (by kernel_rfl))
 t0:=Tryz.underlying0
 a0:=Tryz.isAgg0
 z0:=Tryz.sizeOf0
 v0:=Tryz.zeroValue0
 t2:=Tryz.underlying2
 a2:=Tryz.isAgg2
 z2:=Tryz.sizeOf2
 v2:=Tryz.zeroValue2
 t3:=Tryz.underlying3
 a3:=Tryz.isAgg3
 z3:=Tryz.sizeOf3
 v3:=Tryz.zeroValue3
 t4:=Tryz.underlying4
 a4:=Tryz.isAgg4
 z4:=Tryz.sizeOf4
 v4:=Tryz.zeroValue4
 t5:=Tryz.underlying5
 a5:=Tryz.isAgg5
 z5:=Tryz.sizeOf5
 v5:=Tryz.zeroValue5
 t9:=Tryz.underlying9
 a9:=Tryz.isAgg9
 z9:=Tryz.sizeOf9
 v9:=Tryz.zeroValue9
 t20:=Tryz.underlying20
 a20:=Tryz.isAgg20
 z20:=Tryz.sizeOf20
 v20:=Tryz.zeroValue20
 t37:=Tryz.underlying206
 a37:=Tryz.isAgg206
 z37:=Tryz.sizeOf206
 v37:=Tryz.zeroValue206
 t46:=Tryz.underlying213
 a46:=Tryz.isAgg213
 z46:=Tryz.sizeOf213
 v46:=Tryz.zeroValue213
 t51:=Tryz.underlying223
 a51:=Tryz.isAgg223
 z51:=Tryz.sizeOf223
 v51:=Tryz.zeroValue223
 t53:=Tryz.underlying72
 a53:=Tryz.isAgg72
 z53:=Tryz.sizeOf72
 v53:=Tryz.zeroValue72
 t171:=Tryz.underlying303
 a171:=Tryz.isAgg303
 z171:=Tryz.sizeOf303
 v171:=Tryz.zeroValue303
 t173:=Tryz.underlying306
 a173:=Tryz.isAgg306
 z173:=Tryz.sizeOf306
 v173:=Tryz.zeroValue306
 t212:=Tryz.underlying313
 a212:=Tryz.isAgg313
 z212:=Tryz.sizeOf313
 v212:=Tryz.zeroValue313
 t213:=Tryz.underlying314
 a213:=Tryz.isAgg314
 z213:=Tryz.sizeOf314
 t232:=Tryz.underlying318
 a232:=Tryz.isAgg318
 z232:=Tryz.sizeOf318
 v232:=Tryz.zeroValue318
 t233:=Tryz.underlying319
 a233:=Tryz.isAgg319
 z233:=Tryz.sizeOf319
 v233:=Tryz.zeroValue319
 g17:=by kernel_rfl
 g18:=by kernel_rfl
 g19:=by kernel_rfl
 i0:=by kernel_rfl
 i2:=by kernel_rfl
 i3:=by kernel_rfl
 i4:=by kernel_rfl
 i5:=by kernel_rfl
 i9:=by kernel_rfl
 i20:=by kernel_rfl
 i37:=by kernel_rfl
 i46:=by kernel_rfl
 i51:=by kernel_rfl
 i53:=by kernel_rfl
 i171:=by kernel_rfl
 i173:=by kernel_rfl
 i212:=by kernel_rfl
 i232:=by kernel_rfl
 i233:=by kernel_rfl
 m17:=by kernel_rfl
 m18:=by kernel_rfl
 m19:=by kernel_rfl }
open Go.RowKit Go.Sort Go.Lib in
theorem Tryz.strconv_Itoa (n:Int) (h0:-9223372036854775808<=n) (h1:n<=9223372036854775807) (w:World) (htab:Lib.TabIs Tryz.prog w "internal/strconv.uint64pow10" .u64 Lib.pow10Tab):
  Calls Tryz.prog 152 #[.int .i64 n] w λe w'=>e=.returned (.string ⟨(Lib.itoa n).toArray⟩)/\∃ k os,w'=grow (w.drewN k) os:=Any.strconv_Itoa Tryz.J8 n h0 h1 w htab
def Tryz.E0:Go.Shelf.Ren:=⟨fun | 287=>171 | 321=>195 | 322=>196 | n=>n,fun | 9=>9 | 3=>3 | 53=>72 | 75=>219 | 4=>4 | 167=>271 | 5=>5 | 46=>213 | 37=>206 | 0=>0 | 21=>21 | 80=>300 | n=>n,fun | n=>n⟩
theorem Tryz.LG:Go.Proofs.Lays.n287 Tryz.prog Tryz.E0:={
 mixed:=by kernel_rfl
 f287:=Tryz.func171.trans (congrArg some (by kernel_rfl))
 f321:=Tryz.func195.trans (congrArg some (by kernel_rfl))
 f322:=Tryz.func196.trans (congrArg some (by kernel_rfl))
 t0:=Tryz.underlying0
 a0:=Tryz.isAgg0
 z0:=Tryz.sizeOf0
 v0:=Tryz.zeroValue0
 t3:=Tryz.underlying3
 a3:=Tryz.isAgg3
 z3:=Tryz.sizeOf3
 v3:=Tryz.zeroValue3
 t4:=Tryz.underlying4
 a4:=Tryz.isAgg4
 z4:=Tryz.sizeOf4
 v4:=Tryz.zeroValue4
 t5:=Tryz.underlying5
 a5:=Tryz.isAgg5
 z5:=Tryz.sizeOf5
 v5:=Tryz.zeroValue5
 t9:=Tryz.underlying9
 a9:=Tryz.isAgg9
 z9:=Tryz.sizeOf9
 v9:=Tryz.zeroValue9
 t21:=Tryz.underlying21
 a21:=Tryz.isAgg21
 z21:=Tryz.sizeOf21
 v21:=Tryz.zeroValue21
 t37:=Tryz.underlying206
 a37:=Tryz.isAgg206
 z37:=Tryz.sizeOf206
 v37:=Tryz.zeroValue206
 t46:=Tryz.underlying213
 a46:=Tryz.isAgg213
 z46:=Tryz.sizeOf213
 v46:=Tryz.zeroValue213
 t53:=Tryz.underlying72
 a53:=Tryz.isAgg72
 z53:=Tryz.sizeOf72
 v53:=Tryz.zeroValue72
 t75:=Tryz.underlying219
 a75:=Tryz.isAgg219
 z75:=Tryz.sizeOf219
 v75:=Tryz.zeroValue219
 t167:=Tryz.underlying271
 a167:=Tryz.isAgg271
 z167:=Tryz.sizeOf271
 v167:=Tryz.zeroValue271 }
open Go.RowKit in
theorem Tryz.internal_strconv_ParseUint_10_b32 (t:ByteArray) (hne:t.size≠0) (hmax:t.size<=9223372036854775806) (w:World):
  Calls Tryz.prog 171 #[.string t,.int .i64 10,.int .i64 32] w λe w'=>e=.returned (Lib.uintTupleM 271 4294967295 (Lib.parseUintM 4294967295 0 t.data.toList))/\w'=Lib.bytesWorld w 5 t:=Any.internal_strconv_ParseUint_10_b32 Tryz.LG t hne hmax w
end Go.Proofs
namespace Go.Sim
open Go Go.Proofs.Tryz
open _root_.Go.IntKind (i64 u64 u32 u8)
set_option maxRecDepth 100000
set_option maxHeartbeats 4000000
instance:wH aS:=⟨λx=>[.string (x.Name),.string (x.A),.string (x.B_),.bool (x.vq),.bool (x.Open)],λh=>h⟩
instance:wH aK:=⟨λx=>[.string (x.Name),.string (x.pQ),.string (x.To),.int .i64 (x.X),.int .i64 (x.A0),.int .i64 (x.Shift),.int .i64 (x.s6),.int .i64 (x.w_),.int .i64 (x.Cm)],λh=>h⟩
instance:wH bE:=⟨λx=>[.string (x.Name),.string (x.Node),.int .i64 (x.jJ),.int .i64 (x.qU),.int .i64 (x.AX)],λh=>h⟩
instance:wH aF:=⟨λx=>[.string (x.Name),.string (x.Node),.int .i64 (x.dB)],λh=>h⟩
instance:wH bS:=⟨λx=>[.string (x.Name),.string (x.Node),.int .i64 (x.r8),.int .i64 (x.Discharge),.int .i64 (x.tM)],λh=>h⟩
instance:wH aB:=⟨λx=>[.int .i64 (x.Time),.string (x.Kind),.string (x.Name),.int .i64 (x.Value)],λh=>h⟩
instance:wH bF:=⟨λx=>[.int .i64 (x.Kind),.string (x.Name),.int .i64 (x.A),.int .i64 (x.B_)],λh=>h⟩
instance:wH b_:=⟨λx=>[.int .i64 (x.a0),.int .i64 (x.a1)],λh=>h⟩
instance:wH bP:=⟨λx=>[.int .i64 (x.jJ),.int .i64 (x.qU),.int .i64 (x.dB)],λh=>h⟩
instance:wH aR:=⟨λx=>[.string (x.Name),.bool (x.yA)],λh=>h⟩
structure cN where
 v0:Qn
 v1:Qn
 v2:Qn
 v3:Qn
 v4:Qn
 v5:Qn
 v6:Qn
 v7:Qn
 rT:List Qn
 v8:Qn
 v9:Qn
 v10:Qn
 xe:List Qn
 v11:Qn
 sA:List Qn
 v12:Qn
 Ch:List Qn
 OB:Qn
 OC:Qn
 N0:Qn
 Ae:List Qn
 OD:Qn
def aM (b I J:Nat):cN->aN->List bQ
 | ⟨v0,v1,v2,v3,v4,v5,v6,v7,rT,v8,v9,v10,xe,v11,sA,v12,Ch,OB,OC,N0,Ae,OD⟩,x=>[.obj b (.cells [v0,v1,v2,v3,v4,v5,v6,v7,v8,.pointer (some ⟨I,0,none⟩),OB,OC,.int .i64 (x.time),.pointer (some ⟨J,0,none⟩),OD].toArray 94 (0,0)),.row v7 9 (aG.sz Qm) x.on.length rT,.obj I (.cells [v9,v10,v11,v12,.int .i64 (x.watch.time)].toArray 115 (0,0)),.row v10 125 (aG.sz aA) x.watch.gG.length xe,.row v11 3 (aG.sz Int) x.watch.mO.length sA,.row v12 4 (aG.sz Bool) x.watch.over.length Ch,.obj J (.cells [N0].toArray 158 (0,0)),.row N0 45 (aG.sz aB) x.log.iH.length Ae]
def cE (H:Hp):cN->aN->Prop
 | ⟨v0,v1,v2,v3,v4,v5,v6,v7,rT,v8,v9,v10,xe,v11,sA,v12,Ch,OB,OC,N0,Ae,OD⟩,x=>aQ H v0 x.bY.bD/\aQ H v1 x.bY.aL/\aQ H v2 x.bY.aH/\aQ H v3 x.bY.cR/\aQ H v4 x.bY.bB/\aQ H v5 x.bY.bM/\aQ H v6 x.rules/\Rw H v7 rT x.on/\aQ H v8 x.held/\aQ H v9 x.watch.fV/\Rw H v10 xe x.watch.gG/\Rw H v11 sA x.watch.mO/\Rw H v12 Ch x.watch.over/\aQ H OB x.state.fD/\aQ H OC x.state.eO/\Rw H N0 Ae x.log.iH/\aQ H OD x.over
theorem cE.mono {H H2:Hp}{g:cN}{x:aN} (h:cE H g x) (I:H.le H2):cE H2 g x:=by
 obtain ⟨v0,v1,v2,v3,v4,v5,v6,v7,rT,v8,v9,v10,xe,v11,sA,v12,Ch,OB,OC,N0,Ae,OD⟩:=g;obtain ⟨z0,z1,z2,z3,z4,z5,z6,z7,z8,z9,J,O,Y,Z,z14,z15,z16⟩:=h;exact ⟨z0.mono I,z1.mono I,z2.mono I,z3.mono I,z4.mono I,z5.mono I,z6.mono I,z7.mono I,z8.mono I,z9.mono I,J.mono I,O.mono I,Y.mono I,Z.mono I,z14.mono I,z15.mono I,z16.mono I⟩
theorem cE.mm {H I:Hp}{g:cN}{x:aN} (h:cE H g x) (e:H.le I:=by exact lE):cE I g x:=h.mono e
theorem fm:Proofs.Tryz.prog.follows .mixedOrders=true:=by kernel_rfl
theorem GL.mixed:Proofs.Tryz.prog.follows .mixedOrders=true:=fm
class vY (B:Nat) (w0:World):Prop where
 lt:6<=B
 e1:∃ T p,w0.var? Proofs.Tryz.prog "strconv.ErrSyntax" = some #[.iface T p]
 e2:∃ T p,w0.var? Proofs.Tryz.prog "strconv.ErrRange" = some #[.iface T p]
 t3:Lib.TabIs Proofs.Tryz.prog w0 "internal/strconv.uint64pow10" .u64 Ni
 t4:Lib.TabIs Proofs.Tryz.prog w0 "math/bits.deBruijn32tab" .u8 Oh
 t5:Lib.TabIs Proofs.Tryz.prog w0 "math/bits.deBruijn64tab" .u8 Oi
theorem vY.below {B:Nat}{w0:World}[h:vY B w0] {g:Nat} (I:Nat.blt g 6=true):g<B:=by
 have:=h.lt;have:g<6:=by simpa [RA] using I
 omega
theorem PF:Proofs.Tryz.prog.globalNamed "strconv.ErrSyntax" = some 1:=by kernel_rfl
theorem PG:Proofs.Tryz.prog.globalNamed "strconv.ErrRange" = some 2:=by kernel_rfl
theorem O4:Proofs.Tryz.prog.globalNamed "internal/strconv.uint64pow10" = some 3:=by kernel_rfl
theorem PH:Proofs.Tryz.prog.globalNamed "math/bits.deBruijn32tab" = some 4:=by kernel_rfl
theorem O5:Proofs.Tryz.prog.globalNamed "math/bits.deBruijn64tab" = some 5:=by kernel_rfl
abbrev HF (d:Bool) (a:Hp) (c:List bQ):Hp->List bQ->Qn->Prop:=λf g h=>a=f/\c=g/\.bool (d)=h
abbrev Pw {I:Type} (a:List U8) (c:Nat->List U8->Unit->Option I) (d:I) (e:Hp) (l:Nat):Env->List bQ->Nat->Hp->List bQ->Env->Prop:=λf g h i j k=>∃ b0:Nat,∃ b1:List U8,(a).drop b0=b1/\b1.length=h/\c b0 b1 ()=some d/\e.le i/\g=j/\(l,.int .i64 (b0:Int))::f=k
abbrev wJ (a:Hp) (c:Nat) (d:Bool):Env->List bQ->Hp->List bQ->Env->Prop:=λf g h i j=>a=h/\g=i/\(c,.bool (d))::f=j
abbrev yY (d:Int) (a:Hp) (c:List bQ):Hp->List bQ->Qn->Prop:=λf g h=>a=f/\c=g/\.int .i64 (d)=h
abbrev FD {I:Type} (a:Nat) (c:Nat->Nat->Unit->Option I) (d:I) (e:Hp) (l:Nat):Env->List bQ->Nat->Hp->List bQ->Env->Prop:=λf g h i j k=>∃ b0 b1:Nat,b0+b1=a/\b1=h/\c b1 b0 ()=some d/\e.le i/\g=j/\(l,.int .i64 (b0:Int))::f=k
abbrev O7 {I:Type} (a:List Qm) (c:Nat->List Qm->Unit->Option I) (d:I) (e:Hp) (l:Nat):Env->List bQ->Nat->Hp->List bQ->Env->Prop:=λf g h i j k=>∃ b0:Nat,∃ b1:List Qm,(a).drop b0=b1/\b1.length=h/\c b0 b1 ()=some d/\e.le i/\g=j/\(l,.int .i64 (b0:Int))::f=k
abbrev Py {I:Type} (a:Bool->Option I) (c:I) (d:Hp) (e:Nat):Env->List bQ->Hp->List bQ->Env->Prop:=λf g h i j=>∃ b0:Bool,a b0=some c/\d=h/\g=i/\(e,.bool (b0))::f=j
abbrev Pz {α:Type}[aG α] (d:List α) (a:Hp) (c:List bQ):Hp->List bQ->Qn->Prop:=λf g h=>a=f/\∃ b0:Qn,∃ b1:List Qn,.row b0 9 (aG.sz Qm) d.length b1::c=g/\b0=h/\sC b0 b1 d
abbrev P5 {Y:Type} (a:List aF) (c:Nat->List aF->List Qm->Option Y) (d:Y) (e:Hp) (l:Nat) (m:Nat):Env->List bQ->Nat->Hp->List bQ->Env->Prop:=λf g h i j k=>∃ b0:Nat,∃ b1:List aF,∃ I:List Qm,∃ J:Qn,∃ O:List Qn,(a).drop b0=b1/\b1.length=h/\c b0 b1 I=some d/\Rw i J O I/\e.le i/\.row J 9 (aG.sz Qm) I.length O::g=j/\(l,J)::(m,.int .i64 (b0:Int))::f=k
abbrev Mm (d:Nat) (e:Qm) (l:Bool) (a:Hp) (c:List bQ):Hp->List bQ->Qn->Prop:=λf g h=>a=f/\.obj d (.cells ([.string (e)]:List Qn).toArray 9 (0,0))::c=g/\.bool (l)=h
abbrev NI (d:Nat) (e:Qm) (l:Int) (a:Hp) (c:List bQ):Hp->List bQ->Qn->Prop:=λf g h=>a=f/\.obj d (.cells ([.string (e)]:List Qn).toArray 9 (0,0))::c=g/\.int .i64 (l)=h
abbrev NJ (d:aE) (a:Hp) (c:List bQ):Hp->List bQ->Qn->Prop:=λf g h=>a=f/\∃ b0:Qn,∃ b1:List Qn,∃ O:Qn,∃ b3:List Qn,∃ Y:Qn,∃ b5:List Qn,∃ Z:Qn,∃ b7:List Qn,∃ b8:Qn,∃ b9:List Qn,∃ I:Qn,∃ J:List Qn,.row b0 9 (aG.sz Qm) d.bD.length b1::.row O 41 (aG.sz aS) d.aL.length b3::.row Y 120 (aG.sz aK) d.aH.length b5::.row Z 152 (aG.sz bE) d.cR.length b7::.row b8 55 (aG.sz aF) d.bB.length b9::.row I 156 (aG.sz bS) d.bM.length J::c=g/\.agg [b0,O,Y,Z,b8,I].toArray=h/\sC b0 b1 d.bD/\sC O b3 d.aL/\sC Y b5 d.aH/\sC Z b7 d.cR/\sC b8 b9 d.bB/\sC I J d.bM
abbrev Mn {α:Type}[aG α] (a:List α):Hp->List bQ->Qn->Prop:=λf g h=>∃ b0:Qn,∃ b1:List Qn,[.row b0 9 (aG.sz Qm) a.length b1]=g/\b0=h/\Rw f b0 b1 a
abbrev Mo (d:Nat) (e:Qn) (l:Bool) (a:Hp) (c:List bQ):Hp->List bQ->Qn->Prop:=λf g h=>a=f/\.obj d (.cells ([e]:List Qn).toArray 22 (0,0))::c=g/\.bool (l)=h
abbrev Mp (d:Nat) (e:Qn) (l:Int) (a:Hp) (c:List bQ):Hp->List bQ->Qn->Prop:=λf g h=>a=f/\.obj d (.cells ([e]:List Qn).toArray 22 (0,0))::c=g/\.int .i64 (l)=h
abbrev NK {α:Type}[aG α] (d:List α) (a:Hp) (c:List bQ):Hp->List bQ->Qn->Prop:=λf g h=>a=f/\∃ b0:Qn,∃ b1:List Qn,.row b0 3 (aG.sz Int) d.length b1::c=g/\b0=h/\sC b0 b1 d
abbrev GI (a:Int):Hp->List bQ->Qn->Prop:=λf g h=>[]=g/\.int .i64 (a)=h
abbrev K3 {α:Type}[aG α] (d:List α) (e:Int) (a:Hp) (c:List bQ):Hp->List bQ->Qn->Prop:=λf g h=>a=f/\∃ b0:Qn,∃ b1:List Qn,.row b0 3 (aG.sz Int) d.length b1::c=g/\.tuple #[b0,.int .i64 (e)]=h/\sC b0 b1 d
abbrev Mq {α:Type}[aG α] (a:List α):Hp->List bQ->Qn->Prop:=λf g h=>∃ b0:Qn,∃ b1:List Qn,[.row b0 3 (aG.sz Int) a.length b1]=g/\b0=h/\Rw f b0 b1 a
abbrev Fz (d:aD) (a:Hp) (c:List bQ):Hp->List bQ->Qn->Prop:=λf g h=>a.le f/\∃ b0:Qn,c=g/\.agg [.bool (d.minus),b0].toArray=h/\aQ f b0 d.words
abbrev Mr {I:Type} (a:Nat->Int->Option I) (c:I) (d:Hp) (e:Nat):Env->List bQ->Nat->Hp->List bQ->Env->Prop:=λf g h i j k=>∃ b0:Int,a h b0=some c/\d.le i/\g=j/\(e,.int .i64 (b0))::f=k
abbrev Ms {α:Type}[aG α] (d:List α) (a:Hp) (c:List bQ):Hp->List bQ->Qn->Prop:=λf g h=>a=f/\∃ b0:Qn,∃ b1:List Qn,.row b0 223 (aG.sz bU) d.length b1::c=g/\b0=h/\sC b0 b1 d
abbrev OE {Y:Type} (a:List bU) (c:Nat->List bU->((List bU)×Int)->Option Y) (d:Y) (e:Qn) (l:Hp) (m:Nat) (n:Nat):Env->List bQ->Nat->Hp->List bQ->Env->Prop:=λf g h i j k=>∃ b0:Nat,∃ b1 I:List bU,∃ J:Int,∃ O:List Qn,(a).drop b0=b1/\b1.length=h/\c b0 b1 (I,J)=some d/\Rw i e O I/\l.le i/\.row e 223 (aG.sz bU) I.length O::g=j/\(m,.int .u64 (J))::(n,.int .i64 (b0:Int))::f=k
abbrev Cw {α:Type}[aG α] (a:List α):Hp->List bQ->Qn->Prop:=λf g h=>∃ b0:Qn,∃ b1:List Qn,[.row b0 223 (aG.sz bU) a.length b1]=g/\b0=h/\Rw f b0 b1 a
abbrev OF {Y:Type} (a:Nat) (c:Nat->Nat->((List bU)×Int)->Option Y) (d:Y) (e:Qn) (l:Hp) (m:Nat) (n:Nat):Env->List bQ->Nat->Hp->List bQ->Env->Prop:=λf g h i j k=>∃ b0 b1:Nat,∃ I:List bU,∃ J:Int,∃ O:List Qn,b0+b1=a/\b1=h/\c b1 b0 (I,J)=some d/\Rw i e O I/\l.le i/\.row e 223 (aG.sz bU) I.length O::g=j/\(m,.int .u64 (J))::(n,.int .i64 (b0:Int))::f=k
abbrev NM {α:Type}[aG α] (a:aD) (c:List α):Hp->List bQ->Qn->Prop:=λf g h=>∃ b0:Qn,∃ b1:List Qn,∃ I:Qn,[]=g/\.agg [.bool (a.minus),I].toArray=h/\Rw f b0 b1 c/\aQ f b0 c/\aQ f I a.words
abbrev Af (a:aD):Hp->List bQ->Qn->Prop:=λf g h=>∃ b0:Qn,[]=g/\.agg [.bool (a.minus),b0].toArray=h/\aQ f b0 a.words
abbrev OG:Hp->List bQ->Qn->Prop:=λf g h=>∃ b0:Nat,[.obj b0 (.cells ([.bool (false),.slice none 0 0]:List Qn).toArray 123 (0,0))]=g/\.pointer (some ⟨b0,0,none⟩)=h
abbrev OH {Z:Type} (a:Bool->(List bU)->Bool->(List bU)->Option Z) (c:Z) (d:Hp) (e:Nat) (l:Nat):Env->List bQ->Hp->List bQ->Env->Prop:=λf g h i j=>∃ b0:Bool,∃ b1:(List bU),∃ I:Bool,∃ J:(List bU),∃ O Y:Qn,a b0 b1 I J=some c/\aQ h O b1/\aQ h Y J/\d.le h/\.obj e (.cells ([.bool (b0),O]:List Qn).toArray 123 (0,0))::.obj l (.cells ([.bool (I),Y]:List Qn).toArray 123 (0,0))::g=i/\f=j
abbrev Ci (d:aA) (a:Hp) (c:List bQ):Hp->List bQ->Qn->Prop:=λf g h=>a.le f/\∃ b0 b1:Qn,c=g/\.agg [.bool (d.N.minus),b0,.bool (d.D.minus),b1].toArray=h/\aQ f b0 d.N.words/\aQ f b1 d.D.words
abbrev sZ (a:aA):Hp->List bQ->Qn->Prop:=λf g h=>∃ b0 b1:Qn,[]=g/\.agg [.bool (a.N.minus),b0,.bool (a.D.minus),b1].toArray=h/\aQ f b0 a.N.words/\aQ f b1 a.D.words
abbrev NN {α:Type}[aG α] (a:List α):Hp->List bQ->Qn->Prop:=λf g h=>∃ b0:Qn,∃ b1:List Qn,[.row b0 125 (aG.sz aA) a.length b1]=g/\b0=h/\Rw f b0 b1 a
abbrev Mu {α:Type}[aG α] (d:List α) (e:Nat) (l:Qn) (m:Qn) (n:Qn) (o:Qn) (p:Qn) (q:Qn) (r:Qn) (s:Qn) (a:Hp) (c:List bQ):Hp->List bQ->Qn->Prop:=λf g h=>a.le f/\∃ b0:Qn,∃ b1:List Qn,.row b0 125 (aG.sz aA) d.length b1::.obj e (.cells ([l,m,n,o,p,q,r,s]:List Qn).toArray 197 (0,0))::c=g/\b0=h/\Rw f b0 b1 d
abbrev OI {O:Type} (a:List Int) (c:Nat->List Int->List aA->Option O) (d:O) (e:Qn) (l:Hp) (m:Nat):Env->List bQ->Nat->Hp->List bQ->Env->Prop:=λf g h i j k=>∃ b0:Nat,∃ b1:List Int,∃ I:List aA,∃ J:List Qn,(a).drop b0=b1/\b1.length=h/\c b0 b1 I=some d/\Rw i e J I/\l.le i/\.row e 125 (aG.sz aA) I.length J::g=j/\(m,.int .i64 (b0:Int))::f=k
abbrev IU (d:Qm) (a:Hp) (c:List bQ):Hp->List bQ->Qn->Prop:=λf g h=>a=f/\c=g/\.string (d)=h
abbrev Mv (a:Nat):Hp->List bQ->Qn->Prop:=λf g h=>[]=g/\.pointer (some ⟨a,0,none⟩)=h
abbrev OJ {Y:Type} (a:List aK) (c:Nat->List aK->List Qm->Option Y) (d:Y) (e:Hp) (l:Nat) (m:Nat):Env->List bQ->Nat->Hp->List bQ->Env->Prop:=λf g h i j k=>∃ b0:Nat,∃ b1:List aK,∃ I:List Qm,∃ J:Qn,∃ O:List Qn,(a).drop b0=b1/\b1.length=h/\c b0 b1 I=some d/\Rw i J O I/\e.le i/\.row J 9 (aG.sz Qm) I.length O::g=j/\(l,J)::(m,.int .i64 (b0:Int))::f=k
abbrev OK {J:Type} (a:List Qm->Option J) (c:J) (d:Hp) (e:Nat):Env->List bQ->Hp->List bQ->Env->Prop:=λf g h i j=>∃ b0:List Qm,∃ b1:Qn,∃ I:List Qn,a b0=some c/\Rw h b1 I b0/\d.le h/\.row b1 9 (aG.sz Qm) b0.length I::g=i/\(e,b1)::f=j
abbrev OL {α:Type}[aG α] (d:cG) (e:List α) (l:Int) (a:Hp) (c:List bQ):Hp->List bQ->Qn->Prop:=λf g h=>a=f/\∃ b0:Qn,∃ b1:List Qn,∃ I:Qn,∃ O:List Qn,∃ J:Qn,∃ Y:List Qn,.row b0 117 (aG.sz Qm) d.fD.length b1::.row I 117 (aG.sz Qm) d.eO.length O::.row J 9 (aG.sz Qm) e.length Y::c=g/\.tuple #[.agg [b0,I].toArray,J,.int .i64 (l)]=h/\sC b0 b1 d.fD/\sC I O d.eO/\sC J Y e
abbrev K4 (a:cG):Hp->List bQ->Qn->Prop:=λf g h=>∃ b0 b1:Qn,∃ I J:List Qn,[]=g/\.agg [b0,b1].toArray=h/\Rw f b0 I a.fD/\Rw f b1 J a.eO/\aQ f b0 a.fD/\aQ f b1 a.eO
abbrev OM {α:Type}[aG α] {O:Type}[aG O] (a:List α) (c:List O):Hp->List bQ->Qn->Prop:=λf g h=>∃ b0:Qn,∃ b1:List Qn,∃ I:Qn,∃ J:List Qn,[.row b0 9 (aG.sz Qm) a.length b1,.row I 9 (aG.sz Qm) c.length J]=g/\I=h/\Rw f b0 b1 a/\Rw f I J c
abbrev ON:Hp->List bQ->Qn->Prop:=λf g h=>∃ b0:Nat,[.obj b0 (.cells ([.slice none 0 0,.slice none 0 0]:List Qn).toArray 65 (0,0))]=g/\.pointer (some ⟨b0,0,none⟩)=h
abbrev OO (a:cG):Hp->List bQ->Qn->Prop:=λf g h=>∃ b0 b1:Qn,∃ I:Nat,∃ J O:List Qn,[.obj I (.cells ([b0,b1]:List Qn).toArray 65 (0,0))]=g/\.pointer (some ⟨I,0,none⟩)=h/\Rw f b0 J a.fD/\Rw f b1 O a.eO/\aQ f b0 a.fD/\aQ f b1 a.eO
abbrev NO (a:aE):Hp->List bQ->Qn->Prop:=λf g h=>∃ b0:Qn,∃ b1:List Qn,∃ O:Qn,∃ b3:List Qn,∃ Y:Qn,∃ b5:List Qn,∃ Z:Qn,∃ b7:List Qn,∃ b8:Qn,∃ b9:List Qn,∃ I:Qn,∃ J:List Qn,[.row b0 9 (aG.sz Qm) a.bD.length b1,.row O 41 (aG.sz aS) a.aL.length b3,.row Y 120 (aG.sz aK) a.aH.length b5,.row Z 152 (aG.sz bE) a.cR.length b7,.row b8 55 (aG.sz aF) a.bB.length b9,.row I 156 (aG.sz bS) a.bM.length J]=g/\.agg [b0,O,Y,Z,b8,I].toArray=h/\Rw f b0 b1 a.bD/\Rw f O b3 a.aL/\Rw f Y b5 a.aH/\Rw f Z b7 a.cR/\Rw f b8 b9 a.bB/\Rw f I J a.bM
abbrev NP {α:Type}[aG α] {Y:Type}[aG Y] (a:Qn) (c:List α) (d:List Qn) (e:List Y) (l:Int) (m:cG):Hp->List bQ->Qn->Prop:=λf g h=>∃ b0:Qn,∃ b1:List Qn,∃ I:Qn,∃ Z:List Qn,∃ J:Qn,∃ O:List Qn,[.row a 9 (aG.sz Qm) c.length d,.row J 9 (aG.sz Qm) e.length O]=g/\.tuple #[.agg [b0,I].toArray,J,.int .i64 (l)]=h/\Rw f b0 b1 m.fD/\Rw f I Z m.eO/\Rw f J O e/\aQ f b0 m.fD/\aQ f I m.eO
abbrev NQ {α:Type}[aG α] {O:Type}[aG O] (a:Qn) (c:List α) (d:List Qn) (e:List O) (l:Int) (m:cG):Hp->List bQ->Qn->Prop:=λf g h=>∃ b0 b1 I:Qn,∃ J Y Z:List Qn,[.row a 9 (aG.sz Qm) c.length d,.row I 9 (aG.sz Qm) e.length J]=g/\.tuple #[.agg [b0,b1].toArray,I,.int .i64 (l)]=h/\Rw f b0 Y m.fD/\Rw f b1 Z m.eO/\Rw f I J e/\aQ f b0 m.fD/\aQ f b1 m.eO
abbrev NR {α:Type}[aG α] {I:Type}[aG I] (a:Qn) (c:List α) (d:List Qn) (e:List I):Hp->List bQ->Qn->Prop:=λf g h=>∃ b0:Qn,∃ b1:List Qn,[.row a 9 (aG.sz Qm) c.length d,.row b0 9 (aG.sz Qm) e.length b1]=g/\b0=h/\Rw f b0 b1 e
abbrev NS (d:Nat) (e:aB) (l:Bool) (a:Hp) (c:List bQ):Hp->List bQ->Qn->Prop:=λf g h=>a=f/\.obj d (.cells ([.int .i64 (e.Time),.string (e.Kind),.string (e.Name),.int .i64 (e.Value)]:List Qn).toArray 45 (0,0))::c=g/\.bool (l)=h
abbrev NT (d:Nat) (e:aB) (l:Int) (a:Hp) (c:List bQ):Hp->List bQ->Qn->Prop:=λf g h=>a=f/\.obj d (.cells ([.int .i64 (e.Time),.string (e.Kind),.string (e.Name),.int .i64 (e.Value)]:List Qn).toArray 45 (0,0))::c=g/\.int .i64 (l)=h
abbrev OP (d:Nat) (e:Nat) (l:Nat) (m:cN) (n:aN) (o:Nat) (p:cX) (q:Int) (a:Hp) (c:List bQ):Hp->List bQ->Qn->Prop:=λf g h=>a.le f/\∃ b0 b1:Qn,∃ Z:List Qn,∃ b3 J:Qn,∃ b5:List Qn,∃ O:Qn,∃ b7:List Qn,∃ b8 Y:Qn,∃ I:List Qn,eJ (aM d e l m n)::.obj o (.cells ([b0,b1,b3,J,O,b8,Y]:List Qn).toArray 103 (0,0))::.row b1 41 (aG.sz aS) p.n.aL.length Z::.row J 152 (aG.sz bE) p.n.cR.length b5::.row O 55 (aG.sz aF) p.n.bB.length b7::.row Y 9 (aG.sz Qm) p.on.length I::c=g/\.int .i64 (q)=h/\aQ f b0 p.n.bD/\Rw f b1 Z p.n.aL/\aQ f b3 p.n.aH/\Rw f J b5 p.n.cR/\Rw f O b7 p.n.bB/\aQ f b8 p.n.bM/\Rw f Y I p.on
abbrev OQ {α:Type}[aG α] (a:List α):Hp->List bQ->Qn->Prop:=λf g h=>∃ b0:Qn,∃ b1:List Qn,[.row b0 45 (aG.sz aB) a.length b1]=g/\b0=h/\Rw f b0 b1 a
abbrev NU {α:Type}[aG α] (d:List α) (e:Nat) (l:Qn) (a:Hp) (c:List bQ):Hp->List bQ->Qn->Prop:=λf g h=>a=f/\∃ b0:Qn,∃ b1:List Qn,.row b0 9 (aG.sz Qm) d.length b1::.obj e (.cells ([l]:List Qn).toArray 22 (0,0))::c=g/\b0=h/\sC b0 b1 d
abbrev Mw {O:Type} (a:Nat->((List Qm)×Int×Int)->Option O) (c:O) (d:Qn) (e:Hp) (l:Nat) (m:Nat):Env->List bQ->Nat->Hp->List bQ->Env->Prop:=λf g h i j k=>∃ b0:List Qm,∃ b1 I:Int,∃ J:List Qn,a h (b0,b1,I)=some c/\Rw i d J b0/\e.le i/\.row d 9 (aG.sz Qm) b0.length J::g=j/\(l,.int .i64 (b1))::(m,.int .i64 (I))::f=k
abbrev My {J:Type} (a:List Qm->Int->Option J) (c:J) (d:Qn) (e:Hp) (l:Nat):Env->List bQ->Hp->List bQ->Env->Prop:=λf g h i j=>∃ b0:List Qm,∃ b1:Int,∃ I:List Qn,a b0 b1=some c/\Rw h d I b0/\e=h/\.row d 9 (aG.sz Qm) b0.length I::g=i/\(l,.int .i64 (b1))::f=j
abbrev Mz {α:Type}[aG α] (d:List α) (e:Nat) (l:Qn) (m:Nat) (n:Qn) (o:Qn) (p:Qn) (q:Qn) (r:Qn) (s:Qn) (t:Bool) (a:Hp) (c:List bQ):Hp->List bQ->Qn->Prop:=λf g h=>a=f/\∃ b0:Qn,∃ b1:List Qn,.row b0 9 (aG.sz Qm) d.length b1::.obj e (.cells ([l]:List Qn).toArray 22 (0,0))::.obj m (.cells ([n,o,p,q,r,s]:List Qn).toArray 29 (0,0))::c=g/\.tuple #[b0,.bool (t)]=h/\sC b0 b1 d
abbrev OR {α:Type}[aG α] (d:List α) (e:Int) (a:Hp) (c:List bQ):Hp->List bQ->Qn->Prop:=λf g h=>a=f/\∃ b0:Qn,∃ b1:List Qn,.row b0 9 (aG.sz Qm) d.length b1::c=g/\.tuple #[b0,.int .i64 (e)]=h/\sC b0 b1 d
abbrev OS {Y:Type} (a:List Qm) (c:Nat->List Qm->List aB->Option Y) (d:Y) (e:Hp) (l:Nat) (m:Nat):Env->List bQ->Nat->Hp->List bQ->Env->Prop:=λf g h i j k=>∃ b0:Nat,∃ b1:List Qm,∃ I:List aB,∃ J:Qn,∃ O:List Qn,(a).drop b0=b1/\b1.length=h/\c b0 b1 I=some d/\Rw i J O I/\e.le i/\.row J 45 (aG.sz aB) I.length O::.obj l (.cells ([J]:List Qn).toArray 158 (0,0))::g=j/\(m,.int .i64 (b0:Int))::f=k
abbrev OT {α:Type}[aG α] (a:Qn) (c:cX) (d:List Qn) (e:Qn) (l:List Qn) (m:Qn) (n:List Qn) (o:Qn) (p:List Qn) (q:List α):Hp->List bQ->Qn->Prop:=λf g h=>∃ b0:Qn,∃ b1:List Qn,[.row a 41 (aG.sz aS) c.n.aL.length d,.row e 152 (aG.sz bE) c.n.cR.length l,.row m 55 (aG.sz aF) c.n.bB.length n,.row o 9 (aG.sz Qm) c.on.length p,.row b0 9 (aG.sz Qm) q.length b1]=g/\b0=h/\Rw f b0 b1 q
abbrev OU {ρ:Type} (a:(List aK)->List aA->List Int->List Bool->Int->Option ρ) (c:ρ) (d:Hp) (e:Nat):Env->List bQ->Hp->List bQ->Env->Prop:=λf g h i j=>∃ b0:(List aK),∃ b1:List aA,∃ O:List Int,∃ Y:List Bool,∃ b4:Int,∃ b5 Z:Qn,∃ b7:List Qn,∃ b8:Qn,∃ b9:List Qn,∃ I:Qn,∃ J:List Qn,a b0 b1 O Y b4=some c/\aQ h b5 b0/\Rw h Z b7 b1/\Rw h b8 b9 O/\Rw h I J Y/\d.le h/\.row Z 125 (aG.sz aA) b1.length b7::.row b8 3 (aG.sz Int) O.length b9::.row I 4 (aG.sz Bool) Y.length J::.obj e (.cells ([b5,Z,b8,I,.int .i64 (b4)]:List Qn).toArray 115 (0,0))::g=i/\f=j
abbrev NV (a:Hp) (c:Nat):Env->List bQ->Hp->List bQ->Env->Prop:=λf g h i j=>a=h/\g=i/\(c,.bool (true))::f=j
abbrev Px (a:aE) (c:Nat) (d:Nat) (e:Nat) (l:cN) (m:aN):Hp->List bQ->Qn->Prop:=λf g h=>∃ b0:Qn,∃ b1:List Qn,∃ O:Qn,∃ b3:List Qn,∃ Y:Qn,∃ b5:List Qn,∃ Z:Qn,∃ b7:List Qn,∃ b8:Qn,∃ b9:List Qn,∃ I:Qn,∃ J:List Qn,[.row b0 9 (aG.sz Qm) a.bD.length b1,.row O 41 (aG.sz aS) a.aL.length b3,.row Y 120 (aG.sz aK) a.aH.length b5,.row Z 152 (aG.sz bE) a.cR.length b7,.row b8 55 (aG.sz aF) a.bB.length b9,.row I 156 (aG.sz bS) a.bM.length J,eJ (aM c d e l m)]=g/\.agg [b0,O,Y,Z,b8,I].toArray=h/\Rw f b0 b1 a.bD/\Rw f O b3 a.aL/\Rw f Y b5 a.aH/\Rw f Z b7 a.cR/\Rw f b8 b9 a.bB/\Rw f I J a.bM
abbrev NW (a:Nat) (c:Nat) (d:Nat) (e:aN) (l:Int):Hp->List bQ->Qn->Prop:=λf g h=>∃ b0:cN,[eJ (aM a c d b0 e)]=g/\.int .i64 (l)=h/\cE f b0 e
abbrev OV {α:Type}[aG α] (a:aE) (c:List α) (d:Nat) (e:Nat) (l:Nat) (m:cN) (n:aN) (o:Int):Hp->List bQ->Qn->Prop:=λf g h=>∃ b0:Qn,∃ b1:List Qn,∃ Z:Qn,∃ b3:List Qn,∃ b4:Qn,∃ b5:List Qn,∃ b6:Qn,∃ b7:List Qn,∃ b8:Qn,∃ b9:List Qn,∃ J:Qn,∃ O:List Qn,∃ I:Qn,∃ Y:List Qn,[.row b0 9 (aG.sz Qm) a.bD.length b1,.row Z 41 (aG.sz aS) a.aL.length b3,.row b4 120 (aG.sz aK) a.aH.length b5,.row b6 152 (aG.sz bE) a.cR.length b7,.row b8 55 (aG.sz aF) a.bB.length b9,.row J 156 (aG.sz bS) a.bM.length O,.row I 9 (aG.sz Qm) c.length Y,eJ (aM d e l m n)]=g/\.tuple #[I,.int .i64 (o)]=h/\Rw f b0 b1 a.bD/\Rw f Z b3 a.aL/\Rw f b4 b5 a.aH/\Rw f b6 b7 a.cR/\Rw f b8 b9 a.bB/\Rw f J O a.bM/\Rw f I Y c
abbrev OW {α:Type}[aG α] (a:aE) (c:List α) (d:Nat) (e:Nat) (l:Nat) (m:cN) (n:aN):Hp->List bQ->Qn->Prop:=λf g h=>∃ b0:Qn,∃ b1:List Qn,∃ Z:Qn,∃ b3:List Qn,∃ b4:Qn,∃ b5:List Qn,∃ b6:Qn,∃ b7:List Qn,∃ b8:Qn,∃ b9:List Qn,∃ J:Qn,∃ O:List Qn,∃ I:Qn,∃ Y:List Qn,[.row b0 9 (aG.sz Qm) a.bD.length b1,.row Z 41 (aG.sz aS) a.aL.length b3,.row b4 120 (aG.sz aK) a.aH.length b5,.row b6 152 (aG.sz bE) a.cR.length b7,.row b8 55 (aG.sz aF) a.bB.length b9,.row J 156 (aG.sz bS) a.bM.length O,.row I 9 (aG.sz Qm) c.length Y,eJ (aM d e l m n)]=g/\I=h/\Rw f b0 b1 a.bD/\Rw f Z b3 a.aL/\Rw f b4 b5 a.aH/\Rw f b6 b7 a.cR/\Rw f b8 b9 a.bB/\Rw f J O a.bM/\Rw f I Y c
abbrev Cq (B:Nat) (w0:World) (n:FuncId) (a:List Qn) (H:Hp) (M:List bQ) (F:Hp->List bQ->Hp->List bQ->Qn->Prop):Prop:=∀ ⦃w⦄,St B w0 H M w->Calls Proofs.Tryz.prog n a.toArray w (ux B w0 (F H M))
theorem fZ {n:FuncId}{I:Func}{c:Code}{vs:List Qn}{N B:Nat}{w0:World}{H:Hp}{M:List bQ}{F:Hp->List bQ->Hp->List bQ->Qn->Prop} (Y:Proofs.Tryz.prog.funcs[n]? = some I)
  (k:C ⟨Proofs.Tryz.prog,N,B,w0⟩ c (bodyPost Proofs.Tryz.prog I (ux B w0 (F H M))) H M (CK 0 vs)) (O:I.body=some c:=by rfl) (hN:I.ntmps=N:=by rfl) (J:Nat.ble vs.length N=true:=by rfl):Cq B w0 n vs H M F:=λ_ ht=>enter Y O hN J ht k
variable {B:Nat}{w0 w:World}[vY B w0] {H:Hp}{M:List bQ}
theorem xj {a0:aE}{v0 v1 v2 v3 v4 v5:Qn}{r:aE} (hm:nj a0=some r) (h0:aQ H v0 a0.bD) (h1:aQ H v1 a0.aL) (h2:aQ H v2 a0.aH) (h3:aQ H v3 a0.cR) (h4:aQ H v4 a0.bB) (h5:aQ H v5 a0.bM):
  Cq B w0 44 [.agg [v0,v1,v2,v3,v4,v5].toArray] H M (λH M H' M' v=>H.le H'/\∃ J O Y Z qv4 qv5:Qn,M=M'/\.agg [J,O,Y,Z,qv4,qv5].toArray=v/\aQ H' J r.bD/\aQ H' O r.aL/\aQ H' Y r.aH/\aQ H' Z r.cR/\aQ H' qv4 r.bB/\aQ H' qv5 r.bM):=by
 unfold nj at hm;refine fZ func44 ?_;refine gs ?_;refine bx (λa5=>?_);refine al (λa6=>?_);refine gs ?_;refine A8 G G G G ?_;obtain ⟨a7,hm⟩:=aI hm;refine rP (α:=aF) (l:=0) (h:=(min (a0.bB.length:Int) 4:Int).toNat) (xs:=a0.bB) G G Tu sizeOf55 G h4 (by omega) (by omega) (.inl G) (λcap I=>by rw [Qx G]; exact (.inl ⟨G,G⟩)) (λm hmm=>(.inr ⟨_,_,_,G,G,by omega,by omega,G⟩)) (.inl ⟨G,G⟩) ?_
 intro a1 a2 a8;refine go ?_;refine wt 1 ?_;refine gs ?_;refine A8 G G G G ?_;obtain ⟨a9,hm⟩:=aI hm;refine rP (α:=bE) (l:=0) (h:=(min (a0.cR.length:Int) 4:Int).toNat) (xs:=a0.cR) G G UZ sizeOf152 G h3 (by omega) (by omega) (.inl G) (λcap I=>by rw [Qx G]; exact (.inl ⟨G,G⟩)) (λm hmm=>(.inr ⟨_,_,_,G,G,by omega,by omega,G⟩)) (.inl ⟨G,G⟩) ?_
 intro a3 a4 aa;refine go ?_;refine wt 0 ?_;refine gs ?_;refine wt 1 ?_;refine go ?_;obtain rfl:=Qs hm;exact kV lE G (fY.agg G Tk S_ (.head _) G) (.cons _ (.cons _ (.refl _))) (.refl _) ⟨lE,v0,v1,v2,a3,a1,v5,G,G,h0,h1,h2,a4,a2,h5⟩
theorem ox {a0:aX}{v0 v1 v2 v3 v4 v5 v6:Qn}{r:aX} (hm:cK a0=some r) (h0:aQ H v0 a0.bK.bD) (h1:aQ H v1 a0.bK.aL) (h2:aQ H v2 a0.bK.aH) (h3:aQ H v3 a0.bK.cR) (h4:aQ H v4 a0.bK.bB) (h5:aQ H v5 a0.bK.bM) (h6:aQ H v6 a0.nL):
  Cq B w0 9 [.agg [v0,v1,v2,v3,v4,v5,v6].toArray] H M (λH M H' M' v=>H.le H'/\∃ I J O Y Z qv5 qv6:Qn,M=M'/\.agg [I,J,O,Y,Z,qv5,qv6].toArray=v/\aQ H' I r.bK.bD/\aQ H' J r.bK.aL/\aQ H' O r.bK.aH/\aQ H' Y r.bK.cR/\aQ H' Z r.bK.bB/\aQ H' qv5 r.bK.bM/\aQ H' qv6 r.nL):=by
 unfold cK at hm;refine fZ func9 ?_;refine gs ?_;refine bx (λah=>?_);refine al (λai=>?_);refine gs ?_;refine iG (cs:=[v0,v1,v2,v3,v4,v5]) G G Tk S_ G (pP (.tail _ (.head _)) G) G ?_;obtain ⟨a1,a2,hm⟩:=aU hm;refine ca @xj a2 ?_;rintro _ aj _ ⟨a3,a4,a5,a6,a7,ak,a8,rfl,rfl,a9,aa,ab,ac,ad,ae⟩;refine go ?_;refine wt 1 ?_;refine gs ?_;refine A8 G G G G ?_;obtain ⟨am,hm⟩:=aI hm;refine rP (α:=aF) (l:=0) (h:=(min (a1.bB.length:Int) 3:Int).toNat) (xs:=a1.bB) G G Tu sizeOf55 G ad (by omega) (by omega) (.inl G) (λcap hcap=>by rw [Qx G]; exact (.inl ⟨G,G⟩)) (λm hmm=>(.inr ⟨_,_,_,G,G,by omega,by omega,G⟩)) (.inl ⟨G,G⟩) ?_
 intro af ag an;refine go ?_;refine wt 0 ?_;refine gs ?_;refine wt 1 ?_;refine go ?_;obtain rfl:=Qs hm;exact kV lE G (fY.agg G isAgg32 sizeOf32 (.head _) G) (.cons _ (.cons _ (.refl _))) (.refl _) ⟨a3,a4,a5,a6,a7,af,a8,v6,G,G,a9,aa,ab,ac,ag,ae,h6.mm⟩
theorem o9 {J:Qm}{r:Bool} (hm:bL J=some r):
  Cq B w0 96 [.string (J)] H M (HF r):=by
 unfold bL at hm;refine fZ func96 ?_;refine g2 ?_;refine gs ?_;obtain ⟨aa,hm⟩:=aI hm;refine vw G G Q4 Ui UD G aa ?_;intro ak ab am ac;refine go ?_;obtain ⟨Y,ad,ae,hm⟩:=cQ hm;refine cl [(0,_),(6,_),(7,_)] [] 0 [] 0 (Pw (kC J) Y r ab 8) _ G ⟨0,_,G,G,hm,lE,G,G⟩ ?_;rintro _ Z _ _ ⟨a0,a4,a8,rfl,hm,an,rfl,rfl⟩;refine g2 ?_;refine bI G (λO=>?_) (λO=>?_);obtain ⟨a1,af,rfl,ag,ah⟩:=fS a8 O;have hm:=(ad _ _ _ _).symm.trans hm;generalize ai:Y (a0+1) af=ao at hm;unfold oa at hm;refine g2 ?_;refine cj [(0,_),(6,_),(7,_),(8,_)] [] 0 (wJ Z 31 (!(((decide (65<=a1.n)) && (decide (a1.n<=90))) || (((decide (0<(a0:Int))) && (decide (48<=a1.n))) && (decide (a1.n<=57)))))) ?_ (λI=>?_);rintro _ _ _ ⟨rfl,rfl,rfl⟩;refine cd hm G (λaj hm=>?_) (λaj hm=>?_);refine gs ?_;exact ef;refine gt ?_
 refine gj ?_;exact kj (eb ah ai) (kK (cA ag ac.mm.cV));refine go ?_;cases ap:(decide (65<=a1.n));refine go ?_;cases aq:(decide (0<(a0:Int)));refine gj ?_;exact kj (I _ _ _ pk) kS;refine go ?_;cases ar:(decide (48<=a1.n));refine gj ?_;exact kj (I _ _ _ pk) kS;refine gj ?_;exact kj (I _ _ _ pk) kS;refine go ?_;cases au:(decide (a1.n<=90));refine go ?_;cases av:(decide (0<(a0:Int)));refine gj ?_;exact kj (I _ _ _ pk) kS;refine go ?_;cases aw:(decide (48<=a1.n));refine gj ?_;exact kj (I _ _ _ pk) kS;refine gj ?_;exact kj (I _ _ _ pk) kS;refine gj ?_;exact kj (I _ _ _ pk) kS;obtain rfl:=fR a8 O;have hm:=(ae _ _).symm.trans hm;refine go ?_;refine cj [] [] 0 (wJ Z 2 ((decide (1<=(J.size:Int))) && (decide ((J.size:Int)<=8)))) ?_ (λa9=>?_);rintro _ _ _ ⟨rfl,rfl,rfl⟩;refine go ?_;exact ef;refine go ?_;refine kU G G Q4 G (go ?_);cases ax:(decide (1<=(J.size:Int)))
 refine gj ?_;exact kj (a9 _ _ _ pk) kS;refine go ?_;refine kU G G Q4 G (gj ?_);exact kj (a9 _ _ _ pk) kS
theorem cC {I:(List Qm)}{O:Qm}{v0:Qn}{r:Int} (hm:bH I O=some r) (h0:aQ H v0 I):
  Cq B w0 72 [v0,.string (O)] H M (yY r):=by
 unfold bH at hm;refine fZ func72 ?_;refine g2 ?_;refine gs ?_;obtain ⟨Y,a7,a8,hm⟩:=jP hm;refine cl [(0,_),(1,_),(7,_)] [] 0 [] 0 (FD (((I.length:Int):Int).toNat) Y r H 8) _ G ⟨0,_,QP _,G,hm,lE,G,G⟩ ?_;rintro _ ae _ _ ⟨a0,a1,Z,rfl,hm,af,rfl,rfl⟩;refine g2 ?_;refine bI G (λJ=>?_) (λJ=>?_);obtain ⟨a9,rfl,aa,ab⟩:=mc Z J;have hm:=(a7 _ _ _).symm.trans hm;generalize ac:Y a9 (a0+1)=ag at hm;unfold l_ at hm;refine g2 ?_;refine gs ?_;obtain ⟨ah,ai,aj,hm⟩:=aC hm;refine go ?_;refine cd hm G (λad hm=>?_) (λad hm=>?_);refine gs ?_;exact ef;refine gt ?_;refine gj ?_;exact kj (eb aa ac) (kK (eZ ab (e_ (lH (h0).cV))));obtain rfl:=mb Z J;have hm:=(a8 _ _).symm.trans hm;refine gs ?_;exact ef
theorem bX {a0:(List Qm)}{a1:Qm}{v0:Qn}{r:Bool} (hm:bG a0 a1=some r) (O:aQ H v0 a0):
  Cq B w0 30 [v0,.string (a1)] H M (HF r):=by
 unfold bG at hm;refine fZ func30 ?_;refine g2 ?_;obtain ⟨J,I,hm⟩:=aU hm;refine cz @cC I ?_;refine go ?_;exact ef
theorem gF {Z:aV}{name:Qm}{nodes:(List Qm)}{b0:Nat}{J:Array MapEntry}{c0:Nat}{v0 v1:Qn}{r:Int×aV} (hm:cI Z name nodes=some r) (h0:sB J c0 Z.seen) (h1:aQ H v0 Z.nodes) (h2:aQ H v1 nodes):
  Cq B w0 105 [.agg [.map (some b0),v0].toArray,.string (name),v1] H (.obj b0 (.map J c0)::M) (λH _ H' M' v=>H.le H'/\∃ I:Array MapEntry,∃ O:Nat,∃ qv0:Qn,.obj b0 (.map I O)::M=M'/\.int .i64 (r.1)=v/\sB I O r.2.seen/\aQ H' qv0 r.2.nodes):=by
 unfold cI at hm;refine fZ func105 ?_;refine gs ?_;refine bx (λaj=>?_);refine g2 ?_;obtain ⟨ak,a7,hm⟩:=aU hm;refine cz @o9 a7 ?_;refine go ?_;refine cd hm G (λa8 hm=>?_) (λa8 hm=>?_);refine gs ?_;refine Ek [1] 1 ?_;exact en;refine gs ?_;refine A5 (z:=false) (k:=name) (.tail _ (.head _)) h0 G G runUnderlying165 Q4 zeroValue4 G G G G (go ?_);refine cd hm G (λa9 hm=>?_) (λa9 hm=>?_);refine gs ?_;refine Ek [1] 1 ?_;exact en;refine gs ?_;refine Wp [1] ?_;refine xv (k:=name) (v:=true) h0 G runUnderlying165 Q4 G G G G G ?_;intro am an ao;refine g2 ?_;obtain ⟨a5,aa,ab,hm⟩:=cQ hm;refine cl [(2,_),(3,_),(21,_),(22,_)] [] 0 [] 0 (O7 nodes a5 r H 23) _ G ⟨0,_,G,G,hm,lE,G,G⟩ ?_;rintro _ ap _ _ ⟨a0,a1,a6,rfl,hm,aq,rfl,rfl⟩;refine g2 ?_;refine bI G (λa4=>?_) (λa4=>?_);obtain ⟨ar,ac,rfl,ad,ae⟩:=fS a6 a4
 have hm:=(aa _ _ _ _).symm.trans hm;generalize af:a5 (a0+1) ac=au at hm;unfold iT at hm;refine g2 ?_;refine gs ?_;obtain ⟨av,ag,hm⟩:=aU hm;refine cz @bX ag ?_;refine go ?_;refine cd hm G (λah hm=>?_) (λah hm=>?_);refine gs ?_;refine Ek [0] 1 ?_;exact en;refine gt ?_;refine gj ?_;exact kj (eb ae af) (kK (cA ad h2.mm.cV));obtain rfl:=fR a6 a4;have hm:=(ab _ _).symm.trans hm;refine g2 ?_;cases Y:(decide ((nodes.length:Int)=2));have hm:=eP Y hm;refine pA fm 10 [ph _,ph _,ph (.bool (false)),ph _,ph _,ph _,ph _,ph _,ph _,ph _] ⟨om,om,Ks Y,om,om,om,om,om,om,om,Qo⟩ ?_;intro aw ax;refine dz ?_;refine go ?_;refine cF G ?_;refine gs ?_;refine Ek [0] 1 ?_;exact en;have hm:=eQ Y hm;obtain ⟨ay,az,b1,hm⟩:=aC hm;obtain ⟨b2,b3,b4,hm⟩:=aC hm;refine pA fm 10 [ph _,ph _,ph (.bool (true)),ph _,ph _,ph _,ph _,ph _,ph _,ph _] ⟨om,om,Ks Y,om,om,om,om,om,om,om,Qo⟩ ?_
 intro b5 b6;refine dz ?_;refine go ?_;refine cd hm G (λai hm=>?_) (λai hm=>?_);refine gs ?_;refine Ek [0] 1 ?_;exact en;refine gs ?_;refine Ek [0] 1 ?_;exact en
theorem lB {a0 a1 I:Int}{r:Bool} (hm:bO a0 a1 I=r):
  Cq B w0 138 [.int .i64 (a0),.int .i64 (a1),.int .i64 (I)] H M (HF r):=by
 unfold bO at hm;refine fZ func138 ?_;refine gs ?_;refine cj [] [] 0 (wJ H 6 ((decide (a0<a1)) || (decide (I<a0)))) ?_ (λJ=>?_);rintro _ _ _ ⟨rfl,rfl,rfl⟩;refine go ?_;obtain rfl:=hm;refine Ew H ?_;exact l9 G G ⟨G,G,G⟩;refine go ?_;cases O:(decide (a0<a1));refine gj ?_;exact kj (J _ _ _ pk) kS;refine gj ?_;exact kj (J _ _ _ pk) kS
theorem yk {a0:aK}{r:Int} (hm:jF a0=r):
  Cq B w0 106 [.agg [.string (a0.Name),.string (a0.pQ),.string (a0.To),.int .i64 (a0.X),.int .i64 (a0.A0),.int .i64 (a0.Shift),.int .i64 (a0.s6),.int .i64 (a0.w_),.int .i64 (a0.Cm)].toArray] H M (yY r):=by
 unfold jF at hm;refine fZ func106 ?_;refine gs ?_;refine bx (λJ=>?_);refine gs ?_;refine cj [] [] 1 (wJ H 32 ((((((bO a0.X 1 10000) || (bO a0.A0 500 1500)) || (bO a0.Shift (-1000) 1000)) || (bO a0.s6 0 100000)) || (bO a0.w_ a0.s6 100000)) || (bO a0.Cm 0 200000))) ?_ (λa1=>?_);rintro _ _ _ ⟨rfl,rfl,rfl⟩;refine cd hm G (λI hm=>?_) (λI hm=>?_);refine gs ?_;obtain rfl:=hm;refine Ew H ?_;exact l9 G G ⟨G,G,G⟩;refine gs ?_;obtain rfl:=hm;refine Ew H ?_;exact l9 G G ⟨G,G,G⟩;refine go ?_;refine cz @lB (G:bO a0.X 1 10000=_) ?_;refine go ?_;cases O:((bO a0.X 1 10000));refine go ?_;refine cz @lB (G:bO a0.A0 500 1500=_) ?_;refine go ?_;cases Y:((bO a0.A0 500 1500));refine go ?_;refine cz @lB (G:bO a0.Shift (-1000) 1000=_) ?_;refine go ?_;cases Z:((bO a0.Shift (-1000) 1000));refine go ?_;refine cz @lB (G:bO a0.s6 0 100000=_) ?_;refine go ?_;cases a7:((bO a0.s6 0 100000))
 refine go ?_;refine cz @lB (G:bO a0.w_ a0.s6 100000=_) ?_;refine go ?_;cases a8:((bO a0.w_ a0.s6 100000));refine go ?_;refine cz @lB (G:bO a0.Cm 0 200000=_) ?_;refine gj ?_;exact kx [] 1 (a1 _ _ _ pk) G kS;refine gj ?_;exact kx [] 1 (a1 _ _ _ pk) G kS;refine gj ?_;exact kx [] 1 (a1 _ _ _ pk) G kS;refine gj ?_;exact kx [] 1 (a1 _ _ _ pk) G kS;refine gj ?_;exact kx [] 1 (a1 _ _ _ pk) G kS;refine gj ?_;exact kx [] 1 (a1 _ _ _ pk) G kS
theorem kD {a0:Int}{r:Bool} (hm:aZ a0=r):
  Cq B w0 139 [.int .i64 (a0)] H M (HF r):=by
 unfold aZ at hm;refine fZ func139 ?_;refine g2 ?_;refine cz @lB (G:bO a0 0 100000=_) ?_;refine go ?_;obtain rfl:=hm;refine Ew H ?_;exact l9 G G ⟨G,G,G⟩
theorem vo {aa:aV}{I:aE}{b0:Nat}{es0:Array MapEntry}{c0:Nat}{v0 v1 v2 v3 v4 v5 v6:Qn}{r:Int×aV} (hm:gR aa I=some r) (h0:sB es0 c0 aa.seen) (h1:aQ H v0 aa.nodes) (h2:aQ H v1 I.bD) (h3:aQ H v2 I.aL) (h4:aQ H v3 I.aH) (h5:aQ H v4 I.cR) (h6:aQ H v5 I.bB) (h7:aQ H v6 I.bM):
  Cq B w0 107 [.agg [.map (some b0),v0].toArray,.agg [v1,v2,v3,v4,v5,v6].toArray] H (.obj b0 (.map es0 c0)::M) (λH _ H' M' v=>H.le H'/\∃ J:Array MapEntry,∃ qc0:Nat,∃ qv0:Qn,.obj b0 (.map J qc0)::M=M'/\.int .i64 (r.1)=v/\sB J qc0 r.2.seen/\aQ H' qv0 r.2.nodes):=by
 unfold gR at hm;refine fZ func107 ?_;refine gs ?_;refine bx (λc2=>?_);refine bx (λc3=>?_);refine g2 ?_;obtain ⟨aq,ay,az,hm⟩:=cQ hm;refine cl [(2,_),(3,_),(15,_),(16,_)] [0,0] 1 [2] 0 (λu m n H' M' L'=>∃ (O:Nat) (a7:List bE),∃ ab:(List (Qm×Bool)),∃ ac:Array MapEntry,∃ ad:Nat,(I.cR).drop O=a7/\a7.length=n/\aq O a7 ab=some r/\sB ac ad ab/\H.le H'/\.obj b0 (.map ac ad)::m=M'/\(17,.int .i64 ((O:Int)))::u=L') _ G ⟨0,_,_,_,_,G,G,hm,h0,lE,G,G⟩ ?_;rintro _ b1 _ _ ⟨O,a7,ab,ac,ad,ar,rfl,hm,b2,c4,rfl,rfl⟩;refine g2 ?_;refine bI G (λae=>?_) (λae=>?_);obtain ⟨a0,b3,rfl,b4,b5⟩:=fS ar ae;have hm:=(ay _ _ _ _).symm.trans hm;generalize b6:aq (O+1) b3=c5 at hm;unfold jV at hm;refine g2 ?_;refine al (λc6=>?_);refine wt 0 ?_;refine g2 ?_;refine f_ (α:=Qm) (css:=[[.string (a0.Node)]]) (zs:=[.string (⟨#[]⟩)]) (out:=[.string (a0.Node)]) (ys:=[a0.Node]) G G G ⟨G,Qo⟩ Rq Sp G Sx (by kernel_rfl) G G G G ⟨[.string (a0.Node)],[],G,G,G⟩ G ?_
 intro c7 c8 b7;refine bZ (b7).rd G (λc9 cb cc=>?_);refine Wp [1] ?_;obtain ⟨ce,b8,hm⟩:=aU hm;refine ca @gF b8 ?_;rintro _ b9 _ ⟨cf,cg,ch,ci,rfl,rfl,ck,cm⟩;refine gs ?_;refine cd hm G (λba hm=>?_) (λba hm=>?_);refine gs ?_;refine Ek [0] 3 ?_;exact en;refine go ?_;refine cj [(2,_),(3,_),(15,_),(16,_),(17,_)] [0,1,1] 1 (wJ b9 47 (((!(aZ a0.jJ)) || (bO a0.qU a0.jJ 100000)) || (!(aZ a0.AX)))) ?_ (λaf=>?_);rintro _ _ _ ⟨rfl,rfl,rfl⟩;refine cd hm G (λbb hm=>?_) (λbb hm=>?_);refine gs ?_;refine Ek [0] 2 ?_;exact en;refine gt ?_;refine gj ?_;exact kj (eb b5 b6) (kK (cA b4 h5.mm.cV));refine go ?_;refine cz @kD (G:aZ a0.jJ=_) ?_;refine go ?_;cases cn:(aZ a0.jJ);refine gj ?_;exact kx [0,1,1] 1 (af _ _ _ pk) G kS;refine go ?_;refine cz @lB (G:bO a0.qU a0.jJ 100000=_) ?_;refine go ?_;cases co:((bO a0.qU a0.jJ 100000));refine go ?_;refine cz @kD (G:aZ a0.AX=_) ?_
 refine gj ?_;exact kx [0,1,1] 1 (af _ _ _ pk) G kS;refine gj ?_;exact kx [0,1,1] 1 (af _ _ _ pk) G kS;obtain rfl:=fR ar ae;have hm:=(az _ _).symm.trans hm;refine g2 ?_;obtain ⟨au,bc,bd,hm⟩:=cQ hm;refine cl [(2,_),(3,_),(50,_),(51,_)] [1,1] 1 [] 0 (λu m n H' M' L'=>∃ (Y:Nat) (a8:List aF),∃ ag:(List (Qm×Bool)),∃ ah:Array MapEntry,∃ ai:Nat,(I.bB).drop Y=a8/\a8.length=n/\au Y a8 ag=some r/\sB ah ai ag/\b1.le H'/\.obj b0 (.map ah ai)::m=M'/\(52,.int .i64 ((Y:Int)))::u=L') _ G ⟨0,_,_,_,_,G,G,hm,b2,lE,G,G⟩ ?_;rintro _ be _ _ ⟨Y,a8,ag,ah,ai,av,rfl,hm,bf,cp,rfl,rfl⟩;refine g2 ?_;refine bI G (λaj=>?_) (λaj=>?_);obtain ⟨Z,bg,rfl,bh,bi⟩:=fS av aj;have hm:=(bc _ _ _ _).symm.trans hm;generalize bj:au (Y+1) bg=cq at hm;unfold jW at hm;refine g2 ?_;refine al (λcr=>?_);refine wt 0 ?_
 refine g2 ?_;refine f_ (α:=Qm) (css:=[[.string (Z.Node)]]) (zs:=[.string (⟨#[]⟩)]) (out:=[.string (Z.Node)]) (ys:=[Z.Node]) G G G ⟨G,Qo⟩ Rq Sp G Sx (by kernel_rfl) G G G G ⟨[.string (Z.Node)],[],G,G,G⟩ G ?_
 intro cs ct bk;refine bZ (bk).rd G (λcu cv cw=>?_);refine Wp [1] ?_;obtain ⟨cx,bl,hm⟩:=aU hm;refine ca @gF bl ?_;rintro _ d0 _ ⟨d1,d2,d3,d4,rfl,rfl,d5,d6⟩;refine gs ?_;refine cd hm G (λbm hm=>?_) (λbm hm=>?_);refine gs ?_;refine Ek [0] 3 ?_;exact en;refine gs ?_;refine cz @kD (G:aZ Z.dB=_) ?_;refine go ?_;refine cd hm G (λbn hm=>?_) (λbn hm=>?_);refine gs ?_;refine Ek [0] 3 ?_;exact en;refine gt ?_;refine gj ?_;exact kx [0,1,1] 1 (eb bi bj) G (kK (cA bh h6.mm.cV));obtain rfl:=fR av aj;have hm:=(bd _ _).symm.trans hm;refine g2 ?_;obtain ⟨aw,bo,bp,hm⟩:=cQ hm;refine cl [(2,_),(72,_),(73,_)] [2] 2 [0,1] 1 (λu m n H' M' L'=>∃ (a6:Nat) (a9:List bS),∃ ak:(List (Qm×Bool)),∃ am:Array MapEntry,∃ an:Nat,(I.bM).drop a6=a9/\a9.length=n/\aw a6 a9 ak=some r/\sB am an ak/\be.le H'/\.obj b0 (.map am an)::m=M'/\(74,.int .i64 ((a6:Int)))::u=L') _ G ⟨0,_,_,_,_,G,G,hm,bf,lE,G,G⟩ ?_
 rintro _ d7 _ _ ⟨a6,a9,ak,am,an,ax,rfl,hm,d8,d9,rfl,rfl⟩;refine g2 ?_;refine bI G (λao=>?_) (λao=>?_);obtain ⟨a1,bq,rfl,br,bs⟩:=fS ax ao;have hm:=(bo _ _ _ _).symm.trans hm;generalize bt:aw (a6+1) bq=da at hm;unfold jX at hm;refine g2 ?_;refine al (λdb=>?_);refine wt 0 ?_;refine g2 ?_;refine f_ (α:=Qm) (css:=[[.string (a1.Node)]]) (zs:=[.string (⟨#[]⟩)]) (out:=[.string (a1.Node)]) (ys:=[a1.Node]) G G G ⟨G,Qo⟩ Rq Sp G Sx (by kernel_rfl) G G G G ⟨[.string (a1.Node)],[],G,G,G⟩ G ?_
 intro dc dd bu;refine bZ (bu).rd G (λde df dg=>?_);refine Wp [1] ?_;obtain ⟨dh,bv,hm⟩:=aU hm;refine ca @gF bv ?_;rintro _ bw _ ⟨di,dj,dk,dl,rfl,rfl,dm,dn⟩;refine gs ?_;refine cd hm G (λbz hm=>?_) (λbz hm=>?_);refine gs ?_;refine Ek [0] 2 ?_;exact en;refine go ?_;refine cj [(2,_),(72,_),(73,_),(74,_)] [0,1] 1 (wJ bw 103 (((!(aZ a1.r8)) || (!(aZ a1.Discharge))) || (!(aZ a1.tM)))) ?_ (λap=>?_);rintro _ _ _ ⟨rfl,rfl,rfl⟩;refine cd hm G (λc1 hm=>?_) (λc1 hm=>?_);refine gs ?_;refine Ek [0] 1 ?_;exact en;refine gt ?_;refine gj ?_;exact kj (eb bs bt) (kK (cA br h7.mm.cV));refine go ?_;refine cz @kD (G:aZ a1.r8=_) ?_;refine go ?_;cases dp:(aZ a1.r8);refine gj ?_;exact kx [0,1] 1 (ap _ _ _ pk) G kS;refine go ?_;refine cz @kD (G:aZ a1.Discharge=_) ?_;refine go ?_;cases dq:(aZ a1.Discharge);refine gj ?_;exact kx [0,1] 1 (ap _ _ _ pk) G kS
 refine go ?_;refine cz @kD (G:aZ a1.tM=_) ?_;refine gj ?_;exact kx [0,1] 1 (ap _ _ _ pk) G kS;obtain rfl:=fR ax ao;have hm:=(bp _ _).symm.trans hm;refine gs ?_;refine Ek [0] 1 ?_;exact en
theorem k_ {a0:aE}{v0 v1 v2 v3 v4 v5:Qn}{r:Int} (hm:bV a0=some r) (h0:aQ H v0 a0.bD) (h1:aQ H v1 a0.aL) (h2:aQ H v2 a0.aH) (h3:aQ H v3 a0.cR) (h4:aQ H v4 a0.bB) (h5:aQ H v5 a0.bM):
  Cq B w0 62 [.agg [v0,v1,v2,v3,v4,v5].toArray] H M (yY r):=by
 unfold bV at hm;refine fZ func62 ?_;refine gs ?_;refine bx (λbt=>?_);refine gs ?_;refine cj [(1,_)] [] 0 (wJ H 47 ((((((decide (24<(a0.bD.length:Int))) || (decide (32<(a0.aL.length:Int)))) || (decide (24<(a0.aH.length:Int)))) || (decide (10<(a0.cR.length:Int)))) || (decide (12<(a0.bB.length:Int)))) || (decide (4<(a0.bM.length:Int))))) ?_ (λJ=>?_);rintro _ _ _ ⟨rfl,rfl,rfl⟩;refine cd hm G (λaw hm=>?_) (λaw hm=>?_);refine gs ?_;refine Ek [] 1 ?_;exact ef;refine gs ?_;refine zM G G (λO=>?_);refine go ?_;refine eB (css:=[[.map (some O)],[v0]]) (zs:=[.map none,.slice none 0 0]) (out:=[.map (some O),v0]) (places:=[(0,1),(1,1)]) G G G ⟨G,(aQ.cells h0),Qo⟩ zeroValue167 G runUnderlying167 (λw=>by kernel_rfl) G ?_
 refine al (λbu=>?_);refine wt 0 ?_;refine g2 ?_;obtain ⟨ao,ax,ay,hm⟩:=cQ hm;refine cl [(1,_),(3,_),(53,_),(54,_)] [0,1] 1 [1] 0 (λu m n H' M' L'=>∃ (Y:Nat) (a8:List Qm),∃ ab:(List (Qm×Bool)),∃ ac:Array MapEntry,∃ ad:Nat,(a0.bD).drop Y=a8/\a8.length=n/\ao Y a8 ab=some r/\sB ac ad ab/\H.le H'/\.obj O (.map ac ad)::m=M'/\(55,.int .i64 ((Y:Int)))::u=L') _ G ⟨0,_,_,_,_,G,G,hm,(sB.nil (κ:=Qm) (ν:=Bool)),lE,G,G⟩ ?_;rintro _ az _ _ ⟨Y,a8,ab,ac,ad,ap,rfl,hm,b0,bv,rfl,rfl⟩;refine g2 ?_;refine bI G (λae=>?_) (λae=>?_);obtain ⟨bw,b1,rfl,b2,b3⟩:=fS ap ae;have hm:=(ax _ _ _ _).symm.trans hm;generalize b4:ao (Y+1) b1=bz at hm;unfold np at hm;refine g2 ?_;refine gs ?_;obtain ⟨c0,b5,hm⟩:=aU hm;refine ca @gF b5 ?_;rintro _ c1 _ ⟨c2,c3,c4,c5,rfl,rfl,c6,c7⟩;refine gs ?_
 refine cd hm G (λb6 hm=>?_) (λb6 hm=>?_);refine gs ?_;refine Ek [] 3 ?_;exact ef;refine gt ?_;refine gj ?_;exact kj (eb b3 b4) (kK (cA b2 h0.mm.cV));obtain rfl:=fR ap ae;have hm:=(ay _ _).symm.trans hm;refine g2 ?_;obtain ⟨aq,b7,b8,hm⟩:=cQ hm;refine cl [(1,_),(3,_),(67,_),(68,_)] [1,1] 1 [] 0 (λu m n H' M' L'=>∃ (Z:Nat) (a9:List aS),∃ af:(List (Qm×Bool)),∃ ag:Array MapEntry,∃ ah:Nat,(a0.aL).drop Z=a9/\a9.length=n/\aq Z a9 af=some r/\sB ag ah af/\az.le H'/\.obj O (.map ag ah)::m=M'/\(69,.int .i64 ((Z:Int)))::u=L') _ G ⟨0,_,_,_,_,G,G,hm,b0,lE,G,G⟩ ?_;rintro _ b9 _ _ ⟨Z,a9,af,ag,ah,ar,rfl,hm,ba,c8,rfl,rfl⟩;refine g2 ?_;refine bI G (λai=>?_) (λai=>?_);obtain ⟨I,bb,rfl,bc,bd⟩:=fS ar ai;have hm:=(b7 _ _ _ _).symm.trans hm;generalize be:aq (Z+1) bb=c9 at hm;unfold nq at hm
 refine g2 ?_;refine al (λcb=>?_);refine wt 0 ?_;refine gs ?_;refine f_ (α:=Qm) (css:=[[.string (I.A)],[.string (I.B_)]]) (zs:=[.string (⟨#[]⟩),.string (⟨#[]⟩)]) (out:=[.string (I.A),.string (I.B_)]) (ys:=[I.A,I.B_]) G G G ⟨G,G,Qo⟩ Rq Sp G Sx (by kernel_rfl) G G G G ⟨[.string (I.A)],[.string (I.B_)],G,G,⟨[.string (I.B_)],[],G,G,G⟩⟩ G ?_
 intro cc ce bf;refine bZ (bf).rd G (λcf cg ch=>?_);refine Wp [1] ?_;obtain ⟨ci,bg,hm⟩:=aU hm;refine ca @gF bg ?_;rintro _ ck _ ⟨cm,cn,co,cp,rfl,rfl,cq,cr⟩;refine gs ?_;refine cd hm G (λbh hm=>?_) (λbh hm=>?_);refine gs ?_;refine Ek [] 4 ?_;exact ef;refine gt ?_;refine gj ?_;exact kx [0,1,1] 1 (eb bd be) G (kK (cA bc h1.mm.cV));obtain rfl:=fR ar ai;have hm:=(b8 _ _).symm.trans hm;refine g2 ?_;obtain ⟨au,bi,bj,hm⟩:=cQ hm;refine cl [(1,_),(3,_),(87,_),(88,_)] [1,1] 1 [] 0 (λu m n H' M' L'=>∃ (a7:Nat) (aa:List aK),∃ aj:(List (Qm×Bool)),∃ ak:Array MapEntry,∃ am:Nat,(a0.aH).drop a7=aa/\aa.length=n/\au a7 aa aj=some r/\sB ak am aj/\b9.le H'/\.obj O (.map ak am)::m=M'/\(89,.int .i64 ((a7:Int)))::u=L') _ G ⟨0,_,_,_,_,G,G,hm,ba,lE,G,G⟩ ?_;rintro _ cs _ _ ⟨a7,aa,aj,ak,am,av,rfl,hm,ct,cu,rfl,rfl⟩
 refine g2 ?_;refine bI G (λan=>?_) (λan=>?_);obtain ⟨a1,bk,rfl,bl,bm⟩:=fS av an;have hm:=(bi _ _ _ _).symm.trans hm;generalize bn:au (a7+1) bk=cv at hm;unfold nr at hm;refine g2 ?_;refine al (λcw=>?_);refine wt 0 ?_;refine g2 ?_;refine f_ (α:=Qm) (css:=[[.string (a1.pQ)],[.string (a1.To)]]) (zs:=[.string (⟨#[]⟩),.string (⟨#[]⟩)]) (out:=[.string (a1.pQ),.string (a1.To)]) (ys:=[a1.pQ,a1.To]) G G G ⟨G,G,Qo⟩ Rq Sp G Sx (by kernel_rfl) G G G G ⟨[.string (a1.pQ)],[.string (a1.To)],G,G,⟨[.string (a1.To)],[],G,G,G⟩⟩ G ?_
 intro cx d0 bo;refine bZ (bo).rd G (λd1 d2 d3=>?_);refine Wp [1] ?_;obtain ⟨d4,bp,hm⟩:=aU hm;refine ca @gF bp ?_;rintro _ d5 _ ⟨d6,d7,d8,d9,rfl,rfl,da,db⟩;refine gs ?_;refine cd hm G (λbq hm=>?_) (λbq hm=>?_);refine gs ?_;refine Ek [] 4 ?_;exact ef;refine gs ?_;refine cz @yk (G:jF a1=_) ?_;refine gs ?_;refine cd hm G (λbr hm=>?_) (λbr hm=>?_);refine gs ?_;refine Ek [] 4 ?_;exact ef;refine gt ?_;refine gj ?_;exact kx [0,1,1] 1 (eb bm bn) G (kK (cA bl h2.mm.cV));obtain rfl:=fR av an;have hm:=(bj _ _).symm.trans hm;refine gs ?_;obtain ⟨dc,bs,hm⟩:=aU hm;refine ca @vo bs ?_;rintro _ dd _ ⟨de,df,dg,dh,rfl,rfl,di,dj⟩;refine go ?_;refine Ek [] 3 ?_;exact ef;refine go ?_;cases dk:(decide (24<(a0.bD.length:Int)));refine go ?_;cases dl:(decide (32<(a0.aL.length:Int)));refine go ?_;cases dm:(decide (24<(a0.aH.length:Int)));refine go ?_
 cases dn:(decide (10<(a0.cR.length:Int)));refine go ?_;cases dp:(decide (12<(a0.bB.length:Int)));refine gj ?_;exact kj (J _ _ _ pk) kS;refine gj ?_;exact kj (J _ _ _ pk) kS;refine gj ?_;exact kj (J _ _ _ pk) kS;refine gj ?_;exact kj (J _ _ _ pk) kS;refine gj ?_;exact kj (J _ _ _ pk) kS;refine gj ?_;exact kj (J _ _ _ pk) kS
theorem wi {ah:(List bF)}{v0:Qn}{r:Int} (hm:kQ ah=some r) (h0:aQ H v0 ah):
  Cq B w0 135 [v0] H M (yY r):=by
 unfold kQ at hm;refine fZ func135 ?_;refine q2 ?_;refine qs ?_;refine lr h0 ?_;refine qg ?_;refine cd hm G (λbn hm=>?_) (λbn hm=>?_);refine qs ?_;exact ef;refine qs ?_;refine lr h0 ?_;refine qg ?_;refine cd hm G (λbo hm=>?_) (λbo hm=>?_);refine qs ?_;exact ef;refine qs ?_;refine lr h0 ?_;obtain ⟨b4,hm⟩:=aI hm;refine fM (α:=Int) (zs:=[.int .i64 (0)]) (ze:=0) G G R5 ⟨_,G,G,G,G⟩ G G G G G G b4.1 b4.2 ?_;intro Z d6 bp;refine q2 ?_;refine lr h0 ?_;refine qg ?_;obtain ⟨b5,bq,br,hm⟩:=cQ hm;refine cl [(0,_),(3,_),(18,_),(19,_)] [] 1 [] 0 (λu m n H' M' L'=>∃ (a0:Nat) (ad:List bF),∃ a6:List Int,∃ ai:List Qn,(ah).drop a0=ad/\ad.length=n/\b5 a0 ad a6=some r/\Rw H' Z ai a6/\H.le H'/\.row Z 3 (aG.sz Int) a6.length ai::m=M'/\(20,.int .i64 ((a0:Int)))::u=L') _ G ⟨0,_,_,_,G,G,hm,bp,lE,G,G⟩ ?_;rintro _ O _ _ ⟨a0,ad,a6,ai,b6,rfl,hm,aa,d7,rfl,rfl⟩
 refine q2 ?_;refine bI G (λaj=>?_) (λaj=>?_);obtain ⟨a1,bs,rfl,ak,bt⟩:=fS b6 aj;have hm:=(bq _ _ _ _).symm.trans hm;generalize bu:b5 (a0+1) bs=am at hm;unfold oD at hm;refine qg ?_;refine cj [(0,_),(3,_),(18,_),(19,_),(20,_)] [] 1 (λu m H' M' L'=>∃ ae:List Int,∃ an:List Qn,dY am ae=some r/\Rw H' Z an ae/\O.le H'/\.row Z 3 (aG.sz Int) ae.length an::m=M'/\u=L') ?_ (λa7=>?_);rintro d8 _ _ ⟨ae,an,hm,d9,da,rfl,rfl⟩;unfold dY at hm;refine qj ?_;exact kj (eb bt bu) (kK (cA ak h0.mm.cV));refine qs ?_;obtain ⟨_,⟨rfl⟩,bv⟩:=(h0).elem ak;refine AK h0 ak ?_;refine Oq bv ?_;refine al (λdb=>?_);refine qg ?_;refine wt 0 ?_;refine qg ?_;refine cj [(0,_),(3,_),(4,_),(5,_),(18,_),(19,_),(20,_)] [] 0 (wJ O 6 ((decide (a1.Kind=2)) || (decide (a1.Kind=3)))) ?_ (λb7=>?_);rintro _ _ _ ⟨rfl,rfl,rfl⟩;refine qs ?_
 refine cj [(0,_),(3,_),(4,_),(5,_),(6,_),(18,_),(19,_),(20,_)] [] 0 (wJ O 33 ((decide (a1.Kind<0)) || (decide (6<a1.Kind)))) ?_ (λb8=>?_);rintro _ _ _ ⟨rfl,rfl,rfl⟩;refine cd hm G (λbw hm=>?_) (λbw hm=>?_);refine qs ?_;refine Ek [] 2 ?_;exact ef;refine qs ?_;cases b9:((decide (a1.Kind=2)) || (decide (a1.Kind=3)));have hm:=eP b9 hm;refine qg ?_;refine cF G ?_;refine cj [(0,_),(3,_),(4,_),(5,_),(18,_),(19,_),(20,_)] [] 0 (wJ O 50 (!decide (a1.Name=(⟨#[]⟩)))) ?_ (λbz=>?_);rintro _ _ _ ⟨rfl,rfl,rfl⟩;refine cd hm G (λc0 hm=>?_) (λc0 hm=>?_);refine qs ?_;refine Ek [] 2 ?_;exact ef;refine qs ?_;obtain ⟨dc,dd,ao,hm⟩:=aC hm;refine ub ao ?_;obtain ⟨_,rfl,c1⟩:=(aa).elem ao;refine wr 1 0 ((a0:Int)) aa ao c1 G G ?_;intro de a4 df dg;refine q2 ?_;refine cd hm G (λc2 hm=>?_) (λc2 hm=>?_);refine qs ?_;refine cj [(0,_),(3,_),(4,_),(5,_),(18,_),(19,_),(20,_)] [] 0 (wJ O 87 (((decide ((a0:Int)=0)) || (!decide (a1.A=(i64.wrap ((a0:Int)-1))))) || (!decide (a1.B_=0)))) ?_ (λap=>?_)
 rintro _ _ _ ⟨rfl,rfl,rfl⟩;refine cd hm G (λc3 hm=>?_) (λc3 hm=>?_);refine qs ?_;refine Ek [] 2 ?_;exact ef;refine qg ?_;obtain ⟨c4,dh,ba,hm⟩:=aC hm;refine ub ba ?_;obtain ⟨_,rfl,c5⟩:=(a4).elem ba;refine yt c5 ?_;obtain ⟨di,dj,aq,hm⟩:=aC hm;refine ub aq ?_;obtain ⟨_,rfl,c6⟩:=(a4).elem aq;refine wr 0 0 c4 a4 aq c6 G G ?_;intro dk dl dm dn;refine qj ?_;exact kx [0] 1 (a7 _ _ _ pk);refine qg ?_;cases dp:(decide ((a0:Int)=0));refine qg ?_;cases dq:(decide (a1.A=(i64.wrap ((a0:Int)-1))));refine qj ?_;exact kj (ap _ _ _ pk) kS;refine qj ?_;exact kj (ap _ _ _ pk) kS;refine qj ?_;exact kj (ap _ _ _ pk) kS;refine cj [(0,_),(3,_),(4,_),(5,_),(18,_),(19,_),(20,_)] [] 0 (Py (eH a6 am a1 a0) r O 96) ?_ (λbb=>?_);rintro _ _ _ ⟨ar,hm,rfl,rfl,rfl⟩;unfold eH at hm;refine cd hm G (λc7 hm=>?_) (λc7 hm=>?_);refine q2 ?_;cases a8:(decide ((a0:Int)=0))
 have hm:=eP a8 hm;cases ab:(decide (a1.B_=(i64.wrap ((a0:Int)-1))));have hm:=eP ab hm;refine pA fm 26 [ph _,ph (.bool (false)),ph _,ph _,ph _,ph _,ph _,ph (.bool (true)),ph _,ph _,ph _,ph _,ph _,ph _,ph _,ph _,ph _,ph _,ph _,ph _,ph _,ph _,ph _,ph _,ph _,ph _] ⟨qm,qn a8,qm,qm,qm,qm,qm,qn ab,qm,qm,qm,qm,qm,qm,qm,qm,qm,qm,qm,qm,qm,qm,qm,qm,qm,qm,Qo⟩ ?_;intro ds dt;refine dz ?_;refine qg ?_;refine cT G ?_;refine qs ?_;refine Ek [] 2 ?_;exact ef;have hm:=eQ ab hm;obtain ⟨au,du,av,hm⟩:=aC hm;obtain ⟨_,rfl,bc⟩:=(a4).elem av;cases af:(decide (au=0));have hm:=eP af hm;obtain ⟨c8,dv,bd,hm⟩:=aC hm;obtain ⟨_,rfl,c9⟩:=(a4).elem bd;refine pA fm 26 [ph _,ph (.bool (false)),ph _,ph _,ph _,ph _,ph _,ph (.bool (false)),ph _,ph _,ph _,ph _,ph _,ph (.pointer (some ((Value.base (Z)).add ((i64.wrap ((a0:Int)-1):Int).toNat*aG.sz Int)))),ph (.int .i64 (au)),ph (.bool (false)),ph _,ph _,ph _,ph _,ph _,ph _,ph _,ph (.pointer (some ((Value.base (Z)).add ((i64.wrap ((a0:Int)-1):Int).toNat*aG.sz Int)))),ph (.int .i64 (c8)),ph _] ⟨qm,qn a8,qm,qm,qm,qm,qm,qn ab,qm,qm,qm,qm,qm,?_,?_,qn af,qm,qm,qm,qm,qm,qm,qm,?_,?_,qm,Qo⟩ ?_
 intro J Y X Rest hR;refine dr ?_;intro hU I;refine ub av ?_;exact o0 ⟨G,G⟩;rintro J Y X Rest hR _ _ ⟨rfl,rfl⟩ _ _ ⟨rfl,rfl⟩ hU I;refine yt bc ?_;exact o0 ⟨G,G⟩;intro J Y X Rest hR;refine dr ?_;intro hU I;refine ub bd ?_;exact o0 ⟨G,G⟩;rintro J Y X Rest hR _ _ ⟨rfl,rfl⟩ _ _ ⟨rfl,rfl⟩ hU I;refine yt c9 ?_;exact o0 ⟨G,G⟩;intro dw dx;refine dz ?_;refine qg ?_;refine cd hm G (λcb hm=>?_) (λcb hm=>?_);refine qs ?_;refine Ek [] 2 ?_;exact ef;refine qg ?_;obtain ⟨cc,dy,be,hm⟩:=aC hm;refine ub be ?_;obtain ⟨_,rfl,ce⟩:=(a4).elem be;refine yt ce ?_;obtain ⟨e0,e1,aw,hm⟩:=aC hm;refine ub aw ?_;obtain ⟨_,rfl,cf⟩:=(a4).elem aw;refine wr 0 0 cc a4 aw cf G G ?_;intro e2 e3 e4 e5;refine qj ?_;exact kx [0] 1 (a7 _ _ _ pk);have hm:=eQ af hm;refine pA fm 26 [ph _,ph (.bool (false)),ph _,ph _,ph _,ph _,ph _,ph (.bool (false)),ph _,ph _,ph _,ph _,ph _,ph (.pointer (some ((Value.base (Z)).add ((i64.wrap ((a0:Int)-1):Int).toNat*aG.sz Int)))),ph (.int .i64 (au)),ph (.bool (true)),ph _,ph _,ph _,ph _,ph _,ph _,ph _,ph _,ph _,ph _] ⟨qm,qn a8,qm,qm,qm,qm,qm,qn ab,qm,qm,qm,qm,qm,?_,?_,qn af,qm,qm,qm,qm,qm,qm,qm,qm,qm,qm,Qo⟩ ?_
 intro J Y X Rest hR;refine dr ?_;intro hU I;refine ub av ?_;exact o0 ⟨G,G⟩;rintro J Y X Rest hR _ _ ⟨rfl,rfl⟩ _ _ ⟨rfl,rfl⟩ hU I;refine yt bc ?_;exact o0 ⟨G,G⟩;intro e6 e7;refine dz ?_;refine qg ?_;refine cT G ?_;refine qs ?_;refine Ek [] 2 ?_;exact ef;have hm:=eQ a8 hm;refine pA fm 26 [ph _,ph (.bool (true)),ph _,ph _,ph _,ph _,ph _,ph _,ph _,ph _,ph _,ph _,ph _,ph _,ph _,ph _,ph _,ph _,ph _,ph _,ph _,ph _,ph _,ph _,ph _,ph _] ⟨qm,qn a8,qm,qm,qm,qm,qm,qm,qm,qm,qm,qm,qm,qm,qm,qm,qm,qm,qm,qm,qm,qm,qm,qm,qm,qm,Qo⟩ ?_;intro e8 e9;refine dz ?_;refine qg ?_;refine cT G ?_;refine qs ?_;refine Ek [] 2 ?_;exact ef;refine cj [(0,_),(3,_),(18,_),(19,_),(20,_)] [0] 1 (wJ O 71 ((!decide (a1.A=0)) || (!decide (a1.B_=0)))) ?_ (λbf=>?_);rintro _ _ _ ⟨rfl,rfl,rfl⟩;refine cd hm G (λcg hm=>?_) (λcg hm=>?_)
 refine qs ?_;refine Ek [] 1 ?_;exact ef;refine qj ?_;exact kj (a7 _ _ _ pk);refine qg ?_;cases ea:(decide (a1.A=0));refine qj ?_;exact kx [0] 1 (bf _ _ _ pk) G kS;refine qj ?_;exact kx [0] 1 (bf _ _ _ pk) G kS;refine qs ?_;refine cd hm G (λch hm=>?_) (λch hm=>?_);refine qj ?_;exact kj (bb _ _ _ pk);refine qj ?_;exact kj (bb _ _ _ pk);refine qj ?_;exact kj (bz _ _ _ pk);have hm:=eQ b9 hm;refine qg ?_;obtain ⟨ec,ci,hm⟩:=aU hm;refine cz @o9 ci ?_;refine qg ?_;refine cd hm G (λck hm=>?_) (λck hm=>?_);refine qs ?_;refine Ek [] 2 ?_;exact ef;refine cj [(0,_),(3,_),(4,_),(5,_),(18,_),(19,_),(20,_)] [] 0 (λu m H' M' L'=>O=H'/\m=M'/\(50,.bool (false))::u=L') ?_ (λcm=>?_);rintro _ _ _ ⟨rfl,rfl,rfl⟩;refine cF G ?_;refine qs ?_;obtain ⟨ed,ee,ax,hm⟩:=aC hm;refine ub ax ?_;obtain ⟨_,rfl,cn⟩:=(aa).elem ax;refine wr 1 0 ((a0:Int)) aa ax cn G G ?_
 intro eg a5 eh ei;refine q2 ?_;refine cd hm G (λco hm=>?_) (λco hm=>?_);refine qs ?_;refine cj [(0,_),(3,_),(4,_),(5,_),(18,_),(19,_),(20,_)] [] 0 (wJ O 87 (((decide ((a0:Int)=0)) || (!decide (a1.A=(i64.wrap ((a0:Int)-1))))) || (!decide (a1.B_=0)))) ?_ (λay=>?_);rintro _ _ _ ⟨rfl,rfl,rfl⟩;refine cd hm G (λcp hm=>?_) (λcp hm=>?_);refine qs ?_;refine Ek [] 2 ?_;exact ef;refine qg ?_;obtain ⟨cq,ej,bg,hm⟩:=aC hm;refine ub bg ?_;obtain ⟨_,rfl,cr⟩:=(a5).elem bg;refine yt cr ?_;obtain ⟨ek,el,az,hm⟩:=aC hm;refine ub az ?_;obtain ⟨_,rfl,cs⟩:=(a5).elem az;refine wr 0 0 cq a5 az cs G G ?_;intro em eo ep er;refine qj ?_;exact kx [0] 1 (a7 _ _ _ pk);refine qg ?_;cases es:(decide ((a0:Int)=0));refine qg ?_;cases et:(decide (a1.A=(i64.wrap ((a0:Int)-1))));refine qj ?_;exact kj (ay _ _ _ pk) kS;refine qj ?_;exact kj (ay _ _ _ pk) kS
 refine qj ?_;exact kj (ay _ _ _ pk) kS;refine cj [(0,_),(3,_),(4,_),(5,_),(18,_),(19,_),(20,_)] [] 0 (Py (kH a6 am a1 a0) r O 96) ?_ (λbh=>?_);rintro _ _ _ ⟨b0,hm,rfl,rfl,rfl⟩;unfold kH at hm;refine cd hm G (λct hm=>?_) (λct hm=>?_);refine q2 ?_;cases a9:(decide ((a0:Int)=0));have hm:=eP a9 hm;cases ac:(decide (a1.B_=(i64.wrap ((a0:Int)-1))));have hm:=eP ac hm;refine pA fm 26 [ph _,ph (.bool (false)),ph _,ph _,ph _,ph _,ph _,ph (.bool (true)),ph _,ph _,ph _,ph _,ph _,ph _,ph _,ph _,ph _,ph _,ph _,ph _,ph _,ph _,ph _,ph _,ph _,ph _] ⟨qm,qn a9,qm,qm,qm,qm,qm,qn ac,qm,qm,qm,qm,qm,qm,qm,qm,qm,qm,qm,qm,qm,qm,qm,qm,qm,qm,Qo⟩ ?_;intro eu ev;refine dz ?_;refine qg ?_;refine cT G ?_;refine qs ?_;refine Ek [] 2 ?_;exact ef;have hm:=eQ ac hm;obtain ⟨b1,ew,b2,hm⟩:=aC hm;obtain ⟨_,rfl,bi⟩:=(a5).elem b2
 cases ag:(decide (b1=0));have hm:=eP ag hm;obtain ⟨cu,ex,bj,hm⟩:=aC hm;obtain ⟨_,rfl,cv⟩:=(a5).elem bj;refine pA fm 26 [ph _,ph (.bool (false)),ph _,ph _,ph _,ph _,ph _,ph (.bool (false)),ph _,ph _,ph _,ph _,ph _,ph (.pointer (some ((Value.base (Z)).add ((i64.wrap ((a0:Int)-1):Int).toNat*aG.sz Int)))),ph (.int .i64 (b1)),ph (.bool (false)),ph _,ph _,ph _,ph _,ph _,ph _,ph _,ph (.pointer (some ((Value.base (Z)).add ((i64.wrap ((a0:Int)-1):Int).toNat*aG.sz Int)))),ph (.int .i64 (cu)),ph _] ⟨qm,qn a9,qm,qm,qm,qm,qm,qn ac,qm,qm,qm,qm,qm,?_,?_,qn ag,qm,qm,qm,qm,qm,qm,qm,?_,?_,qm,Qo⟩ ?_;intro J Y X Rest hR;refine dr ?_;intro hU I;refine ub b2 ?_;exact o0 ⟨G,G⟩;rintro J Y X Rest hR _ _ ⟨rfl,rfl⟩ _ _ ⟨rfl,rfl⟩ hU I;refine yt bi ?_;exact o0 ⟨G,G⟩;intro J Y X Rest hR;refine dr ?_;intro hU I;refine ub bj ?_
 exact o0 ⟨G,G⟩;rintro J Y X Rest hR _ _ ⟨rfl,rfl⟩ _ _ ⟨rfl,rfl⟩ hU I;refine yt cv ?_;exact o0 ⟨G,G⟩;intro ey ez;refine dz ?_;refine qg ?_;refine cd hm G (λcw hm=>?_) (λcw hm=>?_);refine qs ?_;refine Ek [] 2 ?_;exact ef;refine qg ?_;obtain ⟨cx,fa,bk,hm⟩:=aC hm;refine ub bk ?_;obtain ⟨_,rfl,d0⟩:=(a5).elem bk;refine yt d0 ?_;obtain ⟨fb,fd,b3,hm⟩:=aC hm;refine ub b3 ?_;obtain ⟨_,rfl,d1⟩:=(a5).elem b3;refine wr 0 0 cx a5 b3 d1 G G ?_;intro fe ff fg fh;refine qj ?_;exact kx [0] 1 (a7 _ _ _ pk);have hm:=eQ ag hm;refine pA fm 26 [ph _,ph (.bool (false)),ph _,ph _,ph _,ph _,ph _,ph (.bool (false)),ph _,ph _,ph _,ph _,ph _,ph (.pointer (some ((Value.base (Z)).add ((i64.wrap ((a0:Int)-1):Int).toNat*aG.sz Int)))),ph (.int .i64 (b1)),ph (.bool (true)),ph _,ph _,ph _,ph _,ph _,ph _,ph _,ph _,ph _,ph _] ⟨qm,qn a9,qm,qm,qm,qm,qm,qn ac,qm,qm,qm,qm,qm,?_,?_,qn ag,qm,qm,qm,qm,qm,qm,qm,qm,qm,qm,Qo⟩ ?_
 intro J Y X Rest hR;refine dr ?_;intro hU I;refine ub b2 ?_;exact o0 ⟨G,G⟩;rintro J Y X Rest hR _ _ ⟨rfl,rfl⟩ _ _ ⟨rfl,rfl⟩ hU I;refine yt bi ?_;exact o0 ⟨G,G⟩;intro fi fj;refine dz ?_;refine qg ?_;refine cT G ?_;refine qs ?_;refine Ek [] 2 ?_;exact ef;have hm:=eQ a9 hm;refine pA fm 26 [ph _,ph (.bool (true)),ph _,ph _,ph _,ph _,ph _,ph _,ph _,ph _,ph _,ph _,ph _,ph _,ph _,ph _,ph _,ph _,ph _,ph _,ph _,ph _,ph _,ph _,ph _,ph _] ⟨qm,qn a9,qm,qm,qm,qm,qm,qm,qm,qm,qm,qm,qm,qm,qm,qm,qm,qm,qm,qm,qm,qm,qm,qm,qm,qm,Qo⟩ ?_;intro fk fl;refine dz ?_;refine qg ?_;refine cT G ?_;refine qs ?_;refine Ek [] 2 ?_;exact ef;refine cj [(0,_),(3,_),(18,_),(19,_),(20,_)] [0] 1 (wJ O 71 ((!decide (a1.A=0)) || (!decide (a1.B_=0)))) ?_ (λbl=>?_);rintro _ _ _ ⟨rfl,rfl,rfl⟩;refine cd hm G (λd2 hm=>?_) (λd2 hm=>?_)
 refine qs ?_;refine Ek [] 1 ?_;exact ef;refine qj ?_;exact kj (a7 _ _ _ pk);refine qg ?_;cases fn:(decide (a1.A=0));refine qj ?_;exact kx [0] 1 (bl _ _ _ pk) G kS;refine qj ?_;exact kx [0] 1 (bl _ _ _ pk) G kS;refine qs ?_;refine cd hm G (λd3 hm=>?_) (λd3 hm=>?_);refine qj ?_;exact kj (bh _ _ _ pk);refine qj ?_;exact kj (bh _ _ _ pk);refine qj ?_;exact kj (cm _ _ _ pk);refine qg ?_;cases fo:(decide (a1.Kind<0));refine qj ?_;exact kj (b8 _ _ _ pk) kS;refine qj ?_;exact kj (b8 _ _ _ pk) kS;refine qg ?_;cases fp:(decide (a1.Kind=2));refine qj ?_;exact kj (b7 _ _ _ pk) kS;refine qj ?_;exact kj (b7 _ _ _ pk) kS;obtain rfl:=fR b6 aj;have hm:=(br _ _).symm.trans hm;refine q2 ?_;refine lr h0 ?_;refine qg ?_;obtain ⟨fr,fs,bm,hm⟩:=aC hm;refine ub bm ?_;obtain ⟨_,rfl,d4⟩:=(aa).elem bm;refine yt d4 ?_;refine qg ?_;refine cd hm G (λd5 hm=>?_) (λd5 hm=>?_);refine qs ?_
 refine Ek [] 1 ?_;exact ef;refine qs ?_;refine Ek [] 1 ?_;exact ef
theorem ur {I:(List aY)}{v0:Qn}{r:Int} (hm:mP I=some r) (h0:aQ H v0 I):
  Cq B w0 88 [v0] H M (yY r):=by
 unfold mP at hm;refine fZ func88 ?_;refine g2 ?_;refine gs ?_;refine cd hm G (λa7 hm=>?_) (λa7 hm=>?_);refine gs ?_;exact ef;refine g2 ?_;obtain ⟨O,a8,a9,hm⟩:=cQ hm;refine cl [(9,_),(10,_)] [] 0 [] 0 (λu m n H' M' L'=>∃ (a0:Nat) (a1:List aY),(I).drop a0=a1/\a1.length=n/\O a0 a1 ()=some r/\H.le H'/\m=M'/\(11,.int .i64 ((a0:Int)))::u=L') _ G ⟨0,_,G,G,hm,lE,G,G⟩ ?_;rintro _ ah _ _ ⟨a0,a1,Y,rfl,hm,ai,rfl,rfl⟩;refine g2 ?_;refine bI G (λJ=>?_) (λJ=>?_);obtain ⟨aj,aa,rfl,Z,ab⟩:=fS Y J;have hm:=(a8 _ _ _ _).symm.trans hm;generalize ac:O (a0+1) aa=ak at hm;unfold q6 at hm;refine g2 ?_;obtain ⟨_,⟨am,rfl,an⟩,ao⟩:=(h0).elem Z;refine go ?_;refine al (λap=>?_);refine wt 0 ?_;refine g2 ?_;obtain ⟨aq,ad,hm⟩:=aU hm;refine cz @o9 ad ?_;refine go ?_;refine cd hm G (λae hm=>?_) (λae hm=>?_)
 refine gs ?_;refine Ek [] 1 ?_;exact ef;refine gs ?_;obtain ⟨ar,af,hm⟩:=aU hm;refine cz @wi af ?_;refine gs ?_;refine cd hm G (λag hm=>?_) (λag hm=>?_);refine gs ?_;refine Ek [] 1 ?_;exact ef;refine gt ?_;refine gj ?_;exact kx [] 1 (eb ab ac) G (kK (cA Z h0.mm.cV));obtain rfl:=fR Y J;have hm:=(a9 _ _).symm.trans hm;refine gs ?_;exact ef
theorem vd {a0:aE}{v0 v1 v2 v3 v4 v5:Qn}{r:(List Qm)} (hm:ql a0=some r) (h0:aQ H v0 a0.bD) (h1:aQ H v1 a0.aL) (h2:aQ H v2 a0.aH) (h3:aQ H v3 a0.cR) (h4:aQ H v4 a0.bB) (h5:aQ H v5 a0.bM):
  Cq B w0 48 [.agg [v0,v1,v2,v3,v4,v5].toArray] H M (Pz r):=by
 unfold ql at hm;refine fZ func48 ?_;refine gs ?_;refine bx (λam=>?_);refine g2 ?_;refine gs ?_;refine kT 9 (aG.sz Qm) ?_;obtain ⟨J,aa,ab,hm⟩:=cQ hm;refine cl [(7,_),(8,_)] [] 2 [0] 1 (P5 a0.bB J r H 3 9) _ G ⟨0,_,_,_,_,G,G,hm,Rw.nil,lE,G,G⟩ ?_;rintro _ an _ _ ⟨Y,a4,Z,a5,a6,O,rfl,hm,ac,ao,rfl,rfl⟩;refine g2 ?_;refine bI G (λI=>?_) (λI=>?_);obtain ⟨a1,ad,rfl,ae,af⟩:=fS O I;have hm:=(aa _ _ _ _).symm.trans hm;generalize ag:J (Y+1) ad=ap at hm;unfold ui at hm;refine g2 ?_;refine al (λaq=>?_);refine wt 0 ?_;refine go ?_;refine dH (α:=Qm) (css:=[[.string (a1.Name)]]) (zs:=[.string (⟨#[]⟩)]) (out:=[.string (a1.Name)]) (ys:=[a1.Name]) G G G ⟨G,Qo⟩ Rq Sp G Sx (by kernel_rfl) G G G G ⟨[.string (a1.Name)],[],G,G,G⟩ G ?_
 intro ar ah au ai av aj;have aw:Value.oC ah=([a1.Name]).length:=by rw [ai]; rfl
 obtain ⟨ak,hm⟩:=aI hm;refine Wp [1] ?_;refine dA (α:=Qm) (l:=Z) (ys:=[a1.Name]) G G S6 ⟨_,G,G,G,G⟩ G G G G G ac.mm aj ak ?_;intro ax ay az;refine gt ?_;refine gj ?_;exact kx [0] 1 (eb af ag) G (kK (cA ae h4.mm.cV));obtain rfl:=fR O I;have hm:=(ab _ _).symm.trans hm;refine gs ?_;exact ef
theorem yl {a0:aF}{a1:Qm}{b0:Nat}{r:Bool} (hm:pd a0 a1=r):
  Cq B w0 118 [.agg [.string (a0.Name),.string (a0.Node),.int .i64 (a0.dB)].toArray,.pointer (some ⟨b0,0,none⟩)] H (.obj b0 (.cells ([.string (a1)]:List Qn).toArray 9 (0,0))::M) (λH _=>Mm b0 a1 r H M):=by
 unfold pd at hm;refine fZ func118 ?_;refine gs ?_;refine bx (λI=>?_);refine gs ?_;obtain rfl:=hm;refine Ek [1] 1 ?_;refine Ew H ?_;exact l9 G G ⟨G,G,G⟩
theorem mL {I:(List aF)}{a1:Qm}{v0:Qn}{b0:Nat}{r:Int} (hm:cP I a1=some r) (h0:aQ H v0 I):
  Cq B w0 97 [v0,.func (.func 118) [].toArray [.pointer (some ⟨b0,0,none⟩)].toArray] H (.obj b0 (.cells ([.string (a1)]:List Qn).toArray 9 (0,0))::M) (λH _=>NI b0 a1 r H M):=by
 unfold cP at hm;refine fZ func97 ?_;refine g2 ?_;refine gs ?_;obtain ⟨O,Z,a8,hm⟩:=jP hm;refine cl [(0,_),(1,_),(7,_)] [] 0 [] 0 (FD (((I.length:Int):Int).toNat) O r H 8) _ G ⟨0,_,QP _,G,hm,lE,G,G⟩ ?_;rintro _ af _ _ ⟨a0,a2,Y,rfl,hm,ag,rfl,rfl⟩;refine g2 ?_;refine bI G (λJ=>?_) (λJ=>?_);obtain ⟨a9,rfl,aa,ab⟩:=mc Y J;have hm:=(Z _ _ _).symm.trans hm;generalize ac:O a9 (a0+1)=ah at hm;unfold dL at hm;refine g2 ?_;refine gs ?_;obtain ⟨ad,ai,aj,hm⟩:=aC hm;refine go ?_;refine lG call118 G G G G (λw ht=>(yl (hm:=(G:pd ad a1=_))  ht :)) ?_;rintro _ _ _ ⟨rfl,rfl,rfl⟩;refine go ?_;refine cd hm G (λae hm=>?_) (λae hm=>?_);refine gs ?_;exact ef;refine gt ?_;refine gj ?_;exact kj (eb aa ac) (kK (eZ ab (e_ (lH (h0).cV))));obtain rfl:=mb Y J;have hm:=(a8 _ _).symm.trans hm;refine gs ?_;exact ef
theorem mr {a1:(List aF)}{a0:Qm}{v0:Qn}{b0:Nat}{r:Bool} (hm:cM a1 a0=some r) (O:aQ H v0 a1):
  Cq B w0 117 [v0,.func (.func 118) [].toArray [.pointer (some ⟨b0,0,none⟩)].toArray] H (.obj b0 (.cells ([.string (a0)]:List Qn).toArray 9 (0,0))::M) (λH _=>Mm b0 a0 r H M):=by
 unfold cM at hm;refine fZ func117 ?_;refine g2 ?_;obtain ⟨J,I,hm⟩:=aU hm;refine cz @mL I ?_;refine go ?_;exact ef
theorem vE {a0:aE}{on:(List Qm)}{v0 v1 v2 v3 v4 v5 v6:Qn}{r:Int} (hm:eF a0 on=some r) (h0:aQ H v0 a0.bD) (h1:aQ H v1 a0.aL) (h2:aQ H v2 a0.aH) (h3:aQ H v3 a0.cR) (h4:aQ H v4 a0.bB) (h5:aQ H v5 a0.bM) (h6:aQ H v6 on):
  Cq B w0 73 [.agg [v0,v1,v2,v3,v4,v5].toArray,v6] H M (yY r):=by
 unfold eF at hm;refine fZ func73 ?_;refine gs ?_;refine bx (λak=>?_);refine g2 ?_;obtain ⟨am,a8,hm⟩:=aU hm;refine cz @k_ a8 ?_;refine gs ?_;refine cd hm G (λa9 hm=>?_) (λa9 hm=>?_);refine gs ?_;refine Ek [] 1 ?_;exact ef;refine g2 ?_;obtain ⟨O,aa,ab,hm⟩:=cQ hm;refine cl [(1,_),(2,_),(13,_),(14,_)] [] 0 [] 0 (O7 on O r H 15) _ G ⟨0,_,G,G,hm,lE,G,G⟩ ?_;rintro _ an _ _ ⟨a1,a3,Y,rfl,hm,ao,rfl,rfl⟩;refine g2 ?_;refine bI G (λJ=>?_) (λJ=>?_);obtain ⟨ap,ac,rfl,ad,ae⟩:=fS Y J;have hm:=(aa _ _ _ _).symm.trans hm;generalize af:O (a1+1) ac=aq at hm;unfold qd at hm;refine g2 ?_;refine al (λar=>?_);refine go ?_;refine wt 0 ?_;refine gs ?_;obtain ⟨au,ag,hm⟩:=aU hm;refine cz @mr ag ?_;refine go ?_;refine cd hm G (λah hm=>?_) (λah hm=>?_);refine gs ?_;refine Ek [] 2 ?_;exact ef;refine gs ?_;obtain ⟨av,hm⟩:=aI hm
 refine pA fm 4 [ph _,ph _,(λH rs v=>∃ I:Qn,[]=rs/\I=v/\aQ H I (rJ on 0 (((a1:Int):Int).toNat))),ph _] ⟨om,om,?_,om,Qo⟩ ?_;rintro HX hX X Rest hR _ _ ⟨rfl,rfl⟩ _ _ ⟨rfl,rfl⟩ hU hUp;refine rP (α:=Qm) (l:=0) (h:=((a1:Int):Int).toNat) (xs:=on) G G Rq Sp G h6.mm (by omega) (by omega) (.inl G) (λcap hcap=>by rw [Qx G]; exact (.inl ⟨G,G⟩)) (λm hmm=>(.inr ⟨_,_,_,G,G,by omega,by omega,G⟩)) (.inl ⟨G,G⟩) ?_
 intro I Z aw;exact o0 ⟨I,G,G,(Z)⟩;intro ax ay;refine dr ?_;rintro _ _ ⟨I,rfl,rfl,Z⟩;refine dz ?_;obtain ⟨az,ai,hm⟩:=aU hm;refine cz @bX ai ?_;refine go ?_;refine cd hm G (λaj hm=>?_) (λaj hm=>?_);refine gs ?_;refine Ek [] 2 ?_;exact ef;refine gt ?_;refine gj ?_;exact kx [1] 1 (eb ae af) G (kK (cA ad h6.mm.cV));obtain rfl:=fR Y J;have hm:=(ab _ _).symm.trans hm;refine gs ?_;refine Ek [] 1 ?_;exact ef
theorem xW {B:Nat}{w0 w:World}{H:Hp}{M:List bQ}{s:List Qm}{v0:Qn} (I:aQ H v0 s) (Z:s.length*16<=140737488355328) (ht:St B w0 H M w):
  Calls prog 53 [v0].toArray w (ux B w0 (Pz s H M)):=by
 refine enter func53 G G G ht ?_;obtain ⟨o,n,c,rfl⟩:=I.shape;refine bN ?_;refine aP (aJ G G G ?_);refine bC (aT ?_);refine bN ?_;refine bN ?_;refine aP (bW G G G (rU G G Rq G G ?_));refine bC (aT ?_);cases o with
 | none=>
  refine bI (b:=true) G (λ_=>?_) (λJ=>Bool.noConfusion J);obtain rfl:=I.isNil;refine bN ?_;refine aP (aJ G G G ?_);refine bC (aT ?_);refine mB (jQ ?_);refine cD 9 (aG.sz Qm) ?_;exact l9 G G ⟨G,.slice none 0 0,[],G,G,(Rw.nil (H:=H)).pw⟩
 | some a=>
  refine bI (b:=false) G (λJ=>Bool.noConfusion J) (λ_=>?_);refine mC (aT ?_);refine bN ?_;refine aP (qq Qm G G Rq Sp ?_);intro v1 xe O;refine bW G G G (dA (α:=Qm) (l:=[]) (ys:=s) (bytes:=16) G G S6 ⟨_,G,G,G,G⟩ G G G G G O I (by simpa using Z) ?_)
  intro v2 sA Y;refine aJ G G G ?_;refine bC (aT ?_);refine mB ?_;exact l9 G G ⟨G,v2,sA,G,G,Y.pw⟩
theorem HW {B:Nat}{w0 w:World}{H:Hp}{M:List bQ}{s:List aS}{v0:Qn} (J:aQ H v0 s) (hz:s.length*56<=140737488355328) (ht:St B w0 H M w):
  Calls prog 89 [v0].toArray w (ux B w0 λH' M' v=>H=H'/\∃ (v':Qn) (I:List Qn),.row v' 41 (aG.sz aS) s.length I::M=M'/\v'=v/\sC v' I s):=by
 refine enter func89 G G G ht ?_;obtain ⟨o,n,c,rfl⟩:=J.shape;refine bN ?_;refine aP (aJ G G G ?_);refine bC (aT ?_);refine bN ?_;refine bN ?_;refine aP (bW G G G (rU G G runUnderlying23 G G ?_));refine bC (aT ?_);cases o with
 | none=>
  refine bI (b:=true) G (λ_=>?_) (λO=>Bool.noConfusion O);obtain rfl:=J.isNil;refine bN ?_;refine aP (aJ G G G ?_);refine bC (aT ?_);refine mB (jQ ?_);refine cD 41 (aG.sz aS) ?_;exact l9 G G ⟨G,.slice none 0 0,[],G,G,(Rw.nil (H:=H)).pw⟩
 | some a=>
  refine bI (b:=false) G (λO=>Bool.noConfusion O) (λ_=>?_);refine mC (aT ?_);refine bN ?_;refine aP (qq aS G G runUnderlying23 sizeOf41 ?_);intro v1 xe Y;refine bW G G G (dA (α:=aS) (l:=[]) (ys:=s) (bytes:=56) G G underlying23 ⟨_,G,G,G,G⟩ G G G G G Y J (by simpa using hz) ?_)
  intro v2 sA Z;refine aJ G G G ?_;refine bC (aT ?_);refine mB ?_;exact l9 G G ⟨G,v2,sA,G,G,Z.pw⟩
theorem HY {B:Nat}{w0 w:World}{H:Hp}{M:List bQ}{s:List aK}{v0:Qn} (J:aQ H v0 s) (hz:s.length*96<=140737488355328) (ht:St B w0 H M w):
  Calls prog 90 [v0].toArray w (ux B w0 λH' M' v=>H=H'/\∃ (v':Qn) (I:List Qn),.row v' 120 (aG.sz aK) s.length I::M=M'/\v'=v/\sC v' I s):=by
 refine enter func90 G G G ht ?_;obtain ⟨o,n,c,rfl⟩:=J.shape;refine bN ?_;refine aP (aJ G G G ?_);refine bC (aT ?_);refine bN ?_;refine bN ?_;refine aP (bW G G G (rU G G runUnderlying24 G G ?_));refine bC (aT ?_);cases o with
 | none=>
  refine bI (b:=true) G (λ_=>?_) (λO=>Bool.noConfusion O);obtain rfl:=J.isNil;refine bN ?_;refine aP (aJ G G G ?_);refine bC (aT ?_);refine mB (jQ ?_);refine cD 120 (aG.sz aK) ?_;exact l9 G G ⟨G,.slice none 0 0,[],G,G,(Rw.nil (H:=H)).pw⟩
 | some a=>
  refine bI (b:=false) G (λO=>Bool.noConfusion O) (λ_=>?_);refine mC (aT ?_);refine bN ?_;refine aP (qq aK G G runUnderlying24 sizeOf120 ?_);intro v1 xe Y;refine bW G G G (dA (α:=aK) (l:=[]) (ys:=s) (bytes:=96) G G underlying24 ⟨_,G,G,G,G⟩ G G G G G Y J (by simpa using hz) ?_)
  intro v2 sA Z;refine aJ G G G ?_;refine bC (aT ?_);refine mB ?_;exact l9 G G ⟨G,v2,sA,G,G,Z.pw⟩
theorem HZ {B:Nat}{w0 w:World}{H:Hp}{M:List bQ}{s:List bE}{v0:Qn} (J:aQ H v0 s) (hz:s.length*56<=140737488355328) (ht:St B w0 H M w):
  Calls prog 91 [v0].toArray w (ux B w0 λH' M' v=>H=H'/\∃ (v':Qn) (I:List Qn),.row v' 152 (aG.sz bE) s.length I::M=M'/\v'=v/\sC v' I s):=by
 refine enter func91 G G G ht ?_;obtain ⟨o,n,c,rfl⟩:=J.shape;refine bN ?_;refine aP (aJ G G G ?_);refine bC (aT ?_);refine bN ?_;refine bN ?_;refine aP (bW G G G (rU G G UZ G G ?_));refine bC (aT ?_);cases o with
 | none=>
  refine bI (b:=true) G (λ_=>?_) (λO=>Bool.noConfusion O);obtain rfl:=J.isNil;refine bN ?_;refine aP (aJ G G G ?_);refine bC (aT ?_);refine mB (jQ ?_);refine cD 152 (aG.sz bE) ?_;exact l9 G G ⟨G,.slice none 0 0,[],G,G,(Rw.nil (H:=H)).pw⟩
 | some a=>
  refine bI (b:=false) G (λO=>Bool.noConfusion O) (λ_=>?_);refine mC (aT ?_);refine bN ?_;refine aP (qq bE G G UZ sizeOf152 ?_);intro v1 xe Y;refine bW G G G (dA (α:=bE) (l:=[]) (ys:=s) (bytes:=56) G G underlying25 ⟨_,G,G,G,G⟩ G G G G G Y J (by simpa using hz) ?_)
  intro v2 sA Z;refine aJ G G G ?_;refine bC (aT ?_);refine mB ?_;exact l9 G G ⟨G,v2,sA,G,G,Z.pw⟩
theorem H4 {B:Nat}{w0 w:World}{H:Hp}{M:List bQ}{s:List aF}{v0:Qn} (J:aQ H v0 s) (hz:s.length*40<=140737488355328) (ht:St B w0 H M w):
  Calls prog 92 [v0].toArray w (ux B w0 λH' M' v=>H=H'/\∃ (v':Qn) (I:List Qn),.row v' 55 (aG.sz aF) s.length I::M=M'/\v'=v/\sC v' I s):=by
 refine enter func92 G G G ht ?_;obtain ⟨o,n,c,rfl⟩:=J.shape;refine bN ?_;refine aP (aJ G G G ?_);refine bC (aT ?_);refine bN ?_;refine bN ?_;refine aP (bW G G G (rU G G Tu G G ?_));refine bC (aT ?_);cases o with
 | none=>
  refine bI (b:=true) G (λ_=>?_) (λO=>Bool.noConfusion O);obtain rfl:=J.isNil;refine bN ?_;refine aP (aJ G G G ?_);refine bC (aT ?_);refine mB (jQ ?_);refine cD 55 (aG.sz aF) ?_;exact l9 G G ⟨G,.slice none 0 0,[],G,G,(Rw.nil (H:=H)).pw⟩
 | some a=>
  refine bI (b:=false) G (λO=>Bool.noConfusion O) (λ_=>?_);refine mC (aT ?_);refine bN ?_;refine aP (qq aF G G Tu sizeOf55 ?_);intro v1 xe Y;refine bW G G G (dA (α:=aF) (l:=[]) (ys:=s) (bytes:=40) G G underlying26 ⟨_,G,G,G,G⟩ G G G G G Y J (by simpa using hz) ?_)
  intro v2 sA Z;refine aJ G G G ?_;refine bC (aT ?_);refine mB ?_;exact l9 G G ⟨G,v2,sA,G,G,Z.pw⟩
theorem H6 {B:Nat}{w0 w:World}{H:Hp}{M:List bQ}{s:List bS}{v0:Qn} (J:aQ H v0 s) (hz:s.length*56<=140737488355328) (ht:St B w0 H M w):
  Calls prog 93 [v0].toArray w (ux B w0 λH' M' v=>H=H'/\∃ (v':Qn) (I:List Qn),.row v' 156 (aG.sz bS) s.length I::M=M'/\v'=v/\sC v' I s):=by
 refine enter func93 G G G ht ?_;obtain ⟨o,n,c,rfl⟩:=J.shape;refine bN ?_;refine aP (aJ G G G ?_);refine bC (aT ?_);refine bN ?_;refine bN ?_;refine aP (bW G G G (rU G G runUnderlying27 G G ?_));refine bC (aT ?_);cases o with
 | none=>
  refine bI (b:=true) G (λ_=>?_) (λO=>Bool.noConfusion O);obtain rfl:=J.isNil;refine bN ?_;refine aP (aJ G G G ?_);refine bC (aT ?_);refine mB (jQ ?_);refine cD 156 (aG.sz bS) ?_;exact l9 G G ⟨G,.slice none 0 0,[],G,G,(Rw.nil (H:=H)).pw⟩
 | some a=>
  refine bI (b:=false) G (λO=>Bool.noConfusion O) (λ_=>?_);refine mC (aT ?_);refine bN ?_;refine aP (qq bS G G runUnderlying27 sizeOf156 ?_);intro v1 xe Y;refine bW G G G (dA (α:=bS) (l:=[]) (ys:=s) (bytes:=56) G G underlying27 ⟨_,G,G,G,G⟩ G G G G G Y J (by simpa using hz) ?_)
  intro v2 sA Z;refine aJ G G G ?_;refine bC (aT ?_);refine mB ?_;exact l9 G G ⟨G,v2,sA,G,G,Z.pw⟩
theorem oZ {a0:aE}{v0 v1 v2 v3 v4 v5:Qn}{r:aE} (hm:kA a0=some r) (h0:aQ H v0 a0.bD) (h1:aQ H v1 a0.aL) (h2:aQ H v2 a0.aH) (h3:aQ H v3 a0.cR) (h4:aQ H v4 a0.bB) (h5:aQ H v5 a0.bM):
  Cq B w0 46 [.agg [v0,v1,v2,v3,v4,v5].toArray] H M (NJ r):=by
 unfold kA at hm;refine fZ func46 ?_;refine gs ?_;refine bx (λau=>?_);refine al (λav=>?_);refine gs ?_;obtain ⟨ai,hm⟩:=aI hm;obtain ⟨aj,hm⟩:=aI hm;obtain ⟨ak,hm⟩:=aI hm;obtain ⟨am,hm⟩:=aI hm;obtain ⟨an,hm⟩:=aI hm;refine pA fm 17 [ph _,ph _,(Mn a0.bD),ph _,ph _,(λH rs v=>∃ I:Qn,∃ a7:List Qn,[.row I 41 (aG.sz aS) a0.aL.length a7]=rs/\I=v/\Rw H I a7 a0.aL),ph _,ph _,(λH rs v=>∃ J:Qn,∃ a8:List Qn,[.row J 120 (aG.sz aK) a0.aH.length a8]=rs/\J=v/\Rw H J a8 a0.aH),ph _,ph _,(λH rs v=>∃ O:Qn,∃ a9:List Qn,[.row O 152 (aG.sz bE) a0.cR.length a9]=rs/\O=v/\Rw H O a9 a0.cR),ph _,ph _,(λH rs v=>∃ Y:Qn,∃ aa:List Qn,[.row Y 55 (aG.sz aF) a0.bB.length aa]=rs/\Y=v/\Rw H Y aa a0.bB),ph _,ph _] ⟨om,om,?_,om,om,?_,om,om,?_,om,om,?_,om,om,?_,om,om,Qo⟩ ?_
 rintro Z hX X Rest hR _ _ ⟨rfl,rfl⟩ hU hUp;refine fJ call53 G G G (λw ht=>(xW (s:=a0.bD) h0.mm ai ht :)) ?_;rintro _ _ _ ⟨rfl,a1,a6,rfl,rfl,ab⟩;have ab:=ab Z;exact oe [.row a1 9 (aG.sz Qm) a0.bD.length a6] lE ⟨a1,a6,G,G,(ab)⟩;rintro Z hX X Rest hR _ _ ⟨rfl,rfl⟩ _ _ ⟨a1,a6,rfl,rfl,ab⟩ hU hUp;refine fJ call89 G G G (λw ht=>(HW (s:=a0.aL) h1.mm aj ht :)) ?_;rintro _ _ _ ⟨rfl,I,a7,rfl,rfl,ac⟩;have ac:=ac Z;exact oe [.row I 41 (aG.sz aS) a0.aL.length a7] lE ⟨I,a7,G,G,(ac)⟩;rintro Z hX X Rest hR _ _ ⟨rfl,rfl⟩ _ _ ⟨I,a7,rfl,rfl,ac⟩ hU hUp;refine fJ call90 G G G (λw ht=>(HY (s:=a0.aH) h2.mm ak ht :)) ?_;rintro _ _ _ ⟨rfl,J,a8,rfl,rfl,ad⟩;have ad:=ad Z;exact oe [.row J 120 (aG.sz aK) a0.aH.length a8] lE ⟨J,a8,G,G,(ad)⟩;rintro Z hX X Rest hR _ _ ⟨rfl,rfl⟩ _ _ ⟨J,a8,rfl,rfl,ad⟩ hU hUp;refine fJ call91 G G G (λw ht=>(HZ (s:=a0.cR) h3.mm am ht :)) ?_
 rintro _ _ _ ⟨rfl,O,a9,rfl,rfl,ae⟩;have ae:=ae Z;exact oe [.row O 152 (aG.sz bE) a0.cR.length a9] lE ⟨O,a9,G,G,(ae)⟩;rintro Z hX X Rest hR _ _ ⟨rfl,rfl⟩ _ _ ⟨O,a9,rfl,rfl,ae⟩ hU hUp;refine fJ call92 G G G (λw ht=>(H4 (s:=a0.bB) h4.mm an ht :)) ?_;rintro _ _ _ ⟨rfl,Y,aa,rfl,rfl,af⟩;have af:=af Z;exact oe [.row Y 55 (aG.sz aF) a0.bB.length aa] lE ⟨Y,aa,G,G,(af)⟩;intro ao ap;refine dr ?_;rintro _ _ ⟨a1,a6,rfl,rfl,ab⟩;refine dr ?_;rintro _ _ ⟨I,a7,rfl,rfl,ac⟩;refine dr ?_;rintro _ _ ⟨J,a8,rfl,rfl,ad⟩;refine dr ?_;rintro _ _ ⟨O,a9,rfl,rfl,ae⟩;refine dr ?_;rintro _ _ ⟨Y,aa,rfl,rfl,af⟩;refine dz ?_;refine Wp [0,0,0,0,0,0,0] ?_;obtain ⟨aq,hm⟩:=aI hm;refine fJ call93 G G G (λw ht=>(H6 (s:=a0.bM) h5.mm aq ht :)) ?_;rintro _ _ _ ⟨rfl,ah,ar,rfl,rfl,ag⟩;have ag:=ag ao;refine eB (css:=[[a1],[I],[J],[O],[Y],[ah]]) (zs:=[.slice none 0 0,.slice none 0 0,.slice none 0 0,.slice none 0 0,.slice none 0 0,.slice none 0 0]) (out:=[a1,I,J,O,Y,ah]) (places:=[(0,1),(1,1),(2,1),(3,1),(4,1),(5,1)]) G G G ⟨(Rw.cells ab),(Rw.cells ac),(Rw.cells ad),(Rw.cells ae),(Rw.cells af),(Rw.cells ag),Qo⟩ zeroValue29 G U1 (λw=>by kernel_rfl) G ?_
 refine wt 6 ?_;refine go ?_;obtain rfl:=Qs hm;exact kV ap G (fY.agg G Tk S_ (.head _) G) (.cons _ (.cons_cons _ (.cons_cons _ (.cons_cons _ (.cons_cons _ (.cons_cons _ (.cons_cons _ (.cons _ (.refl _))))))))) (.trans (.swap _ _ _) (.trans (.cons _ (.swap _ _ _)) (.trans (.cons _ (.cons _ (.swap _ _ _))) (.trans (.cons _ (.cons _ (.cons _ (.swap _ _ _)))) (.cons _ (.cons _ (.cons _ (.cons _ (.swap _ _ _))))))))) ⟨G,a1,a6,I,a7,J,a8,O,a9,Y,aa,ah,ar,G,G,(ab).pw,(ac).pw,(ad).pw,(ae).pw,(af).pw,(ag).pw⟩
theorem va {a0:aF}{a1:(List Qm)}{b0:Nat}{v0:Qn}{r:Bool} (hm:mo a0 a1=some r) (Y:aQ H v0 a1):
  Cq B w0 120 [.agg [.string (a0.Name),.string (a0.Node),.int .i64 (a0.dB)].toArray,.pointer (some ⟨b0,0,none⟩)] H (.obj b0 (.cells [v0].toArray 22 (0,0))::M) (λH _=>Mo b0 v0 r H M):=by
 unfold mo at hm;refine fZ func120 ?_;refine gs ?_;refine bx (λJ=>?_);refine gs ?_;obtain ⟨O,I,hm⟩:=aU hm;refine cz @bX I ?_;refine go ?_;refine Ek [1] 1 ?_;exact ef
theorem nc {I:(List aF)}{O:(List Qm)}{v0:Qn}{b0:Nat}{v1:Qn}{r:Int} (hm:fA I O=some r) (h0:aQ H v0 I) (h1:aQ H v1 O):
  Cq B w0 97 [v0,.func (.func 120) [].toArray [.pointer (some ⟨b0,0,none⟩)].toArray] H (.obj b0 (.cells [v1].toArray 22 (0,0))::M) (λH _=>Mp b0 v1 r H M):=by
 unfold fA at hm;refine fZ func97 ?_;refine g2 ?_;refine gs ?_;obtain ⟨Y,a7,a8,hm⟩:=jP hm;refine cl [(0,_),(1,_),(7,_)] [] 0 [] 0 (FD (((I.length:Int):Int).toNat) Y r H 8) _ G ⟨0,_,QP _,G,hm,lE,G,G⟩ ?_;rintro _ af _ _ ⟨a0,a1,Z,rfl,hm,ag,rfl,rfl⟩;refine g2 ?_;refine bI G (λJ=>?_) (λJ=>?_);obtain ⟨a9,rfl,aa,ab⟩:=mc Z J;have hm:=(a7 _ _ _).symm.trans hm;generalize ac:Y a9 (a0+1)=ah at hm;unfold iM at hm;refine g2 ?_;refine gs ?_;obtain ⟨ai,aj,ak,hm⟩:=aC hm;refine go ?_;obtain ⟨am,ad,hm⟩:=aU hm;refine lG call120 G G G G (λw ht=>(va (hm:=ad) h1.mm ht :)) ?_;rintro _ _ _ ⟨rfl,rfl,rfl⟩;refine go ?_;refine cd hm G (λae hm=>?_) (λae hm=>?_);refine gs ?_;exact ef;refine gt ?_;refine gj ?_;exact kj (eb aa ac) (kK (eZ ab (e_ (lH (h0).cV))));obtain rfl:=mb Z J;have hm:=(a8 _ _).symm.trans hm;refine gs ?_
 exact ef
theorem mJ {a4:(List aF)}{I:(List Qm)}{v0:Qn}{rT:List Qn}{b0:Nat}{v1:Qn}{r:(List aF)} (hm:dW a4 I=some r) (h0:Rw H v0 rT a4) (h1:aQ H v1 I):
  Cq B w0 119 [v0,.func (.func 120) [].toArray [.pointer (some ⟨b0,0,none⟩)].toArray] H (.row v0 55 (aG.sz aF) a4.length rT::.obj b0 (.cells [v1].toArray 22 (0,0))::M) (λH _ H' M' v=>H=H'/\∃ O:Qn,∃ J:List Qn,.row O 55 (aG.sz aF) r.length J::.obj b0 (.cells [v1].toArray 22 (0,0))::M=M'/\O=v/\sC O J r):=by
 unfold dW at hm;refine fZ func119 ?_;refine g2 ?_;obtain ⟨aq,ab,hm⟩:=aU hm;refine cy @nc ab ?_;rintro _ _ _ ⟨rfl,⟨_,rfl,rfl,rfl⟩⟩;refine g2 ?_;refine cd hm G (λac hm=>?_) (λac hm=>?_);refine gs ?_;exact ef;refine g2 ?_;obtain ⟨a9,ad,ae,hm⟩:=kG hm;refine cl [(0,_),(1,_)] [1] 1 [] 0 (λu m n H' M' L'=>∃ a0:List aF,∃ a1 Y:Int,∃ a5:List Qn,a9 n (a0,a1,Y)=some r/\Rw H' v0 a5 a0/\H.le H'/\.row v0 55 (aG.sz aF) a0.length a5::m=M'/\(5,.int .i64 (a1))::(6,.int .i64 (Y))::u=L') fT G ⟨_,_,_,_,hm,h0,lE,G,G⟩ ?_;rintro a6 af _ _ ⟨a0,a1,Y,a5,hm,ag,ar,rfl,rfl⟩
 rcases a6 with _ | a6
 exact nomatch (ae _).symm.trans hm;have hm:=(ad _ _).symm.trans hm;generalize ah:a9 a6=ai at hm
 try dsimp only at hm
 unfold iD at hm;refine g2 ?_;refine cd hm G (λaj hm=>?_) (λaj hm=>?_);refine go ?_;refine cj [(0,_),(1,_),(6,_)] [1] 1 (λu m H' M' L'=>∃ Z:List aF,∃ a7:Int,∃ a8:List Qn,dJ Y ai Z a7=some r/\Rw H' v0 a8 Z/\af=H'/\.row v0 55 (aG.sz aF) Z.length a8::m=M'/\(5,.int .i64 (a7))::u=L') ?_ (λaa=>?_);rintro _ _ _ ⟨Z,a7,a8,hm,au,rfl,rfl,rfl⟩;unfold dJ at hm;refine gj ?_;exact kj (Cn ah);refine gs ?_;obtain ⟨ak,av,aw,hm⟩:=aC hm;refine go ?_;refine al (λax=>?_);refine wt 0 ?_;refine gs ?_;refine Wp [2] ?_;obtain ⟨ay,am,hm⟩:=aU hm;refine lG call120 G G G G (λw ht=>(va (hm:=am) h1.mm ht :)) ?_;rintro _ _ _ ⟨rfl,rfl,rfl⟩;refine go ?_;refine cd hm G (λan hm=>?_) (λan hm=>?_);refine gs ?_;obtain ⟨az,b1,b2,hm⟩:=aC hm;refine go ?_;refine wF 2 0 ak ?_;intro b3 b4 b5;refine bC (aT ?_);refine gj ?_;exact kx [0,0] 1 (aa _ _ _ pk)
 refine gj ?_;exact kx [2,0] 1 (aa _ _ _ pk);refine gs ?_;obtain ⟨ao,hm⟩:=aI hm;refine sr (α:=aF) (zs:=[.string (⟨#[]⟩),.string (⟨#[]⟩),.int .i64 (0)]) (ze:=(aF.mk (⟨#[]⟩) (⟨#[]⟩) 0)) G G (λ_=>G) underlying26 Tu sizeOf55 zeroValue55 G G G G G G ag ao ?_;intro b6 b7 ap;refine gs ?_;obtain ⟨b8,hm⟩:=aI hm;refine tP (α:=aF) (l:=0) (h:=(a1:Int).toNat) G G Tu sizeOf55 G G ap (by omega) (by omega) (λm hmm=>(.inr ⟨_,_,_,G,G,by omega,by omega,G⟩)) (.inl ⟨G,G⟩) ?_
 intro b9 ba bb;refine go ?_;exact ef
theorem wy {a0:aE}{on:(List Qm)}{v0 v1 v2 v3 v4 v5 v6:Qn}{r:aE} (hm:pL a0 on=some r) (h0:aQ H v0 a0.bD) (h1:aQ H v1 a0.aL) (h2:aQ H v2 a0.aH) (h3:aQ H v3 a0.cR) (h4:aQ H v4 a0.bB) (h5:aQ H v5 a0.bM) (h6:aQ H v6 on):
  Cq B w0 77 [.agg [v0,v1,v2,v3,v4,v5].toArray,v6] H M (NJ r):=by
 unfold pL at hm;refine fZ func77 ?_;refine gs ?_;refine bx (λan=>?_);refine bx (λao=>?_);refine al (λap=>?_);refine gs ?_;obtain ⟨aq,a8,hm⟩:=aU hm;refine ca @oZ a8 ?_;rintro _ _ _ ⟨rfl,a9,aa,ab,ac,ad,ae,af,ag,ar,au,ah,ai,rfl,rfl,a1,I,J,O,a7,Y⟩;have a1:=a1 H;have I:=I H;have J:=J H;have O:=O H;have a7:=a7 H;have Y:=Y H;refine al (λav=>?_);refine wt 0 ?_;refine gs ?_;refine Wp [5,7] ?_;obtain ⟨aw,aj,hm⟩:=aU hm;refine ca @mJ aj ?_;rintro _ _ _ ⟨rfl,ak,am,rfl,rfl,Z⟩;have Z:=Z H;refine go ?_;refine wt 2 ?_;refine gs ?_;refine wt 8 ?_;refine go ?_;obtain rfl:=Qs hm;exact kV lE G (fY.agg G Tk S_ (.head _) G) (.cons _ (.cons _ (.cons_cons _ (.cons _ (.cons_cons _ (.cons_cons _ (.cons_cons _ (.cons_cons _ (.cons_cons _ (.cons _ (.refl _))))))))))) (.trans (.swap _ _ _) (.trans (.cons _ (.swap _ _ _)) (.trans (.cons _ (.cons _ (.swap _ _ _))) (.cons _ (.cons _ (.cons _ (.swap _ _ _))))))) ⟨G,a9,aa,ab,ac,ad,ae,af,ag,ak,am,ah,ai,G,G,(a1).pw,(I).pw,(J).pw,(O).pw,(Z).pw,(Y).pw⟩
theorem zW {a0:aE}{on:(List Qm)}{v0 v1 v2 v3 v4 v5 v6:Qn}{r:aE×Int} (hm:od a0 on=some r) (h0:aQ H v0 a0.bD) (h1:aQ H v1 a0.aL) (h2:aQ H v2 a0.aH) (h3:aQ H v3 a0.cR) (h4:aQ H v4 a0.bB) (h5:aQ H v5 a0.bM) (h6:aQ H v6 on):
  Cq B w0 41 [.agg [v0,v1,v2,v3,v4,v5].toArray,v6] H M (λH M H' M' v=>H=H'/\∃ qv0:Qn,∃ I:List Qn,∃ qv1:Qn,∃ J:List Qn,∃ qv2:Qn,∃ O:List Qn,∃ qv3:Qn,∃ Y:List Qn,∃ qv4:Qn,∃ Z:List Qn,∃ qv5:Qn,∃ qxs5:List Qn,.row qv0 9 (aG.sz Qm) r.1.bD.length I::.row qv1 41 (aG.sz aS) r.1.aL.length J::.row qv2 120 (aG.sz aK) r.1.aH.length O::.row qv3 152 (aG.sz bE) r.1.cR.length Y::.row qv4 55 (aG.sz aF) r.1.bB.length Z::.row qv5 156 (aG.sz bS) r.1.bM.length qxs5::M=M'/\.tuple #[.agg [qv0,qv1,qv2,qv3,qv4,qv5].toArray,.int .i64 (r.2)]=v/\sC qv0 I r.1.bD/\sC qv1 J r.1.aL/\sC qv2 O r.1.aH/\sC qv3 Y r.1.cR/\sC qv4 Z r.1.bB/\sC qv5 qxs5 r.1.bM):=by
 unfold od at hm;refine fZ func41 ?_;refine gs ?_;refine bx (λan=>?_);refine al (λao=>?_);refine g2 ?_;obtain ⟨ap,a7,hm⟩:=aU hm;refine cz @vE a7 ?_;refine gs ?_;refine cd hm G (λa8 hm=>?_) (λa8 hm=>?_);refine gs ?_;refine eB (css:=[]) (zs:=[.slice none 0 0,.slice none 0 0,.slice none 0 0,.slice none 0 0,.slice none 0 0,.slice none 0 0]) (out:=[.slice none 0 0,.slice none 0 0,.slice none 0 0,.slice none 0 0,.slice none 0 0,.slice none 0 0]) (places:=[(0,1),(1,1),(2,1),(3,1),(4,1),(5,1)]) G G G Qo zeroValue29 G U1 (λw=>by kernel_rfl) G ?_
 refine go ?_;refine wt 0 ?_;refine gt ?_;refine gj ?_;refine cD 9 (aG.sz Qm) (cD 41 (aG.sz aS) (cD 120 (aG.sz aK) (cD 152 (aG.sz bE) (cD 55 (aG.sz aF) (cD 156 (aG.sz bS) ?_)))));obtain rfl:=Qs hm;exact CJ lE G (fY.agg G Tk S_ (.tail _ (.tail _ (.tail _ (.tail _ (.tail _ (.tail _ (.head _))))))) G) (fY.tmp G) (.cons_cons _ (.cons_cons _ (.cons_cons _ (.cons_cons _ (.cons_cons _ (.cons_cons _ (.cons _ (.cons _ (.refl _))))))))) (.trans (.cons _ (.cons _ (.cons _ (.cons _ (.swap _ _ _))))) (.trans (.cons _ (.cons _ (.cons _ (.swap _ _ _)))) (.trans (.cons _ (.cons _ (.swap _ _ _))) (.trans (.cons _ (.swap _ _ _)) (.trans (.swap _ _ _) (.trans (.cons _ (.cons _ (.cons _ (.cons _ (.swap _ _ _))))) (.trans (.cons _ (.cons _ (.cons _ (.swap _ _ _)))) (.trans (.cons _ (.cons _ (.swap _ _ _))) (.trans (.cons _ (.swap _ _ _)) (.trans (.cons _ (.cons _ (.cons _ (.cons _ (.swap _ _ _))))) (.trans (.cons _ (.cons _ (.cons _ (.swap _ _ _)))) (.trans (.cons _ (.cons _ (.swap _ _ _))) (.trans (.cons _ (.cons _ (.cons _ (.cons _ (.swap _ _ _))))) (.trans (.cons _ (.cons _ (.cons _ (.swap _ _ _)))) (.cons _ (.cons _ (.cons _ (.cons _ (.swap _ _ _))))))))))))))))))) ⟨G,(.slice none 0 0),[],(.slice none 0 0),[],(.slice none 0 0),[],(.slice none 0 0),[],(.slice none 0 0),[],(.slice none 0 0),[],G,G,(Rw.nil (H:=H)).pw,(Rw.nil (H:=H)).pw,(Rw.nil (H:=H)).pw,(Rw.nil (H:=H)).pw,(Rw.nil (H:=H)).pw,(Rw.nil (H:=H)).pw⟩
 refine gs ?_;obtain ⟨aq,a9,hm⟩:=aU hm;refine ca @wy a9 ?_;rintro _ _ _ ⟨rfl,aa,ab,ac,ad,ae,af,ag,ah,ai,aj,ak,am,rfl,rfl,a1,a2,a3,a4,a5,a6⟩;have a1:=a1 H;have a2:=a2 H;have a3:=a3 H;have a4:=a4 H;have a5:=a5 H;have a6:=a6 H;refine wt 6 ?_;refine go ?_;obtain rfl:=Qs hm;exact CJ lE G (fY.agg G Tk S_ (.head _) G) (fY.tmp G) (.cons _ (.cons_cons _ (.cons_cons _ (.cons_cons _ (.cons_cons _ (.cons_cons _ (.cons_cons _ (.cons _ (.refl _))))))))) (.refl _) ⟨G,aa,ab,ac,ad,ae,af,ag,ah,ai,aj,ak,am,G,G,(a1).pw,(a2).pw,(a3).pw,(a4).pw,(a5).pw,(a6).pw⟩
theorem zr {J:aE}{ak:Bool}{v0 v1 v2 v3 v4 v5:Qn}{r:(List b_)×(List Int)} (hm:qy J ak=some r) (h0:aQ H v0 J.bD) (h1:aQ H v1 J.aL) (h2:aQ H v2 J.aH) (h3:aQ H v3 J.cR) (h4:aQ H v4 J.bB) (h5:aQ H v5 J.bM):
  Cq B w0 180 [.agg [v0,v1,v2,v3,v4,v5].toArray,.bool (ak)] H M (λH M H' M' v=>H=H'/\∃ qv0:Qn,∃ O:List Qn,∃ qv1:Qn,∃ Y:List Qn,.row qv0 231 (aG.sz b_) r.1.length O::.row qv1 3 (aG.sz Int) r.2.length Y::M=M'/\.tuple #[qv0,qv1]=v/\sC qv0 O r.1/\sC qv1 Y r.2):=by
 unfold qy at hm;refine fZ func180 ?_;refine gs ?_;refine bx (λbc=>?_);refine g2 ?_;refine g2 ?_;refine kT 231 (aG.sz b_) (kT 3 (aG.sz Int) ?_);obtain ⟨am,aq,ar,hm⟩:=cQ hm;refine cl [(1,_),(2,_),(11,_),(12,_)] [2] 2 [1] 0 (λu m n H' M' L'=>∃ (I:Nat) (a7:List aS),∃ a5:List b_,∃ a6:List Int,∃ a8:Qn,∃ ae:List Qn,∃ a9:Qn,∃ af:List Qn,(J.aL).drop I=a7/\a7.length=n/\am I a7 (a5,a6)=some r/\Rw H' a8 ae a5/\Rw H' a9 af a6/\H.le H'/\.row a8 231 (aG.sz b_) a5.length ae::.row a9 3 (aG.sz Int) a6.length af::m=M'/\(6,a8)::(7,a9)::(13,.int .i64 ((I:Int)))::u=L') _ G ⟨0,_,_,_,_,_,_,_,G,G,hm,Rw.nil,Rw.nil,lE,G,G⟩ ?_;rintro _ au _ _ ⟨I,a7,a5,a6,a8,ae,a9,af,an,rfl,hm,av,aw,bd,rfl,rfl⟩;refine g2 ?_;refine bI G (λag=>?_) (λag=>?_);obtain ⟨be,ax,rfl,ay,az⟩:=fS an ag;have hm:=(aq _ _ _ _).symm.trans hm
 generalize b0:am (I+1) ax=b1 at hm
 try dsimp only at hm
 unfold so at hm;refine go ?_;refine cj [(1,_),(2,_),(11,_),(12,_),(13,_)] [2] 2 (λu m H' M' L'=>∃ aa:List b_,∃ ab:List Int,∃ ac:Qn,∃ ah:List Qn,∃ ad:Qn,∃ ai:List Qn,ou b1 aa ab=some r/\Rw H' ac ah aa/\Rw H' ad ai ab/\au.le H'/\.row ac 231 (aG.sz b_) aa.length ah::.row ad 3 (aG.sz Int) ab.length ai::m=M'/\(6,ac)::(7,ad)::u=L') ?_ (λao=>?_);rintro bf _ _ ⟨aa,ab,ac,ah,ad,ai,hm,bg,bh,bi,rfl,rfl⟩;unfold ou at hm;refine gj ?_;exact kj (eb az b0) (kK (cA ay h1.mm.cV));refine gs ?_;refine al (λbj=>?_);refine go ?_;refine wt 0 ?_;refine gs ?_;refine A3 G G Ud G G (go ?_);refine cd hm G (λb2 hm=>?_) (λb2 hm=>?_);refine gs ?_;obtain ⟨a0,b3,hm⟩:=aU hm;obtain ⟨a1,b4,hm⟩:=aU hm;refine pA fm 13 [ph _,ph _,ph _,ph _,ph _,ph (.int .i64 (a0)),ph _,ph _,ph _,ph _,ph (.int .i64 (a1)),ph (.agg [.int .i64 (a0),.int .i64 (a1)].toArray),(λH rs v=>∃ Z:Qn,[]=rs/\Z=v/\aQ H Z ([(b_.mk a0 a1)])/\Value.oC Z=([(b_.mk a0 a1)]).length)] ⟨om,om,om,om,om,?_,om,om,om,om,?_,?_,?_,Qo⟩ ?_
 exact rk tt @cC b3;exact rk tt @cC b4;rintro HX hX X Rest hR _ _ ⟨rfl,rfl⟩ _ _ ⟨rfl,rfl⟩ hU hUp;refine yE (css:=[[.int .i64 (a0)],[.int .i64 (a1)]]) (zs:=[.int .i64 (0),.int .i64 (0)]) (out:=[.int .i64 (a0),.int .i64 (a1)]) (places:=[(0,1),(1,1)]) G G G ⟨G,G,Qo⟩ zeroValue231 G Sm R8 G G ?_;exact o0 ⟨G,G⟩;rintro HX hX X Rest hR _ _ ⟨rfl,rfl⟩ hU hUp;refine dH (α:=b_) (css:=[[.int .i64 (a0),.int .i64 (a1)]]) (zs:=[.int .i64 (0),.int .i64 (0)]) (out:=[.int .i64 (a0),.int .i64 (a1)]) (ys:=[(b_.mk a0 a1)]) G G G ⟨G,Qo⟩ runUnderlying230 sizeOf231 G zeroValue231 (by kernel_rfl) G G G G ⟨[.int .i64 (a0),.int .i64 (a1)],[],G,G,G⟩ G ?_
 intro bk Z bl b5 b6 aj;have ap:Value.oC Z=([(b_.mk a0 a1)]).length:=by rw [b5]; rfl
 exact oe [] b6 ⟨Z,G,G,(aj),(ap)⟩;intro bm bn;refine dr ?_;rintro _ _ ⟨Z,rfl,rfl,aj,ap⟩;refine uD ?_;obtain ⟨b7,hm⟩:=aI hm;refine Wp [1] ?_;refine dA (α:=b_) (l:=a5) (ys:=[(b_.mk a0 a1)]) G G underlying230 ⟨_,G,G,G,G⟩ G G G G G av.mm aj b7 ?_;intro bo bp bq;refine go ?_;refine dH (α:=Int) (css:=[[.int .i64 ((I:Int))]]) (zs:=[.int .i64 (0)]) (out:=[.int .i64 ((I:Int))]) (ys:=([((I:Int))]:List Int)) G G G ⟨G,Qo⟩ RS R8 G SR (by kernel_rfl) G G G G ⟨[.int .i64 ((I:Int))],[],G,G,G⟩ G ?_
 intro br b8 bs b9 bt ba;have bu:Value.oC b8=([((I:Int))]:List Int).length:=by rw [b9]; rfl
 obtain ⟨bb,hm⟩:=aI hm;refine Wp [2] ?_;refine dA (α:=Int) (l:=a6) (ys:=([((I:Int))]:List Int)) G G R5 ⟨_,G,G,G,G⟩ G G G G G aw.mm ba bb ?_;intro bv bw bz;refine gj ?_;exact kx [1,0,1] 1 (ao _ _ _ pk);refine gj ?_;exact kx [1,1,1] 1 (ao _ _ _ pk);obtain rfl:=fR an ag;have hm:=(ar _ _).symm.trans hm
 try dsimp only at hm
 refine gs ?_;refine Ek [0,0] 1 ?_;exact ef
theorem Au {I:Int}{O:(List b_)}{v0:Qn}{r:Int} (hm:rR I O=some r) (h0:aQ H v0 O):
  Cq B w0 181 [.int .i64 (I),v0] H M (yY r):=by
 unfold rR at hm;refine fZ func181 ?_;refine g2 ?_;refine cj [(0,_),(1,_)] [] 0 (wJ H 17 (((decide (I<0)) || (decide (24<I))) || (decide (64<(O.length:Int))))) ?_ (λZ=>?_);rintro _ _ _ ⟨rfl,rfl,rfl⟩;refine cd hm G (λae hm=>?_) (λae hm=>?_);refine gs ?_;exact ef;refine g2 ?_;obtain ⟨a9,af,ag,hm⟩:=cQ hm;refine cl [(0,_),(18,_),(19,_)] [] 0 [] 0 (λu m n H' M' L'=>∃ (J:Nat) (Y:List b_),(O).drop J=Y/\Y.length=n/\a9 J Y ()=some r/\H.le H'/\m=M'/\(20,.int .i64 ((J:Int)))::u=L') _ G ⟨0,_,G,G,hm,lE,G,G⟩ ?_;rintro _ an _ _ ⟨J,Y,aa,rfl,hm,ao,rfl,rfl⟩;refine g2 ?_;refine bI G (λa7=>?_) (λa7=>?_);obtain ⟨a8,ah,rfl,ai,aj⟩:=fS aa a7;have hm:=(af _ _ _ _).symm.trans hm;generalize ak:a9 (J+1) ah=ap at hm;unfold tw at hm;refine g2 ?_;refine al (λaq=>?_);refine wt 0 ?_;refine gs ?_;refine qB G G Sm R8 G G (by decide) (by decide) (go ?_)
 cases ab:(decide (a8.a0<0));have hm:=eP ab hm;refine qB G G Sm R8 G G (by decide) (by decide) (go ?_)
 cases ac:(decide (I<=a8.a0));have hm:=eP ac hm;refine qB G G Sm R8 G G (by decide) (by decide) (go ?_)
 cases ad:(decide (a8.a1<0));have hm:=eP ad hm;refine qB G G Sm R8 G G (by decide) (by decide) (go ?_)
 refine cd hm G (λam hm=>?_) (λam hm=>?_);refine gs ?_;refine Ek [] 1 ?_;exact ef;refine gt ?_;refine gj ?_;exact kx [] 1 (eb aj ak) G (kK (cA ai h0.mm.cV));have hm:=eQ ad hm;refine go ?_;refine cT G ?_;refine gs ?_;refine Ek [] 1 ?_;exact ef;have hm:=eQ ac hm;refine go ?_;refine cT G ?_;refine gs ?_;refine Ek [] 1 ?_;exact ef;have hm:=eQ ab hm;refine go ?_;refine cT G ?_;refine gs ?_;refine Ek [] 1 ?_;exact ef;obtain rfl:=fR aa a7;have hm:=(ag _ _).symm.trans hm;refine gs ?_;exact ef;refine go ?_;cases ar:(decide (I<0));refine go ?_;cases au:(decide (24<I));refine gj ?_;exact kj (Z _ _ _ pk) kS;refine gj ?_;exact kj (Z _ _ _ pk) kS;refine gj ?_;exact kj (Z _ _ _ pk) kS
theorem yh {a0 a1:Int}{r:Int×Int} (hm:mU a0 a1=r):
  Cq B w0 167 [.int .u64 (a0),.int .u64 (a1)] H M (λH M H' M' v=>H=H'/\M=M'/\.tuple #[.int .u64 (r.1),.int .u64 (r.2)]=v):=by
 unfold mU at hm;refine fZ func167 ?_;refine g2 ?_;refine gs ?_;refine uk G G G G (by decide) (g2 ?_)
 refine uk G G G G (by decide) (g2 ?_)
 refine uk G G G G (by decide) (g2 ?_)
 refine uk G G G G (by decide) (g2 ?_)
 refine uk G G G G (by decide) (gs ?_)
 obtain rfl:=hm;refine Ew H ?_;exact Co G G G ⟨G,G,G⟩
theorem vD {a0 a1:Int}{r:Int×Int} (hm:rZ a0 a1=r):
  Cq B w0 140 [.int .u64 (a0),.int .u64 (a1)] H M (λH M H' M' v=>H=H'/\M=M'/\.tuple #[.int .u64 (r.1),.int .u64 (r.2)]=v):=by
 unfold rZ at hm;refine fZ func140 ?_;refine g2 ?_;refine cF G ?_;refine gs ?_;refine cz @yh (G:mU a0 a1=_) ?_;refine gs ?_;obtain rfl:=hm;refine Ew H ?_;exact Co G G G ⟨G,G,G⟩
theorem Al (m:Nat) (hm:m<9223372036854775808):rZ (u64.wrap (1:Int)) (u64.wrap (m:Int))=(0,(m:Int)):=by
 have hw:u64.wrap (m:Int)=m:=by rw [IntKind.wrap_u64]; omega
 have h1:u64.wrap (1:Int)=1:=rfl;have O:u64.wrap ((BitVec.ofInt (u64).bits (m:Int) &&& BitVec.ofInt (u64).bits 4294967295).toNat)=((m%4294967296:Nat):Int):=by
  have h:=bits_and_u64_nat m 4294967295 (by omega) (by omega)
  have e:m &&& 4294967295=m%4294967296:=TW m 32;rw [e] at h;exact h
 have Z:u64.wrap ((BitVec.ofInt (u64).bits ((m / 4294967296%4294967296:Nat):Int) &&& BitVec.ofInt (u64).bits 4294967295).toNat)=((m / 4294967296%4294967296:Nat):Int):=by
  have h:=bits_and_u64_nat (m / 4294967296%4294967296) 4294967295 (by omega) (by omega)
  have e:(m / 4294967296%4294967296) &&& 4294967295=(m / 4294967296%4294967296)%4294967296:=TW _ 32;rw [e,Nat.mod_mod] at h;exact h
 have hs0:oG .u64 (1:Int) 32=0:=rfl;have Y:oG .u64 (0:Int) 32=0:=rfl;have J:u64.wrap ((BitVec.ofInt (u64).bits (1:Int) &&& BitVec.ofInt (u64).bits 4294967295).toNat)=1:=rfl;have I:u64.wrap ((BitVec.ofInt (u64).bits (0:Int) &&& BitVec.ofInt (u64).bits 4294967295).toNat)=0:=rfl;have hsm:∀ k:Nat,oG .u64 (k:Int) 32=((k / 4294967296:Nat):Int):=λk=>GD k;have e0:((m%4294967296:Nat):Int)=((m%4294967296:Nat):Int):=rfl;have w1:u64.wrap ((m%4294967296:Nat):Int)=((m%4294967296:Nat):Int):=by rw [IntKind.wrap_u64]; omega
 have w2:u64.wrap ((m / 4294967296:Nat):Int)=((m / 4294967296:Nat):Int):=by rw [IntKind.wrap_u64]; omega
 have d1:m%4294967296 / 4294967296=0:=by omega
 have d2:m / 4294967296 / 4294967296=0:=by omega
 have z0:u64.wrap (0:Int)=0:=rfl;unfold rZ mU;rw [hw,h1]
 simp only [hs0,Y,J,O,hsm,Int.zero_mul,Int.one_mul,z0,Int.zero_add,w1,d1,Int.ofNat_zero,Int.natCast_zero,Int.add_zero,I,w2,d2,hw]
theorem Fk {s:List Int}{v0:Qn}{n:Int} (h0:aQ H v0 s) (hz:s.length=1/\0<=n/\n*8<=140737488355328) (ht:St B w0 H M w):
  Calls prog 205 [v0,.int .i64 n].toArray w (ux B w0 (NK (Gx s n) H M)):=by
 obtain ⟨hs1,hn0,O⟩:=hz;obtain ⟨a,rfl⟩:=T4.1 hs1;obtain ⟨m,rfl⟩:∃ m:Nat,n=m:=⟨n.toNat,by omega⟩
 have hrep:=xO a m;rw [hrep];have hlr:(List.replicate m a).length=m:=RI;have hmb:m<9223372036854775808:=by omega
 obtain ⟨o,c,hv0,_⟩:=h0.len
 simp only [QA,Sf,QP] at hv0
 subst hv0;refine enter func205 G G G ht ?_;refine bN ?_;refine aP (aJ G G G ?_);refine bC (aT ?_);refine bN ?_;refine bN ?_;refine aP (bW G G G (vr G G G G G ?_));refine bC (aT ?_);refine bI (b:=decide ((m:Int)<0)) G (λO=>absurd (Qv O) (by omega)) (λ_=>?_)
 refine mC (aT ?_);refine bN ?_;refine aP (bW G G G (C8 G G RS G (ra G G SA TM G (bW G G G (ra G G SA TM G ?_)))));refine fJ call140 G G G (λw ht=>by have h:=vD (hm:=Al m hmb) ht; exact h) ?_
 rintro _ _ _ ⟨rfl,rfl,rfl⟩;refine bW G G G (ss G G G G (ss G G G G (aJ G G G (aJ G G G ?_))));refine bC (aT ?_);refine bN ?_;refine bN ?_;refine aP (bW G G G (vr G G G G G (bW G G G (bW G G G (vr G G G G G (C9 (b:=false) G G G G ?_))))));refine bC (aT ?_);refine bI (b:=decide (9223372036854775807<(m:Int))) G (λO=>absurd (Qv O) (by omega)) (λ_=>?_)
 refine mC (aT ?_);have hw:i64.wrap (m:Int)=m:=xD (by omega) (by omega)
 refine bN ?_;refine aP (bW G G G (ra G G TM SA G ?_));rw [hw];refine fM (α:=Int) (ze:=0) (bytes:=8) G G R5 ⟨_,G,G,G,G⟩ G G G G G G (by omega) O ?_
 intro v1 xe hx1;rw [Qr] at hx1 ⊢;refine aJ G G G ?_;refine bC (aT ?_);generalize hl1:List.replicate m (0:Int)=l1 at hx1 ⊢;have hll:l1.length=m:=by rw [<- hl1]; exact RI
 refine bN ?_;refine aP (bW G G G (bW G G G (GO (α:=Int) (l:=l1) (ys:=[a]) G G R5 R8 G G G hx1 h0 (by simp) ?_)))
 rw [Ro,hll];generalize hl2:[a].take (min 1 m)++l1.drop (min 1 m)=l2;have hl2l:l2.length=m:=by rw [<- hl2,QJ,QR,R3,Ro]; omega
 have hl2t:l2.take (min 1 m)=List.replicate (min 1 m) a:=by
  rw [<- hl2];cases m with
  | zero=>rfl
  | succ q=>rw [show min 1 (q+1)=1 by omega]; rfl
 intro sA hx2;refine aJ G G G ?_;refine bC (aT ?_);obtain ⟨o1,m1,c1,hv1⟩:=hx2.sl;refine bN ?_;refine uw (AQ (L':=[(7,v1),(8,.int .i64 ((min 1 m:Nat):Int))]) ⟨G,G,Qo⟩ (SO _) ?_);refine AR (λn H' M' L'=>∃ (q:Nat) (l:List Int) (xs:List Qn),m-q=n/\(1<=q\/m=0)/\q<=m/\l.length=m/\l.take q=List.replicate q a/\Rw H' v1 xs l/\H.le H'/\.row v1 3 (aG.sz Int) m xs::M=M'/\[(7,v1),(8,.int .i64 (q:Int))]=L') (m-min 1 m) ⟨min 1 m,l2,sA,G,by omega,by omega,hl2l,hl2t,hx2,Rk _,G,G⟩ ?_
 rintro n3 H3 _ _ ⟨q,l3,Ch,hn3,hq1,hqm,hl3,ht3,hx3,Z,rfl,rfl⟩;refine bN ?_;refine bN ?_;refine aP (bW G G G (bW G G G (qV (M':=.row v1 3 (aG.sz Int) l3.length Ch::M) (by rw [hl3]) (A4 (Qu ..) G G RS G (vr G G G G G ?_)))))
 refine bC (aT ?_);refine bI (b:=decide ((q:Int)<(l3.length:Int))) G (λO=>?_) (λO=>?_)
 ·have hlt:q<l3.length:=by have:=Qv O; omega
  refine mC (aT ?_);refine zE (by omega) (λJ off cap hv hcap=>?_)
  subst hv;refine uw (IY (M':=[[.row (.slice (some ⟨J,off,none⟩) l3.length cap) 3 (aG.sz Int) l3.length Ch]].flatten++M) G ?_);refine rL 8 (zw [(GI (q:Int)),(λH rs v=>[]=rs/\.slice (some ⟨J,off,none⟩) l3.length cap=v),(GI (q:Int)),(λH rs v=>[]=rs/\.slice (some ⟨J,off+q*aG.sz Int,none⟩) (l3.length-q) (cap-q)=v),(λH rs v=>[]=rs/\.slice (some ⟨J,off,none⟩) l3.length cap=v),(GI (q:Int)),(λH rs v=>[]=rs/\.slice (some ⟨J,off,none⟩) q cap=v),(λH rs v=>∃ Ae:List Qn,[.row (.slice (some ⟨J,off,none⟩) l3.length cap) 3 (aG.sz Int) l3.length Ae]=rs/\.int .i64 ((min q (l3.length-q):Nat):Int)=v/\Rw H (.slice (some ⟨J,off,none⟩) l3.length cap) Ae (l3.take q++l3.take (min q (l3.length-q))++l3.drop (q+min q (l3.length-q))))]) [[],[],[],[],[],[],[],[8]] [[],[],[],[],[],[],[],[]] [[.row (.slice (some ⟨J,off,none⟩) l3.length cap) 3 (aG.sz Int) l3.length Ch]] [0,1,2,3,4,5,6,7] GL.mixed (by kernel_rfl) G G G (by kernel_rfl) (uP ⟨gZ _ _,gZ _ _,gZ _ _,gZ _ _,gZ _ _,gZ _ _,gZ _ _,(by rintro H1 H2 rs v hle ⟨Ae,rfl,rfl,h⟩; exact ⟨Ae,G,G,h.mono hle⟩),Qo⟩) ⟨?_,?_,?_,?_,?_,?_,?_,?_,Qo⟩ ?_
  ·intro HX Y X Rest hR
   intro hU I;refine bW G G G ?_;exact bC (fU [] (Rk _) ⟨G,G⟩)
  ·intro HX Y X Rest hR
   intro hU I;refine bW G G G ?_;exact bC (fU [] (Rk _) ⟨G,G⟩)
  ·intro HX Y X Rest hR
   intro hU I;refine bW G G G ?_;exact bC (fU [] (Rk _) ⟨G,G⟩)
  ·intro HX Y X Rest hR
   rintro _ _ ⟨rfl,rfl⟩;rintro _ _ ⟨rfl,rfl⟩;intro hU I;refine tQ (m:=cap) (h:=l3.length) (l:=q) G G RS R8 G (.inl G) (.inl ⟨G,G⟩) (.inl ⟨G,G⟩) (.inr ⟨_,_,_,G,G,by omega,by omega,by omega⟩) (by rw [Qw (by omega),RV,Rz]) ?_
   exact bC (fU [] (Rk _) ⟨G,G⟩)
  ·intro HX Y X Rest hR
   intro hU I;refine bW G G G ?_;exact bC (fU [] (Rk _) ⟨G,G⟩)
  ·intro HX Y X Rest hR
   intro hU I;refine bW G G G ?_;exact bC (fU [] (Rk _) ⟨G,G⟩)
  ·intro HX Y X Rest hR
   rintro _ _ ⟨rfl,rfl⟩;rintro _ _ ⟨rfl,rfl⟩;intro hU I;refine tQ (m:=cap) (h:=q) (l:=0) G G RS R8 G (.inl G) (.inl ⟨G,G⟩) (.inr ⟨_,_,_,G,G,by omega,by omega,by omega⟩) (.inl ⟨G,G⟩) (by rw [Qw (by omega),Tr,Tr,RV,Rz,R2,RZ]) ?_
   exact bC (fU [] (Rk _) ⟨G,G⟩)
  ·intro HX Y X Rest hR
   rintro _ _ ⟨rfl,rfl⟩;rintro _ _ ⟨rfl,rfl⟩;intro hU I;refine qV (M':=.row (.slice (some ⟨J,off,none⟩) l3.length cap) 3 (aG.sz Int) l3.length Ch::Rest) G (A2 (α:=Int) (l:=l3) (q:=q) G G R5 R8 G (hx3.mono Y) (by omega) G G ?_)
   intro Ae hx4;exact bC (fU [.row (.slice (some ⟨J,off,none⟩) l3.length cap) 3 (aG.sz Int) l3.length Ae] (Rk _) ⟨Ae,G,G,hx4⟩)
  intro H5 hle5;rintro _ _ ⟨rfl,rfl⟩;rintro _ _ ⟨rfl,rfl⟩;rintro _ _ ⟨rfl,rfl⟩;rintro _ _ ⟨rfl,rfl⟩;rintro _ _ ⟨rfl,rfl⟩;rintro _ _ ⟨rfl,rfl⟩;rintro _ _ ⟨rfl,rfl⟩;rintro _ _ ⟨Ae,rfl,rfl,hx4⟩;refine qV (M':=.row (.slice (some ⟨J,off,none⟩) l3.length cap) 3 (aG.sz Int) l3.length Ae::M) G ?_;have hrs:=Fi ht3 (by omega)
  refine vr G G G G G (aJ G G G (bC (mD ?_)));have hwr:i64.wrap ((q:Int)+((min q (l3.length-q):Nat):Int))=((q+min q (l3.length-q):Nat):Int):=by
   rw [xD (by omega) (by omega)]; omega
  exact C2 (vH (by omega:m-(q+min q (l3.length-q))<n3) ⟨q+min q (l3.length-q),_,Ae,G,by omega,by omega,by simp only [QJ,QR,R3]; omega,hrs,hx4,Uk Z hle5,by rw [hl3],G⟩) (SO _) ⟨G,Q9 (λz=>some (Value.int .i64 z)) hwr,Qo⟩
 ·have hge:q=m:=by have:=QE O; omega
  refine uQ (gY (gY (nX (aT ?_))));have hfin:l3=List.replicate m a:=by
   have h:=ht3;rw [hge,QH (by omega)] at h
   exact h
  refine bN ?_;refine aP (bW G G G (aJ G G G ?_));refine bC (aT ?_);refine mB (FF Z ?_);rw [<- hfin];exact l9 G G ⟨G,v1,Ch,G,G,hx3.pw⟩
theorem Av {an:Int}{ao:(List b_)}{J:Int}{v0:Qn}{r:(List Int)} (hm:pz an ao J=some r) (h0:aQ H v0 ao):
  Cq B w0 182 [.int .i64 (an),v0,.int .i64 (J)] H M (NK r):=by
 unfold pz at hm;refine fZ func182 ?_;refine g2 ?_;refine f_ (α:=Int) (css:=[[.int .i64 ((-1))]]) (zs:=[.int .i64 (0)]) (out:=[.int .i64 ((-1))]) (ys:=([((-1))]:List Int)) G G G ⟨G,Qo⟩ RS R8 G SR (by kernel_rfl) G G G G ⟨[.int .i64 ((-1))],[],G,G,G⟩ G ?_
 intro co cp be;refine go ?_;obtain ⟨bf,hm⟩:=aI hm;refine fJ call205 G G G (λw ht=>by obtain ⟨H0_,hl0_,ht0_,hr0_,bk0_⟩:=ht.fP be G; have h:=Fk hr0_ bf ht0_; exact dU bk0_ h) ?_
 rintro _ _ _ ⟨rfl,_,rfl,Y,cq,rfl,rfl,ap⟩;have ap:=ap H;refine g2 ?_;refine gs ?_;obtain ⟨bg,hm⟩:=aI hm;obtain ⟨b4,bh,bi,hm⟩:=jP hm;refine cl [(1,_),(2,_),(7,_),(18,_)] [] 2 [1] 1 (λu m n H' M' L'=>∃ (Z:Nat) (ab:Nat),∃ ac:List Int,∃ a6:Int,∃ aq:List Qn,Z+ab=(an:Int).toNat/\ab=n/\b4 ab Z (ac,a6)=some r/\Rw H' Y aq ac/\H.le H'/\.row Y 3 (aG.sz Int) ac.length aq::m=M'/\(8,.int .i64 (a6))::(19,.int .i64 ((Z:Int)))::u=L') _ G ⟨0,_,_,_,_,QP _,G,hm,ap,lE,G,G⟩ ?_;rintro _ b5 _ _ ⟨Z,ab,ac,a6,aq,b6,rfl,hm,cr,cs,rfl,rfl⟩;refine g2 ?_;refine bI G (λar=>?_) (λar=>?_);obtain ⟨bj,rfl,bk,bl⟩:=mc b6 ar;have hm:=(bh _ _ _).symm.trans hm;generalize bm:b4 bj (Z+1)=bn at hm
 try dsimp only at hm
 unfold qK at hm;refine go ?_;refine cj [(1,_),(2,_),(7,_),(18,_),(19,_)] [] 1 (λu m H' M' L'=>∃ ad:List Int,∃ au:Int,∃ av:List Qn,kL bn ad au=some r/\Rw H' Y av ad/\b5.le H'/\.row Y 3 (aG.sz Int) ad.length av::m=M'/\(8,.int .i64 (au))::u=L') ?_ (λb7=>?_);rintro ct _ _ ⟨ad,au,av,hm,cu,cv,rfl,rfl⟩;unfold kL at hm;refine gj ?_;exact kj (eb bk bm) (kK (eZ bl (e_ bg)));refine g2 ?_;refine gs ?_;obtain ⟨cw,cx,d0,hm⟩:=aC hm;refine go ?_;refine cd hm G (λbo hm=>?_) (λbo hm=>?_);refine gj ?_;exact kj (b7 _ _ _ pk);refine gs ?_;obtain ⟨d1,d2,d3,hm⟩:=aC hm;refine go ?_;refine wF 0 0 a6 ?_;intro d4 bp d5;refine g2 ?_;refine f_ (α:=Int) (css:=[[.int .i64 ((Z:Int))]]) (zs:=[.int .i64 (0)]) (out:=[.int .i64 ((Z:Int))]) (ys:=([((Z:Int))]:List Int)) G G G ⟨G,Qo⟩ RS R8 G SR (by kernel_rfl) G G G G ⟨[.int .i64 ((Z:Int))],[],G,G,G⟩ G ?_
 intro d6 d7 bq;refine go ?_;obtain ⟨b8,br,bs,hm⟩:=kG hm;refine cl [(1,_),(2,_),(7,_),(8,_),(18,_),(19,_)] [] 2 [1] 0 (λu m n H' M' L'=>∃ ae aa:List Int,∃ aw:List Qn,∃ af:Qn,∃ ax:List Qn,b8 n (ae,aa)=some r/\Rw H' Y aw ae/\Rw H' af ax aa/\b5.le H'/\.row Y 3 (aG.sz Int) ae.length aw::.row af 3 (aG.sz Int) aa.length ax::m=M'/\(10,af)::u=L') fT G ⟨_,_,_,_,_,hm,bp,bq,lE,G,G⟩ ?_;rintro ay bt _ _ ⟨ae,aa,aw,af,ax,hm,bu,bv,d8,rfl,rfl⟩
 rcases ay with _ | ay
 exact nomatch (bs _).symm.trans hm;have hm:=(br _ _).symm.trans hm;generalize bw:b8 ay=d9 at hm
 try dsimp only at hm
 unfold qL at hm;refine g2 ?_;refine cd hm G (λbz hm=>?_) (λbz hm=>?_);refine gs ?_;obtain ⟨O,da,db,hm⟩:=aC hm;refine gs ?_;obtain ⟨dc,hm⟩:=aI hm;refine Wp [1] ?_;refine tP (α:=Int) (l:=(1:Int).toNat) (h:=aa.length) G G RS R8 G G bv (by omega) (by omega) (λm hmm=>(.inl ⟨G,G⟩)) (.inr ⟨_,_,_,G,G,by omega,by omega,G⟩) ?_
 intro dd de c0;refine gs ?_;obtain ⟨b9,c1,c2,hm⟩:=cQ hm;refine cl [(1,_),(2,_),(7,_),(8,_),(11,_),(18,_),(19,_),(41,_),(42,_)] [] 2 [1] 0 (λu m n H' M' L'=>∃ (a7:Nat) (ag:List b_),∃ ah a8:List Int,∃ az:List Qn,∃ ai:Qn,∃ b0:List Qn,(ao).drop a7=ag/\ag.length=n/\b9 a7 ag (ah,a8)=some r/\Rw H' Y az ah/\Rw H' ai b0 a8/\bt.le H'/\.row Y 3 (aG.sz Int) ah.length az::.row ai 3 (aG.sz Int) a8.length b0::m=M'/\(10,ai)::(43,.int .i64 ((a7:Int)))::u=L') _ G ⟨0,_,_,_,_,_,_,G,G,hm,bu,c0,lE,G,G⟩ ?_;rintro _ c3 _ _ ⟨a7,ag,ah,a8,az,ai,b0,ba,rfl,hm,df,bb,dg,rfl,rfl⟩;refine g2 ?_;refine bI G (λb1=>?_) (λb1=>?_);obtain ⟨I,c4,rfl,c5,c6⟩:=fS ba b1;have hm:=(c1 _ _ _ _).symm.trans hm;generalize c7:b9 (a7+1) c4=c8 at hm
 try dsimp only at hm
 unfold qM at hm;refine go ?_;refine cj [(1,_),(2,_),(7,_),(8,_),(11,_),(18,_),(19,_),(41,_),(42,_),(43,_)] [] 2 (λu m H' M' L'=>∃ aj ak:List Int,∃ b2:List Qn,∃ am:Qn,∃ b3:List Qn,eK c8 aj ak=some r/\Rw H' Y b2 aj/\Rw H' am b3 ak/\c3.le H'/\.row Y 3 (aG.sz Int) aj.length b2::.row am 3 (aG.sz Int) ak.length b3::m=M'/\(10,am)::u=L') ?_ (λa9=>?_);rintro dh _ _ ⟨aj,ak,b2,am,b3,hm,di,dj,dk,rfl,rfl⟩;unfold eK at hm;refine gj ?_;exact kj (eb c6 c7) (kK (cA c5 h0.mm.cV));refine gs ?_;refine al (λdl=>?_);refine go ?_;refine wt 0 ?_;refine g2 ?_;cases bc:(decide ((a7:Int)=J));have hm:=eP bc hm;refine qB G G Sm R8 G G (by decide) (by decide) (go ?_)
 cases bd:(decide (I.a0=O));have hm:=eP bd hm;refine qB G G Sm R8 G G (by decide) (by decide) (go ?_)
 refine cd hm G (λc9 hm=>?_) (λc9 hm=>?_);refine gj ?_;exact kx [1,1] 1 (a9 _ _ _ pk);refine gs ?_;refine qB G G Sm R8 G G (by decide) (by decide) (go ?_)
 refine qB G G Sm R8 G G (by decide) (by decide) (gs ?_)
 obtain ⟨dm,dn,dp,hm⟩:=aC hm;refine go ?_;refine cd hm G (λcb hm=>?_) (λcb hm=>?_);refine gs ?_;obtain ⟨dq,ds,dt,hm⟩:=aC hm;refine go ?_;refine wF 1 0 a6 ?_;intro du dv dw;refine go ?_;refine dH (α:=Int) (css:=[[.int .i64 (i64.wrap ((i64.wrap (I.a0+I.a1))-O))]]) (zs:=[.int .i64 (0)]) (out:=[.int .i64 (i64.wrap ((i64.wrap (I.a0+I.a1))-O))]) (ys:=([(i64.wrap ((i64.wrap (I.a0+I.a1))-O))]:List Int)) G G G ⟨G,Qo⟩ RS R8 G SR (by kernel_rfl) G G G G ⟨[.int .i64 (i64.wrap ((i64.wrap (I.a0+I.a1))-O))],[],G,G,G⟩ G ?_
 intro dx cc dy ce e0 cf;have e1:Value.oC cc=([(i64.wrap ((i64.wrap (I.a0+I.a1))-O))]:List Int).length:=by rw [ce]; rfl
 obtain ⟨cg,hm⟩:=aI hm;refine Wp [2] ?_;refine dA (α:=Int) (l:=a8) (ys:=([(i64.wrap ((i64.wrap (I.a0+I.a1))-O))]:List Int)) G G R5 ⟨_,G,G,G,G⟩ G G G G G bb.mm cf cg ?_;intro e2 e3 e4;refine gj ?_;exact kx [1,0] 1 (a9 _ _ _ pk);refine gj ?_;exact kx [1,1] 1 (a9 _ _ _ pk);have hm:=eQ bd hm;refine go ?_;refine cF G ?_;refine gs ?_;refine qB G G Sm R8 G G (by decide) (by decide) (go ?_)
 refine qB G G Sm R8 G G (by decide) (by decide) (gs ?_)
 obtain ⟨e5,e6,e7,hm⟩:=aC hm;refine go ?_;refine cd hm G (λch hm=>?_) (λch hm=>?_);refine gs ?_;obtain ⟨e8,e9,ea,hm⟩:=aC hm;refine go ?_;refine wF 1 0 a6 ?_;intro ec ed ee;refine go ?_;refine dH (α:=Int) (css:=[[.int .i64 (i64.wrap ((i64.wrap (I.a0+I.a1))-O))]]) (zs:=[.int .i64 (0)]) (out:=[.int .i64 (i64.wrap ((i64.wrap (I.a0+I.a1))-O))]) (ys:=([(i64.wrap ((i64.wrap (I.a0+I.a1))-O))]:List Int)) G G G ⟨G,Qo⟩ RS R8 G SR (by kernel_rfl) G G G G ⟨[.int .i64 (i64.wrap ((i64.wrap (I.a0+I.a1))-O))],[],G,G,G⟩ G ?_
 intro eg ci eh ck ei cm;have ej:Value.oC ci=([(i64.wrap ((i64.wrap (I.a0+I.a1))-O))]:List Int).length:=by rw [ck]; rfl
 obtain ⟨cn,hm⟩:=aI hm;refine Wp [2] ?_;refine dA (α:=Int) (l:=a8) (ys:=([(i64.wrap ((i64.wrap (I.a0+I.a1))-O))]:List Int)) G G R5 ⟨_,G,G,G,G⟩ G G G G G bb.mm cm cn ?_;intro ek el em;refine gj ?_;exact kx [1,0] 1 (a9 _ _ _ pk);refine gj ?_;exact kx [1,1] 1 (a9 _ _ _ pk);have hm:=eQ bc hm;refine go ?_;refine cT G ?_;refine gj ?_;exact kx [1,1] 1 (a9 _ _ _ pk);obtain rfl:=fR ba b1;have hm:=(c2 _ _).symm.trans hm
 try dsimp only at hm
 refine gj ?_;exact kj (Cn bw);refine gt ?_;refine gj ?_;exact kx [0] 1 (b7 _ _ _ pk);obtain rfl:=mb b6 ar;have hm:=(bi _ _).symm.trans hm
 try dsimp only at hm
 refine gs ?_;exact ef
theorem tT {a0:Int}{a1:(List b_)}{v0:Qn}{r:(List Int)×Int} (hm:jS a0 a1=some r) (h0:aQ H v0 a1):
  Cq B w0 154 [.int .i64 (a0),v0] H M (K3 r.1 r.2):=by
 unfold jS at hm;refine fZ func154 ?_;refine g2 ?_;refine gs ?_;obtain ⟨Z,J,hm⟩:=aU hm;refine cz @Au J ?_;refine gs ?_;refine cd hm G (λO hm=>?_) (λO hm=>?_);refine bN (aP (bW G G G (aJ G G G (aJ G G G (bC (aT ?_))))));refine gj ?_;refine cD 3 (aG.sz Int) ?_;exact ef;refine gs ?_;obtain ⟨a7,Y,hm⟩:=aU hm;refine ca @Av Y ?_;rintro _ _ _ ⟨rfl,a8,a9,rfl,rfl,I⟩;have I:=I H;refine go ?_;exact ef
theorem zq {a0:aE}{v0 v1 v2 v3 v4 v5:Qn}{r:(List Int)} (hm:oM a0=some r) (h0:aQ H v0 a0.bD) (h1:aQ H v1 a0.aL) (h2:aQ H v2 a0.aH) (h3:aQ H v3 a0.cR) (h4:aQ H v4 a0.bB) (h5:aQ H v5 a0.bM):
  Cq B w0 153 [.agg [v0,v1,v2,v3,v4,v5].toArray] H M (NK r):=by
 unfold oM at hm;refine fZ func153 ?_;refine gs ?_;refine bx (λZ=>?_);refine gs ?_;obtain ⟨a7,O,hm⟩:=aU hm;refine ca @zr O ?_;rintro _ _ _ ⟨rfl,a8,a9,aa,ab,rfl,rfl,a1,I⟩;have a1:=a1 H;have I:=I H;refine gs ?_;obtain ⟨ac,Y,hm⟩:=aU hm;refine cy @tT Y ?_;rintro _ _ _ ⟨rfl,⟨_,rfl,ad,ae,rfl,rfl,J⟩⟩;have J:=J H;refine gs ?_;refine Ek [1] 3 ?_;exact ef
theorem pO {I:aE}{v0 v1 v2 v3 v4 v5:Qn}{r:a_} (hm:dZ I=some r) (h0:aQ H v0 I.bD) (h1:aQ H v1 I.aL) (h2:aQ H v2 I.aH) (h3:aQ H v3 I.cR) (h4:aQ H v4 I.bB) (h5:aQ H v5 I.bM):
  Cq B w0 123 [.agg [v0,v1,v2,v3,v4,v5].toArray] H M (λH M H' M' v=>H=H'/\∃ Z:Qn,∃ J:List Qn,∃ qv1:Qn,∃ O:List Qn,.row Z 3 (aG.sz Int) r.qp.length J::.row qv1 3 (aG.sz Int) r.bR.length O::M=M'/\.agg [Z,qv1].toArray=v/\sC Z J r.qp/\sC qv1 O r.bR):=by
 unfold dZ at hm;refine fZ func123 ?_;refine gs ?_;refine bx (λbj=>?_);refine al (λbk=>?_);refine gs ?_;obtain ⟨ao,ap,hm⟩:=aU hm;refine ca @zq ap ?_;rintro _ _ _ ⟨rfl,ab,aq,rfl,rfl,a7⟩;have a7:=a7 H;refine eB (css:=[[ab]]) (zs:=[.slice none 0 0,.slice none 0 0]) (out:=[ab,.slice none 0 0]) (places:=[(0,1),(1,1)]) G G G ⟨(Rw.cells a7),Qo⟩ zeroValue183 G runUnderlying183 (λw=>by kernel_rfl) G ?_
 refine al (λbl=>?_);refine wt 0 ?_;refine g2 ?_;refine gs ?_;refine rM (.tail _ (.head _)) (λar=>?_);obtain ⟨ai,au,av,hm⟩:=cQ hm;refine cl [(1,_),(2,_),(3,_),(14,_),(15,_)] [] 0 [] 0 (λu m n H' M' L'=>∃ (a4:Nat) (a8:List Int),∃ ac:Int,(ao).drop a4=a8/\a8.length=n/\ai a4 a8 ac=some r/\H.le H'/\m=M'/\(4,.int .i64 (ac))::(16,.int .i64 ((a4:Int)))::u=L') _ G ⟨0,_,_,G,G,hm,lE,G,G⟩ ?_;rintro _ aw _ _ ⟨a4,a8,ac,aj,rfl,hm,bm,rfl,rfl⟩;refine g2 ?_;refine bI G (λad=>?_) (λad=>?_);obtain ⟨bn,ax,rfl,ay,az⟩:=fS aj ad;have hm:=(au _ _ _ _).symm.trans hm;generalize b0:ai (a4+1) ax=bo at hm;unfold sS at hm;refine g2 ?_;refine MF G G G G (gt ?_);refine gj ?_;exact kj (eb az b0) (kK (cA ay ar));obtain rfl:=fR aj ad;have hm:=(av _ _).symm.trans hm;refine g2 ?_;refine gs ?_;refine kT 231 (aG.sz b_) ?_;obtain ⟨ak,b1,b2,hm⟩:=cQ hm
 refine cl [(1,_),(2,_),(3,_),(4,_),(26,_),(27,_)] [1,1,1,1] 1 [] 0 (λu m n H' M' L'=>∃ (a5:Nat) (a9:List aK),∃ a6:List b_,∃ aa:Qn,∃ ae:List Qn,(I.aH).drop a5=a9/\a9.length=n/\ak a5 a9 a6=some r/\Rw H' aa ae a6/\aw.le H'/\.row aa 231 (aG.sz b_) a6.length ae::m=M'/\(7,aa)::(28,.int .i64 ((a5:Int)))::u=L') _ G ⟨0,_,_,_,_,G,G,hm,Rw.nil,lE,G,G⟩ ?_;rintro _ b3 _ _ ⟨a5,a9,a6,aa,ae,am,rfl,hm,b4,bp,rfl,rfl⟩;refine g2 ?_;refine bI G (λaf=>?_) (λaf=>?_);obtain ⟨bq,b5,rfl,b6,b7⟩:=fS am af;have hm:=(b1 _ _ _ _).symm.trans hm;generalize b8:ak (a5+1) b5=br at hm;unfold sT at hm;refine g2 ?_;refine al (λbs=>?_);refine wt 0 ?_;refine go ?_;obtain ⟨b9,ba,hm⟩:=aU hm;obtain ⟨a0,bt,bu,hm⟩:=aC hm;obtain ⟨bb,bc,hm⟩:=aU hm;obtain ⟨a1,bv,bw,hm⟩:=aC hm;refine pA fm 21 [ph _,ph _,ph _,ph _,ph _,ph _,ph _,ph (.int .i64 (b9)),ph _,ph _,ph _,ph _,ph _,ph _,ph _,ph _,ph (.int .i64 (bb)),ph _,ph _,ph (.agg [.int .i64 (a0),.int .i64 (a1)].toArray),(λH rs v=>∃ Y:Qn,[]=rs/\Y=v/\aQ H Y ([(b_.mk a0 a1)])/\Value.oC Y=([(b_.mk a0 a1)]).length)] ⟨om,om,om,om,om,om,om,?_,om,om,om,om,om,om,om,om,?_,om,om,?_,?_,Qo⟩ ?_
 exact rk tt @cC ba;exact rk tt @cC bc;rintro HX hX X Rest hR _ _ ⟨rfl,rfl⟩ _ _ ⟨rfl,rfl⟩ hU hUp;refine yE (css:=[[.int .i64 (a0)],[.int .i64 (a1)]]) (zs:=[.int .i64 (0),.int .i64 (0)]) (out:=[.int .i64 (a0),.int .i64 (a1)]) (places:=[(0,1),(1,1)]) G G G ⟨G,G,Qo⟩ zeroValue231 G Sm R8 G G ?_;exact o0 ⟨G,G⟩;rintro HX hX X Rest hR _ _ ⟨rfl,rfl⟩ hU hUp;refine dH (α:=b_) (css:=[[.int .i64 (a0),.int .i64 (a1)]]) (zs:=[.int .i64 (0),.int .i64 (0)]) (out:=[.int .i64 (a0),.int .i64 (a1)]) (ys:=[(b_.mk a0 a1)]) G G G ⟨G,Qo⟩ runUnderlying230 sizeOf231 G zeroValue231 (by kernel_rfl) G G G G ⟨[.int .i64 (a0),.int .i64 (a1)],[],G,G,G⟩ G ?_
 intro bz Y c0 bd be ag;have an:Value.oC Y=([(b_.mk a0 a1)]).length:=by rw [bd]; rfl
 exact oe [] be ⟨Y,G,G,(ag),(an)⟩;intro c1 c2;refine dr ?_;rintro _ _ ⟨Y,rfl,rfl,ag,an⟩;refine uD ?_;obtain ⟨bf,hm⟩:=aI hm;refine Wp [1] ?_;refine dA (α:=b_) (l:=a6) (ys:=[(b_.mk a0 a1)]) G G underlying230 ⟨_,G,G,G,G⟩ G G G G G b4.mm ag bf ?_;intro c3 c4 c5;refine gt ?_;refine gj ?_;exact kx [0,1,1,1,1] 1 (eb b7 b8) G (kK (cA b6 h2.mm.cV));obtain rfl:=fR am af;have hm:=(b2 _ _).symm.trans hm;refine gs ?_;obtain ⟨c6,bg,hm⟩:=aU hm;refine cy @tT bg ?_;rintro _ _ _ ⟨rfl,⟨_,rfl,bh,bi,rfl,rfl,ah⟩⟩;have ah:=ah b3;refine go ?_;refine wt 2 ?_;refine gs ?_;refine wt 4 ?_;refine go ?_;obtain rfl:=Qs hm;exact kV lE G (fY.agg G isAgg183 sizeOf183 (.head _) G) (.cons _ (.cons _ (.cons _ (.cons_cons _ (.cons_cons _ (.cons _ (.refl _))))))) (.swap _ _ _) ⟨G,ab,aq,bh,bi,G,G,a7.mm.pw,(ah).pw⟩
theorem yO {a0:aE}{v0 v1 v2 v3 v4 v5:Qn}{r:Int} (hm:mj a0=some r) (h0:aQ H v0 a0.bD) (h1:aQ H v1 a0.aL) (h2:aQ H v2 a0.aH) (h3:aQ H v3 a0.cR) (h4:aQ H v4 a0.bB) (h5:aQ H v5 a0.bM):
  Cq B w0 155 [.agg [v0,v1,v2,v3,v4,v5].toArray] H M (yY r):=by
 unfold mj at hm;refine fZ func155 ?_;refine gs ?_;refine bx (λai=>?_);refine g2 ?_;refine gs ?_;obtain ⟨a9,aa,hm⟩:=aU hm;refine ca @pO aa ?_;rintro _ _ _ ⟨rfl,aj,ak,am,an,rfl,rfl,Y,Z⟩;have Y:=Y H;have Z:=Z H;refine xu G G runUnderlying183 G isAgg80 G G (go ?_);refine rM (.tail _ (.head _)) (λab=>?_);obtain ⟨a7,ac,ad,hm⟩:=cQ hm;refine cl [(8,_),(9,_)] [1] 2 [1] 2 (λu m n H' M' L'=>∃ (a1:Nat) (I:List Int),∃ J:Int,(a9.bR).drop a1=I/\I.length=n/\a7 a1 I J=some r/\H.le H'/\m=M'/\(3,.int .i64 (J))::(10,.int .i64 ((a1:Int)))::u=L') _ G ⟨0,_,_,G,G,hm,lE,G,G⟩ ?_;rintro _ ao _ _ ⟨a1,I,J,a8,rfl,hm,ap,rfl,rfl⟩;refine g2 ?_;refine bI G (λO=>?_) (λO=>?_);obtain ⟨aq,ae,rfl,af,ag⟩:=fS a8 O;have hm:=(ac _ _ _ _).symm.trans hm;generalize ah:a7 (a1+1) ae=ar at hm;unfold ry at hm;refine g2 ?_
 refine MF G G G G (gt ?_);refine gj ?_;exact kj (eb ag ah) (kK (cA af ab));obtain rfl:=fR a8 O;have hm:=(ad _ _).symm.trans hm;refine gs ?_;refine Ek [] 1 ?_;exact ef
theorem sE {a0:aE}{a1:a_}{I:Qm}{v0 v1 v2 v3 v4 v5 v6 v7:Qn}{r:Int} (hm:mY a0 a1 I=some r) (h0:aQ H v0 a0.bD) (h1:aQ H v1 a0.aL) (h2:aQ H v2 a0.aH) (h3:aQ H v3 a0.cR) (h4:aQ H v4 a0.bB) (h5:aQ H v5 a0.bM) (h6:aQ H v6 a1.qp) (h7:aQ H v7 a1.bR):
  Cq B w0 125 [.agg [v0,v1,v2,v3,v4,v5].toArray,.agg [v6,v7].toArray,.string (I)] H M (yY r):=by
 unfold mY at hm;refine fZ func125 ?_;refine gs ?_;refine bx (λY=>?_);refine bx (λZ=>?_);refine gs ?_;obtain ⟨J,O,hm⟩:=aU hm;obtain ⟨a6,a7,a8,hm⟩:=aC hm;refine pA fm 10 [ph _,ph _,ph _,ph _,ph _,ph _,ph _,ph (.int .i64 (J)),ph _,ph _] ⟨om,om,om,om,om,om,om,?_,om,om,Qo⟩ ?_;exact rk tt @cC O;intro a9 aa;refine dz ?_;obtain ⟨ab,ac,ad,hm⟩:=aC hm;refine go ?_;refine Ek [] 2 ?_;exact ef
end Go.Sim
