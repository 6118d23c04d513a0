/-
  The proof, part C1.
-/
import Derived.KernelRfl
import Derived.Shelf.Strconv.Itoa0
import Derived.Shelf.Strconv.Itoa1
import Derived.Shelf.LaysM
import Derived.Shelf.Strconv.Itoa2
import Derived.Shelf.Strconv.Itoa3
import Derived.Shelf.Strconv.Clone
import Derived.Shelf.Strconv.SyntaxError
import Derived.Shelf.LaysC
import Derived.Shelf.Strconv.ToError
import Derived.Shelf.Strconv.Lower
import Derived.Shelf.Strconv.ParseUint10
import Derived.Shelf.Strconv.ParseUint10Empty
import Derived.Shelf.Strconv.ParseUint10Any
import Derived.Shelf.Strconv.RangeError
import Derived.Shelf.Strconv.ToErrorRange
import Derived.Shelf.Strconv.ParseUintEmpty
import Derived.Shelf.Strconv.ParseUint10b64
import Derived.Shelf.Strconv.ParseUint10b32
import Derived.Shelf.Strconv.ParseUint10b16
import Derived.Shelf.Strconv.ParseUint10b8
import Derived.Test.YtkpbgofhndmbnaaGreatDoorProg
import Derived.Test.YtkpbgofhndmbnaaGreatDoorRows
import Derived.Test.YtkpbgofhndmbnaaGreatDoorSqA2
set_option linter.unusedVariables false
set_option linter.unusedSimpArgs false
set_option linter.unusedSectionVars false
set_option linter.unnecessarySimpa false
namespace Go.Sim
abbrev Tt := @Int.natCast_nonneg
abbrev SV := @List.Perm.refl
abbrev TZ := @List.length_eq_one_iff
abbrev Sk := @List.length_nil
abbrev TT := @Nat.and_two_pow_sub_one_eq_mod
abbrev Tz := @Go.Proofs.Tryz.isAgg29
abbrev Uc := @Go.Proofs.Tryz.runUnderlying206
abbrev TK := @Go.Proofs.Tryz.runUnderlying213
abbrev Rl := @Go.Proofs.Tryz.runUnderlying22
abbrev Sg := @Go.Proofs.Tryz.runUnderlying231
abbrev Vn := @Go.Proofs.Tryz.runUnderlying25
abbrev TA := @Go.Proofs.Tryz.runUnderlying26
abbrev Ux := @Go.Proofs.Tryz.runUnderlying29
abbrev Su := @Go.Proofs.Tryz.runUnderlying3
abbrev U1 := @Go.Proofs.Tryz.runUnderlying4
abbrev U2 := @Go.Proofs.Tryz.runUnderlying5
abbrev RO := @Go.Proofs.Tryz.runUnderlying80
abbrev Q0 := @Go.Proofs.Tryz.runUnderlying9
abbrev Tj := @Go.Proofs.Tryz.sizeOf29
abbrev R4 := @Go.Proofs.Tryz.sizeOf3
abbrev Si := @Go.Proofs.Tryz.sizeOf9
abbrev SQ := @Go.Proofs.Tryz.underlying22
abbrev RY := @Go.Proofs.Tryz.underlying80
abbrev SY := @Go.Proofs.Tryz.zeroValue3
abbrev Sn := @Go.Proofs.Tryz.zeroValue9
end Go.Sim
namespace Go.Sim
open Go
open _root_.Go.IntKind (i64 u64 u32 u8)
theorem G {α : Sort _} {a : α} : a = a := rfl
def AU:Nat->List bQ->Option (bQ×List bQ)
 | _,[]=>none
 | 0,r::l=>some (r,l)
 | n+1,r::l=>match AU n l with
  | some (s,l')=>some (s,r::l')
  | none=>none
theorem uO:∀ {n:Nat}{l:List bQ}{r:bQ}{l':List bQ},AU n l=some (r,l')->l.Perm (r::l')
 | _,[],_,_,h=>by simp [AU] at h
 | 0,s::l,r,l',h=>by simp only [AU,QH,SU] at h; rw [h.1,h.2]
 | n+1,s::l,r,l',h=>by
  simp only [AU] at h
  split at h
  ·rename_i q l2 e
   simp only [QH,SU] at h;obtain ⟨rfl,rfl⟩:=h;exact ((uO e).cons s).trans (List.Perm.swap _ _ _)
  ·cases h
def AJ:List Nat->List bQ->Option (List bQ)
 | [],l=>some l
 | i::is,l=>match AU i l with
  | some (r,l')=>(match AJ is l' with
   | some l''=>some (r::l'')
   | none=>none)
  | none=>none
theorem wY:∀ {ix:List Nat}{l l':List bQ},AJ ix l=some l'->l.Perm l'
 | [],l,l',h=>by simp only [AJ,QH] at h; rw [h]
 | i::is,l,l',h=>by
  simp only [AJ] at h
  split at h
  ·rename_i r l1 e
   split at h
   ·rename_i l2 e2
    simp only [QH] at h;subst h;exact (uO e).trans ((wY e2).cons r)
   ·cases h
  ·cases h
def EV:Nat->List bQ->Option (List bQ)
 | 0,l=>some l
 | _+1,[]=>none
 | n+1,_::l=>EV n l
theorem C3:∀ {n:Nat}{l l':List bQ},EV n l=some l'->l'.Sublist l
 | 0,l,l',h=>by simp only [EV,QH] at h; rw [h]; exact SD _
 | n+1,[],l',h=>by simp [EV] at h
 | n+1,r::l,l',h=>(C3 (n:=n) (l:=l) h).cons r
def yv:List Nat->Nat->List bQ->Option (List bQ)
 | [],d,l=>EV d l
 | i::is,d,l=>match AU i l with
  | some (r,l')=>(match yv is d l' with
   | some l''=>some (r::l'')
   | none=>none)
  | none=>none
theorem Ap:∀ {ix:List Nat}{d:Nat}{l l':List bQ},yv ix d l=some l'->∃ k,l.Perm k/\l'.Sublist k
 | [],d,l,l',h=>⟨l,SV _,C3 h⟩
 | i::is,d,l,l',h=>by
  simp only [yv] at h
  split at h
  ·rename_i r l1 e
   split at h
   ·rename_i l2 e2
    simp only [QH] at h;subst h;obtain ⟨k,hk,hs⟩:=Ap e2;exact ⟨r::k,(uO e).trans (hk.cons r),hs.cons_cons r⟩
   ·cases h
  ·cases h
def KT:List Nat->List bQ->Option (List (List bQ)×List bQ)
 | [],l=>some ([],l)
 | i::is,l=>match AU i l with
  | some (r,l')=>(match KT is l' with
   | some (I,m)=>some ([r]::I,m)
   | none=>none)
  | none=>none
theorem Dp:∀ {ix:List Nat}{l:List bQ}{I:List (List bQ)}{m:List bQ},KT ix l=some (I,m)->l.Perm (I.flatten++m)
 | [],l,I,m,h=>by simp only [KT,QH,SU] at h; obtain ⟨rfl,rfl⟩:=h; exact SV _
 | i::is,l,I,m,h=>by
  simp only [KT] at h
  split at h
  ·rename_i r l1 e
   split at h
   ·rename_i I2 m2 e2
    simp only [QH,SU] at h;obtain ⟨rfl,rfl⟩:=h;simpa using (uO e).trans ((Dp e2).cons r)
   ·cases h
  ·cases h
section
variable {x:Cx}{ops:Array Oper}{Q:lZ}{rest:List Oper}{H:Hp}{M M':List bQ}{L L':Env}{e:Exit}{c:Code}
theorem Wp (ix:List Nat) (k:W x ops Q rest H M' L) (h:AJ ix M=some M':=by rfl):W x ops Q rest H M L:=kQ (wY h) k
theorem Cp (ix:List Nat) (k:Sim.C x c Q H M' L) (h:AJ ix M=some M':=by rfl):Sim.C x c Q H M L:=Be (wY h) k
theorem Ep (ix:List Nat) (k:E x e Q H M' L) (h:AJ ix M=some M':=by rfl):E x e Q H M L:=FJ (wY h) k
theorem Ek (ix:List Nat) (d:Nat) (k:E x e Q H M' L) (h:yv ix d M=some M':=by rfl):E x e Q H M L:=by
 obtain ⟨n,hp,hs⟩:=Ap h;exact FJ hp (I4 hs k)
theorem Ck (ix:List Nat) (d:Nat) (k:Sim.C x c Q H M' L) (h:yv ix d M=some M':=by rfl):Sim.C x c Q H M L:=by
 obtain ⟨n,hp,hs⟩:=Ap h;exact Be hp (λa w s t=>k a w s (t.sub hs))
theorem kx (ix:List Nat) (d:Nat) (k:E x e Q H M' L') (h:yv ix d M=some M':=by rfl) (hL:Kept L L':=by repeat first | exact Qk | refine ⟨rfl,?_⟩):E x e Q H M L:=
 Ek ix d (Dq hL (SV _) k) h
theorem Pb (ix:List Nat) (d:Nat) (S:CW) (n:Nat) (h0:S n H M' L') (step:∀ n H M L,S n H M L->Sim.C x c (Exit.then (I1 x S n) Q) H M L) (h:yv ix d M=some M':=by rfl) (hL:Kept L L':=by repeat first | exact Qk | refine ⟨rfl,?_⟩):Sim.C x (.loop c) Q H M L:=
 Ck ix d (Bb hL (SV _) (Bc S n h0 step)) h
end
def IJ:Nat->Qj->List Qj->Option (List Qj)
 | _,_,[]=>none
 | 0,v,_::l=>some (v::l)
 | n+1,v,u::l=>match IJ n v l with
  | some l'=>some (u::l')
  | none=>none
def AI:List Qj->Nat->List Qj->Option (List Qj)
 | l,_,[]=>some l
 | l,k,v::vs=>match IJ k v l with
  | some l'=>AI l' (k+1) vs
  | none=>none
theorem HE:∀ {n:Nat}{v:Qj}{l l':List Qj},IJ n v l=some l'->l.set n v=l'/\n<l.length
 | _,_,[],_,h=>by simp [IJ] at h
 | 0,v,u::l,l',h=>by simp only [IJ,QH] at h; subst h; exact ⟨rfl,by simp⟩
 | n+1,v,u::l,l',h=>by
  simp only [IJ] at h
  split at h
  ·rename_i l2 e
   simp only [QH] at h;subst h;obtain ⟨h1,h2⟩:=HE e;exact ⟨by simp [h1],by simp; omega⟩
  ·cases h
theorem Cm:∀ {vs:List Qj}{l:List Qj}{k:Nat}{l':List Qj},AI l k vs=some l'->over l k vs=l'/\(vs=[]\/k+vs.length<=l.length)
 | [],l,k,l',h=>by simp only [AI,QH] at h; subst h; exact ⟨rfl,.inl rfl⟩
 | v::vs,l,k,l',h=>by
  simp only [AI] at h
  split at h
  ·rename_i l2 e
   obtain ⟨h1,h2⟩:=HE e;obtain ⟨h3,h4⟩:=Cm h;refine ⟨by simp only [over]; rw [h1]; exact h3,.inr ?_⟩
   have hl:l2.length=l.length:=by rw [<- h1]; simp
   rcases h4 with rfl | h4
   ·simp; omega
   ·simp only [Qy]; omega
  ·cases h
section
variable {x:Cx}{ops:Array Oper}{Q:lZ}{rest:List Oper}{H:Hp}{M M':List bQ}{L L':Env}{ty:TypeId}{pos:String}{aft:Array Edge}{g:Option (Nat×Bool)}
theorem ws (i:Nat) {T U n b o:Nat}{y z:Operand}{l cs out:List Qj}{v:Qj}{M1:List bQ} (hv:v.cells=cs.toArray)
  (k:W x ops Q rest H (.obj b (.cells out.toArray U (0,0))::M1) L)
  (h1:∀ c ∈ cs,c.oneCell'=true:=by repeat first | exact Sb | refine cO rfl ?_)
  (hy:ev L y=some (.pointer (some ⟨b,o,none⟩)):=by rfl) (hz:ev L z=some v:=by rfl) (hM:AU i M=some (.obj b (.cells l.toArray U (0,0)),M1):=by rfl)
  (hg:gd ops L ⟨none,.store T y z,ty,pos,aft,g⟩=some true:=by rfl) (hn:∀ w,(sizeOf T).run x.P w=.ok n w:=by exact λ_=>rfl) (hl:cs.length=n:=by rfl) (ho:AI l o cs=some out:=by rfl):
  W x ops Q (⟨none,.store T y z,ty,pos,aft,g⟩::rest) H M L:=by
 refine kQ (uO hM) ?_;obtain ⟨h2,h3⟩:=Cm ho;rcases h3 with rfl | h3
 ·have h2:l=out:=h2
  subst h2;exact DA rfl hg (λa w hs ht=>⟨w,by
   have hl0:n=0:=hl.symm;subst hl0;simp [execOp,hs.ev hy,hs.ev hz,Instr.storeAt,Instr.sureAddr,storeVar,hn,hv,storeCells],H,_,ht,k⟩)
 ·exact DB hg hn hy hz hv hl (by simpa [Tb] using h3) h1 h2 k
end
def Nk:Nat->List bQ->Option (List bQ)
 | 0,l=>some l
 | _+1,[]=>none
 | n+1,r::l=>match Nk n l with
  | some l'=>some (r::l')
  | none=>none
theorem Ge:∀ {n:Nat}{l l':List bQ},Nk n l=some l'->l=l'
 | 0,l,l',h=>by simpa [Nk] using h
 | n+1,[],l',h=>by simp [Nk] at h
 | n+1,r::l,l',h=>by
  simp only [Nk] at h
  split at h
  ·rename_i l2 e
   simp only [QH] at h;subst h;rw [Ge e]
  ·cases h
section
variable {x:Cx}{ops:Array Oper}{Q:lZ}{rest:List Oper}{H:Hp}{M M' M1:List bQ}{rs:List bQ}{L L':Env}{e:Exit}{c:Code}
theorem Wu (n:Nat) (k:W x ops Q rest H M' L) (h:M=dQ rs::M1:=by rfl) (h2:Nk n (rs++M1)=some M':=by rfl):W x ops Q rest H M L:=λa w hs ht=>k a w hs (by rw [<- Ge h2]; rw [h] at ht; exact ht.unpack)
theorem Cu (n:Nat) (k:Sim.C x c Q H M' L) (h:M=dQ rs::M1:=by rfl) (h2:Nk n (rs++M1)=some M':=by rfl):Sim.C x c Q H M L:=λa w hs ht=>k a w hs (by rw [<- Ge h2]; rw [h] at ht; exact ht.unpack)
theorem Wk (rs:List bQ) (k:W x ops Q rest H (dQ rs::M1) L) (h:rs++M1=M:=by rfl):W x ops Q rest H M L:=λa w hs ht=>k a w hs (by rw [<- h] at ht; exact ht.pack)
theorem xV (rs:List bQ) (k:E x e Q H (dQ rs::M1) L) (h:rs++M1=M:=by rfl):E x e Q H M L:=λa w hs ht=>k a w hs (by rw [<- h] at ht; exact ht.pack)
end
section
variable {x:Cx}{ops:Array Oper}{Q:lZ}{rest:List Oper}{H:Hp}{M:List bQ}{L:Env}{e:Exit}{c:Code}
theorem uK (k:W x ops Q rest H M L):W x ops Q rest H M L:=k
theorem Oo (k:E x e Q H M L):E x e Q H M L:=k
theorem On (k:Go.Sim.C x c Q H M L):Go.Sim.C x c Q H M L:=k
end
section
variable {x:Cx}{ops:Array Oper}{Q:lZ}{rest:List Oper}{H:Hp}{M:List bQ}{L:Env}{d:Nat}{ty:TypeId}{pos:String}{aft:Array Edge}{g:Option (Nat×Bool)}
theorem fq {T:TypeId}{y:Operand}{ad:Addr}{f n o ft bo:Nat}{fs:Array Field}{nm tg pp:String}{em:Bool} (k:W x ops Q rest H M ((d,.pointer (some (ad.add o)))::L))
  (hy:ev L y=some (.pointer (some ad)):=by rfl) (hT:∀ w,(underlying T).run x.P w=.ok (.struct fs) w:=by exact λ_=>rfl) (hf:fs[f]? = some ⟨nm,ft,o,em,tg,pp,bo⟩:=by rfl) (hn:∀ w,(sizeOf ft).run x.P w=.ok n w:=by exact λ_=>rfl)
  (hn0:Nat.beq n 0=false:=by rfl) (hg:gd ops L ⟨some d,.fieldAddr T y f,ty,pos,aft,g⟩=some true:=by rfl) (hN:Nat.blt d x.N=true:=by rfl):
  W x ops Q (⟨some d,.fieldAddr T y f,ty,pos,aft,g⟩::rest) H M L:=uu hg hN hT hf hn hn0 rfl hy k
end
section
variable {x:Cx}{ops:Array Oper}{Q:lZ}{rest:List Oper}{H:Hp}{M:List bQ}{L:Env}{d:Nat}{ty:TypeId}{pos:String}{aft:Array Edge}{g:Option (Nat×Bool)}{y z c:Operand}{T U:TypeId}{n:Nat}{o:Oper}{op:BinOp}{uo:UnOp}{tys:Array TypeId}{fn:Fn}{ys bs:Array Operand}
theorem Oq (k:W x ops Q (o::rest) H M L):W x ops Q (o::rest) H M L:=k
theorem p1 (k:W x ops Q (⟨some d,.move y,ty,pos,aft,g⟩::rest) H M L):W x ops Q (⟨some d,.move y,ty,pos,aft,g⟩::rest) H M L:=k
theorem p2 (k:W x ops Q (⟨some d,.assign y,ty,pos,aft,g⟩::rest) H M L):W x ops Q (⟨some d,.assign y,ty,pos,aft,g⟩::rest) H M L:=k
theorem p3 (k:W x ops Q (⟨some d,.fieldAddr T y n,ty,pos,aft,g⟩::rest) H M L):W x ops Q (⟨some d,.fieldAddr T y n,ty,pos,aft,g⟩::rest) H M L:=k
theorem p4 (k:W x ops Q (⟨some d,.load T y,ty,pos,aft,g⟩::rest) H M L):W x ops Q (⟨some d,.load T y,ty,pos,aft,g⟩::rest) H M L:=k
theorem p5 (k:W x ops Q (⟨some d,.binOp op T y z U,ty,pos,aft,g⟩::rest) H M L):W x ops Q (⟨some d,.binOp op T y z U,ty,pos,aft,g⟩::rest) H M L:=k
theorem p6 (k:W x ops Q (⟨some d,.pick c y z,ty,pos,aft,g⟩::rest) H M L):W x ops Q (⟨some d,.pick c y z,ty,pos,aft,g⟩::rest) H M L:=k
theorem p7 (k:W x ops Q (⟨some d,.extract y n,ty,pos,aft,g⟩::rest) H M L):W x ops Q (⟨some d,.extract y n,ty,pos,aft,g⟩::rest) H M L:=k
theorem p8 (k:W x ops Q (⟨some d,.nilCheck y,ty,pos,aft,g⟩::rest) H M L):W x ops Q (⟨some d,.nilCheck y,ty,pos,aft,g⟩::rest) H M L:=k
theorem p9 (k:W x ops Q (⟨some d,.unOp uo T y,ty,pos,aft,g⟩::rest) H M L):W x ops Q (⟨some d,.unOp uo T y,ty,pos,aft,g⟩::rest) H M L:=k
theorem pa (k:W x ops Q (⟨some d,.convert T U y,ty,pos,aft,g⟩::rest) H M L):W x ops Q (⟨some d,.convert T U y,ty,pos,aft,g⟩::rest) H M L:=k
theorem pb (k:W x ops Q (⟨some d,.makeFunc fn ys bs,ty,pos,aft,g⟩::rest) H M L):W x ops Q (⟨some d,.makeFunc fn ys bs,ty,pos,aft,g⟩::rest) H M L:=k
theorem pc (k:W x ops Q (⟨some d,.call ⟨.builtin .len,#[y],#[T]⟩,ty,pos,aft,g⟩::rest) H M L):W x ops Q (⟨some d,.call ⟨.builtin .len,#[y],#[T]⟩,ty,pos,aft,g⟩::rest) H M L:=k
theorem pg {j:Nat}{w:Bool}{oo:Op}{dd:Option Nat} (k:W x ops Q (⟨dd,oo,ty,pos,aft,some (j,w)⟩::rest) H M L):W x ops Q (⟨dd,oo,ty,pos,aft,some (j,w)⟩::rest) H M L:=k
end
abbrev ph (a:Qj):Hp->List bQ->Qj->Prop:=λ_ rs v=>[]=rs/\a=v
def nn (n:Nat):List (List Nat):=List.replicate n []
section
variable {x:Cx}{ops:Array Oper}{Q:lZ}{H H':Hp}{M:List bQ}{L:Env}{t:Nat}{ps:Option Nat}{v:Qj}{φ:Hp->List bQ->Qj->Prop}
theorem o0 (h:φ H [] v):W x ops (Ds x H M L (some t) ps φ) [] H M ((t,v)::L):=a_ (fU [] (Rh _) h)
theorem oe (rs:List bQ) (hle:H.le H') (h:φ H' rs v):W x ops (Ds x H M L (some t) ps φ) [] H' (rs++M) ((t,v)::L):=a_ (fU rs hle h)
end
theorem dr {P Q:Prop} (k:Q) (h:Q->P:=by
  intro k
  repeat (rintro _ _ ⟨rfl,rfl⟩)
  exact k):P:=h k
theorem dz {P Q:Prop} (k:Q) (h:Q->P:=by
  intro k
  repeat (rintro _ _ ⟨rfl,rfl⟩)
  refine uK ?_;exact k):P:=h k
theorem ma {P:Prop} (h:P:=by
    repeat' first
      | exact Qk
      | exact gZ _ _
      | refine ⟨?_,?_⟩
      | (intro H1 H2 rs v hle
         repeat' first
           | exact λh=>h
           | exact λh=>aQ.mono hle h
           | exact λh=>Rw.mono hle h
           | exact λh=>qC.mono hle h
           | exact λh=>i_.mono hle h
           | exact λh=>Mx.mono h hle
           | refine Exists.imp (λ_=>?_)
           | refine And.imp ?_ ?_)):P:=h
theorem Pq {x:Cx}{l:List Oper}{Q:lZ}{H:Hp}{M:List bQ}{L:Env}{id:Nat} (hmix:x.P.follows .mixedOrders=true) (m:Nat) (F:List (Hp->List bQ->Qj->Prop)) (C U:List (List Nat)) (I:List (List bQ)) (live:List Nat)
  (hop:xr x l (zv F) C U [] (Et m I) H M L 0 (l.take m))
  (k:∀ H',H.le H'->wI l (zv F) H' (List.range m) L (Et m I) (λL' R=>W x l.toArray Q (l.drop m) H' (tX live R M) L'))
  (hB:vj l m=true:=by kernel_rfl) (hml:Nat.ble m l.length=true:=by rfl) (hD:yI l m L=true:=by rfl) (hNd:yJ l m=true:=by rfl)
  (hT:GM l m (m+I.length) C U live=true:=by kernel_rfl) (hmono:Bi F:=by exact ma):Go.Sim.C x (.region id l.toArray true) Q H (I.flatten++M) L:=
 rO m (zv F) C U I live hmix hB hml hD hNd hT (uP hmono) hop k
def O3:Nat->Nat->List (Nat×List Nat)->List (List Nat)
 | 0,_,_=>[]
 | n+1,i,[]=>[]::O3 n (i+1) []
 | n+1,i,(j,c)::l=>bif Nat.beq i j then c::O3 n (i+1) l else []::O3 n (i+1) ((j,c)::l)
def sp (n:Nat) (l:List (Nat×List Nat)):List (List Nat):=O3 n 0 l
theorem xb {x:Cx}{l:List Oper}{Q:lZ}{H:Hp}{M M0:List bQ}{L:Env}{id:Nat}{I:List (List bQ)} (hmix:x.P.follows .mixedOrders=true) (m:Nat) (F:List (Hp->List bQ->Qj->Prop)) (C U:List (List Nat)) (ix live:List Nat)
  (hI:KT ix M=some (I,M0))
  (hop:xr x l (zv F) C U [] (Et m I) H M0 L 0 (l.take m))
  (k:∀ H',H.le H'->wI l (zv F) H' (List.range m) L (Et m I) (λL' R=>W x l.toArray Q (l.drop m) H' (tX live R M0) L'))
  (hB:vj l m=true:=by kernel_rfl) (hml:Nat.ble m l.length=true:=by rfl) (hD:yI l m L=true:=by rfl) (hNd:yJ l m=true:=by rfl)
  (hT:GM l m (m+I.length) C U live=true:=by kernel_rfl) (hmono:Bi F:=by exact ma):Go.Sim.C x (.region id l.toArray true) Q H M L:=
 Be (Dp hI) (Pq hmix m F C U I live hop k hB hml hD hNd hT hmono)
theorem oy {x:Cx}{l:List Oper}{Q:lZ}{H:Hp}{M:List bQ}{L:Env}{id:Nat} (hmix:x.P.follows .mixedOrders=true) (m:Nat) (F:List (Hp->List bQ->Qj->Prop))
  (hop:xr x l (zv F) (nn m) (nn m) [] (Et m []) H M L 0 (l.take m))
  (k:∀ H',H.le H'->wI l (zv F) H' (List.range m) L (Et m []) (λL' R=>W x l.toArray Q (l.drop m) H' (tX (List.range m) R M) L'))
  (hB:vj l m=true:=by kernel_rfl) (hml:Nat.ble m l.length=true:=by rfl) (hD:yI l m L=true:=by rfl) (hNd:yJ l m=true:=by rfl)
  (hT:GM l m m (nn m) (nn m) (List.range m)=true:=by kernel_rfl) (hmono:Bi F:=by exact ma):Go.Sim.C x (.region id l.toArray true) Q H M L:=
 rO m (zv F) (nn m) (nn m) [] (List.range m) hmix hB hml hD hNd hT (uP hmono) hop k
theorem cN {α σ R:Type}{B:Nat->α->σ->(σ->Option R)->Option R}{K:σ->Option R}{l:List α}{s:σ}{r:Option R}{i:Nat} (h:dI B K i l s=r):
  ∃ F:Nat->List α->σ->Option R,(∀ i y ys s,F i (y::ys) s=B i y s (F (i+1) ys))/\(∀ i s,F i [] s=K s)/\F i l s=r:=⟨dI B K,λ_ _ _ _=>rfl,λ_ _=>rfl,h⟩
theorem jE {σ R:Type}{B:Nat->σ->(σ->Option R)->Option R}{K:σ->Option R}{m:Nat}{s:σ}{r:Option R}{i:Nat} (h:kL B K m i s=r):
  ∃ F:Nat->Nat->σ->Option R,(∀ m i s,F (m+1) i s=B i s (F m (i+1)))/\(∀ i s,F 0 i s=K s)/\F m i s=r:=⟨kL B K,λ_ _ _=>rfl,λ_ _=>rfl,h⟩
theorem kT {σ R:Type}{B:σ->(σ->Option R)->Option R}{m:Nat}{s:σ}{r:Option R} (h:iN B m s=r):
  ∃ F:Nat->σ->Option R,(∀ m s,F (m+1) s=B s (F m))/\(∀ s,F 0 s=none)/\F m s=r:=⟨iN B,λ_ _=>rfl,λ_=>rfl,h⟩
section
variable {x:Cx}{Q:lZ}{H:Hp}{M M':List bQ}{L L':Env}{e:Exit}{c:Code}
theorem kj (k:E x e Q H M L') (hL:Kept L L':=by repeat first | exact Qk | refine ⟨rfl,?_⟩):E x e Q H M L:=Dq hL (SV _) k
theorem kp (k:E x e Q H M' L') (hM:M.Perm M') (hL:Kept L L':=by repeat first | exact Qk | refine ⟨rfl,?_⟩):E x e Q H M L:=Dq hL hM k
theorem M7 (S:CW) (n:Nat) (h0:S n H M L') (step:∀ n H M L,S n H M L->Go.Sim.C x c (Exit.then (I1 x S n) Q) H M L) (hL:Kept L L':=by repeat first | exact Qk | refine ⟨rfl,?_⟩):Go.Sim.C x (.loop c) Q H M L:=
 Bb hL (SV _) (Bc S n h0 step)
theorem cj {m:List bQ}{d:Code} (u:Env) (ix:List Nat) (e:Nat) (S:Env->List bQ->N9) (rest:∀ H M L,S u m H M L->Go.Sim.C x d Q H M L)
  (k:(∀ H M L,S u m H M L->E x .normal (Exit.then (d.wp x.P Q) Q) H M L)->Go.Sim.C x c (Exit.then (d.wp x.P Q) Q) H M L) (hm:yv ix e M=some m:=by rfl) (hu:Kept L u:=by repeat first | exact Qk | refine ⟨rfl,?_⟩):Go.Sim.C x (.seq c d) Q H M L:=
 r9 (S u m) rest k
theorem cl {m:List bQ} (u:Env) (jx:List Nat) (e:Nat) (ix:List Nat) (d:Nat) (S:Env->List bQ->CW) (n:Nat) (hm:yv jx e M=some m) (h0:S u m n H M' L') (step:∀ n H M L,S u m n H M L->Go.Sim.C x c (Exit.then (I1 x (S u m) n) Q) H M L)
  (h:yv ix d M=some M':=by rfl) (hu:Kept L u:=by repeat first | exact Qk | refine ⟨rfl,?_⟩) (hL:Kept L L':=by repeat first | exact Qk | refine ⟨rfl,?_⟩):Go.Sim.C x (.loop c) Q H M L:=
 Pb ix d (S u m) n h0 step h hL
theorem cd {α:Type}{o:Operand}{p q:Code}{b:Bool}{u v r:α} (hm:(if b=true then u else v)=r) (hb:ev L o=some (.bool b)) (k1:b=true->u=r->Go.Sim.C x p Q H M L) (k2:b=false->v=r->Go.Sim.C x q Q H M L):Go.Sim.C x (.cond o p q) Q H M L:=
 bE hb (λh=>k1 h (dV h hm)) (λh=>k2 h (dU h hm))
theorem cT {o:Operand}{p q:Code} (hb:ev L o=some (.bool true)) (k:Go.Sim.C x p Q H M L):Go.Sim.C x (.cond o p q) Q H M L:=bE hb (λ_=>k) (λh=>Bool.noConfusion h)
theorem cF {o:Operand}{p q:Code} (hb:ev L o=some (.bool false)) (k:Go.Sim.C x q Q H M L):Go.Sim.C x (.cond o p q) Q H M L:=bE hb (λh=>Bool.noConfusion h) (λ_=>k)
end
theorem sb {a b:Bool} (h:a=b):some (Value.bool a)=some (Value.bool b):=by rw [h]
theorem PC:(∀ b,(b && true)=b)/\(∀ b,(true && b)=b)/\(∀ b,(false && b)=false)/\(∀ b,(b && false)=false)/\(∀ b,(b || true)=true)/\(∀ b,(true || b)=true)/\(∀ b,(b || false)=b)/\(∀ b,(false || b)=b)/\(!true)=false/\(!false)=true/\(∀ α:Type,(none:Option α).isNone=true)/\(∀ (α:Type) (a:α),(some a).isNone=false):=by
 refine ⟨?_,?_,?_,?_,?_,?_,?_,?_,rfl,rfl,λ_=>rfl,λ_ _=>rfl⟩ <;> intro b <;> cases b <;> rfl
section
variable {x:Cx}{ops:Array Oper}{Q:lZ}{rest:List Oper}{H:Hp}{M:List bQ}{L:Env}{d:Nat}{ty:TypeId}{pos:String}{aft:Array Edge}{g:Option (Nat×Bool)}
theorem lo {T b i U:Nat}{fz:Nat×Nat}{y:Operand}{l:List Qj}{v:Qj} (hT:∀ w,(isAgg T).run x.P w=.ok false w) (hy:ev L y=some (.pointer (some ⟨b,i,none⟩))) (hm:bQ.obj b (.cells l.toArray U fz) ∈ M) (hc:l[i]? = some v)
  (k:W x ops Q rest H M ((d,v)::L)) (hg:gd ops L ⟨some d,.load T y,ty,pos,aft,g⟩=some true:=by rfl) (hN:Nat.blt d x.N=true:=by rfl):W x ops Q (⟨some d,.load T y,ty,pos,aft,g⟩::rest) H M L:=
 qI hg hN hT hy (vT hm hc) k
theorem la {T b U n:Nat}{fz:Nat×Nat}{y:Operand}{l:List Qj} (hT:∀ w,(isAgg T).run x.P w=.ok true w) (hn:∀ w,(sizeOf T).run x.P w=.ok n w) (hy:ev L y=some (.pointer (some ⟨b,0,none⟩))) (hm:bQ.obj b (.cells l.toArray U fz) ∈ M) (hl:l.length=n)
  (k:W x ops Q rest H M ((d,.agg l.toArray)::L)) (hg:gd ops L ⟨some d,.load T y,ty,pos,aft,g⟩=some true:=by rfl) (hN:Nat.blt d x.N=true:=by rfl):W x ops Q (⟨some d,.load T y,ty,pos,aft,g⟩::rest) H M L:=
 iW hg hN hT hn hy (D8 hm) hl k
theorem fi {T:TypeId}{y:Operand}{ad:Addr}{f n:Nat}{fs:Array Field}{fd:Field} (o:Nat) (hT:∀ w,(underlying T).run x.P w=.ok (.struct fs) w) (hf:fs[f]? = some fd) (hn:∀ w,(sizeOf fd.type).run x.P w=.ok n w) (hy:ev L y=some (.pointer (some ad)))
  (k:W x ops Q rest H M ((d,.pointer (some (ad.add o)))::L)) (ho:fd.offset=o:=by rfl) (hn0:Nat.beq n 0=false:=by rfl) (hg:gd ops L ⟨some d,.fieldAddr T y f,ty,pos,aft,g⟩=some true:=by rfl) (hN:Nat.blt d x.N=true:=by rfl):
  W x ops Q (⟨some d,.fieldAddr T y f,ty,pos,aft,g⟩::rest) H M L:=uu hg hN hT hf hn hn0 ho hy k
end
theorem lE {H H':Hp} (h:H.le H':=by first | exact Rh _ | assumption | ((repeat first | assumption | exact Rh _ | refine Uf ?_ (by assumption)); done)):H.le H':=h
section
variable {α:Type}[aH α] {H H':Hp}{v:Qj}{xs:List Qj}{l:List α}{ad:Addr}
theorem aQ.mm (h:aQ H v l) (e:H.le H':=by exact lE):aQ H' v l:=aQ.mono e h
theorem Rw.mm (h:Rw H v xs l) (e:H.le H':=by exact lE):Rw H' v xs l:=Rw.mono e h
theorem qC.mm (h:qC H xs l) (e:H.le H':=by exact lE):qC H' xs l:=qC.mono e h
theorem i_.mm (h:i_ H ad xs) (e:H.le H':=by exact lE):i_ H' ad xs:=i_.mono e h
theorem Mx.mm {T1 T2:TypeId}{hs:List Qj}{mx:List bQ}{sg:List Nat}{ls:List (List α)} (h:Mx T1 T2 H v hs mx sg ls) (e:H.le H':=by exact lE):Mx T1 T2 H' v hs mx sg ls:=Mx.mono h e
end
section
variable {x:Cx}{ops:Array Oper}{Q:lZ}{rest:List Oper}{H H0:Hp}{M:List bQ}{L:Env}{d:Nat}{ty:TypeId}{pos:String}{aft:Array Edge}{g:Option (Nat×Bool)}{ee:Exit}
theorem Ew (H0:Hp) (k:E x ee Q H0 M L) (h:H0.le H:=by exact lE):E x ee Q H M L:=FK h k
theorem A6 {α:Type}[aH α] {t e:TypeId}{y z:Operand}{v:Qj}{xs:List α}{el:α}{kk:IntKind}{i:Int}{n:Nat} (hR:aQ H0 v xs) (he:xs[n]? = some el)
  (k:W x ops Q rest H M ((d,.pointer (some ((Value.base v).add (i.toNat*aH.sz α))))::L)) (hle:H0.le H:=by exact lE) (hy:ev L y=some v:=by rfl) (hz:ev L z=some (.int kk i):=by rfl) (hn:i.toNat=n:=by rfl)
  (h0:0<=i:=by first | exact Tt _ | assumption | decide) (hT:∀ w,(underlying t).run x.P w=.ok (.slice e) w:=by exact λ_=>rfl) (hs:∀ w,(sizeOf e).run x.P w=.ok (aH.sz α) w:=by exact λ_=>rfl)
  (hg:gd ops L ⟨some d,.indexAddr t y z,ty,pos,aft,g⟩=some true:=by rfl) (hN:Nat.blt d x.N=true:=by rfl):W x ops Q (⟨some d,.indexAddr t y z,ty,pos,aft,g⟩::rest) H M L:=
 EF hg hN hT hs hy (aQ.mono hle hR) hz h0 (by rw [hn]; exact he) k
theorem lr {α:Type}[aH α] {t e:TypeId}{y:Operand}{v:Qj}{xs:List α} (hR:aQ H0 v xs) (k:W x ops Q rest H M ((d,.int .i64 xs.length)::L)) (hle:H0.le H:=by exact lE) (hy:ev L y=some v:=by rfl)
  (hT:∀ w,(underlying t).run x.P w=.ok (.slice e) w:=by exact λ_=>rfl) (hg:gd ops L ⟨some d,.call ⟨.builtin .len,#[y],#[t]⟩,ty,pos,aft,g⟩=some true:=by rfl) (hN:Nat.blt d x.N=true:=by rfl):
  W x ops Q (⟨some d,.call ⟨.builtin .len,#[y],#[t]⟩,ty,pos,aft,g⟩::rest) H M L:=Jl hg hN hT hy (aQ.mono hle hR) k
theorem tY {α:Type}{v:Qj}{T:TypeId}{sz n:Nat}{xs:List Qj}{t e:TypeId}{y z:Operand}{kk:IntKind}{i:Int}{l:List α}{el:α} (he:l[n]? = some el)
  (k:W x ops Q rest H M ((d,.pointer (some ((Value.base v).add (i.toNat*sz))))::L)) (hy:ev L y=some v:=by rfl) (hz:ev L z=some (.int kk i):=by rfl) (hn:i.toNat=n:=by rfl)
  (hm:bQ.row v T sz l.length xs ∈ M:=by first | ((repeat first | exact List.Mem.head _ | refine List.Mem.tail _ ?_); done) | (refine hR _ ?_; (repeat first | exact List.Mem.head _ | refine List.Mem.tail _ ?_); done) | (refine hU _ ?_; (repeat first | exact List.Mem.head _ | refine List.Mem.tail _ ?_); done))
  (h0:0<=i:=by first | exact Tt _ | assumption | decide) (hT:∀ w,(underlying t).run x.P w=.ok (.slice e) w:=by exact λ_=>rfl) (hs:∀ w,(sizeOf e).run x.P w=.ok sz w:=by exact λ_=>rfl)
  (hg:gd ops L ⟨some d,.indexAddr t y z,ty,pos,aft,g⟩=some true:=by rfl) (hN:Nat.blt d x.N=true:=by rfl):W x ops Q (⟨some d,.indexAddr t y z,ty,pos,aft,g⟩::rest) H M L:=
 y7 hm hg hN hT hs hy hz h0 (by rw [hn]; exact (Qo.1 he).1) k
theorem lh {T:TypeId}{y:Operand}{ad:Addr}{cs:List Qj}{v:Qj} (hc:i_ H0 ad cs) (o:Nat) (k:W x ops Q rest H M ((d,v)::L)) (hle:H0.le H:=by exact lE) (hy:ev L y=some (.pointer (some (ad.add o))):=by rfl) (hv:cs[o]? = some v:=by rfl)
  (hT:∀ w,(isAgg T).run x.P w=.ok false w:=by exact λ_=>rfl) (hg:gd ops L ⟨some d,.load T y,ty,pos,aft,g⟩=some true:=by rfl) (hN:Nat.blt d x.N=true:=by rfl):W x ops Q (⟨some d,.load T y,ty,pos,aft,g⟩::rest) H M L:=
 qI hg hN hT hy (i_.one (i_.mono hle hc) o hv).at k
theorem Ov {T:TypeId}{n:Nat}{y:Operand}{ad:Addr}{cs:List Qj} (hc:i_ H0 ad cs) (k:W x ops Q rest H M ((d,.agg cs.toArray)::L)) (hle:H0.le H:=by exact lE) (hy:ev L y=some (.pointer (some ad)):=by rfl)
  (hT:∀ w,(isAgg T).run x.P w=.ok true w:=by exact λ_=>rfl) (hn:∀ w,(sizeOf T).run x.P w=.ok n w:=by exact λ_=>rfl) (hl:cs.length=n:=by rfl) (hg:gd ops L ⟨some d,.load T y,ty,pos,aft,g⟩=some true:=by rfl) (hN:Nat.blt d x.N=true:=by rfl):
  W x ops Q (⟨some d,.load T y,ty,pos,aft,g⟩::rest) H M L:=iW hg hN hT hn hy (i_.mono hle hc).at hl k
theorem yt {T U:TypeId}{y:Operand}{v w:Qj}{sz n i:Nat}{xs cs:List Qj} (hc:∀ j u,cs[j]? = some u->xs[i+j]? = some u) (k:W x ops Q rest H M ((d,w)::L)) (hy:ev L y=some (.pointer (some ((Value.base v).add i))):=by rfl)
  (hm:bQ.row v U sz n xs ∈ M:=by first | ((repeat first | exact List.Mem.head _ | refine List.Mem.tail _ ?_); done) | (refine hR _ ?_; (repeat first | exact List.Mem.head _ | refine List.Mem.tail _ ?_); done) | (refine hU _ ?_; (repeat first | exact List.Mem.head _ | refine List.Mem.tail _ ?_); done))
  (hd:cs[0]? = some w:=by rfl) (hT:∀ w,(isAgg T).run x.P w=.ok false w:=by exact λ_=>rfl) (hg:gd ops L ⟨some d,.load T y,ty,pos,aft,g⟩=some true:=by rfl) (hN:Nat.blt d x.N=true:=by rfl):
  W x ops Q (⟨some d,.load T y,ty,pos,aft,g⟩::rest) H M L:=qI hg hN hT hy (Ct hm hc hd) k
theorem PH {T U:TypeId}{m:Nat}{y:Operand}{v:Qj}{sz n i:Nat}{xs cs:List Qj} (hc:∀ j u,cs[j]? = some u->xs[i+j]? = some u) (k:W x ops Q rest H M ((d,.agg cs.toArray)::L)) (hy:ev L y=some (.pointer (some ((Value.base v).add i))):=by rfl)
  (hm:bQ.row v U sz n xs ∈ M:=by first | ((repeat first | exact List.Mem.head _ | refine List.Mem.tail _ ?_); done) | (refine hR _ ?_; (repeat first | exact List.Mem.head _ | refine List.Mem.tail _ ?_); done) | (refine hU _ ?_; (repeat first | exact List.Mem.head _ | refine List.Mem.tail _ ?_); done))
  (hT:∀ w,(isAgg T).run x.P w=.ok true w:=by exact λ_=>rfl) (hn:∀ w,(sizeOf T).run x.P w=.ok m w:=by exact λ_=>rfl) (hl:cs.length=m:=by rfl) (hg:gd ops L ⟨some d,.load T y,ty,pos,aft,g⟩=some true:=by rfl) (hN:Nat.blt d x.N=true:=by rfl):
  W x ops Q (⟨some d,.load T y,ty,pos,aft,g⟩::rest) H M L:=iW hg hN hT hn hy (x_ hm hc) hl k
theorem bx {T:TypeId}{y:Operand}{v:Qj}{cs:List Qj} (k:∀ b,W x ops Q rest H (.obj b (.cells cs.toArray T (0,0))::M) ((d,.pointer (some ⟨b,0,none⟩))::L)) (hy:ev L y=some v:=by rfl)
  (hcs:v.cells=cs.toArray:=by first | exact aQ.cells (by assumption) | exact Rw.cells (by assumption) | rfl) (hg:gd ops L ⟨some d,.box T y,ty,pos,aft,g⟩=some true:=by rfl) (hN:Nat.blt d x.N=true:=by rfl):
  W x ops Q (⟨some d,.box T y,ty,pos,aft,g⟩::rest) H M L:=Ob hg hN hy hcs k
theorem al {T:TypeId}{z:Qj}{cs:List Qj} (k:∀ b,W x ops Q rest H (.obj b (.cells cs.toArray T (0,0))::M) ((d,.pointer (some ⟨b,0,none⟩))::L))
  (hz:∀ w,(zeroValue T).run x.P w=.ok z w:=by exact λ_=>rfl) (hcs:z.cells=cs.toArray:=by rfl) (hg:gd ops L ⟨some d,.alloc T,ty,pos,aft,g⟩=some true:=by rfl) (hN:Nat.blt d x.N=true:=by rfl):
  W x ops Q (⟨some d,.alloc T,ty,pos,aft,g⟩::rest) H M L:=K9 hg hN hz hcs k
theorem wt (i:Nat) {T U n b o:Nat}{y z:Operand}{l cs out:List Qj}{v:Qj}{M1:List bQ}
  (k:W x ops Q rest H (.obj b (.cells out.toArray U (0,0))::M1) L) (hy:ev L y=some (.pointer (some ⟨b,o,none⟩)):=by rfl) (hz:ev L z=some v:=by rfl)
  (hv:v.cells=cs.toArray:=by first | exact aQ.cells (by assumption) | exact Rw.cells (by assumption) | rfl)
  (h1:∀ c ∈ cs,c.oneCell'=true:=by repeat first | exact Sb | refine cO rfl ?_ | refine cO (aQ.pw (by assumption)) ?_ | refine cO (Rw.one (by assumption)) ?_)
  (hM:AU i M=some (.obj b (.cells l.toArray U (0,0)),M1):=by rfl)
  (hg:gd ops L ⟨none,.store T y z,ty,pos,aft,g⟩=some true:=by rfl) (hn:∀ w,(sizeOf T).run x.P w=.ok n w:=by exact λ_=>rfl) (hl:cs.length=n:=by rfl) (ho:AI l o cs=some out:=by rfl):
  W x ops Q (⟨none,.store T y z,ty,pos,aft,g⟩::rest) H M L:=ws i hv k h1 hy hz hM hg hn hl ho
theorem wr {α:Type}[aH α] (i o:Nat) {T U m:Nat}{y z:Operand}{v u:Qj}{xs c cs out:List Qj}{l:List α}{e:α}{kk:Nat}{M1:List bQ}{ad:Addr} (e2:α) (h:Rw H0 v xs l) (he:l[kk]? = some e) (hg':∀ j w,c[j]? = some w->xs[kk*aH.sz α+j]? = some w)
  (hc:aH.E H c e) (hE:aH.E H out e2)
  (k:∀ tF,Rw H v tF (l.set kk e2)->(l.set kk e2)[kk]? = some e2->(∀ j w,out[j]? = some w->tF[kk*aH.sz α+j]? = some w)->W x ops Q rest H (.row v U (aH.sz α) (l.set kk e2).length tF::M1) L)
  (hle:H0.le H:=by exact lE) (hy:ev L y=some (.pointer (some ad)):=by rfl) (had:ad=(Value.base v).add (kk*aH.sz α+o):=by first | exact HC _ _ | exact KF _ _ _) (hz:ev L z=some u:=by rfl)
  (hv:u.cells=cs.toArray:=by first | exact aQ.cells (by assumption) | exact Rw.cells (by assumption) | rfl)
  (h1:∀ c ∈ cs,c.oneCell'=true:=by repeat first | exact Sb | refine cO rfl ?_ | refine cO (aQ.pw (by assumption)) ?_ | refine cO (Rw.one (by assumption)) ?_)
  (hM:AU i M=some (.row v U (aH.sz α) l.length xs,M1):=by rfl) (hg:gd ops L ⟨none,.store T y z,ty,pos,aft,g⟩=some true:=by rfl) (hn:∀ w,(sizeOf T).run x.P w=.ok m w:=by exact λ_=>rfl) (hl:cs.length=m:=by rfl)
  (ho:AI c o cs=some out:=by rfl) (hb:Nat.ble (o+cs.length) c.length=true:=by rfl) (hb2:Nat.ble (o+cs.length) (aH.sz α)=true:=by rfl) (hpos:Nat.blt 0 cs.length=true:=by rfl):
  W x ops Q (⟨none,.store T y z,ty,pos,aft,g⟩::rest) H M L:=by
 have h':=Rw.mono hle h;obtain ⟨ho1,_⟩:=Cm ho;obtain ⟨p1,p2,p3⟩:=Rw.put h' he hc hg' hb ho1 hE;refine kQ (uO hM) ?_;refine HQ (n':=(l.set kk e2).length) hg hn hy had hz hv hl (Rw.room h' he hb2) hpos h1 RH ?_;exact k _ p1 p2 p3
end
class wG (α:Type) [aH α] where
 cs:α->List Qj
 eq:∀ {H c x},aH.E H c x->c=cs x
instance:wG Int:=⟨λn=>[.int .i64 n],λh=>h⟩
instance:wG Bool:=⟨λb=>[.bool b],λh=>h⟩
instance:wG Qi:=⟨λs=>[.string s],λh=>h⟩
instance:wG U8:=⟨λn=>[.int .u8 n.n],λh=>h⟩
instance:wG O2:=⟨λn=>[.int .u16 n.n],λh=>h⟩
instance:wG bU:=⟨λn=>[.int .u32 n.n],λh=>h⟩
instance:wG Du:=⟨λn=>[.int .u64 n.n],λh=>h⟩
instance:wG O0:=⟨λn=>[.int .i32 n.n],λh=>h⟩
def M9:List Qj->Option (List Qj)
 | []=>some []
 | v::l=>match M9 l with
  | some m=>some (v::m)
  | none=>none
theorem DI:∀ {l m:List Qj},M9 l=some m->l=m
 | [],m,h=>by simpa [M9] using h
 | v::l,m,h=>by
  simp only [M9] at h
  split at h
  ·rename_i k e
   simp only [QH] at h;rw [DI e,h]
  ·cases h
theorem mA {P:Prop} (h:P:=by
  first
   | ((repeat first | exact List.Mem.head _ | refine List.Mem.tail _ ?_); done)
   | (refine hR _ ?_; (repeat first | exact List.Mem.head _ | refine List.Mem.tail _ ?_); done)
   | (refine hU _ ?_; (repeat first | exact List.Mem.head _ | refine List.Mem.tail _ ?_); done)):P:=h
section
variable {x:Cx}{ops:Array Oper}{Q:lZ}{rest:List Oper}{H H0:Hp}{M:List bQ}{L:Env}{d:Nat}{ty:TypeId}{pos:String}{aft:Array Edge}{g:Option (Nat×Bool)}{y z:Operand}{T U:TypeId}
theorem P1 {t:TypeId} (k:W x ops Q (⟨some d,.indexAddr t y z,ty,pos,aft,g⟩::rest) H M L):W x ops Q (⟨some d,.indexAddr t y z,ty,pos,aft,g⟩::rest) H M L:=k
theorem iA {α:Type}{iR:aH α}{t e:TypeId}{v:Qj}{xs:List α}{el:α}{kk:IntKind}{i:Int} (k:W x ops Q rest H M ((d,.pointer (some ((Value.base v).add (i.toNat*aH.sz α))))::L))
  (hy:ev L y=some v:=by rfl) (hz:ev L z=some (.int kk i):=by rfl) (hR:aQ H0 v xs:=by with_reducible assumption) (he:xs[i.toNat]? = some el:=by first | with_reducible assumption | assumption) (hle:H0.le H:=by exact lE)
  (h0:0<=i:=by first | exact Tt _ | assumption | decide) (hT:∀ w,(underlying t).run x.P w=.ok (.slice e) w:=by exact λ_=>rfl) (hs:∀ w,(sizeOf e).run x.P w=.ok (aH.sz α) w:=by exact λ_=>rfl)
  (hg:gd ops L ⟨some d,.indexAddr t y z,ty,pos,aft,g⟩=some true:=by rfl) (hN:Nat.blt d x.N=true:=by rfl):W x ops Q (⟨some d,.indexAddr t y z,ty,pos,aft,g⟩::rest) H M L:=
 EF hg hN hT hs hy (aQ.mono hle hR) hz h0 he k
theorem iO {α:Type}{v:Qj}{sz:Nat}{xs:List Qj}{t e:TypeId}{kk:IntKind}{i:Int}{l:List α}{el:α}
  (k:W x ops Q rest H M ((d,.pointer (some ((Value.base v).add (i.toNat*sz))))::L)) (hy:ev L y=some v:=by rfl) (hz:ev L z=some (.int kk i):=by rfl)
  (hm:bQ.row v T sz l.length xs ∈ M:=by exact mA) (he:l[i.toNat]? = some el:=by first | with_reducible assumption | assumption)
  (h0:0<=i:=by first | exact Tt _ | assumption | decide) (hT:∀ w,(underlying t).run x.P w=.ok (.slice e) w:=by exact λ_=>rfl) (hs:∀ w,(sizeOf e).run x.P w=.ok sz w:=by exact λ_=>rfl)
  (hg:gd ops L ⟨some d,.indexAddr t y z,ty,pos,aft,g⟩=some true:=by rfl) (hN:Nat.blt d x.N=true:=by rfl):W x ops Q (⟨some d,.indexAddr t y z,ty,pos,aft,g⟩::rest) H M L:=
 y7 hm hg hN hT hs hy hz h0 (Qo.1 he).1 k
theorem nA {α:Type}{iR:aH α}{e:TypeId}{v:Qj}{xs:List α} (k:W x ops Q rest H M ((d,.int .i64 xs.length)::L)) (hy:ev L y=some v:=by rfl) (hR:aQ H0 v xs:=by with_reducible assumption) (hle:H0.le H:=by exact lE)
  (hT:∀ w,(underlying T).run x.P w=.ok (.slice e) w:=by exact λ_=>rfl) (hg:gd ops L ⟨some d,.call ⟨.builtin .len,#[y],#[T]⟩,ty,pos,aft,g⟩=some true:=by rfl) (hN:Nat.blt d x.N=true:=by rfl):
  W x ops Q (⟨some d,.call ⟨.builtin .len,#[y],#[T]⟩,ty,pos,aft,g⟩::rest) H M L:=Jl hg hN hT hy (aQ.mono hle hR) k
theorem PN {ad:Addr}{cs:List Qj}{v:Qj}{o:Nat} (k:W x ops Q rest H M ((d,v)::L)) (hy:ev L y=some (.pointer (some (ad.add o))):=by rfl) (hc:i_ H0 ad cs:=by first | with_reducible assumption | assumption) (hv:cs[o]? = some v:=by rfl)
  (hT:∀ w,(isAgg T).run x.P w=.ok false w:=by exact λ_=>rfl) (hle:H0.le H:=by exact lE) (hg:gd ops L ⟨some d,.load T y,ty,pos,aft,g⟩=some true:=by rfl) (hN:Nat.blt d x.N=true:=by rfl):
  W x ops Q (⟨some d,.load T y,ty,pos,aft,g⟩::rest) H M L:=qI hg hN hT hy (i_.one (i_.mono hle hc) o hv).at k
theorem PM {ad:Addr}{cs:List Qj}{v:Qj} (k:W x ops Q rest H M ((d,v)::L)) (hy:ev L y=some (.pointer (some ad)):=by rfl) (hc:i_ H0 ad cs:=by first | with_reducible assumption | assumption) (hv:cs[0]? = some v:=by rfl)
  (hT:∀ w,(isAgg T).run x.P w=.ok false w:=by exact λ_=>rfl) (hle:H0.le H:=by exact lE) (hg:gd ops L ⟨some d,.load T y,ty,pos,aft,g⟩=some true:=by rfl) (hN:Nat.blt d x.N=true:=by rfl):
  W x ops Q (⟨some d,.load T y,ty,pos,aft,g⟩::rest) H M L:=qI hg hN hT hy (i_.one (i_.mono hle hc) 0 hv).at k
theorem PO {ad:Addr}{cs:List Qj}{n:Nat} (k:W x ops Q rest H M ((d,.agg cs.toArray)::L)) (hy:ev L y=some (.pointer (some ad)):=by rfl) (hc:i_ H0 ad cs:=by first | with_reducible assumption | assumption)
  (hT:∀ w,(isAgg T).run x.P w=.ok true w:=by exact λ_=>rfl) (hn:∀ w,(sizeOf T).run x.P w=.ok n w:=by exact λ_=>rfl) (hl:cs.length=n:=by rfl) (hle:H0.le H:=by exact lE) (hg:gd ops L ⟨some d,.load T y,ty,pos,aft,g⟩=some true:=by rfl) (hN:Nat.blt d x.N=true:=by rfl):
  W x ops Q (⟨some d,.load T y,ty,pos,aft,g⟩::rest) H M L:=iW hg hN hT hn hy (i_.mono hle hc).at hl k
theorem Ad {α:Type}[aH α] [wG α] {v0:Qj}{xs:List α}{el:α}{n:Nat} (hR:aQ H0 v0 xs) (he:xs[n]? = some el):i_ H0 ((Value.base v0).add (n*aH.sz α)) (wG.cs el):=by
 obtain ⟨c,h1,h2⟩:=aQ.elem hR he;rw [<- wG.eq h1]; exact h2
theorem A3 {α:Type}[aH α] [wG α] {v0:Qj}{xs:List Qj}{l:List α}{el:α}{n:Nat} (hR:Rw H0 v0 xs l) (he:l[n]? = some el):∀ j u,(wG.cs el)[j]? = some u->xs[n*aH.sz α+j]? = some u:=by
 obtain ⟨c,h1,h2⟩:=Rw.elem hR he;rw [<- wG.eq h1]; exact h2
theorem PR {α:Type}{iR:aH α}{v0 v:Qj}{xs:List α}{el:α}{n o:Nat} (k:W x ops Q rest H M ((d,v)::L)) (hy:ev L y=some (.pointer (some (((Value.base v0).add (n*@aH.sz α iR)).add o))):=by rfl)
  (hR:aQ H0 v0 xs:=by with_reducible assumption) (he:xs[n]? = some el:=by first | with_reducible assumption | assumption) (iC:wG α:=by infer_instance) (hv:(wG.cs el)[o]? = some v:=by rfl) (hle:H0.le H:=by exact lE)
  (hT:∀ w,(isAgg T).run x.P w=.ok false w:=by exact λ_=>rfl) (hg:gd ops L ⟨some d,.load T y,ty,pos,aft,g⟩=some true:=by rfl) (hN:Nat.blt d x.N=true:=by rfl):
  W x ops Q (⟨some d,.load T y,ty,pos,aft,g⟩::rest) H M L:=qI hg hN hT hy (i_.one (i_.mono hle (Ad hR he)) o hv).at k
theorem PQ {α:Type}{iR:aH α}{v0 v:Qj}{xs:List α}{el:α}{n:Nat} (k:W x ops Q rest H M ((d,v)::L)) (hy:ev L y=some (.pointer (some ((Value.base v0).add (n*@aH.sz α iR)))):=by rfl)
  (hR:aQ H0 v0 xs:=by with_reducible assumption) (he:xs[n]? = some el:=by first | with_reducible assumption | assumption) (iC:wG α:=by infer_instance) (hv:(wG.cs el)[0]? = some v:=by rfl) (hle:H0.le H:=by exact lE)
  (hT:∀ w,(isAgg T).run x.P w=.ok false w:=by exact λ_=>rfl) (hg:gd ops L ⟨some d,.load T y,ty,pos,aft,g⟩=some true:=by rfl) (hN:Nat.blt d x.N=true:=by rfl):
  W x ops Q (⟨some d,.load T y,ty,pos,aft,g⟩::rest) H M L:=qI hg hN hT hy (i_.one (i_.mono hle (Ad hR he)) 0 hv).at k
theorem PS {α:Type}{iR:aH α}{v0:Qj}{cs:List Qj}{xs:List α}{el:α}{n m:Nat} (k:W x ops Q rest H M ((d,.agg cs.toArray)::L)) (hy:ev L y=some (.pointer (some ((Value.base v0).add (n*@aH.sz α iR)))):=by rfl)
  (hR:aQ H0 v0 xs:=by with_reducible assumption) (he:xs[n]? = some el:=by first | with_reducible assumption | assumption) (iC:wG α:=by infer_instance) (hv:M9 (wG.cs el)=some cs:=by rfl) (hle:H0.le H:=by exact lE)
  (hT:∀ w,(isAgg T).run x.P w=.ok true w:=by exact λ_=>rfl) (hn:∀ w,(sizeOf T).run x.P w=.ok m w:=by exact λ_=>rfl) (hl:cs.length=m:=by rfl) (hg:gd ops L ⟨some d,.load T y,ty,pos,aft,g⟩=some true:=by rfl) (hN:Nat.blt d x.N=true:=by rfl):
  W x ops Q (⟨some d,.load T y,ty,pos,aft,g⟩::rest) H M L:=iW hg hN hT hn hy (i_.mono hle (DI hv▸Ad hR he)).at hl k
theorem PX {α:Type}{iR:aH α}{v0 v:Qj}{sz p:Nat}{xs:List Qj}{l:List α}{el:α}{n o:Nat} (k:W x ops Q rest H M ((d,v)::L)) (hy:ev L y=some (.pointer (some (((Value.base v0).add (n*@aH.sz α iR)).add o))):=by rfl)
  (hm:bQ.row v0 U sz p xs ∈ M:=by exact mA) (hR:Rw H0 v0 xs l:=by with_reducible assumption) (he:l[n]? = some el:=by first | with_reducible assumption | assumption) (iC:wG α:=by infer_instance) (hv:(wG.cs el)[o]? = some v:=by rfl)
  (hT:∀ w,(isAgg T).run x.P w=.ok false w:=by exact λ_=>rfl) (hg:gd ops L ⟨some d,.load T y,ty,pos,aft,g⟩=some true:=by rfl) (hN:Nat.blt d x.N=true:=by rfl):
  W x ops Q (⟨some d,.load T y,ty,pos,aft,g⟩::rest) H M L:=qI hg hN hT hy (row_one hm (A3 hR he) hv) k
theorem PW {α:Type}{iR:aH α}{v0 v:Qj}{sz p:Nat}{xs:List Qj}{l:List α}{el:α}{n:Nat} (k:W x ops Q rest H M ((d,v)::L)) (hy:ev L y=some (.pointer (some ((Value.base v0).add (n*@aH.sz α iR)))):=by rfl)
  (hm:bQ.row v0 U sz p xs ∈ M:=by exact mA) (hR:Rw H0 v0 xs l:=by with_reducible assumption) (he:l[n]? = some el:=by first | with_reducible assumption | assumption) (iC:wG α:=by infer_instance) (hv:(wG.cs el)[0]? = some v:=by rfl)
  (hT:∀ w,(isAgg T).run x.P w=.ok false w:=by exact λ_=>rfl) (hg:gd ops L ⟨some d,.load T y,ty,pos,aft,g⟩=some true:=by rfl) (hN:Nat.blt d x.N=true:=by rfl):
  W x ops Q (⟨some d,.load T y,ty,pos,aft,g⟩::rest) H M L:=qI hg hN hT hy (Ct hm (A3 hR he) hv) k
theorem PY {α:Type}{iR:aH α}{v0:Qj}{sz p m:Nat}{xs cs:List Qj}{l:List α}{el:α}{n:Nat} (k:W x ops Q rest H M ((d,.agg cs.toArray)::L)) (hy:ev L y=some (.pointer (some ((Value.base v0).add (n*@aH.sz α iR)))):=by rfl)
  (hm:bQ.row v0 U sz p xs ∈ M:=by exact mA) (hR:Rw H0 v0 xs l:=by with_reducible assumption) (he:l[n]? = some el:=by first | with_reducible assumption | assumption) (iC:wG α:=by infer_instance) (hv:M9 (wG.cs el)=some cs:=by rfl)
  (hT:∀ w,(isAgg T).run x.P w=.ok true w:=by exact λ_=>rfl) (hn:∀ w,(sizeOf T).run x.P w=.ok m w:=by exact λ_=>rfl) (hl:cs.length=m:=by rfl) (hg:gd ops L ⟨some d,.load T y,ty,pos,aft,g⟩=some true:=by rfl) (hN:Nat.blt d x.N=true:=by rfl):
  W x ops Q (⟨some d,.load T y,ty,pos,aft,g⟩::rest) H M L:=iW hg hN hT hn hy (x_ hm (DI hv▸A3 hR he)) hl k
theorem PU {v0 v:Qj}{sz p i o:Nat}{xs cs:List Qj} (k:W x ops Q rest H M ((d,v)::L)) (hy:ev L y=some (.pointer (some (((Value.base v0).add i).add o))):=by rfl)
  (hm:bQ.row v0 U sz p xs ∈ M:=by exact mA) (hc:∀ j u,cs[j]? = some u->xs[i+j]? = some u:=by assumption) (hv:cs[o]? = some v:=by rfl)
  (hT:∀ w,(isAgg T).run x.P w=.ok false w:=by exact λ_=>rfl) (hg:gd ops L ⟨some d,.load T y,ty,pos,aft,g⟩=some true:=by rfl) (hN:Nat.blt d x.N=true:=by rfl):
  W x ops Q (⟨some d,.load T y,ty,pos,aft,g⟩::rest) H M L:=qI hg hN hT hy (row_one hm hc hv) k
theorem PT {v0 v:Qj}{sz p i:Nat}{xs cs:List Qj} (k:W x ops Q rest H M ((d,v)::L)) (hy:ev L y=some (.pointer (some ((Value.base v0).add i))):=by rfl)
  (hm:bQ.row v0 U sz p xs ∈ M:=by exact mA) (hc:∀ j u,cs[j]? = some u->xs[i+j]? = some u:=by assumption) (hv:cs[0]? = some v:=by rfl)
  (hT:∀ w,(isAgg T).run x.P w=.ok false w:=by exact λ_=>rfl) (hg:gd ops L ⟨some d,.load T y,ty,pos,aft,g⟩=some true:=by rfl) (hN:Nat.blt d x.N=true:=by rfl):
  W x ops Q (⟨some d,.load T y,ty,pos,aft,g⟩::rest) H M L:=qI hg hN hT hy (Ct hm hc hv) k
theorem PV {v0:Qj}{sz p i m:Nat}{xs cs:List Qj} (k:W x ops Q rest H M ((d,.agg cs.toArray)::L)) (hy:ev L y=some (.pointer (some ((Value.base v0).add i))):=by rfl)
  (hm:bQ.row v0 U sz p xs ∈ M:=by exact mA) (hc:∀ j u,cs[j]? = some u->xs[i+j]? = some u:=by assumption)
  (hT:∀ w,(isAgg T).run x.P w=.ok true w:=by exact λ_=>rfl) (hn:∀ w,(sizeOf T).run x.P w=.ok m w:=by exact λ_=>rfl) (hl:cs.length=m:=by rfl) (hg:gd ops L ⟨some d,.load T y,ty,pos,aft,g⟩=some true:=by rfl) (hN:Nat.blt d x.N=true:=by rfl):
  W x ops Q (⟨some d,.load T y,ty,pos,aft,g⟩::rest) H M L:=iW hg hN hT hn hy (x_ hm hc) hl k
theorem PF {b i U:Nat}{fz:Nat×Nat}{l:List Qj}{v:Qj} (k:W x ops Q rest H M ((d,v)::L)) (hy:ev L y=some (.pointer (some ⟨b,i,none⟩)):=by rfl)
  (hm:bQ.obj b (.cells l.toArray U fz) ∈ M:=by exact mA) (hc:l[i]? = some v:=by rfl) (hT:∀ w,(isAgg T).run x.P w=.ok false w:=by exact λ_=>rfl)
  (hg:gd ops L ⟨some d,.load T y,ty,pos,aft,g⟩=some true:=by rfl) (hN:Nat.blt d x.N=true:=by rfl):W x ops Q (⟨some d,.load T y,ty,pos,aft,g⟩::rest) H M L:=
 qI hg hN hT hy (vT hm hc) k
theorem PG {b U n:Nat}{fz:Nat×Nat}{l:List Qj} (k:W x ops Q rest H M ((d,.agg l.toArray)::L)) (hy:ev L y=some (.pointer (some ⟨b,0,none⟩)):=by rfl)
  (hm:bQ.obj b (.cells l.toArray U fz) ∈ M:=by exact mA) (hT:∀ w,(isAgg T).run x.P w=.ok true w:=by exact λ_=>rfl) (hn:∀ w,(sizeOf T).run x.P w=.ok n w:=by exact λ_=>rfl) (hl:l.length=n:=by rfl)
  (hg:gd ops L ⟨some d,.load T y,ty,pos,aft,g⟩=some true:=by rfl) (hN:Nat.blt d x.N=true:=by rfl):W x ops Q (⟨some d,.load T y,ty,pos,aft,g⟩::rest) H M L:=
 iW hg hN hT hn hy (D8 hm) hl k
theorem PE {v:Qj}{sz n:Nat}{xs:List Qj}{t e:TypeId} (k:W x ops Q rest H M ((d,.int .i64 n)::L)) (hy:ev L y=some v:=by rfl) (hm:bQ.row v T sz n xs ∈ M:=by exact mA)
  (hT:∀ w,(underlying t).run x.P w=.ok (.slice e) w:=by exact λ_=>rfl) (hg:gd ops L ⟨some d,.call ⟨.builtin .len,#[y],#[t]⟩,ty,pos,aft,g⟩=some true:=by rfl) (hN:Nat.blt d x.N=true:=by rfl):
  W x ops Q (⟨some d,.call ⟨.builtin .len,#[y],#[t]⟩,ty,pos,aft,g⟩::rest) H M L:=Bv hm hg hN hT hy k
end
structure Kp (Q:Prop):Prop where
 o:Q
theorem Mj {P Q:Prop} (k:Q) (h:Kp Q->P:=by
  intro k;refine Oq ?_; first
   | (with_reducible refine p1 ?_); refine bX rfl rfl rfl ?_
   | (with_reducible refine p2 ?_); refine aL rfl rfl rfl ?_
   | (with_reducible refine p3 ?_); refine fq ?_
   | (with_reducible refine p4 ?_); first
    | refine PF ?_
    | refine PG ?_
    | refine PN ?_
    | refine PM ?_
    | refine PO ?_
    | refine PR ?_
    | refine PQ ?_
    | refine PS ?_
    | refine PX ?_
    | refine PW ?_
    | refine PY ?_
    | refine PU ?_
    | refine PT ?_
    | refine PV ?_
   | (with_reducible refine p5 ?_); refine vw rfl rfl rfl rfl rfl ?_
   | (with_reducible refine p8 ?_); refine pW rfl rfl rfl ?_
   | (with_reducible refine p7 ?_); refine ss rfl rfl rfl rfl ?_
   | (with_reducible refine p6 ?_); refine Dz rfl rfl rfl rfl ?_
   | (with_reducible refine p9 ?_); refine Od rfl rfl rfl rfl ?_
   | (with_reducible refine pa ?_); refine rh rfl rfl (λ_=>rfl) (λ_=>rfl) rfl ?_
   | (with_reducible refine pb ?_); refine Bx rfl rfl rfl rfl ?_
   | (with_reducible refine pc ?_); first
    | refine PE ?_
    | refine nA ?_
   | (with_reducible refine P1 ?_); first
    | refine iO ?_
    | refine iA ?_
   | (with_reducible refine pg ?_); first
    | refine Oc rfl rfl rfl ?_
    | refine ME rfl rfl ?_
  exact k.o):P:=h ⟨k⟩
theorem N1 {P Q:Prop} (k:Q) (h:Kp Q->P:=by
  intro k
  first
   | refine a_ ?_
   | (with_reducible refine Oo ?_); first
    | with_reducible refine aS ?_
    | with_reducible refine gY ?_
    | with_reducible refine mE ?_
    | with_reducible refine jQ ?_
    | with_reducible refine tL ?_
    | with_reducible refine nW ?_
    | refine tK rfl ?_
   | (with_reducible refine On ?_); first
    | with_reducible refine aM ?_
    | with_reducible refine mD ?_
    | with_reducible refine uQ ?_
    | with_reducible refine mC ?_
    | with_reducible refine uq ?_
  exact k.o):P:=h ⟨k⟩
theorem wo {P Q:Prop} (k:Q) (h:Kp Q->P:=by
  intro k
  repeat first
   | refine Mj ?_
  exact k.o):P:=h ⟨k⟩
theorem go {P Q:Prop} (k:Q) (h:Kp Q->P:=by
  intro k
  repeat first
   | refine Mj ?_
   | refine N1 ?_
  exact k.o):P:=h ⟨k⟩
theorem gj {P Q:Prop} (k:Q) (h:Kp Q->P:=by
  intro k
  repeat first
   | refine Mj ?_
   | refine a_ ?_
   | (with_reducible refine Oo ?_); first
    | with_reducible refine gY ?_
    | with_reducible refine mE ?_
    | with_reducible refine jQ ?_
    | with_reducible refine tL ?_
    | with_reducible refine nW ?_
    | refine tK rfl ?_
   | (with_reducible refine On ?_); first
    | with_reducible refine aM ?_
    | with_reducible refine mD ?_
    | with_reducible refine uQ ?_
    | with_reducible refine mC ?_
    | with_reducible refine uq ?_
  exact k.o):P:=h ⟨k⟩
theorem gt {P Q:Prop} (k:Q) (h:Kp Q->P:=by
  intro k
  repeat first
   | refine Mj ?_
   | refine a_ ?_
   | (with_reducible refine Oo ?_); first
    | with_reducible refine gY ?_
    | with_reducible refine mE ?_
    | with_reducible refine jQ ?_
    | with_reducible refine tL ?_
    | with_reducible refine nW ?_
    | refine tK rfl ?_
   | (with_reducible refine On ?_); first
    | with_reducible refine aM ?_
    | with_reducible refine mD ?_
    | with_reducible refine uQ ?_
    | with_reducible refine mC ?_
    | with_reducible refine uq ?_
  with_reducible refine aS ?_
  exact k.o):P:=h ⟨k⟩
theorem gs {P Q:Prop} (k:Q) (h:Kp Q->P:=by
  intro k
  repeat first
   | refine Mj ?_
   | refine N1 ?_
  refine bL ?_
  repeat first
   | refine Mj ?_
   | refine N1 ?_
  exact k.o):P:=h ⟨k⟩
theorem g2 {P Q:Prop} (k:Q) (h:Kp Q->P:=by
  intro k;refine gs ?_;refine gs ?_;exact k.o):P:=h ⟨k⟩
theorem om {P:Prop} (h:P:=by
  intro HX hX X Rest hR
  repeat (rintro _ _ ⟨rfl,rfl⟩)
  intro hU hUp
  repeat refine Mj ?_
  exact o0 ⟨rfl,rfl⟩):P:=h
theorem ym {P q:Prop} (hb:q) (h:q->P:=by
  intro hb;intro HX hX X Rest hR
  repeat (rintro _ _ ⟨rfl,rfl⟩)
  intro hU hUp
  repeat refine Mj ?_
  exact o0 ⟨rfl,(by first | rfl | (rw [hb]; try rfl))⟩):P:=h hb
theorem MP {P Q:Prop} (k:Q) (h:Kp Q->P:=by
  intro k;refine Oq ?_; first
   | (with_reducible refine p1 ?_); refine bX rfl rfl rfl ?_
   | (with_reducible refine p2 ?_); refine aL rfl rfl rfl ?_
   | (with_reducible refine p3 ?_); refine fq ?_
   | (with_reducible refine p4 ?_); first
    | refine PF ?_
    | refine PG ?_
   | (with_reducible refine p5 ?_); refine vw rfl rfl rfl rfl rfl ?_
   | (with_reducible refine p8 ?_); refine pW rfl rfl rfl ?_
   | (with_reducible refine p7 ?_); refine ss rfl rfl rfl rfl ?_
   | (with_reducible refine p6 ?_); refine Dz rfl rfl rfl rfl ?_
   | (with_reducible refine p9 ?_); refine Od rfl rfl rfl rfl ?_
   | (with_reducible refine pa ?_); refine rh rfl rfl (λ_=>rfl) (λ_=>rfl) rfl ?_
   | (with_reducible refine pb ?_); refine Bx rfl rfl rfl rfl ?_
   | (with_reducible refine pc ?_); first
    | refine PE ?_
   | (with_reducible refine pg ?_); first
    | refine Oc rfl rfl rfl ?_
    | refine ME rfl rfl ?_
  exact k.o):P:=h ⟨k⟩
theorem qo {P Q:Prop} (k:Q) (h:Kp Q->P:=by
  intro k
  repeat first
   | refine MP ?_
  exact k.o):P:=h ⟨k⟩
theorem qg {P Q:Prop} (k:Q) (h:Kp Q->P:=by
  intro k
  repeat first
   | refine MP ?_
   | refine N1 ?_
  exact k.o):P:=h ⟨k⟩
theorem qj {P Q:Prop} (k:Q) (h:Kp Q->P:=by
  intro k
  repeat first
   | refine MP ?_
   | refine a_ ?_
   | (with_reducible refine Oo ?_); first
    | with_reducible refine gY ?_
    | with_reducible refine mE ?_
    | with_reducible refine jQ ?_
    | with_reducible refine tL ?_
    | with_reducible refine nW ?_
    | refine tK rfl ?_
   | (with_reducible refine On ?_); first
    | with_reducible refine aM ?_
    | with_reducible refine mD ?_
    | with_reducible refine uQ ?_
    | with_reducible refine mC ?_
    | with_reducible refine uq ?_
  exact k.o):P:=h ⟨k⟩
theorem qt {P Q:Prop} (k:Q) (h:Kp Q->P:=by
  intro k
  repeat first
   | refine MP ?_
   | refine a_ ?_
   | (with_reducible refine Oo ?_); first
    | with_reducible refine gY ?_
    | with_reducible refine mE ?_
    | with_reducible refine jQ ?_
    | with_reducible refine tL ?_
    | with_reducible refine nW ?_
    | refine tK rfl ?_
   | (with_reducible refine On ?_); first
    | with_reducible refine aM ?_
    | with_reducible refine mD ?_
    | with_reducible refine uQ ?_
    | with_reducible refine mC ?_
    | with_reducible refine uq ?_
  with_reducible refine aS ?_
  exact k.o):P:=h ⟨k⟩
theorem qs {P Q:Prop} (k:Q) (h:Kp Q->P:=by
  intro k
  repeat first
   | refine MP ?_
   | refine N1 ?_
  refine bL ?_
  repeat first
   | refine MP ?_
   | refine N1 ?_
  exact k.o):P:=h ⟨k⟩
theorem q2 {P Q:Prop} (k:Q) (h:Kp Q->P:=by
  intro k;refine qs ?_;refine qs ?_;exact k.o):P:=h ⟨k⟩
theorem qm {P:Prop} (h:P:=by
  intro HX hX X Rest hR
  repeat (rintro _ _ ⟨rfl,rfl⟩)
  intro hU hUp
  repeat refine MP ?_
  exact o0 ⟨rfl,rfl⟩):P:=h
theorem qn {P q:Prop} (hb:q) (h:q->P:=by
  intro hb;intro HX hX X Rest hR
  repeat (rintro _ _ ⟨rfl,rfl⟩)
  intro hU hUp
  repeat refine MP ?_
  exact o0 ⟨rfl,(by first | rfl | (rw [hb]; try rfl))⟩):P:=h hb
section
variable {x:Cx}{ops:Array Oper}{Q:lZ}{rest:List Oper}{H H0:Hp}{M:List bQ}{L:Env}{ty:TypeId}{pos:String}{aft:Array Edge}{g:Option (Nat×Bool)}
theorem wF {α:Type}{iR:aH α} (i o:Nat) {T U m:Nat}{y z:Operand}{v u:Qj}{xs cs out:List Qj}{l:List α}{e:α}{kk:Nat}{M1:List bQ}{ad:Addr} (e2:α)
  (k:∀ tF,Rw H v tF (l.set kk e2)->(l.set kk e2)[kk]? = some e2->W x ops Q rest H (.row v U (aH.sz α) (l.set kk e2).length tF::M1) L)
  (hy:ev L y=some (.pointer (some ad)):=by rfl) (hM:AU i M=some (.row v U (aH.sz α) l.length xs,M1):=by rfl) (had:ad=(Value.base v).add (kk*aH.sz α+o):=by first | exact HC _ _ | exact KF _ _ _)
  (h:Rw H0 v xs l:=by with_reducible assumption) (he:l[kk]? = some e:=by first | with_reducible assumption | assumption) (iC:wG α:=by infer_instance) (hle:H0.le H:=by exact lE) (hz:ev L z=some u:=by rfl)
  (hv:u.cells=cs.toArray:=by first | exact aQ.cells (by assumption) | exact Rw.cells (by assumption) | rfl)
  (h1:∀ c ∈ cs,c.oneCell'=true:=by repeat first | exact Sb | refine cO rfl ?_ | refine cO (aQ.pw (by assumption)) ?_ | refine cO (Rw.one (by assumption)) ?_)
  (hg:gd ops L ⟨none,.store T y z,ty,pos,aft,g⟩=some true:=by rfl) (hn:∀ w,(sizeOf T).run x.P w=.ok m w:=by exact λ_=>rfl) (hl:cs.length=m:=by rfl)
  (ho:AI (wG.cs e) o cs=some out:=by rfl) (hE:aH.E H out e2:=by rfl) (hE1:aH.E H (wG.cs e) e:=by rfl) (hb:Nat.ble (o+cs.length) (wG.cs e).length=true:=by rfl) (hb2:Nat.ble (o+cs.length) (aH.sz α)=true:=by rfl) (hpos:Nat.blt 0 cs.length=true:=by rfl):
  W x ops Q (⟨none,.store T y z,ty,pos,aft,g⟩::rest) H M L:=
 wr i o e2 h he (A3 h he) hE1 hE (λtF a b _=>k tF a b) hle hy had hz hv h1 hM hg hn hl ho hb hb2 hpos
end
theorem fc {P:Prop} (h:P:=by
  first
   | with_reducible assumption
   | exact aQ.mm (by with_reducible assumption)
   | exact Rw.mm (by with_reducible assumption)
   | exact Rw.py (by with_reducible assumption)
   | exact aQ.nil
   | exact Rw.nil
   | exact (Rw.nil (H:=H)).py
   | exact lE
   | exact qC.mm (by assumption)
   | exact i_.mm (by assumption)
   | exact Mx.mm (by assumption)
   | exact qC.py (by assumption)
   | exact cH.mm (by with_reducible assumption)
   | exact aQ.mm (by assumption)
   | exact Rw.mm (by assumption)
   | exact Rw.py (by assumption)
   | assumption
   | rfl):P:=h
theorem pk {P:Prop} (h:P:=by
  repeat apply Exists.intro
  repeat' first
   | refine And.intro ?_ ?_
   | exact rfl
   | exact hm
  all_goals first | exact fc | skip):P:=h
section
variable {x:Cx}{ops:Array Oper}{Q:lZ}{rest:List Oper}{H H0:Hp}{M:List bQ}{L:Env}{d:Nat}{ty:TypeId}{pos:String}{aft:Array Edge}{g:Option (Nat×Bool)}
theorem A2 {P:Program}{f:FuncId}{bs:Array Qj}{B:Nat}{w0 w:World}{Φ Φ':Hp->List bQ->Qj->Prop} (h:Calls P f bs w (ur B w0 Φ')) (e:Φ'=Φ):Calls P f bs w (ur B w0 Φ):=e▸h
theorem ca {C:Prop}{f:FuncId}{args:List Operand}{tys:Array TypeId}{vs:List Qj}{A:Prop}{Φ:Hp->List bQ->Qj->Prop} (c:C) (a:A)
  (k:∀ v H' M',Φ H' M' v->W x ops Q rest H' M' ((d,v)::L)) (hcall:∀ bs w,(callFunc f bs).run x.P w=.ok (.enter f bs) w:=by exact λ_ _=>rfl) (hv:yK L args=some vs:=by rfl)
  (hc:C->A->∀ w,St x.B x.w0 H M w->Calls x.P f vs.toArray w (ur x.B x.w0 Φ):=by
   intro c a w ht;apply A2;apply c a
   all_goals first | exact ht | skip
   all_goals first | exact fc | exact rfl) (hg:gd ops L ⟨some d,.call ⟨.value (.func f),args.toArray,tys⟩,ty,pos,aft,g⟩=some true:=by rfl) (hN:Nat.blt d x.N=true:=by rfl):
  W x ops Q (⟨some d,.call ⟨.value (.func f),args.toArray,tys⟩,ty,pos,aft,g⟩::rest) H M L:=gJ hcall hg hN hv (hc c a) k
theorem cy {C:Prop}{f:FuncId}{args:List Operand}{tys:Array TypeId}{vs:List Qj}{A:Prop}{Φ:Hp->List bQ->Qj->Prop} (c:C) (a:A)
  (k:∀ v H' M',Φ H' M' v->W x ops Q rest H' M' ((d,v)::L)) (hcall:∀ bs w,(callFunc f bs).run x.P w=.ok (.enter f bs) w:=by exact λ_ _=>rfl) (hv:yK L args=some vs:=by rfl)
  (hc:C->A->∀ w,St x.B x.w0 H M w->Calls x.P f vs.toArray w (ur x.B x.w0 Φ):=by
   intro c a w ht;apply A2;obtain ⟨H0_,hl0_,ht0_,hr0_,bk0_⟩:=St.eG ht (by exact fc) rfl
   apply cM bk0_;apply c a
   all_goals first | exact ht0_ | skip
   all_goals first | exact fc | exact rfl) (hg:gd ops L ⟨some d,.call ⟨.value (.func f),args.toArray,tys⟩,ty,pos,aft,g⟩=some true:=by rfl) (hN:Nat.blt d x.N=true:=by rfl):
  W x ops Q (⟨some d,.call ⟨.value (.func f),args.toArray,tys⟩,ty,pos,aft,g⟩::rest) H M L:=gJ hcall hg hN hv (hc c a) k
theorem cY {C:Prop}{f:FuncId}{args:List Operand}{tys:Array TypeId}{vs:List Qj}{A:Prop}{Φ:Hp->List bQ->Qj->Prop} (c:C) (a:A)
  (k:∀ v H' M',Φ H' M' v->W x ops Q rest H' M' ((d,v)::L)) (hcall:∀ bs w,(callFunc f bs).run x.P w=.ok (.enter f bs) w:=by exact λ_ _=>rfl) (hv:yK L args=some vs:=by rfl)
  (hc:C->A->∀ w,St x.B x.w0 H M w->Calls x.P f vs.toArray w (ur x.B x.w0 Φ):=by
   intro c a w ht;apply A2;obtain ⟨H0_,hl0_,ht0_,hr0_,bk0_⟩:=St.eG ht (by exact fc) rfl
   apply cM bk0_;obtain ⟨H1_,hl1_,ht1_,hr1_,bk1_⟩:=St.eG ht0_ (by exact fc) rfl
   apply cM bk1_;apply c a
   all_goals first | exact ht1_ | skip
   all_goals first | exact fc | exact rfl) (hg:gd ops L ⟨some d,.call ⟨.value (.func f),args.toArray,tys⟩,ty,pos,aft,g⟩=some true:=by rfl) (hN:Nat.blt d x.N=true:=by rfl):
  W x ops Q (⟨some d,.call ⟨.value (.func f),args.toArray,tys⟩,ty,pos,aft,g⟩::rest) H M L:=gJ hcall hg hN hv (hc c a) k
theorem cz {C:Prop}{f:FuncId}{args:List Operand}{tys:Array TypeId}{vs:List Qj}{A:Prop}{u:Qj} (c:C) (a:A)
  (k:W x ops Q rest H M ((d,u)::L)) (hcall:∀ bs w,(callFunc f bs).run x.P w=.ok (.enter f bs) w:=by exact λ_ _=>rfl) (hv:yK L args=some vs:=by rfl)
  (hc:C->A->∀ w,St x.B x.w0 H M w->Calls x.P f vs.toArray w (ur x.B x.w0 λH' M' v=>H=H'/\M=M'/\u=v):=by
   intro c a w ht;apply A2;apply c a
   all_goals first | exact ht | skip
   all_goals first | exact fc | exact rfl) (hg:gd ops L ⟨some d,.call ⟨.value (.func f),args.toArray,tys⟩,ty,pos,aft,g⟩=some true:=by rfl) (hN:Nat.blt d x.N=true:=by rfl):
  W x ops Q (⟨some d,.call ⟨.value (.func f),args.toArray,tys⟩,ty,pos,aft,g⟩::rest) H M L:=gJ hcall hg hN hv (hc c a) (by rintro _ _ _ ⟨rfl,rfl,rfl⟩; exact k)
end
theorem ki {a b:Int} (h:a=b):some (Value.int .i64 a)=some (Value.int .i64 b):=by rw [h]
theorem kS {P:Prop} (h:P:=by
  repeat first
   | exact Qk
   | refine ⟨rfl,?_⟩
   | refine ⟨sb (by simp only [PC, *]),?_⟩):P:=h
theorem kK {a b:Int}{P:Prop} (e:a=b) (h:a=b->P:=by
  intro e
  repeat first
   | exact Qk
   | refine ⟨rfl,?_⟩
   | refine ⟨ki e,?_⟩
   | refine ⟨sb (by simp only [PC, *]),?_⟩):P:=h e
theorem eb {A B P:Prop} (a:A) (b:B) (h:A->B->P:=by
  intro a b;apply vI (Sd _)
  repeat apply Exists.intro
  refine And.intro a ?_;refine And.intro rfl ?_;refine And.intro ((congrFun b _).trans hm) ?_
  repeat' first
   | refine And.intro ?_ ?_
   | exact rfl
  all_goals first | exact fc | skip):P:=h a b
theorem C4 {B P:Prop} (b:B) (h:B->P:=by
  intro b;apply vI (Sd _)
  repeat apply Exists.intro
  refine And.intro ((congrFun b _).trans hm) ?_
  repeat' first
   | refine And.intro ?_ ?_
   | exact rfl
  all_goals first | exact fc | skip):P:=h b
theorem en {P:Prop} (h:P:=by
  obtain rfl:=Qp hm
  first
   | refine l7 rfl rfl ?_
   | refine CM rfl rfl rfl ?_
   | refine Oi rfl rfl rfl rfl ?_
   | refine Ih rfl ?_
  refine And.intro lE ?_
  repeat apply Exists.intro
  refine And.intro rfl ?_
  repeat' first
   | refine And.intro ?_ ?_
   | exact rfl
  all_goals first | exact fc | skip):P:=h
theorem ef {P:Prop} (h:P:=by
  obtain rfl:=Qp hm;refine Ew H ?_
  first
   | refine l7 rfl rfl ?_
   | refine CM rfl rfl rfl ?_
   | refine Oi rfl rfl rfl rfl ?_
   | refine Ih rfl ?_
  refine And.intro rfl ?_
  repeat apply Exists.intro
  refine And.intro rfl ?_
  repeat' first
   | refine And.intro ?_ ?_
   | exact rfl
  all_goals first | exact fc | skip):P:=h
section
variable {x:Cx}{ops:Array Oper}{Q:lZ}{rest:List Oper}{H:Hp}{M:List bQ}{L:Env}{d:Nat}{ty:TypeId}{pos:String}{aft:Array Edge}{g:Option (Nat×Bool)}{y:Operand}{T:TypeId}
theorem PZ {b i U n:Nat}{fz:Nat×Nat}{l cs:List Qj} (k:W x ops Q rest H M ((d,.agg cs.toArray)::L)) (hy:ev L y=some (.pointer (some ⟨b,i,none⟩)):=by rfl)
  (hm:bQ.obj b (.cells l.toArray U fz) ∈ M:=by exact mA) (hT:∀ w,(isAgg T).run x.P w=.ok true w:=by exact λ_=>rfl) (hn:∀ w,(sizeOf T).run x.P w=.ok n w:=by exact λ_=>rfl)
  (hc:M9 ((l.drop i).take n)=some cs:=by rfl) (hl:cs.length=n:=by rfl) (hg:gd ops L ⟨some d,.load T y,ty,pos,aft,g⟩=some true:=by rfl) (hN:Nat.blt d x.N=true:=by rfl):
  W x ops Q (⟨some d,.load T y,ty,pos,aft,g⟩::rest) H M L:=
 iW hg hN hT hn hy (qB hm (by rw [hl]; exact DI hc)) hl k
end
theorem PL {F:Qj->List bQ->Prop} (k:∀ v rs,F v rs):∀ v rs,F v rs:=k
structure Ix (l:List Nat):Prop where
 o:True
theorem ix (l:List Nat):Ix l:=⟨Qk⟩
theorem Wi {x:Cx}{ops:Array Oper}{Q:lZ}{rest:List Oper}{H:Hp}{M M':List bQ}{L:Env}{l:List Nat} (i:Ix l) (k:W x ops Q rest H M' L) (h:AJ l M=some M':=by rfl):W x ops Q rest H M L:=Wp l k h
theorem rz {P:Prop} (h:P:=by
  first
   | exact o0 ⟨rfl,rfl⟩
   | exact o0 pk
   | exact oe [] lE pk
   | exact oe [_] lE pk
   | exact oe [_,_] lE pk
   | exact oe [_,_,_] lE pk
   | exact oe [_,_,_,_,_,_] lE pk
   | exact oe [_,_,_,_,_,_,_] lE pk
   | exact a_ (CY [_] lE pk)):P:=h
theorem rk {C A I P:Prop} (i:I) (c:C) (a:A) (h:I->C->A->P:=by
  intro i c a HX hX X Rest hR
  repeat (refine PL ?_; (first | rintro _ _ ⟨rfl,rfl⟩ | rintro _ _ ⟨_,rfl,rfl⟩ | rintro _ _ ⟨_,_,rfl,rfl⟩ | rintro _ _ ⟨_,_,_,rfl,rfl⟩ | rintro _ _ ⟨_,_,_,_,rfl,rfl⟩ | rintro _ _ ⟨_,_,_,_,_,rfl,rfl⟩ | rintro _ _ ⟨_,_,_,_,_,_,rfl,rfl⟩ | rintro _ _ ⟨_,_,_,_,_,_,_,rfl,rfl⟩ | rintro _ _ ⟨_,_,_,_,_,_,_,_,rfl,rfl⟩ | rintro _ _ ⟨_,_,_,_,_,_,_,_,_,_,rfl,rfl⟩ | rintro _ _ ⟨_,_,_,_,_,_,_,_,_,_,_,_,rfl,rfl⟩ | rintro _ _ ⟨_,_,_,_,_,_,_,_,_,_,_,_,_,_,rfl,rfl⟩ | rintro _ _ ⟨rfl,rfl,hF⟩ | rintro _ _ ⟨_,rfl,rfl,hF⟩ | rintro _ _ ⟨_,_,rfl,rfl,hF⟩ | rintro _ _ ⟨_,_,_,rfl,rfl,hF⟩ | rintro _ _ ⟨_,_,_,_,rfl,rfl,hF⟩ | rintro _ _ ⟨_,_,_,_,_,rfl,rfl,hF⟩ | rintro _ _ ⟨_,_,_,_,_,_,rfl,rfl,hF⟩ | rintro _ _ ⟨_,_,_,_,_,_,_,rfl,rfl,hF⟩ | rintro _ _ ⟨_,_,_,_,_,_,_,_,rfl,rfl,hF⟩ | rintro _ _ ⟨_,_,_,_,_,_,_,_,_,_,rfl,rfl,hF⟩ | rintro _ _ ⟨_,_,_,_,_,_,_,_,_,_,_,_,rfl,rfl,hF⟩ | rintro _ _ ⟨_,_,_,_,_,_,_,_,_,_,_,_,_,_,rfl,rfl,hF⟩); repeat (with_reducible refine And.elim (λ_ hF=>?_) hF))
  intro hU hUp
  first | refine Wi i ?_ | skip
  repeat first
   | refine Mj ?_
   | refine PZ ?_
   | (refine ca c a ?_; (first | rintro _ _ _ ⟨rfl,rfl,rfl⟩ | rintro _ _ _ ⟨rfl,_,rfl,rfl⟩ | rintro _ _ _ ⟨rfl,_,_,rfl,rfl⟩ | rintro _ _ _ ⟨rfl,_,_,_,rfl,rfl⟩ | rintro _ _ _ ⟨rfl,_,_,_,_,rfl,rfl⟩ | rintro _ _ _ ⟨rfl,_,_,_,_,_,rfl,rfl⟩ | rintro _ _ _ ⟨rfl,_,_,_,_,_,_,rfl,rfl⟩ | rintro _ _ _ ⟨rfl,_,_,_,_,_,_,_,rfl,rfl⟩ | rintro _ _ _ ⟨rfl,_,_,_,_,_,_,_,_,rfl,rfl⟩ | rintro _ _ _ ⟨rfl,_,_,_,_,_,_,_,_,_,_,rfl,rfl⟩ | rintro _ _ _ ⟨rfl,_,_,_,_,_,_,_,_,_,_,_,_,rfl,rfl⟩ | rintro _ _ _ ⟨rfl,_,_,_,_,_,_,_,_,_,_,_,_,_,_,rfl,rfl⟩ | rintro _ _ _ ⟨rfl,rfl,rfl,hF⟩ | rintro _ _ _ ⟨rfl,_,rfl,rfl,hF⟩ | rintro _ _ _ ⟨rfl,_,_,rfl,rfl,hF⟩ | rintro _ _ _ ⟨rfl,_,_,_,rfl,rfl,hF⟩ | rintro _ _ _ ⟨rfl,_,_,_,_,rfl,rfl,hF⟩ | rintro _ _ _ ⟨rfl,_,_,_,_,_,rfl,rfl,hF⟩ | rintro _ _ _ ⟨rfl,_,_,_,_,_,_,rfl,rfl,hF⟩ | rintro _ _ _ ⟨rfl,_,_,_,_,_,_,_,rfl,rfl,hF⟩ | rintro _ _ _ ⟨rfl,_,_,_,_,_,_,_,_,rfl,rfl,hF⟩ | rintro _ _ _ ⟨rfl,_,_,_,_,_,_,_,_,_,_,rfl,rfl,hF⟩ | rintro _ _ _ ⟨rfl,_,_,_,_,_,_,_,_,_,_,_,_,rfl,rfl,hF⟩ | rintro _ _ _ ⟨rfl,_,_,_,_,_,_,_,_,_,_,_,_,_,_,rfl,rfl,hF⟩ | rintro _ _ _ ⟨_,rfl,rfl⟩ | rintro _ _ _ ⟨_,_,rfl,rfl⟩ | rintro _ _ _ ⟨_,_,_,rfl,rfl⟩ | rintro _ _ _ ⟨_,_,_,_,rfl,rfl⟩ | rintro _ _ _ ⟨_,_,_,_,_,rfl,rfl⟩ | rintro _ _ _ ⟨_,_,_,_,_,_,rfl,rfl⟩ | rintro _ _ _ ⟨_,_,_,_,_,_,_,rfl,rfl⟩ | rintro _ _ _ ⟨_,_,_,_,_,_,_,_,rfl,rfl⟩ | rintro _ _ _ ⟨_,_,_,_,_,_,_,_,_,rfl,rfl⟩ | rintro _ _ _ ⟨_,_,_,_,_,_,_,_,_,_,_,rfl,rfl⟩ | rintro _ _ _ ⟨_,_,_,_,_,_,_,_,_,_,_,_,_,rfl,rfl⟩ | rintro _ _ _ ⟨_,_,_,_,_,_,_,_,_,_,_,_,_,_,_,rfl,rfl⟩ | rintro _ _ _ ⟨_,rfl,rfl,hF⟩ | rintro _ _ _ ⟨_,_,rfl,rfl,hF⟩ | rintro _ _ _ ⟨_,_,_,rfl,rfl,hF⟩ | rintro _ _ _ ⟨_,_,_,_,rfl,rfl,hF⟩ | rintro _ _ _ ⟨_,_,_,_,_,rfl,rfl,hF⟩ | rintro _ _ _ ⟨_,_,_,_,_,_,rfl,rfl,hF⟩ | rintro _ _ _ ⟨_,_,_,_,_,_,_,rfl,rfl,hF⟩ | rintro _ _ _ ⟨_,_,_,_,_,_,_,_,rfl,rfl,hF⟩ | rintro _ _ _ ⟨_,_,_,_,_,_,_,_,_,rfl,rfl,hF⟩ | rintro _ _ _ ⟨_,_,_,_,_,_,_,_,_,_,_,rfl,rfl,hF⟩ | rintro _ _ _ ⟨_,_,_,_,_,_,_,_,_,_,_,_,_,rfl,rfl,hF⟩ | rintro _ _ _ ⟨_,_,_,_,_,_,_,_,_,_,_,_,_,_,_,rfl,rfl,hF⟩); repeat (with_reducible refine And.elim (λ_ hF=>?_) hF))
  exact rz):P:=h i c a
theorem tt:True:=Qk
theorem ro {P:Prop} (h:P:=by exact rk tt tt tt):P:=h
end Go.Sim
namespace Go.Proofs
open Go.Shelf
open _root_.Go.IntKind (i64 u64 u32 u8)
def Tryz.E5:Go.Shelf.Ren:=⟨fun | 283=>220 | n=>n,fun | 3=>3 | 9=>9 | 4=>4 | n=>n,fun | n=>n⟩
theorem Tryz.LA:Go.Proofs.Lays.n283 Tryz.prog Tryz.E5:={
 mixed:=by kernel_rfl
 f283:=Tryz.func220.trans (congrArg some (by kernel_rfl))
 t3:=Tryz.underlying3
 a3:=Tryz.isAgg3
 z3:=Tryz.sizeOf3
 v3:=Tryz.zeroValue3
 t4:=Tryz.underlying4
 a4:=Tryz.isAgg4
 z4:=Tryz.sizeOf4
 v4:=Tryz.zeroValue4
 t9:=Tryz.underlying9
 a9:=Tryz.isAgg9
 z9:=Tryz.sizeOf9
 v9:=Tryz.zeroValue9 }
open Go.Lib in
theorem Tryz.internal_strconv_small (i:Nat) (h:i<100) (w:World):
  Calls Tryz.prog 220 #[.int .i64 i] w λe w'=>e=.returned (.string ⟨(Lib.decDigits i).toArray⟩)/\w'=w:=Any.internal_strconv_small Tryz.LA i h w
def Tryz.DX:Go.Shelf.Ren:=⟨fun | 284=>221 | 129=>228 | 317=>227 | 318=>229 | n=>n,fun | 53=>72 | 3=>3 | 212=>313 | 0=>0 | 4=>4 | 46=>213 | 5=>5 | 9=>9 | n=>n,fun | 17=>3 | n=>n⟩
theorem Tryz.Kc:Go.Proofs.LaysM.n284 Tryz.prog Tryz.DX:={
 mixed:=by kernel_rfl
 f129:=Tryz.func228.trans (congrArg some (by kernel_rfl))
 f284:=Tryz.func221.trans (congrArg some (by kernel_rfl))
 f317:=Tryz.func227.trans (congrArg some (by kernel_rfl))
 f318:=Tryz.func229.trans (congrArg some (by kernel_rfl))
 t0:=Tryz.underlying0
 a0:=Tryz.isAgg0
 z0:=Tryz.sizeOf0
 v0:=Tryz.zeroValue0
 t3:=Tryz.underlying3
 a3:=Tryz.isAgg3
 z3:=Tryz.sizeOf3
 v3:=Tryz.zeroValue3
 t4:=Tryz.underlying4
 a4:=Tryz.isAgg4
 z4:=Tryz.sizeOf4
 v4:=Tryz.zeroValue4
 t5:=Tryz.underlying5
 a5:=Tryz.isAgg5
 z5:=Tryz.sizeOf5
 v5:=Tryz.zeroValue5
 t9:=Tryz.underlying9
 a9:=Tryz.isAgg9
 z9:=Tryz.sizeOf9
 v9:=Tryz.zeroValue9
 t46:=Tryz.underlying213
 a46:=Tryz.isAgg213
 z46:=Tryz.sizeOf213
 v46:=Tryz.zeroValue213
 t53:=Tryz.underlying72
 a53:=Tryz.isAgg72
 z53:=Tryz.sizeOf72
 v53:=Tryz.zeroValue72
 t212:=Tryz.underlying313
 a212:=Tryz.isAgg313
 z212:=Tryz.sizeOf313
 v212:=Tryz.zeroValue313
 g17:=by kernel_rfl
 i0:=by kernel_rfl
 i3:=by kernel_rfl
 i4:=by kernel_rfl
 i5:=by kernel_rfl
 i9:=by kernel_rfl
 i46:=by kernel_rfl
 i53:=by kernel_rfl
 i212:=by kernel_rfl
 m17:=by kernel_rfl }
open Go.Lib in
theorem Tryz.internal_strconv_numDigits (u:Nat) (h1:1<=u) (h2:u<18446744073709551616) (w:World) (htab:Lib.TabIs Tryz.prog w "internal/strconv.uint64pow10" .u64 Lib.pow10Tab):
  Calls Tryz.prog 221 #[.int .u64 u] w λe w'=>e=.returned (.int .i64 (Lib.nDigits u))/\w'=w:=Any.internal_strconv_numDigits Tryz.Kc u h1 h2 w htab
def Tryz.E6:Go.Shelf.Ren:=⟨fun | 285=>222 | n=>n,fun | 37=>206 | 53=>72 | 3=>3 | 4=>4 | 51=>223 | 9=>9 | 5=>5 | 0=>0 | n=>n,fun | n=>n⟩
theorem Tryz.LB:Go.Proofs.Lays.n285 Tryz.prog Tryz.E6:={
 mixed:=by kernel_rfl
 f285:=Tryz.func222.trans (congrArg some (by kernel_rfl))
 t0:=Tryz.underlying0
 a0:=Tryz.isAgg0
 z0:=Tryz.sizeOf0
 v0:=Tryz.zeroValue0
 t3:=Tryz.underlying3
 a3:=Tryz.isAgg3
 z3:=Tryz.sizeOf3
 v3:=Tryz.zeroValue3
 t4:=Tryz.underlying4
 a4:=Tryz.isAgg4
 z4:=Tryz.sizeOf4
 v4:=Tryz.zeroValue4
 t5:=Tryz.underlying5
 a5:=Tryz.isAgg5
 z5:=Tryz.sizeOf5
 v5:=Tryz.zeroValue5
 t9:=Tryz.underlying9
 a9:=Tryz.isAgg9
 z9:=Tryz.sizeOf9
 v9:=Tryz.zeroValue9
 t37:=Tryz.underlying206
 a37:=Tryz.isAgg206
 z37:=Tryz.sizeOf206
 v37:=Tryz.zeroValue206
 t51:=Tryz.underlying223
 a51:=Tryz.isAgg223
 z51:=Tryz.sizeOf223
 v51:=Tryz.zeroValue223
 t53:=Tryz.underlying72
 a53:=Tryz.isAgg72
 z53:=Tryz.sizeOf72
 v53:=Tryz.zeroValue72 }
open Go.RowKit Go.Sort Go.Lib in
theorem Tryz.internal_strconv_formatBase10 (blk off cap:Nat) (u:Nat) (d:Array UInt8) (w:World) (hH:Holds (λ(b:UInt8)=>Value.int .u8 (b.toNat:Int)) w blk off d) (hu:u<10 ^ d.size) (hu64:u<18446744073709551616) (hsz:d.size<4611686018427387904):
  Calls Tryz.prog 222 #[.slice (some ⟨blk,off,none⟩) d.size cap,.int .u64 u] w λe w'=>
   e=.returned (.tuple #[])/\∃ (n v':Nat) (dk:Array UInt8),w'=(putRow (λ(b:UInt8)=>Value.int .u8 (b.toNat:Int)) w blk off dk).drewN n/\FmtInv d.size u 0 v' dk:=Any.internal_strconv_formatBase10 Tryz.LB blk off cap u d w hH hu hu64 hsz
def Tryz.DW:Go.Shelf.Ren:=⟨fun | 171=>152 | 243=>179 | 246=>204 | 283=>220 | 284=>221 | 285=>222 | 286=>223 | 129=>228 | 317=>227 | 318=>229 | 319=>230 | 320=>231 | 337=>233 | 338=>234 | n=>n,fun | 3=>3 | 9=>9 | 2=>2 | 4=>4 | 171=>303 | 0=>0 | 53=>72 | 37=>206 | 5=>5 | 173=>306 | 212=>313 | 51=>223 | 20=>20 | 213=>314 | 46=>213 | 232=>318 | 233=>319 | n=>n,fun | 17=>3 | 18=>4 | 19=>5 | n=>n⟩
theorem Tryz.Kb:Go.Proofs.LaysM.n171 Tryz.prog Tryz.DW:={
 mixed:=by kernel_rfl
 f129:=Tryz.func228.trans (congrArg some (by kernel_rfl))
 f171:=Tryz.func152.trans (congrArg some (by kernel_rfl))
 f243:=Tryz.func179.trans (congrArg some (by kernel_rfl))
 f246:=Tryz.func204.trans (congrArg some (by kernel_rfl))
 f283:=Tryz.func220.trans (congrArg some (by kernel_rfl))
 f284:=Tryz.func221.trans (congrArg some (by kernel_rfl))
 f285:=Tryz.func222.trans (congrArg some (by kernel_rfl))
 f286:=Tryz.func223.trans (congrArg some (by kernel_rfl))
 f317:=Tryz.func227.trans (congrArg some (by kernel_rfl))
 f318:=Tryz.func229.trans (congrArg some (by kernel_rfl))
 f319:=Tryz.func230.trans (congrArg some (by kernel_rfl))
 f320:=Tryz.func231.trans (congrArg some (by kernel_rfl))
 f337:=Tryz.func233.trans (congrArg some (by kernel_rfl))
 f338:=Tryz.func234.trans (congrArg some (by kernel_rfl))
 t0:=Tryz.underlying0
 a0:=Tryz.isAgg0
 z0:=Tryz.sizeOf0
 v0:=Tryz.zeroValue0
 t2:=Tryz.underlying2
 a2:=Tryz.isAgg2
 z2:=Tryz.sizeOf2
 v2:=Tryz.zeroValue2
 t3:=Tryz.underlying3
 a3:=Tryz.isAgg3
 z3:=Tryz.sizeOf3
 v3:=Tryz.zeroValue3
 t4:=Tryz.underlying4
 a4:=Tryz.isAgg4
 z4:=Tryz.sizeOf4
 v4:=Tryz.zeroValue4
 t5:=Tryz.underlying5
 a5:=Tryz.isAgg5
 z5:=Tryz.sizeOf5
 v5:=Tryz.zeroValue5
 t9:=Tryz.underlying9
 a9:=Tryz.isAgg9
 z9:=Tryz.sizeOf9
 v9:=Tryz.zeroValue9
 t20:=Tryz.underlying20
 a20:=Tryz.isAgg20
 z20:=Tryz.sizeOf20
 v20:=Tryz.zeroValue20
 t37:=Tryz.underlying206
 a37:=Tryz.isAgg206
 z37:=Tryz.sizeOf206
 v37:=Tryz.zeroValue206
 t46:=Tryz.underlying213
 a46:=Tryz.isAgg213
 z46:=Tryz.sizeOf213
 v46:=Tryz.zeroValue213
 t51:=Tryz.underlying223
 a51:=Tryz.isAgg223
 z51:=Tryz.sizeOf223
 v51:=Tryz.zeroValue223
 t53:=Tryz.underlying72
 a53:=Tryz.isAgg72
 z53:=Tryz.sizeOf72
 v53:=Tryz.zeroValue72
 t171:=Tryz.underlying303
 a171:=Tryz.isAgg303
 z171:=Tryz.sizeOf303
 v171:=Tryz.zeroValue303
 t173:=Tryz.underlying306
 a173:=Tryz.isAgg306
 z173:=Tryz.sizeOf306
 v173:=Tryz.zeroValue306
 t212:=Tryz.underlying313
 a212:=Tryz.isAgg313
 z212:=Tryz.sizeOf313
 v212:=Tryz.zeroValue313
 t213:=Tryz.underlying314
 a213:=Tryz.isAgg314
 z213:=Tryz.sizeOf314
 t232:=Tryz.underlying318
 a232:=Tryz.isAgg318
 z232:=Tryz.sizeOf318
 v232:=Tryz.zeroValue318
 t233:=Tryz.underlying319
 a233:=Tryz.isAgg319
 z233:=Tryz.sizeOf319
 v233:=Tryz.zeroValue319
 g17:=by kernel_rfl
 g18:=by kernel_rfl
 g19:=by kernel_rfl
 i0:=by kernel_rfl
 i2:=by kernel_rfl
 i3:=by kernel_rfl
 i4:=by kernel_rfl
 i5:=by kernel_rfl
 i9:=by kernel_rfl
 i20:=by kernel_rfl
 i37:=by kernel_rfl
 i46:=by kernel_rfl
 i51:=by kernel_rfl
 i53:=by kernel_rfl
 i171:=by kernel_rfl
 i173:=by kernel_rfl
 i212:=by kernel_rfl
 i232:=by kernel_rfl
 i233:=by kernel_rfl
 m17:=by kernel_rfl
 m18:=by kernel_rfl
 m19:=by kernel_rfl }
open Go.RowKit Go.Sort Go.Lib in
theorem Tryz.strconv_Itoa (n:Int) (h0:-9223372036854775808<=n) (h1:n<=9223372036854775807) (w:World) (htab:Lib.TabIs Tryz.prog w "internal/strconv.uint64pow10" .u64 Lib.pow10Tab):
  Calls Tryz.prog 152 #[.int .i64 n] w λe w'=>e=.returned (.string ⟨(Lib.itoa n).toArray⟩)/\∃ k os,w'=grow (w.drewN k) os:=Any.strconv_Itoa Tryz.Kb n h0 h1 w htab
def Tryz.E7:Go.Shelf.Ren:=⟨fun | 287=>171 | 321=>195 | 322=>196 | n=>n,fun | 9=>9 | 3=>3 | 53=>72 | 75=>219 | 4=>4 | 167=>271 | 5=>5 | 46=>213 | 37=>206 | 0=>0 | 21=>21 | 80=>300 | n=>n,fun | n=>n⟩
theorem Tryz.LC:Go.Proofs.Lays.n287 Tryz.prog Tryz.E7:={
 mixed:=by kernel_rfl
 f287:=Tryz.func171.trans (congrArg some (by kernel_rfl))
 f321:=Tryz.func195.trans (congrArg some (by kernel_rfl))
 f322:=Tryz.func196.trans (congrArg some (by kernel_rfl))
 t0:=Tryz.underlying0
 a0:=Tryz.isAgg0
 z0:=Tryz.sizeOf0
 v0:=Tryz.zeroValue0
 t3:=Tryz.underlying3
 a3:=Tryz.isAgg3
 z3:=Tryz.sizeOf3
 v3:=Tryz.zeroValue3
 t4:=Tryz.underlying4
 a4:=Tryz.isAgg4
 z4:=Tryz.sizeOf4
 v4:=Tryz.zeroValue4
 t5:=Tryz.underlying5
 a5:=Tryz.isAgg5
 z5:=Tryz.sizeOf5
 v5:=Tryz.zeroValue5
 t9:=Tryz.underlying9
 a9:=Tryz.isAgg9
 z9:=Tryz.sizeOf9
 v9:=Tryz.zeroValue9
 t21:=Tryz.underlying21
 a21:=Tryz.isAgg21
 z21:=Tryz.sizeOf21
 v21:=Tryz.zeroValue21
 t37:=Tryz.underlying206
 a37:=Tryz.isAgg206
 z37:=Tryz.sizeOf206
 v37:=Tryz.zeroValue206
 t46:=Tryz.underlying213
 a46:=Tryz.isAgg213
 z46:=Tryz.sizeOf213
 v46:=Tryz.zeroValue213
 t53:=Tryz.underlying72
 a53:=Tryz.isAgg72
 z53:=Tryz.sizeOf72
 v53:=Tryz.zeroValue72
 t75:=Tryz.underlying219
 a75:=Tryz.isAgg219
 z75:=Tryz.sizeOf219
 v75:=Tryz.zeroValue219
 t167:=Tryz.underlying271
 a167:=Tryz.isAgg271
 z167:=Tryz.sizeOf271
 v167:=Tryz.zeroValue271 }
open Go.RowKit in
theorem Tryz.internal_strconv_ParseUint_10_b32 (t:ByteArray) (hne:t.size≠0) (hmax:t.size<=9223372036854775806) (w:World):
  Calls Tryz.prog 171 #[.string t,.int .i64 10,.int .i64 32] w λe w'=>e=.returned (Lib.uintTupleM 271 4294967295 (Lib.parseUintM 4294967295 0 t.data.toList))/\w'=Lib.bytesWorld w 5 t:=Any.internal_strconv_ParseUint_10_b32 Tryz.LC t hne hmax w
end Go.Proofs
namespace Go.Sim
open Go Go.Proofs.Tryz
open _root_.Go.IntKind (i64 u64 u32 u8)
set_option maxRecDepth 100000
set_option maxHeartbeats 4000000
instance:wG aV:=⟨λx=>[.string (x.Name),.string (x.A),.string (x.B_),.bool (x.um),.bool (x.Open)],λh=>h⟩
instance:wG aP:=⟨λx=>[.string (x.Name),.string (x.pI),.string (x.To),.int .i64 (x.X),.int .i64 (x.AZ),.int .i64 (x.Shift),.int .i64 (x.sC),.int .i64 (x.vZ),.int .i64 (x.Bh)],λh=>h⟩
instance:wG bD:=⟨λx=>[.string (x.Name),.string (x.Node),.int .i64 (x.jC),.int .i64 (x.qH),.int .i64 (x.AL)],λh=>h⟩
instance:wG aG:=⟨λx=>[.string (x.Name),.string (x.Node),.int .i64 (x.dA)],λh=>h⟩
instance:wG bW:=⟨λx=>[.string (x.Name),.string (x.Node),.int .i64 (x.rB),.int .i64 (x.Discharge),.int .i64 (x.sB)],λh=>h⟩
instance:wG aE:=⟨λx=>[.int .i64 (x.Time),.string (x.Kind),.string (x.Name),.int .i64 (x.Value)],λh=>h⟩
instance:wG bB:=⟨λx=>[.int .i64 (x.Kind),.string (x.Name),.int .i64 (x.A),.int .i64 (x.B_)],λh=>h⟩
instance:wG cB:=⟨λx=>[.int .i64 (x.a0),.int .i64 (x.a1)],λh=>h⟩
instance:wG bP:=⟨λx=>[.int .i64 (x.jC),.int .i64 (x.qH),.int .i64 (x.dA)],λh=>h⟩
instance:wG aR:=⟨λx=>[.string (x.Name),.bool (x.yA)],λh=>h⟩
structure dC where
 v0:Qj
 v1:Qj
 v2:Qj
 v3:Qj
 v4:Qj
 v5:Qj
 v6:Qj
 v7:Qj
 s9:List Qj
 v8:Qj
 v9:Qj
 v10:Qj
 yy:List Qj
 v11:Qj
 tF:List Qj
 v12:Qj
 CE:List Qj
 OD:Qj
 OE:Qj
 N4:Qj
 Ax:List Qj
 OF:Qj
def aJ (b bb1 bb2:Nat):dC->aO->List bQ
 | ⟨v0,v1,v2,v3,v4,v5,v6,v7,s9,v8,v9,v10,yy,v11,tF,v12,CE,OD,OE,N4,Ax,OF⟩,x=>[.obj b (.cells [v0,v1,v2,v3,v4,v5,v6,v7,v8,.pointer (some ⟨bb1,0,none⟩),OD,OE,.int .i64 (x.time),.pointer (some ⟨bb2,0,none⟩),OF].toArray 94 (0,0)),.row v7 9 (aH.sz Qi) x.on.length s9,.obj bb1 (.cells [v9,v10,v11,v12,.int .i64 (x.watch.time)].toArray 115 (0,0)),.row v10 125 (aH.sz aA) x.watch.mw.length yy,.row v11 3 (aH.sz Int) x.watch.su.length tF,.row v12 4 (aH.sz Bool) x.watch.over.length CE,.obj bb2 (.cells [N4].toArray 158 (0,0)),.row N4 45 (aH.sz aE) x.log.gO.length Ax]
def cH (H:Hp):dC->aO->Prop
 | ⟨v0,v1,v2,v3,v4,v5,v6,v7,s9,v8,v9,v10,yy,v11,tF,v12,CE,OD,OE,N4,Ax,OF⟩,x=>aQ H v0 x.bY.bF/\aQ H v1 x.bY.aN/\aQ H v2 x.bY.aI/\aQ H v3 x.bY.dB/\aQ H v4 x.bY.bC/\aQ H v5 x.bY.bS/\aQ H v6 x.rules/\Rw H v7 s9 x.on/\aQ H v8 x.held/\aQ H v9 x.watch.lC/\Rw H v10 yy x.watch.mw/\Rw H v11 tF x.watch.su/\Rw H v12 CE x.watch.over/\aQ H OD x.state.eP/\aQ H OE x.state.gK/\Rw H N4 Ax x.log.gO/\aQ H OF x.over
theorem cH.mono {H H2:Hp}{g:dC}{x:aO} (h:cH H g x) (hle:H.le H2):cH H2 g x:=by
 obtain ⟨v0,v1,v2,v3,v4,v5,v6,v7,s9,v8,v9,v10,yy,v11,tF,v12,CE,OD,OE,N4,Ax,OF⟩:=g;obtain ⟨z0,z1,z2,z3,z4,z5,z6,z7,z8,z9,z10,z11,z12,z13,z14,z15,z16⟩:=h;exact ⟨z0.mono hle,z1.mono hle,z2.mono hle,z3.mono hle,z4.mono hle,z5.mono hle,z6.mono hle,z7.mono hle,z8.mono hle,z9.mono hle,z10.mono hle,z11.mono hle,z12.mono hle,z13.mono hle,z14.mono hle,z15.mono hle,z16.mono hle⟩
theorem cH.mm {H H2:Hp}{g:dC}{x:aO} (h:cH H g x) (e:H.le H2:=by exact lE):cH H2 g x:=h.mono e
theorem fm:Proofs.Tryz.prog.follows .mixedOrders=true:=by kernel_rfl
theorem GS.mixed:Proofs.Tryz.prog.follows .mixedOrders=true:=fm
class vo (B:Nat) (w0:World):Prop where
 lt:6<=B
 e1:∃ T p,w0.var? Proofs.Tryz.prog "strconv.ErrSyntax" = some #[.iface T p]
 e2:∃ T p,w0.var? Proofs.Tryz.prog "strconv.ErrRange" = some #[.iface T p]
 t3:Lib.TabIs Proofs.Tryz.prog w0 "internal/strconv.uint64pow10" .u64 Lt
 t4:Lib.TabIs Proofs.Tryz.prog w0 "math/bits.deBruijn32tab" .u8 Ni
 t5:Lib.TabIs Proofs.Tryz.prog w0 "math/bits.deBruijn64tab" .u8 Nj
theorem vo.below {B:Nat}{w0:World}[h:vo B w0] {g:Nat} (hg:Nat.blt g 6=true):g<B:=by
 have:=h.lt;have:g<6:=by simpa [Rv] using hg
 omega
theorem Pg:Proofs.Tryz.prog.globalNamed "strconv.ErrSyntax" = some 1:=by kernel_rfl
theorem Ph:Proofs.Tryz.prog.globalNamed "strconv.ErrRange" = some 2:=by kernel_rfl
theorem Ol:Proofs.Tryz.prog.globalNamed "internal/strconv.uint64pow10" = some 3:=by kernel_rfl
theorem Pj:Proofs.Tryz.prog.globalNamed "math/bits.deBruijn32tab" = some 4:=by kernel_rfl
theorem N3:Proofs.Tryz.prog.globalNamed "math/bits.deBruijn64tab" = some 5:=by kernel_rfl
abbrev Ex (d:Bool) (a:Hp) (c:List bQ):Hp->List bQ->Qj->Prop:=λf g h=>a=f/\c=g/\.bool (d)=h
abbrev Pt {ρ:Type} (a:List U8) (c:Nat->List U8->Unit->Option ρ) (d:ρ) (e:Hp) (l:Nat):Env->List bQ->Nat->Hp->List bQ->Env->Prop:=λf g h i j k=>∃ b0:Nat,∃ b1:List U8,(a).drop b0=b1/\b1.length=h/\c b0 b1 ()=some d/\e.le i/\g=j/\(l,.int .i64 (b0:Int))::f=k
abbrev xp (a:Hp) (c:Nat) (d:Bool):Env->List bQ->Hp->List bQ->Env->Prop:=λf g h i j=>a=h/\g=i/\(c,.bool (d))::f=j
abbrev yV (d:Int) (a:Hp) (c:List bQ):Hp->List bQ->Qj->Prop:=λf g h=>a=f/\c=g/\.int .i64 (d)=h
abbrev FF {ρ:Type} (a:Nat) (c:Nat->Nat->Unit->Option ρ) (d:ρ) (e:Hp) (l:Nat):Env->List bQ->Nat->Hp->List bQ->Env->Prop:=λf g h i j k=>∃ b0 b1:Nat,b0+b1=a/\b1=h/\c b1 b0 ()=some d/\e.le i/\g=j/\(l,.int .i64 (b0:Int))::f=k
abbrev Pw {ρ:Type} (a:List Qi) (c:Nat->List Qi->Unit->Option ρ) (d:ρ) (e:Hp) (l:Nat):Env->List bQ->Nat->Hp->List bQ->Env->Prop:=λf g h i j k=>∃ b0:Nat,∃ b1:List Qi,(a).drop b0=b1/\b1.length=h/\c b0 b1 ()=some d/\e.le i/\g=j/\(l,.int .i64 (b0:Int))::f=k
abbrev OV {ρ:Type} (a:Bool->Option ρ) (c:ρ) (d:Hp) (e:Nat):Env->List bQ->Hp->List bQ->Env->Prop:=λf g h i j=>∃ b0:Bool,a b0=some c/\d=h/\g=i/\(e,.bool (b0))::f=j
abbrev Py {α:Type}[aH α] (d:List α) (a:Hp) (c:List bQ):Hp->List bQ->Qj->Prop:=λf g h=>a=f/\∃ b0:Qj,∃ b1:List Qj,.row b0 9 (aH.sz Qi) d.length b1::c=g/\b0=h/\sW b0 b1 d
abbrev PK {ρ:Type} (a:List aG) (c:Nat->List aG->List Qi->Option ρ) (d:ρ) (e:Hp) (l:Nat) (m:Nat):Env->List bQ->Nat->Hp->List bQ->Env->Prop:=λf g h i j k=>∃ b0:Nat,∃ b1:List aG,∃ b2:List Qi,∃ b3:Qj,∃ b4:List Qj,(a).drop b0=b1/\b1.length=h/\c b0 b1 b2=some d/\Rw i b3 b4 b2/\e.le i/\.row b3 9 (aH.sz Qi) b2.length b4::g=j/\(l,b3)::(m,.int .i64 (b0:Int))::f=k
abbrev Mk (d:Nat) (e:Qi) (l:Bool) (a:Hp) (c:List bQ):Hp->List bQ->Qj->Prop:=λf g h=>a=f/\.obj d (.cells ([.string (e)]:List Qj).toArray 9 (0,0))::c=g/\.bool (l)=h
abbrev NK (d:Nat) (e:Qi) (l:Int) (a:Hp) (c:List bQ):Hp->List bQ->Qj->Prop:=λf g h=>a=f/\.obj d (.cells ([.string (e)]:List Qj).toArray 9 (0,0))::c=g/\.int .i64 (l)=h
abbrev NM (d:aD) (a:Hp) (c:List bQ):Hp->List bQ->Qj->Prop:=λf g h=>a=f/\∃ b0:Qj,∃ b1:List Qj,∃ b2:Qj,∃ b3:List Qj,∃ b4:Qj,∃ b5:List Qj,∃ b6:Qj,∃ b7:List Qj,∃ b8:Qj,∃ b9:List Qj,∃ b10:Qj,∃ b11:List Qj,.row b0 9 (aH.sz Qi) d.bF.length b1::.row b2 41 (aH.sz aV) d.aN.length b3::.row b4 120 (aH.sz aP) d.aI.length b5::.row b6 152 (aH.sz bD) d.dB.length b7::.row b8 55 (aH.sz aG) d.bC.length b9::.row b10 156 (aH.sz bW) d.bS.length b11::c=g/\.agg [b0,b2,b4,b6,b8,b10].toArray=h/\sW b0 b1 d.bF/\sW b2 b3 d.aN/\sW b4 b5 d.aI/\sW b6 b7 d.dB/\sW b8 b9 d.bC/\sW b10 b11 d.bS
abbrev K1 {α:Type}[aH α] (a:List α):Hp->List bQ->Qj->Prop:=λf g h=>∃ b0:Qj,∃ b1:List Qj,[.row b0 9 (aH.sz Qi) a.length b1]=g/\b0=h/\Rw f b0 b1 a
abbrev Ml (d:Nat) (e:Qj) (l:Bool) (a:Hp) (c:List bQ):Hp->List bQ->Qj->Prop:=λf g h=>a=f/\.obj d (.cells ([e]:List Qj).toArray 22 (0,0))::c=g/\.bool (l)=h
abbrev Mm (d:Nat) (e:Qj) (l:Int) (a:Hp) (c:List bQ):Hp->List bQ->Qj->Prop:=λf g h=>a=f/\.obj d (.cells ([e]:List Qj).toArray 22 (0,0))::c=g/\.int .i64 (l)=h
abbrev NN {α:Type}[aH α] (d:List α) (a:Hp) (c:List bQ):Hp->List bQ->Qj->Prop:=λf g h=>a=f/\∃ b0:Qj,∃ b1:List Qj,.row b0 3 (aH.sz Int) d.length b1::c=g/\b0=h/\sW b0 b1 d
abbrev GP (a:Int):Hp->List bQ->Qj->Prop:=λf g h=>[]=g/\.int .i64 (a)=h
abbrev K2 {α:Type}[aH α] (d:List α) (e:Int) (a:Hp) (c:List bQ):Hp->List bQ->Qj->Prop:=λf g h=>a=f/\∃ b0:Qj,∃ b1:List Qj,.row b0 3 (aH.sz Int) d.length b1::c=g/\.tuple #[b0,.int .i64 (e)]=h/\sW b0 b1 d
abbrev Mn {α:Type}[aH α] (a:List α):Hp->List bQ->Qj->Prop:=λf g h=>∃ b0:Qj,∃ b1:List Qj,[.row b0 3 (aH.sz Int) a.length b1]=g/\b0=h/\Rw f b0 b1 a
abbrev FE (d:aC) (a:Hp) (c:List bQ):Hp->List bQ->Qj->Prop:=λf g h=>a.le f/\∃ b0:Qj,c=g/\.agg [.bool (d.minus),b0].toArray=h/\aQ f b0 d.words
abbrev Mo {ρ:Type} (a:Nat->Int->Option ρ) (c:ρ) (d:Hp) (e:Nat):Env->List bQ->Nat->Hp->List bQ->Env->Prop:=λf g h i j k=>∃ b0:Int,a h b0=some c/\d.le i/\g=j/\(e,.int .i64 (b0))::f=k
abbrev Mp {α:Type}[aH α] (d:List α) (a:Hp) (c:List bQ):Hp->List bQ->Qj->Prop:=λf g h=>a=f/\∃ b0:Qj,∃ b1:List Qj,.row b0 223 (aH.sz bU) d.length b1::c=g/\b0=h/\sW b0 b1 d
abbrev OG {ρ:Type} (a:List bU) (c:Nat->List bU->((List bU)×Int)->Option ρ) (d:ρ) (e:Qj) (l:Hp) (m:Nat) (n:Nat):Env->List bQ->Nat->Hp->List bQ->Env->Prop:=λf g h i j k=>∃ b0:Nat,∃ b1 b2:List bU,∃ b3:Int,∃ b4:List Qj,(a).drop b0=b1/\b1.length=h/\c b0 b1 (b2,b3)=some d/\Rw i e b4 b2/\l.le i/\.row e 223 (aH.sz bU) b2.length b4::g=j/\(m,.int .u64 (b3))::(n,.int .i64 (b0:Int))::f=k
abbrev CT {α:Type}[aH α] (a:List α):Hp->List bQ->Qj->Prop:=λf g h=>∃ b0:Qj,∃ b1:List Qj,[.row b0 223 (aH.sz bU) a.length b1]=g/\b0=h/\Rw f b0 b1 a
abbrev OH {ρ:Type} (a:Nat) (c:Nat->Nat->((List bU)×Int)->Option ρ) (d:ρ) (e:Qj) (l:Hp) (m:Nat) (n:Nat):Env->List bQ->Nat->Hp->List bQ->Env->Prop:=λf g h i j k=>∃ b0 b1:Nat,∃ b2:List bU,∃ b3:Int,∃ b4:List Qj,b0+b1=a/\b1=h/\c b1 b0 (b2,b3)=some d/\Rw i e b4 b2/\l.le i/\.row e 223 (aH.sz bU) b2.length b4::g=j/\(m,.int .u64 (b3))::(n,.int .i64 (b0:Int))::f=k
abbrev NO {α:Type}[aH α] (a:aC) (c:List α):Hp->List bQ->Qj->Prop:=λf g h=>∃ b0:Qj,∃ b1:List Qj,∃ b2:Qj,[]=g/\.agg [.bool (a.minus),b2].toArray=h/\Rw f b0 b1 c/\aQ f b0 c/\aQ f b2 a.words
abbrev Ay (a:aC):Hp->List bQ->Qj->Prop:=λf g h=>∃ b0:Qj,[]=g/\.agg [.bool (a.minus),b0].toArray=h/\aQ f b0 a.words
abbrev OI:Hp->List bQ->Qj->Prop:=λf g h=>∃ b0:Nat,[.obj b0 (.cells ([.bool (false),.slice none 0 0]:List Qj).toArray 123 (0,0))]=g/\.pointer (some ⟨b0,0,none⟩)=h
abbrev OJ {ρ:Type} (a:Bool->(List bU)->Bool->(List bU)->Option ρ) (c:ρ) (d:Hp) (e:Nat) (l:Nat):Env->List bQ->Hp->List bQ->Env->Prop:=λf g h i j=>∃ b0:Bool,∃ b1:(List bU),∃ b2:Bool,∃ b3:(List bU),∃ b4 b5:Qj,a b0 b1 b2 b3=some c/\aQ h b4 b1/\aQ h b5 b3/\d.le h/\.obj e (.cells ([.bool (b0),b4]:List Qj).toArray 123 (0,0))::.obj l (.cells ([.bool (b2),b5]:List Qj).toArray 123 (0,0))::g=i/\f=j
abbrev CF (d:aA) (a:Hp) (c:List bQ):Hp->List bQ->Qj->Prop:=λf g h=>a.le f/\∃ b0 b1:Qj,c=g/\.agg [.bool (d.N.minus),b0,.bool (d.D.minus),b1].toArray=h/\aQ f b0 d.N.words/\aQ f b1 d.D.words
abbrev sY (a:aA):Hp->List bQ->Qj->Prop:=λf g h=>∃ b0 b1:Qj,[]=g/\.agg [.bool (a.N.minus),b0,.bool (a.D.minus),b1].toArray=h/\aQ f b0 a.N.words/\aQ f b1 a.D.words
abbrev NP {α:Type}[aH α] (a:List α):Hp->List bQ->Qj->Prop:=λf g h=>∃ b0:Qj,∃ b1:List Qj,[.row b0 125 (aH.sz aA) a.length b1]=g/\b0=h/\Rw f b0 b1 a
abbrev Mq {α:Type}[aH α] (d:List α) (e:Nat) (l:Qj) (m:Qj) (n:Qj) (o:Qj) (p:Qj) (q:Qj) (r:Qj) (s:Qj) (a:Hp) (c:List bQ):Hp->List bQ->Qj->Prop:=λf g h=>a.le f/\∃ b0:Qj,∃ b1:List Qj,.row b0 125 (aH.sz aA) d.length b1::.obj e (.cells ([l,m,n,o,p,q,r,s]:List Qj).toArray 197 (0,0))::c=g/\b0=h/\Rw f b0 b1 d
abbrev OK {ρ:Type} (a:List Int) (c:Nat->List Int->List aA->Option ρ) (d:ρ) (e:Qj) (l:Hp) (m:Nat):Env->List bQ->Nat->Hp->List bQ->Env->Prop:=λf g h i j k=>∃ b0:Nat,∃ b1:List Int,∃ b2:List aA,∃ b3:List Qj,(a).drop b0=b1/\b1.length=h/\c b0 b1 b2=some d/\Rw i e b3 b2/\l.le i/\.row e 125 (aH.sz aA) b2.length b3::g=j/\(m,.int .i64 (b0:Int))::f=k
abbrev IY (d:Qi) (a:Hp) (c:List bQ):Hp->List bQ->Qj->Prop:=λf g h=>a=f/\c=g/\.string (d)=h
abbrev Mr (a:Nat):Hp->List bQ->Qj->Prop:=λf g h=>[]=g/\.pointer (some ⟨a,0,none⟩)=h
abbrev OL {ρ:Type} (a:List aP) (c:Nat->List aP->List Qi->Option ρ) (d:ρ) (e:Hp) (l:Nat) (m:Nat):Env->List bQ->Nat->Hp->List bQ->Env->Prop:=λf g h i j k=>∃ b0:Nat,∃ b1:List aP,∃ b2:List Qi,∃ b3:Qj,∃ b4:List Qj,(a).drop b0=b1/\b1.length=h/\c b0 b1 b2=some d/\Rw i b3 b4 b2/\e.le i/\.row b3 9 (aH.sz Qi) b2.length b4::g=j/\(l,b3)::(m,.int .i64 (b0:Int))::f=k
abbrev NQ {ρ:Type} (a:List Qi->Option ρ) (c:ρ) (d:Hp) (e:Nat):Env->List bQ->Hp->List bQ->Env->Prop:=λf g h i j=>∃ b0:List Qi,∃ b1:Qj,∃ b2:List Qj,a b0=some c/\Rw h b1 b2 b0/\d.le h/\.row b1 9 (aH.sz Qi) b0.length b2::g=i/\(e,b1)::f=j
abbrev OM {α:Type}[aH α] (d:cG) (e:List α) (l:Int) (a:Hp) (c:List bQ):Hp->List bQ->Qj->Prop:=λf g h=>a=f/\∃ b0:Qj,∃ b1:List Qj,∃ b2:Qj,∃ b3:List Qj,∃ b4:Qj,∃ b5:List Qj,.row b0 117 (aH.sz Qi) d.eP.length b1::.row b2 117 (aH.sz Qi) d.gK.length b3::.row b4 9 (aH.sz Qi) e.length b5::c=g/\.tuple #[.agg [b0,b2].toArray,b4,.int .i64 (l)]=h/\sW b0 b1 d.eP/\sW b2 b3 d.gK/\sW b4 b5 e
abbrev K3 (a:cG):Hp->List bQ->Qj->Prop:=λf g h=>∃ b0 b1:Qj,∃ b2 b3:List Qj,[]=g/\.agg [b0,b1].toArray=h/\Rw f b0 b2 a.eP/\Rw f b1 b3 a.gK/\aQ f b0 a.eP/\aQ f b1 a.gK
abbrev ON {α:Type}[aH α] {β:Type}[aH β] (a:List α) (c:List β):Hp->List bQ->Qj->Prop:=λf g h=>∃ b0:Qj,∃ b1:List Qj,∃ b2:Qj,∃ b3:List Qj,[.row b0 9 (aH.sz Qi) a.length b1,.row b2 9 (aH.sz Qi) c.length b3]=g/\b2=h/\Rw f b0 b1 a/\Rw f b2 b3 c
abbrev OO:Hp->List bQ->Qj->Prop:=λf g h=>∃ b0:Nat,[.obj b0 (.cells ([.slice none 0 0,.slice none 0 0]:List Qj).toArray 65 (0,0))]=g/\.pointer (some ⟨b0,0,none⟩)=h
abbrev OP (a:cG):Hp->List bQ->Qj->Prop:=λf g h=>∃ b0 b1:Qj,∃ b2:Nat,∃ b3 b4:List Qj,[.obj b2 (.cells ([b0,b1]:List Qj).toArray 65 (0,0))]=g/\.pointer (some ⟨b2,0,none⟩)=h/\Rw f b0 b3 a.eP/\Rw f b1 b4 a.gK/\aQ f b0 a.eP/\aQ f b1 a.gK
abbrev NR (a:aD):Hp->List bQ->Qj->Prop:=λf g h=>∃ b0:Qj,∃ b1:List Qj,∃ b2:Qj,∃ b3:List Qj,∃ b4:Qj,∃ b5:List Qj,∃ b6:Qj,∃ b7:List Qj,∃ b8:Qj,∃ b9:List Qj,∃ b10:Qj,∃ b11:List Qj,[.row b0 9 (aH.sz Qi) a.bF.length b1,.row b2 41 (aH.sz aV) a.aN.length b3,.row b4 120 (aH.sz aP) a.aI.length b5,.row b6 152 (aH.sz bD) a.dB.length b7,.row b8 55 (aH.sz aG) a.bC.length b9,.row b10 156 (aH.sz bW) a.bS.length b11]=g/\.agg [b0,b2,b4,b6,b8,b10].toArray=h/\Rw f b0 b1 a.bF/\Rw f b2 b3 a.aN/\Rw f b4 b5 a.aI/\Rw f b6 b7 a.dB/\Rw f b8 b9 a.bC/\Rw f b10 b11 a.bS
abbrev NS {α:Type}[aH α] {β:Type}[aH β] (a:Qj) (c:List α) (d:List Qj) (e:List β) (l:Int) (m:cG):Hp->List bQ->Qj->Prop:=λf g h=>∃ b0:Qj,∃ b1:List Qj,∃ b2:Qj,∃ b3:List Qj,∃ b4:Qj,∃ b5:List Qj,[.row a 9 (aH.sz Qi) c.length d,.row b4 9 (aH.sz Qi) e.length b5]=g/\.tuple #[.agg [b0,b2].toArray,b4,.int .i64 (l)]=h/\Rw f b0 b1 m.eP/\Rw f b2 b3 m.gK/\Rw f b4 b5 e/\aQ f b0 m.eP/\aQ f b2 m.gK
abbrev NT {α:Type}[aH α] {β:Type}[aH β] (a:Qj) (c:List α) (d:List Qj) (e:List β) (l:Int) (m:cG):Hp->List bQ->Qj->Prop:=λf g h=>∃ b0 b1 b2:Qj,∃ b3 b4 b5:List Qj,[.row a 9 (aH.sz Qi) c.length d,.row b2 9 (aH.sz Qi) e.length b3]=g/\.tuple #[.agg [b0,b1].toArray,b2,.int .i64 (l)]=h/\Rw f b0 b4 m.eP/\Rw f b1 b5 m.gK/\Rw f b2 b3 e/\aQ f b0 m.eP/\aQ f b1 m.gK
abbrev NU {α:Type}[aH α] {β:Type}[aH β] (a:Qj) (c:List α) (d:List Qj) (e:List β):Hp->List bQ->Qj->Prop:=λf g h=>∃ b0:Qj,∃ b1:List Qj,[.row a 9 (aH.sz Qi) c.length d,.row b0 9 (aH.sz Qi) e.length b1]=g/\b0=h/\Rw f b0 b1 e
abbrev NV (d:Nat) (e:aE) (l:Bool) (a:Hp) (c:List bQ):Hp->List bQ->Qj->Prop:=λf g h=>a=f/\.obj d (.cells ([.int .i64 (e.Time),.string (e.Kind),.string (e.Name),.int .i64 (e.Value)]:List Qj).toArray 45 (0,0))::c=g/\.bool (l)=h
abbrev NW (d:Nat) (e:aE) (l:Int) (a:Hp) (c:List bQ):Hp->List bQ->Qj->Prop:=λf g h=>a=f/\.obj d (.cells ([.int .i64 (e.Time),.string (e.Kind),.string (e.Name),.int .i64 (e.Value)]:List Qj).toArray 45 (0,0))::c=g/\.int .i64 (l)=h
abbrev OQ (d:Nat) (e:Nat) (l:Nat) (m:dC) (n:aO) (o:Nat) (p:cU) (q:Int) (a:Hp) (c:List bQ):Hp->List bQ->Qj->Prop:=λf g h=>a.le f/\∃ b0 b1:Qj,∃ b2:List Qj,∃ b3 b4:Qj,∃ b5:List Qj,∃ b6:Qj,∃ b7:List Qj,∃ b8 b9:Qj,∃ b10:List Qj,dQ (aJ d e l m n)::.obj o (.cells ([b0,b1,b3,b4,b6,b8,b9]:List Qj).toArray 103 (0,0))::.row b1 41 (aH.sz aV) p.n.aN.length b2::.row b4 152 (aH.sz bD) p.n.dB.length b5::.row b6 55 (aH.sz aG) p.n.bC.length b7::.row b9 9 (aH.sz Qi) p.on.length b10::c=g/\.int .i64 (q)=h/\aQ f b0 p.n.bF/\Rw f b1 b2 p.n.aN/\aQ f b3 p.n.aI/\Rw f b4 b5 p.n.dB/\Rw f b6 b7 p.n.bC/\aQ f b8 p.n.bS/\Rw f b9 b10 p.on
abbrev OR {α:Type}[aH α] (a:List α):Hp->List bQ->Qj->Prop:=λf g h=>∃ b0:Qj,∃ b1:List Qj,[.row b0 45 (aH.sz aE) a.length b1]=g/\b0=h/\Rw f b0 b1 a
abbrev NX {α:Type}[aH α] (d:List α) (e:Nat) (l:Qj) (a:Hp) (c:List bQ):Hp->List bQ->Qj->Prop:=λf g h=>a=f/\∃ b0:Qj,∃ b1:List Qj,.row b0 9 (aH.sz Qi) d.length b1::.obj e (.cells ([l]:List Qj).toArray 22 (0,0))::c=g/\b0=h/\sW b0 b1 d
abbrev Ms {ρ:Type} (a:Nat->((List Qi)×Int×Int)->Option ρ) (c:ρ) (d:Qj) (e:Hp) (l:Nat) (m:Nat):Env->List bQ->Nat->Hp->List bQ->Env->Prop:=λf g h i j k=>∃ b0:List Qi,∃ b1 b2:Int,∃ b3:List Qj,a h (b0,b1,b2)=some c/\Rw i d b3 b0/\e.le i/\.row d 9 (aH.sz Qi) b0.length b3::g=j/\(l,.int .i64 (b1))::(m,.int .i64 (b2))::f=k
abbrev Mu {ρ:Type} (a:List Qi->Int->Option ρ) (c:ρ) (d:Qj) (e:Hp) (l:Nat):Env->List bQ->Hp->List bQ->Env->Prop:=λf g h i j=>∃ b0:List Qi,∃ b1:Int,∃ b2:List Qj,a b0 b1=some c/\Rw h d b2 b0/\e=h/\.row d 9 (aH.sz Qi) b0.length b2::g=i/\(l,.int .i64 (b1))::f=j
abbrev Mv {α:Type}[aH α] (d:List α) (e:Nat) (l:Qj) (m:Nat) (n:Qj) (o:Qj) (p:Qj) (q:Qj) (r:Qj) (s:Qj) (t:Bool) (a:Hp) (c:List bQ):Hp->List bQ->Qj->Prop:=λf g h=>a=f/\∃ b0:Qj,∃ b1:List Qj,.row b0 9 (aH.sz Qi) d.length b1::.obj e (.cells ([l]:List Qj).toArray 22 (0,0))::.obj m (.cells ([n,o,p,q,r,s]:List Qj).toArray 29 (0,0))::c=g/\.tuple #[b0,.bool (t)]=h/\sW b0 b1 d
abbrev Pu {α:Type}[aH α] (d:List α) (e:Int) (a:Hp) (c:List bQ):Hp->List bQ->Qj->Prop:=λf g h=>a=f/\∃ b0:Qj,∃ b1:List Qj,.row b0 9 (aH.sz Qi) d.length b1::c=g/\.tuple #[b0,.int .i64 (e)]=h/\sW b0 b1 d
abbrev OS {ρ:Type} (a:List Qi) (c:Nat->List Qi->List aE->Option ρ) (d:ρ) (e:Hp) (l:Nat) (m:Nat):Env->List bQ->Nat->Hp->List bQ->Env->Prop:=λf g h i j k=>∃ b0:Nat,∃ b1:List Qi,∃ b2:List aE,∃ b3:Qj,∃ b4:List Qj,(a).drop b0=b1/\b1.length=h/\c b0 b1 b2=some d/\Rw i b3 b4 b2/\e.le i/\.row b3 45 (aH.sz aE) b2.length b4::.obj l (.cells ([b3]:List Qj).toArray 158 (0,0))::g=j/\(m,.int .i64 (b0:Int))::f=k
abbrev OT {α:Type}[aH α] (a:Qj) (c:cU) (d:List Qj) (e:Qj) (l:List Qj) (m:Qj) (n:List Qj) (o:Qj) (p:List Qj) (q:List α):Hp->List bQ->Qj->Prop:=λf g h=>∃ b0:Qj,∃ b1:List Qj,[.row a 41 (aH.sz aV) c.n.aN.length d,.row e 152 (aH.sz bD) c.n.dB.length l,.row m 55 (aH.sz aG) c.n.bC.length n,.row o 9 (aH.sz Qi) c.on.length p,.row b0 9 (aH.sz Qi) q.length b1]=g/\b0=h/\Rw f b0 b1 q
abbrev Pv {ρ:Type} (a:(List aP)->List aA->List Int->List Bool->Int->Option ρ) (c:ρ) (d:Hp) (e:Nat):Env->List bQ->Hp->List bQ->Env->Prop:=λf g h i j=>∃ b0:(List aP),∃ b1:List aA,∃ b2:List Int,∃ b3:List Bool,∃ b4:Int,∃ b5 b6:Qj,∃ b7:List Qj,∃ b8:Qj,∃ b9:List Qj,∃ b10:Qj,∃ b11:List Qj,a b0 b1 b2 b3 b4=some c/\aQ h b5 b0/\Rw h b6 b7 b1/\Rw h b8 b9 b2/\Rw h b10 b11 b3/\d.le h/\.row b6 125 (aH.sz aA) b1.length b7::.row b8 3 (aH.sz Int) b2.length b9::.row b10 4 (aH.sz Bool) b3.length b11::.obj e (.cells ([b5,b6,b8,b10,.int .i64 (b4)]:List Qj).toArray 115 (0,0))::g=i/\f=j
abbrev Px (a:Hp) (c:Nat):Env->List bQ->Hp->List bQ->Env->Prop:=λf g h i j=>a=h/\g=i/\(c,.bool (true))::f=j
abbrev OU {ρ:Type} (a:List aE) (c:Nat->List aE->aO->Option ρ) (d:ρ) (e:Hp) (l:Nat) (m:Nat) (n:Nat) (o:Nat):Env->List bQ->Nat->Hp->List bQ->Env->Prop:=λf g h i j k=>∃ b0:Nat,∃ b1:List aE,∃ b2:aO,∃ b3:dC,(a).drop b0=b1/\b1.length=h/\c b0 b1 b2=some d/\cH i b3 b2/\e.le i/\dQ (aJ l m n b3 b2)::g=j/\(o,.int .i64 (b0:Int))::f=k
abbrev NY (a:Nat) (c:Nat) (d:Nat) (e:aO) (l:Int):Hp->List bQ->Qj->Prop:=λf g h=>∃ b0:dC,[dQ (aJ a c d b0 e)]=g/\.int .i64 (l)=h/\cH f b0 e
abbrev Cq (B:Nat) (w0:World) (n:FuncId) (a:List Qj) (H:Hp) (M:List bQ) (F:Hp->List bQ->Hp->List bQ->Qj->Prop):Prop:=∀ ⦃w⦄,St B w0 H M w->Calls Proofs.Tryz.prog n a.toArray w (ur B w0 (F H M))
theorem f_ {n:FuncId}{fn:Func}{c:Code}{vs:List Qj}{N B:Nat}{w0:World}{H:Hp}{M:List bQ}{F:Hp->List bQ->Hp->List bQ->Qj->Prop} (hf:Proofs.Tryz.prog.funcs[n]? = some fn)
  (k:C ⟨Proofs.Tryz.prog,N,B,w0⟩ c (bodyPost Proofs.Tryz.prog fn (ur B w0 (F H M))) H M (C6 0 vs)) (hb:fn.body=some c:=by rfl) (hN:fn.ntmps=N:=by rfl) (hle:Nat.ble vs.length N=true:=by rfl):Cq B w0 n vs H M F:=λ_ ht=>enter hf hb hN hle ht k
variable {B:Nat}{w0 w:World}[vo B w0] {H:Hp}{M:List bQ}
theorem xg {a0:aD}{v0 v1 v2 v3 v4 v5:Qj}{r:aD} (hm:pG a0=some r) (h0:aQ H v0 a0.bF) (h1:aQ H v1 a0.aN) (h2:aQ H v2 a0.aI) (h3:aQ H v3 a0.dB) (h4:aQ H v4 a0.bC) (h5:aQ H v5 a0.bS):
  Cq B w0 44 [.agg [v0,v1,v2,v3,v4,v5].toArray] H M (λH M H' M' v=>H.le H'/\∃ qv0 qv1 qv2 qv3 qv4 qv5:Qj,M=M'/\.agg [qv0,qv1,qv2,qv3,qv4,qv5].toArray=v/\aQ H' qv0 r.bF/\aQ H' qv1 r.aN/\aQ H' qv2 r.aI/\aQ H' qv3 r.dB/\aQ H' qv4 r.bC/\aQ H' qv5 r.bS):=by
 unfold pG at hm;refine f_ func44 ?_;refine gs ?_;refine bx (λa5=>?_);refine al (λa6=>?_);refine gs ?_;refine Bz G G G G ?_;obtain ⟨a7,hm⟩:=aK hm;refine rQ (α:=aG) (l:=0) (h:=(min (a0.bC.length:Int) 4:Int).toNat) (xs:=a0.bC) G G TA sizeOf55 G h4 (by omega) (by omega) (.inl G) (λcap hcap=>by rw [Qu G]; exact (.inl ⟨G,G⟩)) (λm hmm=>(.inr ⟨_,_,_,G,G,by omega,by omega,G⟩)) (.inl ⟨G,G⟩) ?_
 intro a1 a2 a8;refine go ?_;refine wt 1 ?_;refine gs ?_;refine Bz G G G G ?_;obtain ⟨a9,hm⟩:=aK hm;refine rQ (α:=bD) (l:=0) (h:=(min (a0.dB.length:Int) 4:Int).toNat) (xs:=a0.dB) G G Vn sizeOf152 G h3 (by omega) (by omega) (.inl G) (λcap hcap=>by rw [Qu G]; exact (.inl ⟨G,G⟩)) (λm hmm=>(.inr ⟨_,_,_,G,G,by omega,by omega,G⟩)) (.inl ⟨G,G⟩) ?_
 intro a3 a4 aa;refine go ?_;refine wt 0 ?_;refine gs ?_;refine wt 1 ?_;refine go ?_;obtain rfl:=Qp hm;exact kR lE G (fZ.agg G Tz Tj (.head _) G) (.cons _ (.cons _ (.refl _))) (.refl _) ⟨lE,v0,v1,v2,a3,a1,v5,G,G,h0,h1,h2,a4,a2,h5⟩
theorem qK {a0:aX}{v0 v1 v2 v3 v4 v5 v6:Qj}{r:aX} (hm:eX a0=some r) (h0:aQ H v0 a0.bN.bF) (h1:aQ H v1 a0.bN.aN) (h2:aQ H v2 a0.bN.aI) (h3:aQ H v3 a0.bN.dB) (h4:aQ H v4 a0.bN.bC) (h5:aQ H v5 a0.bN.bS) (h6:aQ H v6 a0.nf):
  Cq B w0 9 [.agg [v0,v1,v2,v3,v4,v5,v6].toArray] H M (λH M H' M' v=>H.le H'/\∃ qv0 qv1 qv2 qv3 qv4 qv5 qv6:Qj,M=M'/\.agg [qv0,qv1,qv2,qv3,qv4,qv5,qv6].toArray=v/\aQ H' qv0 r.bN.bF/\aQ H' qv1 r.bN.aN/\aQ H' qv2 r.bN.aI/\aQ H' qv3 r.bN.dB/\aQ H' qv4 r.bN.bC/\aQ H' qv5 r.bN.bS/\aQ H' qv6 r.nf):=by
 unfold eX at hm;refine f_ func9 ?_;refine gs ?_;refine bx (λah=>?_);refine al (λai=>?_);refine gs ?_;refine iW (cs:=[v0,v1,v2,v3,v4,v5]) G G Tz Tj G (qB (.tail _ (.head _)) G) G ?_;obtain ⟨a1,a2,hm⟩:=aU hm;refine ca @xg a2 ?_;rintro _ aj _ ⟨a3,a4,a5,a6,a7,ak,a8,rfl,rfl,a9,aa,ab,ac,ad,ae⟩;refine go ?_;refine wt 1 ?_;refine gs ?_;refine Bz G G G G ?_;obtain ⟨am,hm⟩:=aK hm;refine rQ (α:=aG) (l:=0) (h:=(min (a1.bC.length:Int) 3:Int).toNat) (xs:=a1.bC) G G TA sizeOf55 G ad (by omega) (by omega) (.inl G) (λcap hcap=>by rw [Qu G]; exact (.inl ⟨G,G⟩)) (λm hmm=>(.inr ⟨_,_,_,G,G,by omega,by omega,G⟩)) (.inl ⟨G,G⟩) ?_
 intro af ag an;refine go ?_;refine wt 0 ?_;refine gs ?_;refine wt 1 ?_;refine go ?_;obtain rfl:=Qp hm;exact kR lE G (fZ.agg G isAgg32 sizeOf32 (.head _) G) (.cons _ (.cons _ (.refl _))) (.refl _) ⟨a3,a4,a5,a6,a7,af,a8,v6,G,G,a9,aa,ab,ac,ag,ae,h6.mm⟩
theorem o9 {a3:Qi}{r:Bool} (hm:bK a3=some r):
  Cq B w0 96 [.string (a3)] H M (Ex r):=by
 unfold bK at hm;refine f_ func96 ?_;refine g2 ?_;refine gs ?_;obtain ⟨aa,hm⟩:=aK hm;refine vx G G Q0 Uc U2 G aa ?_;intro ak ab am ac;refine go ?_;obtain ⟨a6,ad,ae,hm⟩:=cN hm;refine cl [(0,_),(6,_),(7,_)] [] 0 [] 0 (Pt (kB a3) a6 r ab 8) _ G ⟨0,_,G,G,hm,lE,G,G⟩ ?_;rintro _ a7 _ _ ⟨a0,a4,a8,rfl,hm,an,rfl,rfl⟩;refine g2 ?_;refine bE G (λa5=>?_) (λa5=>?_);obtain ⟨a1,af,rfl,ag,ah⟩:=fL a8 a5;have hm:=(ad _ _ _ _).symm.trans hm;generalize ai:a6 (a0+1) af=ao at hm;unfold n_ at hm;refine g2 ?_;refine cj [(0,_),(6,_),(7,_),(8,_)] [] 0 (xp a7 31 (!(((decide (65<=a1.n)) && (decide (a1.n<=90))) || (((decide (0<(a0:Int))) && (decide (48<=a1.n))) && (decide (a1.n<=57)))))) ?_ (λa2=>?_);rintro _ _ _ ⟨rfl,rfl,rfl⟩;refine cd hm G (λaj hm=>?_) (λaj hm=>?_);refine gs ?_;exact ef;refine gt ?_
 refine gj ?_;exact kj (eb ah ai) (kK (b_ ag ac.mm.cQ));refine go ?_;cases ap:(decide (65<=a1.n));refine go ?_;cases aq:(decide (0<(a0:Int)));refine gj ?_;exact kj (a2 _ _ _ pk) kS;refine go ?_;cases ar:(decide (48<=a1.n));refine gj ?_;exact kj (a2 _ _ _ pk) kS;refine gj ?_;exact kj (a2 _ _ _ pk) kS;refine go ?_;cases au:(decide (a1.n<=90));refine go ?_;cases av:(decide (0<(a0:Int)));refine gj ?_;exact kj (a2 _ _ _ pk) kS;refine go ?_;cases aw:(decide (48<=a1.n));refine gj ?_;exact kj (a2 _ _ _ pk) kS;refine gj ?_;exact kj (a2 _ _ _ pk) kS;refine gj ?_;exact kj (a2 _ _ _ pk) kS;obtain rfl:=fK a8 a5;have hm:=(ae _ _).symm.trans hm;refine go ?_;refine cj [] [] 0 (xp a7 2 ((decide (1<=(a3.size:Int))) && (decide ((a3.size:Int)<=8)))) ?_ (λa9=>?_);rintro _ _ _ ⟨rfl,rfl,rfl⟩;refine go ?_;exact ef;refine go ?_;refine kP G G Q0 G (go ?_);cases ax:(decide (1<=(a3.size:Int)))
 refine gj ?_;exact kj (a9 _ _ _ pk) kS;refine go ?_;refine kP G G Q0 G (gj ?_);exact kj (a9 _ _ _ pk) kS
theorem cD {a2:(List Qi)}{a4:Qi}{v0:Qj}{r:Int} (hm:bG a2 a4=some r) (h0:aQ H v0 a2):
  Cq B w0 72 [v0,.string (a4)] H M (yV r):=by
 unfold bG at hm;refine f_ func72 ?_;refine g2 ?_;refine gs ?_;obtain ⟨a5,a7,a8,hm⟩:=jE hm;refine cl [(0,_),(1,_),(7,_)] [] 0 [] 0 (FF (((a2.length:Int):Int).toNat) a5 r H 8) _ G ⟨0,_,QL _,G,hm,lE,G,G⟩ ?_;rintro _ ae _ _ ⟨a0,a1,a6,rfl,hm,af,rfl,rfl⟩;refine g2 ?_;refine bE G (λa3=>?_) (λa3=>?_);obtain ⟨a9,rfl,aa,ab⟩:=lM a6 a3;have hm:=(a7 _ _ _).symm.trans hm;generalize ac:a5 a9 (a0+1)=ag at hm;unfold l_ at hm;refine g2 ?_;refine gs ?_;obtain ⟨ah,ai,aj,hm⟩:=aB hm;refine go ?_;refine cd hm G (λad hm=>?_) (λad hm=>?_);refine gs ?_;exact ef;refine gt ?_;refine gj ?_;exact kj (eb aa ac) (kK (eS ab (eU (ly (h0).cQ))));obtain rfl:=lL a6 a3;have hm:=(a8 _ _).symm.trans hm;refine gs ?_;exact ef
theorem cK {a0:(List Qi)}{a1:Qi}{v0:Qj}{r:Bool} (hm:bO a0 a1=some r) (h0:aQ H v0 a0):
  Cq B w0 30 [v0,.string (a1)] H M (Ex r):=by
 unfold bO at hm;refine f_ func30 ?_;refine g2 ?_;obtain ⟨a3,a2,hm⟩:=aU hm;refine cz @cD a2 ?_;refine go ?_;exact ef
theorem gC {a3:aW}{name:Qi}{nodes:(List Qi)}{b0:Nat}{es0:Array MapEntry}{c0:Nat}{v0 v1:Qj}{r:Int×aW} (hm:cI a3 name nodes=some r) (h0:sD es0 c0 a3.seen) (h1:aQ H v0 a3.nodes) (h2:aQ H v1 nodes):
  Cq B w0 105 [.agg [.map (some b0),v0].toArray,.string (name),v1] H (.obj b0 (.map es0 c0)::M) (λH _ H' M' v=>H.le H'/\∃ qes0:Array MapEntry,∃ qc0:Nat,∃ qv0:Qj,.obj b0 (.map qes0 qc0)::M=M'/\.int .i64 (r.1)=v/\sD qes0 qc0 r.2.seen/\aQ H' qv0 r.2.nodes):=by
 unfold cI at hm;refine f_ func105 ?_;refine gs ?_;refine bx (λaj=>?_);refine g2 ?_;obtain ⟨ak,a7,hm⟩:=aU hm;refine cz @o9 a7 ?_;refine go ?_;refine cd hm G (λa8 hm=>?_) (λa8 hm=>?_);refine gs ?_;refine Ek [1] 1 ?_;exact en;refine gs ?_;refine Bw (z:=false) (k:=name) (.tail _ (.head _)) h0 G G runUnderlying165 Q0 zeroValue4 G G G G (go ?_);refine cd hm G (λa9 hm=>?_) (λa9 hm=>?_);refine gs ?_;refine Ek [1] 1 ?_;exact en;refine gs ?_;refine Wp [1] ?_;refine xt (k:=name) (v:=true) h0 G runUnderlying165 Q0 G G G G G ?_;intro am an ao;refine g2 ?_;obtain ⟨a5,aa,ab,hm⟩:=cN hm;refine cl [(2,_),(3,_),(21,_),(22,_)] [] 0 [] 0 (Pw nodes a5 r H 23) _ G ⟨0,_,G,G,hm,lE,G,G⟩ ?_;rintro _ ap _ _ ⟨a0,a1,a6,rfl,hm,aq,rfl,rfl⟩;refine g2 ?_;refine bE G (λa4=>?_) (λa4=>?_);obtain ⟨ar,ac,rfl,ad,ae⟩:=fL a6 a4
 have hm:=(aa _ _ _ _).symm.trans hm;generalize af:a5 (a0+1) ac=au at hm;unfold iS at hm;refine g2 ?_;refine gs ?_;obtain ⟨av,ag,hm⟩:=aU hm;refine cz @cK ag ?_;refine go ?_;refine cd hm G (λah hm=>?_) (λah hm=>?_);refine gs ?_;refine Ek [0] 1 ?_;exact en;refine gt ?_;refine gj ?_;exact kj (eb ae af) (kK (b_ ad h2.mm.cQ));obtain rfl:=fK a6 a4;have hm:=(ab _ _).symm.trans hm;refine g2 ?_;cases a2:(decide ((nodes.length:Int)=2));have hm:=dU a2 hm;refine oy fm 10 [ph _,ph _,ph (.bool (false)),ph _,ph _,ph _,ph _,ph _,ph _,ph _] ⟨om,om,ym a2,om,om,om,om,om,om,om,Qk⟩ ?_;intro aw ax;refine dz ?_;refine go ?_;refine cF G ?_;refine gs ?_;refine Ek [0] 1 ?_;exact en;have hm:=dV a2 hm;obtain ⟨ay,az,b1,hm⟩:=aB hm;obtain ⟨b2,b3,b4,hm⟩:=aB hm;refine oy fm 10 [ph _,ph _,ph (.bool (true)),ph _,ph _,ph _,ph _,ph _,ph _,ph _] ⟨om,om,ym a2,om,om,om,om,om,om,om,Qk⟩ ?_
 intro b5 b6;refine dz ?_;refine go ?_;refine cd hm G (λai hm=>?_) (λai hm=>?_);refine gs ?_;refine Ek [0] 1 ?_;exact en;refine gs ?_;refine Ek [0] 1 ?_;exact en
theorem lv {a0 a1 a2:Int}{r:Bool} (hm:bM a0 a1 a2=r):
  Cq B w0 138 [.int .i64 (a0),.int .i64 (a1),.int .i64 (a2)] H M (Ex r):=by
 unfold bM at hm;refine f_ func138 ?_;refine gs ?_;refine cj [] [] 0 (xp H 6 ((decide (a0<a1)) || (decide (a2<a0)))) ?_ (λa3=>?_);rintro _ _ _ ⟨rfl,rfl,rfl⟩;refine go ?_;obtain rfl:=hm;refine Ew H ?_;exact l7 G G ⟨G,G,G⟩;refine go ?_;cases a4:(decide (a0<a1));refine gj ?_;exact kj (a3 _ _ _ pk) kS;refine gj ?_;exact kj (a3 _ _ _ pk) kS
theorem yj {a0:aP}{r:Int} (hm:jI a0=r):
  Cq B w0 106 [.agg [.string (a0.Name),.string (a0.pI),.string (a0.To),.int .i64 (a0.X),.int .i64 (a0.AZ),.int .i64 (a0.Shift),.int .i64 (a0.sC),.int .i64 (a0.vZ),.int .i64 (a0.Bh)].toArray] H M (yV r):=by
 unfold jI at hm;refine f_ func106 ?_;refine gs ?_;refine bx (λa3=>?_);refine gs ?_;refine cj [] [] 1 (xp H 32 ((((((bM a0.X 1 10000) || (bM a0.AZ 500 1500)) || (bM a0.Shift (-1000) 1000)) || (bM a0.sC 0 100000)) || (bM a0.vZ a0.sC 100000)) || (bM a0.Bh 0 200000))) ?_ (λa1=>?_);rintro _ _ _ ⟨rfl,rfl,rfl⟩;refine cd hm G (λa2 hm=>?_) (λa2 hm=>?_);refine gs ?_;obtain rfl:=hm;refine Ew H ?_;exact l7 G G ⟨G,G,G⟩;refine gs ?_;obtain rfl:=hm;refine Ew H ?_;exact l7 G G ⟨G,G,G⟩;refine go ?_;refine cz @lv (G:bM a0.X 1 10000=_) ?_;refine go ?_;cases a4:((bM a0.X 1 10000));refine go ?_;refine cz @lv (G:bM a0.AZ 500 1500=_) ?_;refine go ?_;cases a5:((bM a0.AZ 500 1500));refine go ?_;refine cz @lv (G:bM a0.Shift (-1000) 1000=_) ?_;refine go ?_;cases a6:((bM a0.Shift (-1000) 1000));refine go ?_;refine cz @lv (G:bM a0.sC 0 100000=_) ?_;refine go ?_;cases a7:((bM a0.sC 0 100000))
 refine go ?_;refine cz @lv (G:bM a0.vZ a0.sC 100000=_) ?_;refine go ?_;cases a8:((bM a0.vZ a0.sC 100000));refine go ?_;refine cz @lv (G:bM a0.Bh 0 200000=_) ?_;refine gj ?_;exact kx [] 1 (a1 _ _ _ pk) G kS;refine gj ?_;exact kx [] 1 (a1 _ _ _ pk) G kS;refine gj ?_;exact kx [] 1 (a1 _ _ _ pk) G kS;refine gj ?_;exact kx [] 1 (a1 _ _ _ pk) G kS;refine gj ?_;exact kx [] 1 (a1 _ _ _ pk) G kS;refine gj ?_;exact kx [] 1 (a1 _ _ _ pk) G kS
theorem kC {a0:Int}{r:Bool} (hm:aY a0=r):
  Cq B w0 139 [.int .i64 (a0)] H M (Ex r):=by
 unfold aY at hm;refine f_ func139 ?_;refine g2 ?_;refine cz @lv (G:bM a0 0 100000=_) ?_;refine go ?_;obtain rfl:=hm;refine Ew H ?_;exact l7 G G ⟨G,G,G⟩
theorem vq {aa:aW}{a2:aD}{b0:Nat}{es0:Array MapEntry}{c0:Nat}{v0 v1 v2 v3 v4 v5 v6:Qj}{r:Int×aW} (hm:gS aa a2=some r) (h0:sD es0 c0 aa.seen) (h1:aQ H v0 aa.nodes) (h2:aQ H v1 a2.bF) (h3:aQ H v2 a2.aN) (h4:aQ H v3 a2.aI) (h5:aQ H v4 a2.dB) (h6:aQ H v5 a2.bC) (h7:aQ H v6 a2.bS):
  Cq B w0 107 [.agg [.map (some b0),v0].toArray,.agg [v1,v2,v3,v4,v5,v6].toArray] H (.obj b0 (.map es0 c0)::M) (λH _ H' M' v=>H.le H'/\∃ qes0:Array MapEntry,∃ qc0:Nat,∃ qv0:Qj,.obj b0 (.map qes0 qc0)::M=M'/\.int .i64 (r.1)=v/\sD qes0 qc0 r.2.seen/\aQ H' qv0 r.2.nodes):=by
 unfold gS at hm;refine f_ func107 ?_;refine gs ?_;refine bx (λc2=>?_);refine bx (λc3=>?_);refine g2 ?_;obtain ⟨aq,ay,az,hm⟩:=cN hm;refine cl [(2,_),(3,_),(15,_),(16,_)] [0,0] 1 [2] 0 (λu m n H' M' L'=>∃ (a3:Nat) (a7:List bD),∃ ab:(List (Qi×Bool)),∃ ac:Array MapEntry,∃ ad:Nat,(a2.dB).drop a3=a7/\a7.length=n/\aq a3 a7 ab=some r/\sD ac ad ab/\H.le H'/\.obj b0 (.map ac ad)::m=M'/\(17,.int .i64 ((a3:Int)))::u=L') _ G ⟨0,_,_,_,_,G,G,hm,h0,lE,G,G⟩ ?_;rintro _ b1 _ _ ⟨a3,a7,ab,ac,ad,ar,rfl,hm,b2,c4,rfl,rfl⟩;refine g2 ?_;refine bE G (λae=>?_) (λae=>?_);obtain ⟨a0,b3,rfl,b4,b5⟩:=fL ar ae;have hm:=(ay _ _ _ _).symm.trans hm;generalize b6:aq (a3+1) b3=c5 at hm;unfold jU at hm;refine g2 ?_;refine al (λc6=>?_);refine wt 0 ?_;refine g2 ?_;refine fO (α:=Qi) (css:=[[.string (a0.Node)]]) (zs:=[.string (⟨#[]⟩)]) (out:=[.string (a0.Node)]) (ys:=[a0.Node]) G G G ⟨G,Qk⟩ Rl Si G Sn (by kernel_rfl) G G G G ⟨[.string (a0.Node)],[],G,G,G⟩ G ?_
 intro c7 c8 b7;refine cE (b7).rd G (λc9 cb cc=>?_);refine Wp [1] ?_;obtain ⟨ce,b8,hm⟩:=aU hm;refine ca @gC b8 ?_;rintro _ b9 _ ⟨cf,cg,ch,ci,rfl,rfl,ck,cm⟩;refine gs ?_;refine cd hm G (λba hm=>?_) (λba hm=>?_);refine gs ?_;refine Ek [0] 3 ?_;exact en;refine go ?_;refine cj [(2,_),(3,_),(15,_),(16,_),(17,_)] [0,1,1] 1 (xp b9 47 (((!(aY a0.jC)) || (bM a0.qH a0.jC 100000)) || (!(aY a0.AL)))) ?_ (λaf=>?_);rintro _ _ _ ⟨rfl,rfl,rfl⟩;refine cd hm G (λbb hm=>?_) (λbb hm=>?_);refine gs ?_;refine Ek [0] 2 ?_;exact en;refine gt ?_;refine gj ?_;exact kj (eb b5 b6) (kK (b_ b4 h5.mm.cQ));refine go ?_;refine cz @kC (G:aY a0.jC=_) ?_;refine go ?_;cases cn:(aY a0.jC);refine gj ?_;exact kx [0,1,1] 1 (af _ _ _ pk) G kS;refine go ?_;refine cz @lv (G:bM a0.qH a0.jC 100000=_) ?_;refine go ?_;cases co:((bM a0.qH a0.jC 100000));refine go ?_;refine cz @kC (G:aY a0.AL=_) ?_
 refine gj ?_;exact kx [0,1,1] 1 (af _ _ _ pk) G kS;refine gj ?_;exact kx [0,1,1] 1 (af _ _ _ pk) G kS;obtain rfl:=fK ar ae;have hm:=(az _ _).symm.trans hm;refine g2 ?_;obtain ⟨au,bc,bd,hm⟩:=cN hm;refine cl [(2,_),(3,_),(50,_),(51,_)] [1,1] 1 [] 0 (λu m n H' M' L'=>∃ (a4:Nat) (a8:List aG),∃ ag:(List (Qi×Bool)),∃ ah:Array MapEntry,∃ ai:Nat,(a2.bC).drop a4=a8/\a8.length=n/\au a4 a8 ag=some r/\sD ah ai ag/\b1.le H'/\.obj b0 (.map ah ai)::m=M'/\(52,.int .i64 ((a4:Int)))::u=L') _ G ⟨0,_,_,_,_,G,G,hm,b2,lE,G,G⟩ ?_;rintro _ be _ _ ⟨a4,a8,ag,ah,ai,av,rfl,hm,bf,cp,rfl,rfl⟩;refine g2 ?_;refine bE G (λaj=>?_) (λaj=>?_);obtain ⟨a5,bg,rfl,bh,bi⟩:=fL av aj;have hm:=(bc _ _ _ _).symm.trans hm;generalize bj:au (a4+1) bg=cq at hm;unfold jV at hm;refine g2 ?_;refine al (λcr=>?_);refine wt 0 ?_
 refine g2 ?_;refine fO (α:=Qi) (css:=[[.string (a5.Node)]]) (zs:=[.string (⟨#[]⟩)]) (out:=[.string (a5.Node)]) (ys:=[a5.Node]) G G G ⟨G,Qk⟩ Rl Si G Sn (by kernel_rfl) G G G G ⟨[.string (a5.Node)],[],G,G,G⟩ G ?_
 intro cs ct bk;refine cE (bk).rd G (λcu cv cw=>?_);refine Wp [1] ?_;obtain ⟨cx,bl,hm⟩:=aU hm;refine ca @gC bl ?_;rintro _ d0 _ ⟨d1,d2,d3,d4,rfl,rfl,d5,d6⟩;refine gs ?_;refine cd hm G (λbm hm=>?_) (λbm hm=>?_);refine gs ?_;refine Ek [0] 3 ?_;exact en;refine gs ?_;refine cz @kC (G:aY a5.dA=_) ?_;refine go ?_;refine cd hm G (λbn hm=>?_) (λbn hm=>?_);refine gs ?_;refine Ek [0] 3 ?_;exact en;refine gt ?_;refine gj ?_;exact kx [0,1,1] 1 (eb bi bj) G (kK (b_ bh h6.mm.cQ));obtain rfl:=fK av aj;have hm:=(bd _ _).symm.trans hm;refine g2 ?_;obtain ⟨aw,bo,bp,hm⟩:=cN hm;refine cl [(2,_),(72,_),(73,_)] [2] 2 [0,1] 1 (λu m n H' M' L'=>∃ (a6:Nat) (a9:List bW),∃ ak:(List (Qi×Bool)),∃ am:Array MapEntry,∃ an:Nat,(a2.bS).drop a6=a9/\a9.length=n/\aw a6 a9 ak=some r/\sD am an ak/\be.le H'/\.obj b0 (.map am an)::m=M'/\(74,.int .i64 ((a6:Int)))::u=L') _ G ⟨0,_,_,_,_,G,G,hm,bf,lE,G,G⟩ ?_
 rintro _ d7 _ _ ⟨a6,a9,ak,am,an,ax,rfl,hm,d8,d9,rfl,rfl⟩;refine g2 ?_;refine bE G (λao=>?_) (λao=>?_);obtain ⟨a1,bq,rfl,br,bs⟩:=fL ax ao;have hm:=(bo _ _ _ _).symm.trans hm;generalize bt:aw (a6+1) bq=da at hm;unfold jW at hm;refine g2 ?_;refine al (λdb=>?_);refine wt 0 ?_;refine g2 ?_;refine fO (α:=Qi) (css:=[[.string (a1.Node)]]) (zs:=[.string (⟨#[]⟩)]) (out:=[.string (a1.Node)]) (ys:=[a1.Node]) G G G ⟨G,Qk⟩ Rl Si G Sn (by kernel_rfl) G G G G ⟨[.string (a1.Node)],[],G,G,G⟩ G ?_
 intro dc dd bu;refine cE (bu).rd G (λde df dg=>?_);refine Wp [1] ?_;obtain ⟨dh,bv,hm⟩:=aU hm;refine ca @gC bv ?_;rintro _ bw _ ⟨di,dj,dk,dl,rfl,rfl,dm,dn⟩;refine gs ?_;refine cd hm G (λbz hm=>?_) (λbz hm=>?_);refine gs ?_;refine Ek [0] 2 ?_;exact en;refine go ?_;refine cj [(2,_),(72,_),(73,_),(74,_)] [0,1] 1 (xp bw 103 (((!(aY a1.rB)) || (!(aY a1.Discharge))) || (!(aY a1.sB)))) ?_ (λap=>?_);rintro _ _ _ ⟨rfl,rfl,rfl⟩;refine cd hm G (λc1 hm=>?_) (λc1 hm=>?_);refine gs ?_;refine Ek [0] 1 ?_;exact en;refine gt ?_;refine gj ?_;exact kj (eb bs bt) (kK (b_ br h7.mm.cQ));refine go ?_;refine cz @kC (G:aY a1.rB=_) ?_;refine go ?_;cases dp:(aY a1.rB);refine gj ?_;exact kx [0,1] 1 (ap _ _ _ pk) G kS;refine go ?_;refine cz @kC (G:aY a1.Discharge=_) ?_;refine go ?_;cases dq:(aY a1.Discharge);refine gj ?_;exact kx [0,1] 1 (ap _ _ _ pk) G kS
 refine go ?_;refine cz @kC (G:aY a1.sB=_) ?_;refine gj ?_;exact kx [0,1] 1 (ap _ _ _ pk) G kS;obtain rfl:=fK ax ao;have hm:=(bp _ _).symm.trans hm;refine gs ?_;refine Ek [0] 1 ?_;exact en
theorem ml {a0:aD}{v0 v1 v2 v3 v4 v5:Qj}{r:Int} (hm:cA a0=some r) (h0:aQ H v0 a0.bF) (h1:aQ H v1 a0.aN) (h2:aQ H v2 a0.aI) (h3:aQ H v3 a0.dB) (h4:aQ H v4 a0.bC) (h5:aQ H v5 a0.bS):
  Cq B w0 62 [.agg [v0,v1,v2,v3,v4,v5].toArray] H M (yV r):=by
 unfold cA at hm;refine f_ func62 ?_;refine gs ?_;refine bx (λbt=>?_);refine gs ?_;refine cj [(1,_)] [] 0 (xp H 47 ((((((decide (24<(a0.bF.length:Int))) || (decide (32<(a0.aN.length:Int)))) || (decide (24<(a0.aI.length:Int)))) || (decide (10<(a0.dB.length:Int)))) || (decide (12<(a0.bC.length:Int)))) || (decide (4<(a0.bS.length:Int))))) ?_ (λa3=>?_);rintro _ _ _ ⟨rfl,rfl,rfl⟩;refine cd hm G (λaw hm=>?_) (λaw hm=>?_);refine gs ?_;refine Ek [] 1 ?_;exact ef;refine gs ?_;refine Aa G G (λa4=>?_);refine go ?_;refine eC (css:=[[.map (some a4)],[v0]]) (zs:=[.map none,.slice none 0 0]) (out:=[.map (some a4),v0]) (places:=[(0,1),(1,1)]) G G G ⟨G,(aQ.cells h0),Qk⟩ zeroValue167 G runUnderlying167 (λw=>by kernel_rfl) G ?_
 refine al (λbu=>?_);refine wt 0 ?_;refine g2 ?_;obtain ⟨ao,ax,ay,hm⟩:=cN hm;refine cl [(1,_),(3,_),(53,_),(54,_)] [0,1] 1 [1] 0 (λu m n H' M' L'=>∃ (a5:Nat) (a8:List Qi),∃ ab:(List (Qi×Bool)),∃ ac:Array MapEntry,∃ ad:Nat,(a0.bF).drop a5=a8/\a8.length=n/\ao a5 a8 ab=some r/\sD ac ad ab/\H.le H'/\.obj a4 (.map ac ad)::m=M'/\(55,.int .i64 ((a5:Int)))::u=L') _ G ⟨0,_,_,_,_,G,G,hm,(sD.nil (κ:=Qi) (ν:=Bool)),lE,G,G⟩ ?_;rintro _ az _ _ ⟨a5,a8,ab,ac,ad,ap,rfl,hm,b0,bv,rfl,rfl⟩;refine g2 ?_;refine bE G (λae=>?_) (λae=>?_);obtain ⟨bw,b1,rfl,b2,b3⟩:=fL ap ae;have hm:=(ax _ _ _ _).symm.trans hm;generalize b4:ao (a5+1) b1=bz at hm;unfold np at hm;refine g2 ?_;refine gs ?_;obtain ⟨c0,b5,hm⟩:=aU hm;refine ca @gC b5 ?_;rintro _ c1 _ ⟨c2,c3,c4,c5,rfl,rfl,c6,c7⟩;refine gs ?_
 refine cd hm G (λb6 hm=>?_) (λb6 hm=>?_);refine gs ?_;refine Ek [] 3 ?_;exact ef;refine gt ?_;refine gj ?_;exact kj (eb b3 b4) (kK (b_ b2 h0.mm.cQ));obtain rfl:=fK ap ae;have hm:=(ay _ _).symm.trans hm;refine g2 ?_;obtain ⟨aq,b7,b8,hm⟩:=cN hm;refine cl [(1,_),(3,_),(67,_),(68,_)] [1,1] 1 [] 0 (λu m n H' M' L'=>∃ (a6:Nat) (a9:List aV),∃ af:(List (Qi×Bool)),∃ ag:Array MapEntry,∃ ah:Nat,(a0.aN).drop a6=a9/\a9.length=n/\aq a6 a9 af=some r/\sD ag ah af/\az.le H'/\.obj a4 (.map ag ah)::m=M'/\(69,.int .i64 ((a6:Int)))::u=L') _ G ⟨0,_,_,_,_,G,G,hm,b0,lE,G,G⟩ ?_;rintro _ b9 _ _ ⟨a6,a9,af,ag,ah,ar,rfl,hm,ba,c8,rfl,rfl⟩;refine g2 ?_;refine bE G (λai=>?_) (λai=>?_);obtain ⟨a2,bb,rfl,bc,bd⟩:=fL ar ai;have hm:=(b7 _ _ _ _).symm.trans hm;generalize be:aq (a6+1) bb=c9 at hm;unfold nq at hm
 refine g2 ?_;refine al (λcb=>?_);refine wt 0 ?_;refine gs ?_;refine fO (α:=Qi) (css:=[[.string (a2.A)],[.string (a2.B_)]]) (zs:=[.string (⟨#[]⟩),.string (⟨#[]⟩)]) (out:=[.string (a2.A),.string (a2.B_)]) (ys:=[a2.A,a2.B_]) G G G ⟨G,G,Qk⟩ Rl Si G Sn (by kernel_rfl) G G G G ⟨[.string (a2.A)],[.string (a2.B_)],G,G,⟨[.string (a2.B_)],[],G,G,G⟩⟩ G ?_
 intro cc ce bf;refine cE (bf).rd G (λcf cg ch=>?_);refine Wp [1] ?_;obtain ⟨ci,bg,hm⟩:=aU hm;refine ca @gC bg ?_;rintro _ ck _ ⟨cm,cn,co,cp,rfl,rfl,cq,cr⟩;refine gs ?_;refine cd hm G (λbh hm=>?_) (λbh hm=>?_);refine gs ?_;refine Ek [] 4 ?_;exact ef;refine gt ?_;refine gj ?_;exact kx [0,1,1] 1 (eb bd be) G (kK (b_ bc h1.mm.cQ));obtain rfl:=fK ar ai;have hm:=(b8 _ _).symm.trans hm;refine g2 ?_;obtain ⟨au,bi,bj,hm⟩:=cN hm;refine cl [(1,_),(3,_),(87,_),(88,_)] [1,1] 1 [] 0 (λu m n H' M' L'=>∃ (a7:Nat) (aa:List aP),∃ aj:(List (Qi×Bool)),∃ ak:Array MapEntry,∃ am:Nat,(a0.aI).drop a7=aa/\aa.length=n/\au a7 aa aj=some r/\sD ak am aj/\b9.le H'/\.obj a4 (.map ak am)::m=M'/\(89,.int .i64 ((a7:Int)))::u=L') _ G ⟨0,_,_,_,_,G,G,hm,ba,lE,G,G⟩ ?_;rintro _ cs _ _ ⟨a7,aa,aj,ak,am,av,rfl,hm,ct,cu,rfl,rfl⟩
 refine g2 ?_;refine bE G (λan=>?_) (λan=>?_);obtain ⟨a1,bk,rfl,bl,bm⟩:=fL av an;have hm:=(bi _ _ _ _).symm.trans hm;generalize bn:au (a7+1) bk=cv at hm;unfold nr at hm;refine g2 ?_;refine al (λcw=>?_);refine wt 0 ?_;refine g2 ?_;refine fO (α:=Qi) (css:=[[.string (a1.pI)],[.string (a1.To)]]) (zs:=[.string (⟨#[]⟩),.string (⟨#[]⟩)]) (out:=[.string (a1.pI),.string (a1.To)]) (ys:=[a1.pI,a1.To]) G G G ⟨G,G,Qk⟩ Rl Si G Sn (by kernel_rfl) G G G G ⟨[.string (a1.pI)],[.string (a1.To)],G,G,⟨[.string (a1.To)],[],G,G,G⟩⟩ G ?_
 intro cx d0 bo;refine cE (bo).rd G (λd1 d2 d3=>?_);refine Wp [1] ?_;obtain ⟨d4,bp,hm⟩:=aU hm;refine ca @gC bp ?_;rintro _ d5 _ ⟨d6,d7,d8,d9,rfl,rfl,da,db⟩;refine gs ?_;refine cd hm G (λbq hm=>?_) (λbq hm=>?_);refine gs ?_;refine Ek [] 4 ?_;exact ef;refine gs ?_;refine cz @yj (G:jI a1=_) ?_;refine gs ?_;refine cd hm G (λbr hm=>?_) (λbr hm=>?_);refine gs ?_;refine Ek [] 4 ?_;exact ef;refine gt ?_;refine gj ?_;exact kx [0,1,1] 1 (eb bm bn) G (kK (b_ bl h2.mm.cQ));obtain rfl:=fK av an;have hm:=(bj _ _).symm.trans hm;refine gs ?_;obtain ⟨dc,bs,hm⟩:=aU hm;refine ca @vq bs ?_;rintro _ dd _ ⟨de,df,dg,dh,rfl,rfl,di,dj⟩;refine go ?_;refine Ek [] 3 ?_;exact ef;refine go ?_;cases dk:(decide (24<(a0.bF.length:Int)));refine go ?_;cases dl:(decide (32<(a0.aN.length:Int)));refine go ?_;cases dm:(decide (24<(a0.aI.length:Int)));refine go ?_
 cases dn:(decide (10<(a0.dB.length:Int)));refine go ?_;cases dp:(decide (12<(a0.bC.length:Int)));refine gj ?_;exact kj (a3 _ _ _ pk) kS;refine gj ?_;exact kj (a3 _ _ _ pk) kS;refine gj ?_;exact kj (a3 _ _ _ pk) kS;refine gj ?_;exact kj (a3 _ _ _ pk) kS;refine gj ?_;exact kj (a3 _ _ _ pk) kS;refine gj ?_;exact kj (a3 _ _ _ pk) kS
theorem wi {ah:(List bB)}{v0:Qj}{r:Int} (hm:kN ah=some r) (h0:aQ H v0 ah):
  Cq B w0 135 [v0] H M (yV r):=by
 unfold kN at hm;refine f_ func135 ?_;refine q2 ?_;refine qs ?_;refine lr h0 ?_;refine qg ?_;refine cd hm G (λbn hm=>?_) (λbn hm=>?_);refine qs ?_;exact ef;refine qs ?_;refine lr h0 ?_;refine qg ?_;refine cd hm G (λbo hm=>?_) (λbo hm=>?_);refine qs ?_;exact ef;refine qs ?_;refine lr h0 ?_;obtain ⟨b4,hm⟩:=aK hm;refine fJ (α:=Int) (zs:=[.int .i64 (0)]) (ze:=0) G G RY ⟨_,G,G,G,G⟩ G G G G G G b4.1 b4.2 ?_;intro a3 d6 bp;refine q2 ?_;refine lr h0 ?_;refine qg ?_;obtain ⟨b5,bq,br,hm⟩:=cN hm;refine cl [(0,_),(3,_),(18,_),(19,_)] [] 1 [] 0 (λu m n H' M' L'=>∃ (a0:Nat) (ad:List bB),∃ a6:List Int,∃ ai:List Qj,(ah).drop a0=ad/\ad.length=n/\b5 a0 ad a6=some r/\Rw H' a3 ai a6/\H.le H'/\.row a3 3 (aH.sz Int) a6.length ai::m=M'/\(20,.int .i64 ((a0:Int)))::u=L') _ G ⟨0,_,_,_,G,G,hm,bp,lE,G,G⟩ ?_;rintro _ a2 _ _ ⟨a0,ad,a6,ai,b6,rfl,hm,aa,d7,rfl,rfl⟩
 refine q2 ?_;refine bE G (λaj=>?_) (λaj=>?_);obtain ⟨a1,bs,rfl,ak,bt⟩:=fL b6 aj;have hm:=(bq _ _ _ _).symm.trans hm;generalize bu:b5 (a0+1) bs=am at hm;unfold oC at hm;refine qg ?_;refine cj [(0,_),(3,_),(18,_),(19,_),(20,_)] [] 1 (λu m H' M' L'=>∃ ae:List Int,∃ an:List Qj,dY am ae=some r/\Rw H' a3 an ae/\a2.le H'/\.row a3 3 (aH.sz Int) ae.length an::m=M'/\u=L') ?_ (λa7=>?_);rintro d8 _ _ ⟨ae,an,hm,d9,da,rfl,rfl⟩;unfold dY at hm;refine qj ?_;exact kj (eb bt bu) (kK (b_ ak h0.mm.cQ));refine qs ?_;obtain ⟨_,⟨rfl⟩,bv⟩:=(h0).elem ak;refine A6 h0 ak ?_;refine Ov bv ?_;refine al (λdb=>?_);refine qg ?_;refine wt 0 ?_;refine qg ?_;refine cj [(0,_),(3,_),(4,_),(5,_),(18,_),(19,_),(20,_)] [] 0 (xp a2 6 ((decide (a1.Kind=2)) || (decide (a1.Kind=3)))) ?_ (λb7=>?_);rintro _ _ _ ⟨rfl,rfl,rfl⟩;refine qs ?_
 refine cj [(0,_),(3,_),(4,_),(5,_),(6,_),(18,_),(19,_),(20,_)] [] 0 (xp a2 33 ((decide (a1.Kind<0)) || (decide (6<a1.Kind)))) ?_ (λb8=>?_);rintro _ _ _ ⟨rfl,rfl,rfl⟩;refine cd hm G (λbw hm=>?_) (λbw hm=>?_);refine qs ?_;refine Ek [] 2 ?_;exact ef;refine qs ?_;cases b9:((decide (a1.Kind=2)) || (decide (a1.Kind=3)));have hm:=dU b9 hm;refine qg ?_;refine cF G ?_;refine cj [(0,_),(3,_),(4,_),(5,_),(18,_),(19,_),(20,_)] [] 0 (xp a2 50 (!decide (a1.Name=(⟨#[]⟩)))) ?_ (λbz=>?_);rintro _ _ _ ⟨rfl,rfl,rfl⟩;refine cd hm G (λc0 hm=>?_) (λc0 hm=>?_);refine qs ?_;refine Ek [] 2 ?_;exact ef;refine qs ?_;obtain ⟨dc,dd,ao,hm⟩:=aB hm;refine tY ao ?_;obtain ⟨_,rfl,c1⟩:=(aa).elem ao;refine wr 1 0 ((a0:Int)) aa ao c1 G G ?_;intro de a4 df dg;refine q2 ?_;refine cd hm G (λc2 hm=>?_) (λc2 hm=>?_);refine qs ?_;refine cj [(0,_),(3,_),(4,_),(5,_),(18,_),(19,_),(20,_)] [] 0 (xp a2 87 (((decide ((a0:Int)=0)) || (!decide (a1.A=(i64.wrap ((a0:Int)-1))))) || (!decide (a1.B_=0)))) ?_ (λap=>?_)
 rintro _ _ _ ⟨rfl,rfl,rfl⟩;refine cd hm G (λc3 hm=>?_) (λc3 hm=>?_);refine qs ?_;refine Ek [] 2 ?_;exact ef;refine qg ?_;obtain ⟨c4,dh,ba,hm⟩:=aB hm;refine tY ba ?_;obtain ⟨_,rfl,c5⟩:=(a4).elem ba;refine yt c5 ?_;obtain ⟨di,dj,aq,hm⟩:=aB hm;refine tY aq ?_;obtain ⟨_,rfl,c6⟩:=(a4).elem aq;refine wr 0 0 c4 a4 aq c6 G G ?_;intro dk dl dm dn;refine qj ?_;exact kx [0] 1 (a7 _ _ _ pk);refine qg ?_;cases dp:(decide ((a0:Int)=0));refine qg ?_;cases dq:(decide (a1.A=(i64.wrap ((a0:Int)-1))));refine qj ?_;exact kj (ap _ _ _ pk) kS;refine qj ?_;exact kj (ap _ _ _ pk) kS;refine qj ?_;exact kj (ap _ _ _ pk) kS;refine cj [(0,_),(3,_),(4,_),(5,_),(18,_),(19,_),(20,_)] [] 0 (OV (eI a6 am a1 a0) r a2 96) ?_ (λbb=>?_);rintro _ _ _ ⟨ar,hm,rfl,rfl,rfl⟩;unfold eI at hm;refine cd hm G (λc7 hm=>?_) (λc7 hm=>?_);refine q2 ?_;cases a8:(decide ((a0:Int)=0))
 have hm:=dU a8 hm;cases ab:(decide (a1.B_=(i64.wrap ((a0:Int)-1))));have hm:=dU ab hm;refine oy fm 26 [ph _,ph (.bool (false)),ph _,ph _,ph _,ph _,ph _,ph (.bool (true)),ph _,ph _,ph _,ph _,ph _,ph _,ph _,ph _,ph _,ph _,ph _,ph _,ph _,ph _,ph _,ph _,ph _,ph _] ⟨qm,qn a8,qm,qm,qm,qm,qm,qn ab,qm,qm,qm,qm,qm,qm,qm,qm,qm,qm,qm,qm,qm,qm,qm,qm,qm,qm,Qk⟩ ?_;intro ds dt;refine dz ?_;refine qg ?_;refine cT G ?_;refine qs ?_;refine Ek [] 2 ?_;exact ef;have hm:=dV ab hm;obtain ⟨au,du,av,hm⟩:=aB hm;obtain ⟨_,rfl,bc⟩:=(a4).elem av;cases af:(decide (au=0));have hm:=dU af hm;obtain ⟨c8,dv,bd,hm⟩:=aB hm;obtain ⟨_,rfl,c9⟩:=(a4).elem bd;refine oy fm 26 [ph _,ph (.bool (false)),ph _,ph _,ph _,ph _,ph _,ph (.bool (false)),ph _,ph _,ph _,ph _,ph _,ph (.pointer (some ((Value.base (a3)).add ((i64.wrap ((a0:Int)-1):Int).toNat*aH.sz Int)))),ph (.int .i64 (au)),ph (.bool (false)),ph _,ph _,ph _,ph _,ph _,ph _,ph _,ph (.pointer (some ((Value.base (a3)).add ((i64.wrap ((a0:Int)-1):Int).toNat*aH.sz Int)))),ph (.int .i64 (c8)),ph _] ⟨qm,qn a8,qm,qm,qm,qm,qm,qn ab,qm,qm,qm,qm,qm,?_,?_,qn af,qm,qm,qm,qm,qm,qm,qm,?_,?_,qm,Qk⟩ ?_
 intro HX hX X Rest hR;refine dr ?_;intro hU hUp;refine tY av ?_;exact o0 ⟨G,G⟩;rintro HX hX X Rest hR _ _ ⟨rfl,rfl⟩ _ _ ⟨rfl,rfl⟩ hU hUp;refine yt bc ?_;exact o0 ⟨G,G⟩;intro HX hX X Rest hR;refine dr ?_;intro hU hUp;refine tY bd ?_;exact o0 ⟨G,G⟩;rintro HX hX X Rest hR _ _ ⟨rfl,rfl⟩ _ _ ⟨rfl,rfl⟩ hU hUp;refine yt c9 ?_;exact o0 ⟨G,G⟩;intro dw dx;refine dz ?_;refine qg ?_;refine cd hm G (λcb hm=>?_) (λcb hm=>?_);refine qs ?_;refine Ek [] 2 ?_;exact ef;refine qg ?_;obtain ⟨cc,dy,be,hm⟩:=aB hm;refine tY be ?_;obtain ⟨_,rfl,ce⟩:=(a4).elem be;refine yt ce ?_;obtain ⟨e0,e1,aw,hm⟩:=aB hm;refine tY aw ?_;obtain ⟨_,rfl,cf⟩:=(a4).elem aw;refine wr 0 0 cc a4 aw cf G G ?_;intro e2 e3 e4 e5;refine qj ?_;exact kx [0] 1 (a7 _ _ _ pk);have hm:=dV af hm;refine oy fm 26 [ph _,ph (.bool (false)),ph _,ph _,ph _,ph _,ph _,ph (.bool (false)),ph _,ph _,ph _,ph _,ph _,ph (.pointer (some ((Value.base (a3)).add ((i64.wrap ((a0:Int)-1):Int).toNat*aH.sz Int)))),ph (.int .i64 (au)),ph (.bool (true)),ph _,ph _,ph _,ph _,ph _,ph _,ph _,ph _,ph _,ph _] ⟨qm,qn a8,qm,qm,qm,qm,qm,qn ab,qm,qm,qm,qm,qm,?_,?_,qn af,qm,qm,qm,qm,qm,qm,qm,qm,qm,qm,Qk⟩ ?_
 intro HX hX X Rest hR;refine dr ?_;intro hU hUp;refine tY av ?_;exact o0 ⟨G,G⟩;rintro HX hX X Rest hR _ _ ⟨rfl,rfl⟩ _ _ ⟨rfl,rfl⟩ hU hUp;refine yt bc ?_;exact o0 ⟨G,G⟩;intro e6 e7;refine dz ?_;refine qg ?_;refine cT G ?_;refine qs ?_;refine Ek [] 2 ?_;exact ef;have hm:=dV a8 hm;refine oy fm 26 [ph _,ph (.bool (true)),ph _,ph _,ph _,ph _,ph _,ph _,ph _,ph _,ph _,ph _,ph _,ph _,ph _,ph _,ph _,ph _,ph _,ph _,ph _,ph _,ph _,ph _,ph _,ph _] ⟨qm,qn a8,qm,qm,qm,qm,qm,qm,qm,qm,qm,qm,qm,qm,qm,qm,qm,qm,qm,qm,qm,qm,qm,qm,qm,qm,Qk⟩ ?_;intro e8 e9;refine dz ?_;refine qg ?_;refine cT G ?_;refine qs ?_;refine Ek [] 2 ?_;exact ef;refine cj [(0,_),(3,_),(18,_),(19,_),(20,_)] [0] 1 (xp a2 71 ((!decide (a1.A=0)) || (!decide (a1.B_=0)))) ?_ (λbf=>?_);rintro _ _ _ ⟨rfl,rfl,rfl⟩;refine cd hm G (λcg hm=>?_) (λcg hm=>?_)
 refine qs ?_;refine Ek [] 1 ?_;exact ef;refine qj ?_;exact kj (a7 _ _ _ pk);refine qg ?_;cases ea:(decide (a1.A=0));refine qj ?_;exact kx [0] 1 (bf _ _ _ pk) G kS;refine qj ?_;exact kx [0] 1 (bf _ _ _ pk) G kS;refine qs ?_;refine cd hm G (λch hm=>?_) (λch hm=>?_);refine qj ?_;exact kj (bb _ _ _ pk);refine qj ?_;exact kj (bb _ _ _ pk);refine qj ?_;exact kj (bz _ _ _ pk);have hm:=dV b9 hm;refine qg ?_;obtain ⟨ec,ci,hm⟩:=aU hm;refine cz @o9 ci ?_;refine qg ?_;refine cd hm G (λck hm=>?_) (λck hm=>?_);refine qs ?_;refine Ek [] 2 ?_;exact ef;refine cj [(0,_),(3,_),(4,_),(5,_),(18,_),(19,_),(20,_)] [] 0 (λu m H' M' L'=>a2=H'/\m=M'/\(50,.bool (false))::u=L') ?_ (λcm=>?_);rintro _ _ _ ⟨rfl,rfl,rfl⟩;refine cF G ?_;refine qs ?_;obtain ⟨ed,ee,ax,hm⟩:=aB hm;refine tY ax ?_;obtain ⟨_,rfl,cn⟩:=(aa).elem ax;refine wr 1 0 ((a0:Int)) aa ax cn G G ?_
 intro eg a5 eh ei;refine q2 ?_;refine cd hm G (λco hm=>?_) (λco hm=>?_);refine qs ?_;refine cj [(0,_),(3,_),(4,_),(5,_),(18,_),(19,_),(20,_)] [] 0 (xp a2 87 (((decide ((a0:Int)=0)) || (!decide (a1.A=(i64.wrap ((a0:Int)-1))))) || (!decide (a1.B_=0)))) ?_ (λay=>?_);rintro _ _ _ ⟨rfl,rfl,rfl⟩;refine cd hm G (λcp hm=>?_) (λcp hm=>?_);refine qs ?_;refine Ek [] 2 ?_;exact ef;refine qg ?_;obtain ⟨cq,ej,bg,hm⟩:=aB hm;refine tY bg ?_;obtain ⟨_,rfl,cr⟩:=(a5).elem bg;refine yt cr ?_;obtain ⟨ek,el,az,hm⟩:=aB hm;refine tY az ?_;obtain ⟨_,rfl,cs⟩:=(a5).elem az;refine wr 0 0 cq a5 az cs G G ?_;intro em eo ep er;refine qj ?_;exact kx [0] 1 (a7 _ _ _ pk);refine qg ?_;cases es:(decide ((a0:Int)=0));refine qg ?_;cases et:(decide (a1.A=(i64.wrap ((a0:Int)-1))));refine qj ?_;exact kj (ay _ _ _ pk) kS;refine qj ?_;exact kj (ay _ _ _ pk) kS
 refine qj ?_;exact kj (ay _ _ _ pk) kS;refine cj [(0,_),(3,_),(4,_),(5,_),(18,_),(19,_),(20,_)] [] 0 (OV (kF a6 am a1 a0) r a2 96) ?_ (λbh=>?_);rintro _ _ _ ⟨b0,hm,rfl,rfl,rfl⟩;unfold kF at hm;refine cd hm G (λct hm=>?_) (λct hm=>?_);refine q2 ?_;cases a9:(decide ((a0:Int)=0));have hm:=dU a9 hm;cases ac:(decide (a1.B_=(i64.wrap ((a0:Int)-1))));have hm:=dU ac hm;refine oy fm 26 [ph _,ph (.bool (false)),ph _,ph _,ph _,ph _,ph _,ph (.bool (true)),ph _,ph _,ph _,ph _,ph _,ph _,ph _,ph _,ph _,ph _,ph _,ph _,ph _,ph _,ph _,ph _,ph _,ph _] ⟨qm,qn a9,qm,qm,qm,qm,qm,qn ac,qm,qm,qm,qm,qm,qm,qm,qm,qm,qm,qm,qm,qm,qm,qm,qm,qm,qm,Qk⟩ ?_;intro eu ev;refine dz ?_;refine qg ?_;refine cT G ?_;refine qs ?_;refine Ek [] 2 ?_;exact ef;have hm:=dV ac hm;obtain ⟨b1,ew,b2,hm⟩:=aB hm;obtain ⟨_,rfl,bi⟩:=(a5).elem b2
 cases ag:(decide (b1=0));have hm:=dU ag hm;obtain ⟨cu,ex,bj,hm⟩:=aB hm;obtain ⟨_,rfl,cv⟩:=(a5).elem bj;refine oy fm 26 [ph _,ph (.bool (false)),ph _,ph _,ph _,ph _,ph _,ph (.bool (false)),ph _,ph _,ph _,ph _,ph _,ph (.pointer (some ((Value.base (a3)).add ((i64.wrap ((a0:Int)-1):Int).toNat*aH.sz Int)))),ph (.int .i64 (b1)),ph (.bool (false)),ph _,ph _,ph _,ph _,ph _,ph _,ph _,ph (.pointer (some ((Value.base (a3)).add ((i64.wrap ((a0:Int)-1):Int).toNat*aH.sz Int)))),ph (.int .i64 (cu)),ph _] ⟨qm,qn a9,qm,qm,qm,qm,qm,qn ac,qm,qm,qm,qm,qm,?_,?_,qn ag,qm,qm,qm,qm,qm,qm,qm,?_,?_,qm,Qk⟩ ?_;intro HX hX X Rest hR;refine dr ?_;intro hU hUp;refine tY b2 ?_;exact o0 ⟨G,G⟩;rintro HX hX X Rest hR _ _ ⟨rfl,rfl⟩ _ _ ⟨rfl,rfl⟩ hU hUp;refine yt bi ?_;exact o0 ⟨G,G⟩;intro HX hX X Rest hR;refine dr ?_;intro hU hUp;refine tY bj ?_
 exact o0 ⟨G,G⟩;rintro HX hX X Rest hR _ _ ⟨rfl,rfl⟩ _ _ ⟨rfl,rfl⟩ hU hUp;refine yt cv ?_;exact o0 ⟨G,G⟩;intro ey ez;refine dz ?_;refine qg ?_;refine cd hm G (λcw hm=>?_) (λcw hm=>?_);refine qs ?_;refine Ek [] 2 ?_;exact ef;refine qg ?_;obtain ⟨cx,fa,bk,hm⟩:=aB hm;refine tY bk ?_;obtain ⟨_,rfl,d0⟩:=(a5).elem bk;refine yt d0 ?_;obtain ⟨fb,fd,b3,hm⟩:=aB hm;refine tY b3 ?_;obtain ⟨_,rfl,d1⟩:=(a5).elem b3;refine wr 0 0 cx a5 b3 d1 G G ?_;intro fe ff fg fh;refine qj ?_;exact kx [0] 1 (a7 _ _ _ pk);have hm:=dV ag hm;refine oy fm 26 [ph _,ph (.bool (false)),ph _,ph _,ph _,ph _,ph _,ph (.bool (false)),ph _,ph _,ph _,ph _,ph _,ph (.pointer (some ((Value.base (a3)).add ((i64.wrap ((a0:Int)-1):Int).toNat*aH.sz Int)))),ph (.int .i64 (b1)),ph (.bool (true)),ph _,ph _,ph _,ph _,ph _,ph _,ph _,ph _,ph _,ph _] ⟨qm,qn a9,qm,qm,qm,qm,qm,qn ac,qm,qm,qm,qm,qm,?_,?_,qn ag,qm,qm,qm,qm,qm,qm,qm,qm,qm,qm,Qk⟩ ?_
 intro HX hX X Rest hR;refine dr ?_;intro hU hUp;refine tY b2 ?_;exact o0 ⟨G,G⟩;rintro HX hX X Rest hR _ _ ⟨rfl,rfl⟩ _ _ ⟨rfl,rfl⟩ hU hUp;refine yt bi ?_;exact o0 ⟨G,G⟩;intro fi fj;refine dz ?_;refine qg ?_;refine cT G ?_;refine qs ?_;refine Ek [] 2 ?_;exact ef;have hm:=dV a9 hm;refine oy fm 26 [ph _,ph (.bool (true)),ph _,ph _,ph _,ph _,ph _,ph _,ph _,ph _,ph _,ph _,ph _,ph _,ph _,ph _,ph _,ph _,ph _,ph _,ph _,ph _,ph _,ph _,ph _,ph _] ⟨qm,qn a9,qm,qm,qm,qm,qm,qm,qm,qm,qm,qm,qm,qm,qm,qm,qm,qm,qm,qm,qm,qm,qm,qm,qm,qm,Qk⟩ ?_;intro fk fl;refine dz ?_;refine qg ?_;refine cT G ?_;refine qs ?_;refine Ek [] 2 ?_;exact ef;refine cj [(0,_),(3,_),(18,_),(19,_),(20,_)] [0] 1 (xp a2 71 ((!decide (a1.A=0)) || (!decide (a1.B_=0)))) ?_ (λbl=>?_);rintro _ _ _ ⟨rfl,rfl,rfl⟩;refine cd hm G (λd2 hm=>?_) (λd2 hm=>?_)
 refine qs ?_;refine Ek [] 1 ?_;exact ef;refine qj ?_;exact kj (a7 _ _ _ pk);refine qg ?_;cases fn:(decide (a1.A=0));refine qj ?_;exact kx [0] 1 (bl _ _ _ pk) G kS;refine qj ?_;exact kx [0] 1 (bl _ _ _ pk) G kS;refine qs ?_;refine cd hm G (λd3 hm=>?_) (λd3 hm=>?_);refine qj ?_;exact kj (bh _ _ _ pk);refine qj ?_;exact kj (bh _ _ _ pk);refine qj ?_;exact kj (cm _ _ _ pk);refine qg ?_;cases fo:(decide (a1.Kind<0));refine qj ?_;exact kj (b8 _ _ _ pk) kS;refine qj ?_;exact kj (b8 _ _ _ pk) kS;refine qg ?_;cases fp:(decide (a1.Kind=2));refine qj ?_;exact kj (b7 _ _ _ pk) kS;refine qj ?_;exact kj (b7 _ _ _ pk) kS;obtain rfl:=fK b6 aj;have hm:=(br _ _).symm.trans hm;refine q2 ?_;refine lr h0 ?_;refine qg ?_;obtain ⟨fr,fs,bm,hm⟩:=aB hm;refine tY bm ?_;obtain ⟨_,rfl,d4⟩:=(aa).elem bm;refine yt d4 ?_;refine qg ?_;refine cd hm G (λd5 hm=>?_) (λd5 hm=>?_);refine qs ?_
 refine Ek [] 1 ?_;exact ef;refine qs ?_;refine Ek [] 1 ?_;exact ef
theorem ui {a2:(List aT)}{v0:Qj}{r:Int} (hm:mP a2=some r) (h0:aQ H v0 a2):
  Cq B w0 88 [v0] H M (yV r):=by
 unfold mP at hm;refine f_ func88 ?_;refine g2 ?_;refine gs ?_;refine cd hm G (λa7 hm=>?_) (λa7 hm=>?_);refine gs ?_;exact ef;refine g2 ?_;obtain ⟨a4,a8,a9,hm⟩:=cN hm;refine cl [(9,_),(10,_)] [] 0 [] 0 (λu m n H' M' L'=>∃ (a0:Nat) (a1:List aT),(a2).drop a0=a1/\a1.length=n/\a4 a0 a1 ()=some r/\H.le H'/\m=M'/\(11,.int .i64 ((a0:Int)))::u=L') _ G ⟨0,_,G,G,hm,lE,G,G⟩ ?_;rintro _ ah _ _ ⟨a0,a1,a5,rfl,hm,ai,rfl,rfl⟩;refine g2 ?_;refine bE G (λa3=>?_) (λa3=>?_);obtain ⟨aj,aa,rfl,a6,ab⟩:=fL a5 a3;have hm:=(a8 _ _ _ _).symm.trans hm;generalize ac:a4 (a0+1) aa=ak at hm;unfold q9 at hm;refine g2 ?_;obtain ⟨_,⟨am,rfl,an⟩,ao⟩:=(h0).elem a6;refine go ?_;refine al (λap=>?_);refine wt 0 ?_;refine g2 ?_;obtain ⟨aq,ad,hm⟩:=aU hm;refine cz @o9 ad ?_;refine go ?_;refine cd hm G (λae hm=>?_) (λae hm=>?_)
 refine gs ?_;refine Ek [] 1 ?_;exact ef;refine gs ?_;obtain ⟨ar,af,hm⟩:=aU hm;refine cz @wi af ?_;refine gs ?_;refine cd hm G (λag hm=>?_) (λag hm=>?_);refine gs ?_;refine Ek [] 1 ?_;exact ef;refine gt ?_;refine gj ?_;exact kx [] 1 (eb ab ac) G (kK (b_ a6 h0.mm.cQ));obtain rfl:=fK a5 a3;have hm:=(a9 _ _).symm.trans hm;refine gs ?_;exact ef
theorem ve {a0:aD}{v0 v1 v2 v3 v4 v5:Qj}{r:(List Qi)} (hm:ql a0=some r) (h0:aQ H v0 a0.bF) (h1:aQ H v1 a0.aN) (h2:aQ H v2 a0.aI) (h3:aQ H v3 a0.dB) (h4:aQ H v4 a0.bC) (h5:aQ H v5 a0.bS):
  Cq B w0 48 [.agg [v0,v1,v2,v3,v4,v5].toArray] H M (Py r):=by
 unfold ql at hm;refine f_ func48 ?_;refine gs ?_;refine bx (λam=>?_);refine g2 ?_;refine gs ?_;refine kE 9 (aH.sz Qi) ?_;obtain ⟨a8,aa,ab,hm⟩:=cN hm;refine cl [(7,_),(8,_)] [] 2 [0] 1 (PK a0.bC a8 r H 3 9) _ G ⟨0,_,_,_,_,G,G,hm,Rw.nil,lE,G,G⟩ ?_;rintro _ an _ _ ⟨a2,a4,a3,a5,a6,a9,rfl,hm,ac,ao,rfl,rfl⟩;refine g2 ?_;refine bE G (λa7=>?_) (λa7=>?_);obtain ⟨a1,ad,rfl,ae,af⟩:=fL a9 a7;have hm:=(aa _ _ _ _).symm.trans hm;generalize ag:a8 (a2+1) ad=ap at hm;unfold ue at hm;refine g2 ?_;refine al (λaq=>?_);refine wt 0 ?_;refine go ?_;refine dD (α:=Qi) (css:=[[.string (a1.Name)]]) (zs:=[.string (⟨#[]⟩)]) (out:=[.string (a1.Name)]) (ys:=[a1.Name]) G G G ⟨G,Qk⟩ Rl Si G Sn (by kernel_rfl) G G G G ⟨[.string (a1.Name)],[],G,G,G⟩ G ?_
 intro ar ah au ai av aj;have aw:Value.oz ah=([a1.Name]).length:=by rw [ai]; rfl
 obtain ⟨ak,hm⟩:=aK hm;refine Wp [1] ?_;refine cW (α:=Qi) (l:=a3) (ys:=[a1.Name]) G G SQ ⟨_,G,G,G,G⟩ G G G G G ac.mm aj ak ?_;intro ax ay az;refine gt ?_;refine gj ?_;exact kx [0] 1 (eb af ag) G (kK (b_ ae h4.mm.cQ));obtain rfl:=fK a9 a7;have hm:=(ab _ _).symm.trans hm;refine gs ?_;exact ef
theorem yk {a0:aG}{a1:Qi}{b0:Nat}{r:Bool} (hm:pd a0 a1=r):
  Cq B w0 118 [.agg [.string (a0.Name),.string (a0.Node),.int .i64 (a0.dA)].toArray,.pointer (some ⟨b0,0,none⟩)] H (.obj b0 (.cells ([.string (a1)]:List Qj).toArray 9 (0,0))::M) (λH _=>Mk b0 a1 r H M):=by
 unfold pd at hm;refine f_ func118 ?_;refine gs ?_;refine bx (λa2=>?_);refine gs ?_;obtain rfl:=hm;refine Ek [1] 1 ?_;refine Ew H ?_;exact l7 G G ⟨G,G,G⟩
theorem mM {a3:(List aG)}{a1:Qi}{v0:Qj}{b0:Nat}{r:Int} (hm:cP a3 a1=some r) (h0:aQ H v0 a3):
  Cq B w0 97 [v0,.func (.func 118) [].toArray [.pointer (some ⟨b0,0,none⟩)].toArray] H (.obj b0 (.cells ([.string (a1)]:List Qj).toArray 9 (0,0))::M) (λH _=>NK b0 a1 r H M):=by
 unfold cP at hm;refine f_ func97 ?_;refine g2 ?_;refine gs ?_;obtain ⟨a5,a7,a8,hm⟩:=jE hm;refine cl [(0,_),(1,_),(7,_)] [] 0 [] 0 (FF (((a3.length:Int):Int).toNat) a5 r H 8) _ G ⟨0,_,QL _,G,hm,lE,G,G⟩ ?_;rintro _ af _ _ ⟨a0,a2,a6,rfl,hm,ag,rfl,rfl⟩;refine g2 ?_;refine bE G (λa4=>?_) (λa4=>?_);obtain ⟨a9,rfl,aa,ab⟩:=lM a6 a4;have hm:=(a7 _ _ _).symm.trans hm;generalize ac:a5 a9 (a0+1)=ah at hm;unfold dM at hm;refine g2 ?_;refine gs ?_;obtain ⟨ad,ai,aj,hm⟩:=aB hm;refine go ?_;refine mz call118 G G G G (λw ht=>(yk (hm:=(G:pd ad a1=_))  ht :)) ?_;rintro _ _ _ ⟨rfl,rfl,rfl⟩;refine go ?_;refine cd hm G (λae hm=>?_) (λae hm=>?_);refine gs ?_;exact ef;refine gt ?_;refine gj ?_;exact kj (eb aa ac) (kK (eS ab (eU (ly (h0).cQ))));obtain rfl:=lL a6 a4;have hm:=(a8 _ _).symm.trans hm;refine gs ?_;exact ef
theorem mr {a1:(List aG)}{a0:Qi}{v0:Qj}{b0:Nat}{r:Bool} (hm:cL a1 a0=some r) (h0:aQ H v0 a1):
  Cq B w0 117 [v0,.func (.func 118) [].toArray [.pointer (some ⟨b0,0,none⟩)].toArray] H (.obj b0 (.cells ([.string (a0)]:List Qj).toArray 9 (0,0))::M) (λH _=>Mk b0 a0 r H M):=by
 unfold cL at hm;refine f_ func117 ?_;refine g2 ?_;obtain ⟨a3,a2,hm⟩:=aU hm;refine cz @mM a2 ?_;refine go ?_;exact ef
theorem vF {a0:aD}{on:(List Qi)}{v0 v1 v2 v3 v4 v5 v6:Qj}{r:Int} (hm:eF a0 on=some r) (h0:aQ H v0 a0.bF) (h1:aQ H v1 a0.aN) (h2:aQ H v2 a0.aI) (h3:aQ H v3 a0.dB) (h4:aQ H v4 a0.bC) (h5:aQ H v5 a0.bS) (h6:aQ H v6 on):
  Cq B w0 73 [.agg [v0,v1,v2,v3,v4,v5].toArray,v6] H M (yV r):=by
 unfold eF at hm;refine f_ func73 ?_;refine gs ?_;refine bx (λak=>?_);refine g2 ?_;obtain ⟨am,a8,hm⟩:=aU hm;refine cz @ml a8 ?_;refine gs ?_;refine cd hm G (λa9 hm=>?_) (λa9 hm=>?_);refine gs ?_;refine Ek [] 1 ?_;exact ef;refine g2 ?_;obtain ⟨a5,aa,ab,hm⟩:=cN hm;refine cl [(1,_),(2,_),(13,_),(14,_)] [] 0 [] 0 (Pw on a5 r H 15) _ G ⟨0,_,G,G,hm,lE,G,G⟩ ?_;rintro _ an _ _ ⟨a1,a3,a6,rfl,hm,ao,rfl,rfl⟩;refine g2 ?_;refine bE G (λa4=>?_) (λa4=>?_);obtain ⟨ap,ac,rfl,ad,ae⟩:=fL a6 a4;have hm:=(aa _ _ _ _).symm.trans hm;generalize af:a5 (a1+1) ac=aq at hm;unfold qd at hm;refine g2 ?_;refine al (λar=>?_);refine go ?_;refine wt 0 ?_;refine gs ?_;obtain ⟨au,ag,hm⟩:=aU hm;refine cz @mr ag ?_;refine go ?_;refine cd hm G (λah hm=>?_) (λah hm=>?_);refine gs ?_;refine Ek [] 2 ?_;exact ef;refine gs ?_;obtain ⟨av,hm⟩:=aK hm
 refine oy fm 4 [ph _,ph _,(λH rs v=>∃ a2:Qj,[]=rs/\a2=v/\aQ H a2 (r8 on 0 (((a1:Int):Int).toNat))),ph _] ⟨om,om,?_,om,Qk⟩ ?_;rintro HX hX X Rest hR _ _ ⟨rfl,rfl⟩ _ _ ⟨rfl,rfl⟩ hU hUp;refine rQ (α:=Qi) (l:=0) (h:=((a1:Int):Int).toNat) (xs:=on) G G Rl Si G h6.mm (by omega) (by omega) (.inl G) (λcap hcap=>by rw [Qu G]; exact (.inl ⟨G,G⟩)) (λm hmm=>(.inr ⟨_,_,_,G,G,by omega,by omega,G⟩)) (.inl ⟨G,G⟩) ?_
 intro a2 a7 aw;exact o0 ⟨a2,G,G,(a7)⟩;intro ax ay;refine dr ?_;rintro _ _ ⟨a2,rfl,rfl,a7⟩;refine dz ?_;obtain ⟨az,ai,hm⟩:=aU hm;refine cz @cK ai ?_;refine go ?_;refine cd hm G (λaj hm=>?_) (λaj hm=>?_);refine gs ?_;refine Ek [] 2 ?_;exact ef;refine gt ?_;refine gj ?_;exact kx [1] 1 (eb ae af) G (kK (b_ ad h6.mm.cQ));obtain rfl:=fK a6 a4;have hm:=(ab _ _).symm.trans hm;refine gs ?_;refine Ek [] 1 ?_;exact ef
theorem Ae {B:Nat}{w0 w:World}{H:Hp}{M:List bQ}{s:List Qi}{v0:Qj} (h0:aQ H v0 s) (hz:s.length*16<=140737488355328) (ht:St B w0 H M w):
  Calls prog 53 [v0].toArray w (ur B w0 (Py s H M)):=by
 refine enter func53 G G G ht ?_;obtain ⟨o,n,c,rfl⟩:=h0.shape;refine bL ?_;refine aM (aL G G G ?_);refine a_ (aS ?_);refine bL ?_;refine bL ?_;refine aM (bX G G G (rV G G Rl G G ?_));refine a_ (aS ?_);cases o with
 | none=>
  refine bE (b:=true) G (λ_=>?_) (λhb=>Bool.noConfusion hb);obtain rfl:=h0.isNil;refine bL ?_;refine aM (aL G G G ?_);refine a_ (aS ?_);refine mC (jQ ?_);refine cJ 9 (aH.sz Qi) ?_;exact l7 G G ⟨G,.slice none 0 0,[],G,G,(Rw.nil (H:=H)).py⟩
 | some a=>
  refine bE (b:=false) G (λhb=>Bool.noConfusion hb) (λ_=>?_);refine mD (aS ?_);refine bL ?_;refine aM (qv Qi G G Rl Si ?_);intro v1 yy h1;refine bX G G G (cW (α:=Qi) (l:=[]) (ys:=s) (bytes:=16) G G SQ ⟨_,G,G,G,G⟩ G G G G G h1 h0 (by simpa using hz) ?_)
  intro v2 tF h2;refine aL G G G ?_;refine a_ (aS ?_);refine mC ?_;exact l7 G G ⟨G,v2,tF,G,G,h2.py⟩
theorem H7 {B:Nat}{w0 w:World}{H:Hp}{M:List bQ}{s:List aV}{v0:Qj} (h0:aQ H v0 s) (hz:s.length*56<=140737488355328) (ht:St B w0 H M w):
  Calls prog 89 [v0].toArray w (ur B w0 λH' M' v=>H=H'/\∃ (v':Qj) (xs':List Qj),.row v' 41 (aH.sz aV) s.length xs'::M=M'/\v'=v/\sW v' xs' s):=by
 refine enter func89 G G G ht ?_;obtain ⟨o,n,c,rfl⟩:=h0.shape;refine bL ?_;refine aM (aL G G G ?_);refine a_ (aS ?_);refine bL ?_;refine bL ?_;refine aM (bX G G G (rV G G runUnderlying23 G G ?_));refine a_ (aS ?_);cases o with
 | none=>
  refine bE (b:=true) G (λ_=>?_) (λhb=>Bool.noConfusion hb);obtain rfl:=h0.isNil;refine bL ?_;refine aM (aL G G G ?_);refine a_ (aS ?_);refine mC (jQ ?_);refine cJ 41 (aH.sz aV) ?_;exact l7 G G ⟨G,.slice none 0 0,[],G,G,(Rw.nil (H:=H)).py⟩
 | some a=>
  refine bE (b:=false) G (λhb=>Bool.noConfusion hb) (λ_=>?_);refine mD (aS ?_);refine bL ?_;refine aM (qv aV G G runUnderlying23 sizeOf41 ?_);intro v1 yy h1;refine bX G G G (cW (α:=aV) (l:=[]) (ys:=s) (bytes:=56) G G underlying23 ⟨_,G,G,G,G⟩ G G G G G h1 h0 (by simpa using hz) ?_)
  intro v2 tF h2;refine aL G G G ?_;refine a_ (aS ?_);refine mC ?_;exact l7 G G ⟨G,v2,tF,G,G,h2.py⟩
theorem H8 {B:Nat}{w0 w:World}{H:Hp}{M:List bQ}{s:List aP}{v0:Qj} (h0:aQ H v0 s) (hz:s.length*96<=140737488355328) (ht:St B w0 H M w):
  Calls prog 90 [v0].toArray w (ur B w0 λH' M' v=>H=H'/\∃ (v':Qj) (xs':List Qj),.row v' 120 (aH.sz aP) s.length xs'::M=M'/\v'=v/\sW v' xs' s):=by
 refine enter func90 G G G ht ?_;obtain ⟨o,n,c,rfl⟩:=h0.shape;refine bL ?_;refine aM (aL G G G ?_);refine a_ (aS ?_);refine bL ?_;refine bL ?_;refine aM (bX G G G (rV G G runUnderlying24 G G ?_));refine a_ (aS ?_);cases o with
 | none=>
  refine bE (b:=true) G (λ_=>?_) (λhb=>Bool.noConfusion hb);obtain rfl:=h0.isNil;refine bL ?_;refine aM (aL G G G ?_);refine a_ (aS ?_);refine mC (jQ ?_);refine cJ 120 (aH.sz aP) ?_;exact l7 G G ⟨G,.slice none 0 0,[],G,G,(Rw.nil (H:=H)).py⟩
 | some a=>
  refine bE (b:=false) G (λhb=>Bool.noConfusion hb) (λ_=>?_);refine mD (aS ?_);refine bL ?_;refine aM (qv aP G G runUnderlying24 sizeOf120 ?_);intro v1 yy h1;refine bX G G G (cW (α:=aP) (l:=[]) (ys:=s) (bytes:=96) G G underlying24 ⟨_,G,G,G,G⟩ G G G G G h1 h0 (by simpa using hz) ?_)
  intro v2 tF h2;refine aL G G G ?_;refine a_ (aS ?_);refine mC ?_;exact l7 G G ⟨G,v2,tF,G,G,h2.py⟩
theorem H9 {B:Nat}{w0 w:World}{H:Hp}{M:List bQ}{s:List bD}{v0:Qj} (h0:aQ H v0 s) (hz:s.length*56<=140737488355328) (ht:St B w0 H M w):
  Calls prog 91 [v0].toArray w (ur B w0 λH' M' v=>H=H'/\∃ (v':Qj) (xs':List Qj),.row v' 152 (aH.sz bD) s.length xs'::M=M'/\v'=v/\sW v' xs' s):=by
 refine enter func91 G G G ht ?_;obtain ⟨o,n,c,rfl⟩:=h0.shape;refine bL ?_;refine aM (aL G G G ?_);refine a_ (aS ?_);refine bL ?_;refine bL ?_;refine aM (bX G G G (rV G G Vn G G ?_));refine a_ (aS ?_);cases o with
 | none=>
  refine bE (b:=true) G (λ_=>?_) (λhb=>Bool.noConfusion hb);obtain rfl:=h0.isNil;refine bL ?_;refine aM (aL G G G ?_);refine a_ (aS ?_);refine mC (jQ ?_);refine cJ 152 (aH.sz bD) ?_;exact l7 G G ⟨G,.slice none 0 0,[],G,G,(Rw.nil (H:=H)).py⟩
 | some a=>
  refine bE (b:=false) G (λhb=>Bool.noConfusion hb) (λ_=>?_);refine mD (aS ?_);refine bL ?_;refine aM (qv bD G G Vn sizeOf152 ?_);intro v1 yy h1;refine bX G G G (cW (α:=bD) (l:=[]) (ys:=s) (bytes:=56) G G underlying25 ⟨_,G,G,G,G⟩ G G G G G h1 h0 (by simpa using hz) ?_)
  intro v2 tF h2;refine aL G G G ?_;refine a_ (aS ?_);refine mC ?_;exact l7 G G ⟨G,v2,tF,G,G,h2.py⟩
theorem H_ {B:Nat}{w0 w:World}{H:Hp}{M:List bQ}{s:List aG}{v0:Qj} (h0:aQ H v0 s) (hz:s.length*40<=140737488355328) (ht:St B w0 H M w):
  Calls prog 92 [v0].toArray w (ur B w0 λH' M' v=>H=H'/\∃ (v':Qj) (xs':List Qj),.row v' 55 (aH.sz aG) s.length xs'::M=M'/\v'=v/\sW v' xs' s):=by
 refine enter func92 G G G ht ?_;obtain ⟨o,n,c,rfl⟩:=h0.shape;refine bL ?_;refine aM (aL G G G ?_);refine a_ (aS ?_);refine bL ?_;refine bL ?_;refine aM (bX G G G (rV G G TA G G ?_));refine a_ (aS ?_);cases o with
 | none=>
  refine bE (b:=true) G (λ_=>?_) (λhb=>Bool.noConfusion hb);obtain rfl:=h0.isNil;refine bL ?_;refine aM (aL G G G ?_);refine a_ (aS ?_);refine mC (jQ ?_);refine cJ 55 (aH.sz aG) ?_;exact l7 G G ⟨G,.slice none 0 0,[],G,G,(Rw.nil (H:=H)).py⟩
 | some a=>
  refine bE (b:=false) G (λhb=>Bool.noConfusion hb) (λ_=>?_);refine mD (aS ?_);refine bL ?_;refine aM (qv aG G G TA sizeOf55 ?_);intro v1 yy h1;refine bX G G G (cW (α:=aG) (l:=[]) (ys:=s) (bytes:=40) G G underlying26 ⟨_,G,G,G,G⟩ G G G G G h1 h0 (by simpa using hz) ?_)
  intro v2 tF h2;refine aL G G G ?_;refine a_ (aS ?_);refine mC ?_;exact l7 G G ⟨G,v2,tF,G,G,h2.py⟩
theorem Ia {B:Nat}{w0 w:World}{H:Hp}{M:List bQ}{s:List bW}{v0:Qj} (h0:aQ H v0 s) (hz:s.length*56<=140737488355328) (ht:St B w0 H M w):
  Calls prog 93 [v0].toArray w (ur B w0 λH' M' v=>H=H'/\∃ (v':Qj) (xs':List Qj),.row v' 156 (aH.sz bW) s.length xs'::M=M'/\v'=v/\sW v' xs' s):=by
 refine enter func93 G G G ht ?_;obtain ⟨o,n,c,rfl⟩:=h0.shape;refine bL ?_;refine aM (aL G G G ?_);refine a_ (aS ?_);refine bL ?_;refine bL ?_;refine aM (bX G G G (rV G G runUnderlying27 G G ?_));refine a_ (aS ?_);cases o with
 | none=>
  refine bE (b:=true) G (λ_=>?_) (λhb=>Bool.noConfusion hb);obtain rfl:=h0.isNil;refine bL ?_;refine aM (aL G G G ?_);refine a_ (aS ?_);refine mC (jQ ?_);refine cJ 156 (aH.sz bW) ?_;exact l7 G G ⟨G,.slice none 0 0,[],G,G,(Rw.nil (H:=H)).py⟩
 | some a=>
  refine bE (b:=false) G (λhb=>Bool.noConfusion hb) (λ_=>?_);refine mD (aS ?_);refine bL ?_;refine aM (qv bW G G runUnderlying27 sizeOf156 ?_);intro v1 yy h1;refine bX G G G (cW (α:=bW) (l:=[]) (ys:=s) (bytes:=56) G G underlying27 ⟨_,G,G,G,G⟩ G G G G G h1 h0 (by simpa using hz) ?_)
  intro v2 tF h2;refine aL G G G ?_;refine a_ (aS ?_);refine mC ?_;exact l7 G G ⟨G,v2,tF,G,G,h2.py⟩
theorem oZ {a0:aD}{v0 v1 v2 v3 v4 v5:Qj}{r:aD} (hm:kz a0=some r) (h0:aQ H v0 a0.bF) (h1:aQ H v1 a0.aN) (h2:aQ H v2 a0.aI) (h3:aQ H v3 a0.dB) (h4:aQ H v4 a0.bC) (h5:aQ H v5 a0.bS):
  Cq B w0 46 [.agg [v0,v1,v2,v3,v4,v5].toArray] H M (NM r):=by
 unfold kz at hm;refine f_ func46 ?_;refine gs ?_;refine bx (λau=>?_);refine al (λav=>?_);refine gs ?_;obtain ⟨ai,hm⟩:=aK hm;obtain ⟨aj,hm⟩:=aK hm;obtain ⟨ak,hm⟩:=aK hm;obtain ⟨am,hm⟩:=aK hm;obtain ⟨an,hm⟩:=aK hm;refine oy fm 17 [ph _,ph _,(K1 a0.bF),ph _,ph _,(λH rs v=>∃ a2:Qj,∃ a7:List Qj,[.row a2 41 (aH.sz aV) a0.aN.length a7]=rs/\a2=v/\Rw H a2 a7 a0.aN),ph _,ph _,(λH rs v=>∃ a3:Qj,∃ a8:List Qj,[.row a3 120 (aH.sz aP) a0.aI.length a8]=rs/\a3=v/\Rw H a3 a8 a0.aI),ph _,ph _,(λH rs v=>∃ a4:Qj,∃ a9:List Qj,[.row a4 152 (aH.sz bD) a0.dB.length a9]=rs/\a4=v/\Rw H a4 a9 a0.dB),ph _,ph _,(λH rs v=>∃ a5:Qj,∃ aa:List Qj,[.row a5 55 (aH.sz aG) a0.bC.length aa]=rs/\a5=v/\Rw H a5 aa a0.bC),ph _,ph _] ⟨om,om,?_,om,om,?_,om,om,?_,om,om,?_,om,om,?_,om,om,Qk⟩ ?_
 rintro HX hX X Rest hR _ _ ⟨rfl,rfl⟩ hU hUp;refine gJ call53 G G G (λw ht=>(Ae (s:=a0.bF) h0.mm ai ht :)) ?_;rintro _ _ _ ⟨rfl,a1,a6,rfl,rfl,ab⟩;have ab:=ab HX;exact oe [.row a1 9 (aH.sz Qi) a0.bF.length a6] lE ⟨a1,a6,G,G,(ab)⟩;rintro HX hX X Rest hR _ _ ⟨rfl,rfl⟩ _ _ ⟨a1,a6,rfl,rfl,ab⟩ hU hUp;refine gJ call89 G G G (λw ht=>(H7 (s:=a0.aN) h1.mm aj ht :)) ?_;rintro _ _ _ ⟨rfl,a2,a7,rfl,rfl,ac⟩;have ac:=ac HX;exact oe [.row a2 41 (aH.sz aV) a0.aN.length a7] lE ⟨a2,a7,G,G,(ac)⟩;rintro HX hX X Rest hR _ _ ⟨rfl,rfl⟩ _ _ ⟨a2,a7,rfl,rfl,ac⟩ hU hUp;refine gJ call90 G G G (λw ht=>(H8 (s:=a0.aI) h2.mm ak ht :)) ?_;rintro _ _ _ ⟨rfl,a3,a8,rfl,rfl,ad⟩;have ad:=ad HX;exact oe [.row a3 120 (aH.sz aP) a0.aI.length a8] lE ⟨a3,a8,G,G,(ad)⟩;rintro HX hX X Rest hR _ _ ⟨rfl,rfl⟩ _ _ ⟨a3,a8,rfl,rfl,ad⟩ hU hUp;refine gJ call91 G G G (λw ht=>(H9 (s:=a0.dB) h3.mm am ht :)) ?_
 rintro _ _ _ ⟨rfl,a4,a9,rfl,rfl,ae⟩;have ae:=ae HX;exact oe [.row a4 152 (aH.sz bD) a0.dB.length a9] lE ⟨a4,a9,G,G,(ae)⟩;rintro HX hX X Rest hR _ _ ⟨rfl,rfl⟩ _ _ ⟨a4,a9,rfl,rfl,ae⟩ hU hUp;refine gJ call92 G G G (λw ht=>(H_ (s:=a0.bC) h4.mm an ht :)) ?_;rintro _ _ _ ⟨rfl,a5,aa,rfl,rfl,af⟩;have af:=af HX;exact oe [.row a5 55 (aH.sz aG) a0.bC.length aa] lE ⟨a5,aa,G,G,(af)⟩;intro ao ap;refine dr ?_;rintro _ _ ⟨a1,a6,rfl,rfl,ab⟩;refine dr ?_;rintro _ _ ⟨a2,a7,rfl,rfl,ac⟩;refine dr ?_;rintro _ _ ⟨a3,a8,rfl,rfl,ad⟩;refine dr ?_;rintro _ _ ⟨a4,a9,rfl,rfl,ae⟩;refine dr ?_;rintro _ _ ⟨a5,aa,rfl,rfl,af⟩;refine dz ?_;refine Wp [0,0,0,0,0,0,0] ?_;obtain ⟨aq,hm⟩:=aK hm;refine gJ call93 G G G (λw ht=>(Ia (s:=a0.bS) h5.mm aq ht :)) ?_;rintro _ _ _ ⟨rfl,ah,ar,rfl,rfl,ag⟩;have ag:=ag ao;refine eC (css:=[[a1],[a2],[a3],[a4],[a5],[ah]]) (zs:=[.slice none 0 0,.slice none 0 0,.slice none 0 0,.slice none 0 0,.slice none 0 0,.slice none 0 0]) (out:=[a1,a2,a3,a4,a5,ah]) (places:=[(0,1),(1,1),(2,1),(3,1),(4,1),(5,1)]) G G G ⟨(Rw.cells ab),(Rw.cells ac),(Rw.cells ad),(Rw.cells ae),(Rw.cells af),(Rw.cells ag),Qk⟩ zeroValue29 G Ux (λw=>by kernel_rfl) G ?_
 refine wt 6 ?_;refine go ?_;obtain rfl:=Qp hm;exact kR ap G (fZ.agg G Tz Tj (.head _) G) (.cons _ (.cons_cons _ (.cons_cons _ (.cons_cons _ (.cons_cons _ (.cons_cons _ (.cons_cons _ (.cons _ (.refl _))))))))) (.trans (.swap _ _ _) (.trans (.cons _ (.swap _ _ _)) (.trans (.cons _ (.cons _ (.swap _ _ _))) (.trans (.cons _ (.cons _ (.cons _ (.swap _ _ _)))) (.cons _ (.cons _ (.cons _ (.cons _ (.swap _ _ _))))))))) ⟨G,a1,a6,a2,a7,a3,a8,a4,a9,a5,aa,ah,ar,G,G,(ab).py,(ac).py,(ad).py,(ae).py,(af).py,(ag).py⟩
theorem vc {a0:aG}{a1:(List Qi)}{b0:Nat}{v0:Qj}{r:Bool} (hm:mo a0 a1=some r) (h0:aQ H v0 a1):
  Cq B w0 120 [.agg [.string (a0.Name),.string (a0.Node),.int .i64 (a0.dA)].toArray,.pointer (some ⟨b0,0,none⟩)] H (.obj b0 (.cells [v0].toArray 22 (0,0))::M) (λH _=>Ml b0 v0 r H M):=by
 unfold mo at hm;refine f_ func120 ?_;refine gs ?_;refine bx (λa3=>?_);refine gs ?_;obtain ⟨a4,a2,hm⟩:=aU hm;refine cz @cK a2 ?_;refine go ?_;refine Ek [1] 1 ?_;exact ef
theorem nb {a2:(List aG)}{a4:(List Qi)}{v0:Qj}{b0:Nat}{v1:Qj}{r:Int} (hm:e_ a2 a4=some r) (h0:aQ H v0 a2) (h1:aQ H v1 a4):
  Cq B w0 97 [v0,.func (.func 120) [].toArray [.pointer (some ⟨b0,0,none⟩)].toArray] H (.obj b0 (.cells [v1].toArray 22 (0,0))::M) (λH _=>Mm b0 v1 r H M):=by
 unfold e_ at hm;refine f_ func97 ?_;refine g2 ?_;refine gs ?_;obtain ⟨a5,a7,a8,hm⟩:=jE hm;refine cl [(0,_),(1,_),(7,_)] [] 0 [] 0 (FF (((a2.length:Int):Int).toNat) a5 r H 8) _ G ⟨0,_,QL _,G,hm,lE,G,G⟩ ?_;rintro _ af _ _ ⟨a0,a1,a6,rfl,hm,ag,rfl,rfl⟩;refine g2 ?_;refine bE G (λa3=>?_) (λa3=>?_);obtain ⟨a9,rfl,aa,ab⟩:=lM a6 a3;have hm:=(a7 _ _ _).symm.trans hm;generalize ac:a5 a9 (a0+1)=ah at hm;unfold iL at hm;refine g2 ?_;refine gs ?_;obtain ⟨ai,aj,ak,hm⟩:=aB hm;refine go ?_;obtain ⟨am,ad,hm⟩:=aU hm;refine mz call120 G G G G (λw ht=>(vc (hm:=ad) h1.mm ht :)) ?_;rintro _ _ _ ⟨rfl,rfl,rfl⟩;refine go ?_;refine cd hm G (λae hm=>?_) (λae hm=>?_);refine gs ?_;exact ef;refine gt ?_;refine gj ?_;exact kj (eb aa ac) (kK (eS ab (eU (ly (h0).cQ))));obtain rfl:=lL a6 a3;have hm:=(a8 _ _).symm.trans hm;refine gs ?_
 exact ef
theorem mK {a4:(List aG)}{del_0:(List Qi)}{v0:Qj}{s9:List Qj}{b0:Nat}{v1:Qj}{r:(List aG)} (hm:dW a4 del_0=some r) (h0:Rw H v0 s9 a4) (h1:aQ H v1 del_0):
  Cq B w0 119 [v0,.func (.func 120) [].toArray [.pointer (some ⟨b0,0,none⟩)].toArray] H (.row v0 55 (aH.sz aG) a4.length s9::.obj b0 (.cells [v1].toArray 22 (0,0))::M) (λH _ H' M' v=>H=H'/\∃ qv0:Qj,∃ qxs0:List Qj,.row qv0 55 (aH.sz aG) r.length qxs0::.obj b0 (.cells [v1].toArray 22 (0,0))::M=M'/\qv0=v/\sW qv0 qxs0 r):=by
 unfold dW at hm;refine f_ func119 ?_;refine g2 ?_;obtain ⟨aq,ab,hm⟩:=aU hm;refine cy @nb ab ?_;rintro _ _ _ ⟨rfl,⟨_,rfl,rfl,rfl⟩⟩;refine g2 ?_;refine cd hm G (λac hm=>?_) (λac hm=>?_);refine gs ?_;exact ef;refine g2 ?_;obtain ⟨a9,ad,ae,hm⟩:=kT hm;refine cl [(0,_),(1,_)] [1] 1 [] 0 (λu m n H' M' L'=>∃ a0:List aG,∃ a1 a2:Int,∃ a5:List Qj,a9 n (a0,a1,a2)=some r/\Rw H' v0 a5 a0/\H.le H'/\.row v0 55 (aH.sz aG) a0.length a5::m=M'/\(5,.int .i64 (a1))::(6,.int .i64 (a2))::u=L') fY G ⟨_,_,_,_,hm,h0,lE,G,G⟩ ?_;rintro a6 af _ _ ⟨a0,a1,a2,a5,hm,ag,ar,rfl,rfl⟩
 rcases a6 with _ | a6
 exact nomatch (ae _).symm.trans hm;have hm:=(ad _ _).symm.trans hm;generalize ah:a9 a6=ai at hm
 try dsimp only at hm
 unfold iB at hm;refine g2 ?_;refine cd hm G (λaj hm=>?_) (λaj hm=>?_);refine go ?_;refine cj [(0,_),(1,_),(6,_)] [1] 1 (λu m H' M' L'=>∃ a3:List aG,∃ a7:Int,∃ a8:List Qj,dK a2 ai a3 a7=some r/\Rw H' v0 a8 a3/\af=H'/\.row v0 55 (aH.sz aG) a3.length a8::m=M'/\(5,.int .i64 (a7))::u=L') ?_ (λaa=>?_);rintro _ _ _ ⟨a3,a7,a8,hm,au,rfl,rfl,rfl⟩;unfold dK at hm;refine gj ?_;exact kj (C4 ah);refine gs ?_;obtain ⟨ak,av,aw,hm⟩:=aB hm;refine go ?_;refine al (λax=>?_);refine wt 0 ?_;refine gs ?_;refine Wp [2] ?_;obtain ⟨ay,am,hm⟩:=aU hm;refine mz call120 G G G G (λw ht=>(vc (hm:=am) h1.mm ht :)) ?_;rintro _ _ _ ⟨rfl,rfl,rfl⟩;refine go ?_;refine cd hm G (λan hm=>?_) (λan hm=>?_);refine gs ?_;obtain ⟨az,b1,b2,hm⟩:=aB hm;refine go ?_;refine wF 2 0 ak ?_;intro b3 b4 b5;refine a_ (aS ?_);refine gj ?_;exact kx [0,0] 1 (aa _ _ _ pk)
 refine gj ?_;exact kx [2,0] 1 (aa _ _ _ pk);refine gs ?_;obtain ⟨ao,hm⟩:=aK hm;refine tM (α:=aG) (zs:=[.string (⟨#[]⟩),.string (⟨#[]⟩),.int .i64 (0)]) (ze:=(aG.mk (⟨#[]⟩) (⟨#[]⟩) 0)) G G (λ_=>G) underlying26 TA sizeOf55 zeroValue55 G G G G G G ag ao ?_;intro b6 b7 ap;refine gs ?_;obtain ⟨b8,hm⟩:=aK hm;refine uS (α:=aG) (l:=0) (h:=(a1:Int).toNat) G G TA sizeOf55 G G ap (by omega) (by omega) (λm hmm=>(.inr ⟨_,_,_,G,G,by omega,by omega,G⟩)) (.inl ⟨G,G⟩) ?_
 intro b9 ba bb;refine go ?_;exact ef
theorem wx {a0:aD}{on:(List Qi)}{v0 v1 v2 v3 v4 v5 v6:Qj}{r:aD} (hm:pN a0 on=some r) (h0:aQ H v0 a0.bF) (h1:aQ H v1 a0.aN) (h2:aQ H v2 a0.aI) (h3:aQ H v3 a0.dB) (h4:aQ H v4 a0.bC) (h5:aQ H v5 a0.bS) (h6:aQ H v6 on):
  Cq B w0 77 [.agg [v0,v1,v2,v3,v4,v5].toArray,v6] H M (NM r):=by
 unfold pN at hm;refine f_ func77 ?_;refine gs ?_;refine bx (λan=>?_);refine bx (λao=>?_);refine al (λap=>?_);refine gs ?_;obtain ⟨aq,a8,hm⟩:=aU hm;refine ca @oZ a8 ?_;rintro _ _ _ ⟨rfl,a9,aa,ab,ac,ad,ae,af,ag,ar,au,ah,ai,rfl,rfl,a1,a2,a3,a4,a7,a5⟩;have a1:=a1 H;have a2:=a2 H;have a3:=a3 H;have a4:=a4 H;have a7:=a7 H;have a5:=a5 H;refine al (λav=>?_);refine wt 0 ?_;refine gs ?_;refine Wp [5,7] ?_;obtain ⟨aw,aj,hm⟩:=aU hm;refine ca @mK aj ?_;rintro _ _ _ ⟨rfl,ak,am,rfl,rfl,a6⟩;have a6:=a6 H;refine go ?_;refine wt 2 ?_;refine gs ?_;refine wt 8 ?_;refine go ?_;obtain rfl:=Qp hm;exact kR lE G (fZ.agg G Tz Tj (.head _) G) (.cons _ (.cons _ (.cons_cons _ (.cons _ (.cons_cons _ (.cons_cons _ (.cons_cons _ (.cons_cons _ (.cons_cons _ (.cons _ (.refl _))))))))))) (.trans (.swap _ _ _) (.trans (.cons _ (.swap _ _ _)) (.trans (.cons _ (.cons _ (.swap _ _ _))) (.cons _ (.cons _ (.cons _ (.swap _ _ _))))))) ⟨G,a9,aa,ab,ac,ad,ae,af,ag,ak,am,ah,ai,G,G,(a1).py,(a2).py,(a3).py,(a4).py,(a6).py,(a5).py⟩
theorem wv {a0:aD}{on:(List Qi)}{v0 v1 v2 v3 v4 v5 v6:Qj}{r:aD×Int} (hm:lI a0 on=some r) (h0:aQ H v0 a0.bF) (h1:aQ H v1 a0.aN) (h2:aQ H v2 a0.aI) (h3:aQ H v3 a0.dB) (h4:aQ H v4 a0.bC) (h5:aQ H v5 a0.bS) (h6:aQ H v6 on):
  Cq B w0 41 [.agg [v0,v1,v2,v3,v4,v5].toArray,v6] H M (λH M H' M' v=>H=H'/\∃ qv0:Qj,∃ qxs0:List Qj,∃ qv1:Qj,∃ qxs1:List Qj,∃ qv2:Qj,∃ qxs2:List Qj,∃ qv3:Qj,∃ qxs3:List Qj,∃ qv4:Qj,∃ qxs4:List Qj,∃ qv5:Qj,∃ qxs5:List Qj,.row qv0 9 (aH.sz Qi) r.1.bF.length qxs0::.row qv1 41 (aH.sz aV) r.1.aN.length qxs1::.row qv2 120 (aH.sz aP) r.1.aI.length qxs2::.row qv3 152 (aH.sz bD) r.1.dB.length qxs3::.row qv4 55 (aH.sz aG) r.1.bC.length qxs4::.row qv5 156 (aH.sz bW) r.1.bS.length qxs5::M=M'/\.tuple #[.agg [qv0,qv1,qv2,qv3,qv4,qv5].toArray,.int .i64 (r.2)]=v/\sW qv0 qxs0 r.1.bF/\sW qv1 qxs1 r.1.aN/\sW qv2 qxs2 r.1.aI/\sW qv3 qxs3 r.1.dB/\sW qv4 qxs4 r.1.bC/\sW qv5 qxs5 r.1.bS):=by
 unfold lI at hm;refine f_ func41 ?_;refine gs ?_;refine bx (λan=>?_);refine al (λao=>?_);refine g2 ?_;obtain ⟨ap,a7,hm⟩:=aU hm;refine cz @vF a7 ?_;refine gs ?_;refine cd hm G (λa8 hm=>?_) (λa8 hm=>?_);refine gs ?_;refine eC (css:=[]) (zs:=[.slice none 0 0,.slice none 0 0,.slice none 0 0,.slice none 0 0,.slice none 0 0,.slice none 0 0]) (out:=[.slice none 0 0,.slice none 0 0,.slice none 0 0,.slice none 0 0,.slice none 0 0,.slice none 0 0]) (places:=[(0,1),(1,1),(2,1),(3,1),(4,1),(5,1)]) G G G Qk zeroValue29 G Ux (λw=>by kernel_rfl) G ?_
 refine go ?_;refine wt 0 ?_;refine gt ?_;refine gj ?_;refine cJ 9 (aH.sz Qi) (cJ 41 (aH.sz aV) (cJ 120 (aH.sz aP) (cJ 152 (aH.sz bD) (cJ 55 (aH.sz aG) (cJ 156 (aH.sz bW) ?_)))));obtain rfl:=Qp hm;exact C5 lE G (fZ.agg G Tz Tj (.tail _ (.tail _ (.tail _ (.tail _ (.tail _ (.tail _ (.head _))))))) G) (fZ.tmp G) (.cons_cons _ (.cons_cons _ (.cons_cons _ (.cons_cons _ (.cons_cons _ (.cons_cons _ (.cons _ (.cons _ (.refl _))))))))) (.trans (.cons _ (.cons _ (.cons _ (.cons _ (.swap _ _ _))))) (.trans (.cons _ (.cons _ (.cons _ (.swap _ _ _)))) (.trans (.cons _ (.cons _ (.swap _ _ _))) (.trans (.cons _ (.swap _ _ _)) (.trans (.swap _ _ _) (.trans (.cons _ (.cons _ (.cons _ (.cons _ (.swap _ _ _))))) (.trans (.cons _ (.cons _ (.cons _ (.swap _ _ _)))) (.trans (.cons _ (.cons _ (.swap _ _ _))) (.trans (.cons _ (.swap _ _ _)) (.trans (.cons _ (.cons _ (.cons _ (.cons _ (.swap _ _ _))))) (.trans (.cons _ (.cons _ (.cons _ (.swap _ _ _)))) (.trans (.cons _ (.cons _ (.swap _ _ _))) (.trans (.cons _ (.cons _ (.cons _ (.cons _ (.swap _ _ _))))) (.trans (.cons _ (.cons _ (.cons _ (.swap _ _ _)))) (.cons _ (.cons _ (.cons _ (.cons _ (.swap _ _ _))))))))))))))))))) ⟨G,(.slice none 0 0),[],(.slice none 0 0),[],(.slice none 0 0),[],(.slice none 0 0),[],(.slice none 0 0),[],(.slice none 0 0),[],G,G,(Rw.nil (H:=H)).py,(Rw.nil (H:=H)).py,(Rw.nil (H:=H)).py,(Rw.nil (H:=H)).py,(Rw.nil (H:=H)).py,(Rw.nil (H:=H)).py⟩
 refine gs ?_;obtain ⟨aq,a9,hm⟩:=aU hm;refine ca @wx a9 ?_;rintro _ _ _ ⟨rfl,aa,ab,ac,ad,ae,af,ag,ah,ai,aj,ak,am,rfl,rfl,a1,a2,a3,a4,a5,a6⟩;have a1:=a1 H;have a2:=a2 H;have a3:=a3 H;have a4:=a4 H;have a5:=a5 H;have a6:=a6 H;refine wt 6 ?_;refine go ?_;obtain rfl:=Qp hm;exact C5 lE G (fZ.agg G Tz Tj (.head _) G) (fZ.tmp G) (.cons _ (.cons_cons _ (.cons_cons _ (.cons_cons _ (.cons_cons _ (.cons_cons _ (.cons_cons _ (.cons _ (.refl _))))))))) (.refl _) ⟨G,aa,ab,ac,ad,ae,af,ag,ah,ai,aj,ak,am,G,G,(a1).py,(a2).py,(a3).py,(a4).py,(a5).py,(a6).py⟩
theorem zq {a3:aD}{ak:Bool}{v0 v1 v2 v3 v4 v5:Qj}{r:(List cB)×(List Int)} (hm:qA a3 ak=some r) (h0:aQ H v0 a3.bF) (h1:aQ H v1 a3.aN) (h2:aQ H v2 a3.aI) (h3:aQ H v3 a3.dB) (h4:aQ H v4 a3.bC) (h5:aQ H v5 a3.bS):
  Cq B w0 180 [.agg [v0,v1,v2,v3,v4,v5].toArray,.bool (ak)] H M (λH M H' M' v=>H=H'/\∃ qv0:Qj,∃ qxs0:List Qj,∃ qv1:Qj,∃ qxs1:List Qj,.row qv0 231 (aH.sz cB) r.1.length qxs0::.row qv1 3 (aH.sz Int) r.2.length qxs1::M=M'/\.tuple #[qv0,qv1]=v/\sW qv0 qxs0 r.1/\sW qv1 qxs1 r.2):=by
 unfold qA at hm;refine f_ func180 ?_;refine gs ?_;refine bx (λbc=>?_);refine g2 ?_;refine g2 ?_;refine kE 231 (aH.sz cB) (kE 3 (aH.sz Int) ?_);obtain ⟨am,aq,ar,hm⟩:=cN hm;refine cl [(1,_),(2,_),(11,_),(12,_)] [2] 2 [1] 0 (λu m n H' M' L'=>∃ (a2:Nat) (a7:List aV),∃ a5:List cB,∃ a6:List Int,∃ a8:Qj,∃ ae:List Qj,∃ a9:Qj,∃ af:List Qj,(a3.aN).drop a2=a7/\a7.length=n/\am a2 a7 (a5,a6)=some r/\Rw H' a8 ae a5/\Rw H' a9 af a6/\H.le H'/\.row a8 231 (aH.sz cB) a5.length ae::.row a9 3 (aH.sz Int) a6.length af::m=M'/\(6,a8)::(7,a9)::(13,.int .i64 ((a2:Int)))::u=L') _ G ⟨0,_,_,_,_,_,_,_,G,G,hm,Rw.nil,Rw.nil,lE,G,G⟩ ?_;rintro _ au _ _ ⟨a2,a7,a5,a6,a8,ae,a9,af,an,rfl,hm,av,aw,bd,rfl,rfl⟩;refine g2 ?_;refine bE G (λag=>?_) (λag=>?_);obtain ⟨be,ax,rfl,ay,az⟩:=fL an ag;have hm:=(aq _ _ _ _).symm.trans hm
 generalize b0:am (a2+1) ax=b1 at hm
 try dsimp only at hm
 unfold sq at hm;refine go ?_;refine cj [(1,_),(2,_),(11,_),(12,_),(13,_)] [2] 2 (λu m H' M' L'=>∃ aa:List cB,∃ ab:List Int,∃ ac:Qj,∃ ah:List Qj,∃ ad:Qj,∃ ai:List Qj,ot b1 aa ab=some r/\Rw H' ac ah aa/\Rw H' ad ai ab/\au.le H'/\.row ac 231 (aH.sz cB) aa.length ah::.row ad 3 (aH.sz Int) ab.length ai::m=M'/\(6,ac)::(7,ad)::u=L') ?_ (λao=>?_);rintro bf _ _ ⟨aa,ab,ac,ah,ad,ai,hm,bg,bh,bi,rfl,rfl⟩;unfold ot at hm;refine gj ?_;exact kj (eb az b0) (kK (b_ ay h1.mm.cQ));refine gs ?_;refine al (λbj=>?_);refine go ?_;refine wt 0 ?_;refine gs ?_;refine Bu G G U1 G G (go ?_);refine cd hm G (λb2 hm=>?_) (λb2 hm=>?_);refine gs ?_;obtain ⟨a0,b3,hm⟩:=aU hm;obtain ⟨a1,b4,hm⟩:=aU hm;refine oy fm 13 [ph _,ph _,ph _,ph _,ph _,ph (.int .i64 (a0)),ph _,ph _,ph _,ph _,ph (.int .i64 (a1)),ph (.agg [.int .i64 (a0),.int .i64 (a1)].toArray),(λH rs v=>∃ a4:Qj,[]=rs/\a4=v/\aQ H a4 ([(cB.mk a0 a1)])/\Value.oz a4=([(cB.mk a0 a1)]).length)] ⟨om,om,om,om,om,?_,om,om,om,om,?_,?_,?_,Qk⟩ ?_
 exact rk tt @cD b3;exact rk tt @cD b4;rintro HX hX X Rest hR _ _ ⟨rfl,rfl⟩ _ _ ⟨rfl,rfl⟩ hU hUp;refine yC (css:=[[.int .i64 (a0)],[.int .i64 (a1)]]) (zs:=[.int .i64 (0),.int .i64 (0)]) (out:=[.int .i64 (a0),.int .i64 (a1)]) (places:=[(0,1),(1,1)]) G G G ⟨G,G,Qk⟩ zeroValue231 G Sg R4 G G ?_;exact o0 ⟨G,G⟩;rintro HX hX X Rest hR _ _ ⟨rfl,rfl⟩ hU hUp;refine dD (α:=cB) (css:=[[.int .i64 (a0),.int .i64 (a1)]]) (zs:=[.int .i64 (0),.int .i64 (0)]) (out:=[.int .i64 (a0),.int .i64 (a1)]) (ys:=[(cB.mk a0 a1)]) G G G ⟨G,Qk⟩ runUnderlying230 sizeOf231 G zeroValue231 (by kernel_rfl) G G G G ⟨[.int .i64 (a0),.int .i64 (a1)],[],G,G,G⟩ G ?_
 intro bk a4 bl b5 b6 aj;have ap:Value.oz a4=([(cB.mk a0 a1)]).length:=by rw [b5]; rfl
 exact oe [] b6 ⟨a4,G,G,(aj),(ap)⟩;intro bm bn;refine dr ?_;rintro _ _ ⟨a4,rfl,rfl,aj,ap⟩;refine uK ?_;obtain ⟨b7,hm⟩:=aK hm;refine Wp [1] ?_;refine cW (α:=cB) (l:=a5) (ys:=[(cB.mk a0 a1)]) G G underlying230 ⟨_,G,G,G,G⟩ G G G G G av.mm aj b7 ?_;intro bo bp bq;refine go ?_;refine dD (α:=Int) (css:=[[.int .i64 ((a2:Int))]]) (zs:=[.int .i64 (0)]) (out:=[.int .i64 ((a2:Int))]) (ys:=([((a2:Int))]:List Int)) G G G ⟨G,Qk⟩ RO R4 G SY (by kernel_rfl) G G G G ⟨[.int .i64 ((a2:Int))],[],G,G,G⟩ G ?_
 intro br b8 bs b9 bt ba;have bu:Value.oz b8=([((a2:Int))]:List Int).length:=by rw [b9]; rfl
 obtain ⟨bb,hm⟩:=aK hm;refine Wp [2] ?_;refine cW (α:=Int) (l:=a6) (ys:=([((a2:Int))]:List Int)) G G RY ⟨_,G,G,G,G⟩ G G G G G aw.mm ba bb ?_;intro bv bw bz;refine gj ?_;exact kx [1,0,1] 1 (ao _ _ _ pk);refine gj ?_;exact kx [1,1,1] 1 (ao _ _ _ pk);obtain rfl:=fK an ag;have hm:=(ar _ _).symm.trans hm
 try dsimp only at hm
 refine gs ?_;refine Ek [0,0] 1 ?_;exact ef
theorem AQ {a2:Int}{a4:(List cB)}{v0:Qj}{r:Int} (hm:rS a2 a4=some r) (h0:aQ H v0 a4):
  Cq B w0 181 [.int .i64 (a2),v0] H M (yV r):=by
 unfold rS at hm;refine f_ func181 ?_;refine g2 ?_;refine cj [(0,_),(1,_)] [] 0 (xp H 17 (((decide (a2<0)) || (decide (24<a2))) || (decide (64<(a4.length:Int))))) ?_ (λa6=>?_);rintro _ _ _ ⟨rfl,rfl,rfl⟩;refine cd hm G (λae hm=>?_) (λae hm=>?_);refine gs ?_;exact ef;refine g2 ?_;obtain ⟨a9,af,ag,hm⟩:=cN hm;refine cl [(0,_),(18,_),(19,_)] [] 0 [] 0 (λu m n H' M' L'=>∃ (a3:Nat) (a5:List cB),(a4).drop a3=a5/\a5.length=n/\a9 a3 a5 ()=some r/\H.le H'/\m=M'/\(20,.int .i64 ((a3:Int)))::u=L') _ G ⟨0,_,G,G,hm,lE,G,G⟩ ?_;rintro _ an _ _ ⟨a3,a5,aa,rfl,hm,ao,rfl,rfl⟩;refine g2 ?_;refine bE G (λa7=>?_) (λa7=>?_);obtain ⟨a8,ah,rfl,ai,aj⟩:=fL aa a7;have hm:=(af _ _ _ _).symm.trans hm;generalize ak:a9 (a3+1) ah=ap at hm;unfold tw at hm;refine g2 ?_;refine al (λaq=>?_);refine wt 0 ?_;refine gs ?_;refine qD G G Sg R4 G G (by decide) (by decide) (go ?_)
 cases ab:(decide (a8.a0<0));have hm:=dU ab hm;refine qD G G Sg R4 G G (by decide) (by decide) (go ?_)
 cases ac:(decide (a2<=a8.a0));have hm:=dU ac hm;refine qD G G Sg R4 G G (by decide) (by decide) (go ?_)
 cases ad:(decide (a8.a1<0));have hm:=dU ad hm;refine qD G G Sg R4 G G (by decide) (by decide) (go ?_)
 refine cd hm G (λam hm=>?_) (λam hm=>?_);refine gs ?_;refine Ek [] 1 ?_;exact ef;refine gt ?_;refine gj ?_;exact kx [] 1 (eb aj ak) G (kK (b_ ai h0.mm.cQ));have hm:=dV ad hm;refine go ?_;refine cT G ?_;refine gs ?_;refine Ek [] 1 ?_;exact ef;have hm:=dV ac hm;refine go ?_;refine cT G ?_;refine gs ?_;refine Ek [] 1 ?_;exact ef;have hm:=dV ab hm;refine go ?_;refine cT G ?_;refine gs ?_;refine Ek [] 1 ?_;exact ef;obtain rfl:=fK aa a7;have hm:=(ag _ _).symm.trans hm;refine gs ?_;exact ef;refine go ?_;cases ar:(decide (a2<0));refine go ?_;cases au:(decide (24<a2));refine gj ?_;exact kj (a6 _ _ _ pk) kS;refine gj ?_;exact kj (a6 _ _ _ pk) kS;refine gj ?_;exact kj (a6 _ _ _ pk) kS
theorem yh {a0 a1:Int}{r:Int×Int} (hm:mU a0 a1=r):
  Cq B w0 167 [.int .u64 (a0),.int .u64 (a1)] H M (λH M H' M' v=>H=H'/\M=M'/\.tuple #[.int .u64 (r.1),.int .u64 (r.2)]=v):=by
 unfold mU at hm;refine f_ func167 ?_;refine g2 ?_;refine gs ?_;refine ug G G G G (by decide) (g2 ?_)
 refine ug G G G G (by decide) (g2 ?_)
 refine ug G G G G (by decide) (g2 ?_)
 refine ug G G G G (by decide) (g2 ?_)
 refine ug G G G G (by decide) (gs ?_)
 obtain rfl:=hm;refine Ew H ?_;exact CM G G G ⟨G,G,G⟩
theorem vE {a0 a1:Int}{r:Int×Int} (hm:r7 a0 a1=r):
  Cq B w0 140 [.int .u64 (a0),.int .u64 (a1)] H M (λH M H' M' v=>H=H'/\M=M'/\.tuple #[.int .u64 (r.1),.int .u64 (r.2)]=v):=by
 unfold r7 at hm;refine f_ func140 ?_;refine g2 ?_;refine cF G ?_;refine gs ?_;refine cz @yh (G:mU a0 a1=_) ?_;refine gs ?_;obtain rfl:=hm;refine Ew H ?_;exact CM G G G ⟨G,G,G⟩
theorem AH (m:Nat) (hm:m<9223372036854775808):r7 (u64.wrap (1:Int)) (u64.wrap (m:Int))=(0,(m:Int)):=by
 have hw:u64.wrap (m:Int)=m:=by rw [IntKind.wrap_u64]; omega
 have h1:u64.wrap (1:Int)=1:=rfl;have hand:u64.wrap ((BitVec.ofInt (u64).bits (m:Int) &&& BitVec.ofInt (u64).bits 4294967295).toNat)=((m%4294967296:Nat):Int):=by
  have h:=bits_and_u64_nat m 4294967295 (by omega) (by omega)
  have e:m &&& 4294967295=m%4294967296:=TT m 32;rw [e] at h;exact h
 have hand2:u64.wrap ((BitVec.ofInt (u64).bits ((m / 4294967296%4294967296:Nat):Int) &&& BitVec.ofInt (u64).bits 4294967295).toNat)=((m / 4294967296%4294967296:Nat):Int):=by
  have h:=bits_and_u64_nat (m / 4294967296%4294967296) 4294967295 (by omega) (by omega)
  have e:(m / 4294967296%4294967296) &&& 4294967295=(m / 4294967296%4294967296)%4294967296:=TT _ 32;rw [e,Nat.mod_mod] at h;exact h
 have hs0:oF .u64 (1:Int) 32=0:=rfl;have hs00:oF .u64 (0:Int) 32=0:=rfl;have hand1:u64.wrap ((BitVec.ofInt (u64).bits (1:Int) &&& BitVec.ofInt (u64).bits 4294967295).toNat)=1:=rfl;have hand0:u64.wrap ((BitVec.ofInt (u64).bits (0:Int) &&& BitVec.ofInt (u64).bits 4294967295).toNat)=0:=rfl;have hsm:∀ k:Nat,oF .u64 (k:Int) 32=((k / 4294967296:Nat):Int):=λk=>GK k;have e0:((m%4294967296:Nat):Int)=((m%4294967296:Nat):Int):=rfl;have w1:u64.wrap ((m%4294967296:Nat):Int)=((m%4294967296:Nat):Int):=by rw [IntKind.wrap_u64]; omega
 have w2:u64.wrap ((m / 4294967296:Nat):Int)=((m / 4294967296:Nat):Int):=by rw [IntKind.wrap_u64]; omega
 have d1:m%4294967296 / 4294967296=0:=by omega
 have d2:m / 4294967296 / 4294967296=0:=by omega
 have z0:u64.wrap (0:Int)=0:=rfl;unfold r7 mU;rw [hw,h1]
 simp only [hs0,hs00,hand1,hand,hsm,Int.zero_mul,Int.one_mul,z0,Int.zero_add,w1,d1,Int.ofNat_zero,Int.natCast_zero,Int.add_zero,hand0,w2,d2,hw]
theorem Fs {s:List Int}{v0:Qj}{n:Int} (h0:aQ H v0 s) (hz:s.length=1/\0<=n/\n*8<=140737488355328) (ht:St B w0 H M w):
  Calls prog 205 [v0,.int .i64 n].toArray w (ur B w0 (NN (GD s n) H M)):=by
 obtain ⟨hs1,hn0,hb⟩:=hz;obtain ⟨a,rfl⟩:=TZ.1 hs1;obtain ⟨m,rfl⟩:∃ m:Nat,n=m:=⟨n.toNat,by omega⟩
 have hrep:=xN a m;rw [hrep];have hlr:(List.replicate m a).length=m:=RE;have hmb:m<9223372036854775808:=by omega
 obtain ⟨o,c,hv0,_⟩:=h0.len
 simp only [Qy,Sk,QL] at hv0
 subst hv0;refine enter func205 G G G ht ?_;refine bL ?_;refine aM (aL G G G ?_);refine a_ (aS ?_);refine bL ?_;refine bL ?_;refine aM (bX G G G (vw G G G G G ?_));refine a_ (aS ?_);refine bE (b:=decide ((m:Int)<0)) G (λhb=>absurd (Qr hb) (by omega)) (λ_=>?_)
 refine mD (aS ?_);refine bL ?_;refine aM (bX G G G (Dy G G RO G (rh G G Su TK G (bX G G G (rh G G Su TK G ?_)))));refine gJ call140 G G G (λw ht=>by have h:=vE (hm:=AH m hmb) ht; exact h) ?_
 rintro _ _ _ ⟨rfl,rfl,rfl⟩;refine bX G G G (ss G G G G (ss G G G G (aL G G G (aL G G G ?_))));refine a_ (aS ?_);refine bL ?_;refine bL ?_;refine aM (bX G G G (vw G G G G G (bX G G G (bX G G G (vw G G G G G (Dz (b:=false) G G G G ?_))))));refine a_ (aS ?_);refine bE (b:=decide (9223372036854775807<(m:Int))) G (λhb=>absurd (Qr hb) (by omega)) (λ_=>?_)
 refine mD (aS ?_);have hw:i64.wrap (m:Int)=m:=xB (by omega) (by omega)
 refine bL ?_;refine aM (bX G G G (rh G G TK Su G ?_));rw [hw];refine fJ (α:=Int) (ze:=0) (bytes:=8) G G RY ⟨_,G,G,G,G⟩ G G G G G G (by omega) hb ?_
 intro v1 yy hx1;rw [Qn] at hx1 ⊢;refine aL G G G ?_;refine a_ (aS ?_);generalize hl1:List.replicate m (0:Int)=l1 at hx1 ⊢;have hll:l1.length=m:=by rw [<- hl1]; exact RE
 refine bL ?_;refine aM (bX G G G (bX G G G (GW (α:=Int) (l:=l1) (ys:=[a]) G G RY R4 G G G hx1 h0 (by simp) ?_)))
 rw [Rk,hll];generalize hl2:[a].take (min 1 m)++l1.drop (min 1 m)=l2;have hl2l:l2.length=m:=by rw [<- hl2,QE,QN,RX,Rk]; omega
 have hl2t:l2.take (min 1 m)=List.replicate (min 1 m) a:=by
  rw [<- hl2];cases m with
  | zero=>rfl
  | succ q=>rw [show min 1 (q+1)=1 by omega]; rfl
 intro tF hx2;refine aL G G G ?_;refine a_ (aS ?_);obtain ⟨o1,m1,c1,hv1⟩:=hx2.sl;refine bL ?_;refine uq (Bb (L':=[(7,v1),(8,.int .i64 ((min 1 m:Nat):Int))]) ⟨G,G,Qk⟩ (SV _) ?_);refine Bc (λn H' M' L'=>∃ (q:Nat) (l:List Int) (xs:List Qj),m-q=n/\(1<=q\/m=0)/\q<=m/\l.length=m/\l.take q=List.replicate q a/\Rw H' v1 xs l/\H.le H'/\.row v1 3 (aH.sz Int) m xs::M=M'/\[(7,v1),(8,.int .i64 (q:Int))]=L') (m-min 1 m) ⟨min 1 m,l2,tF,G,by omega,by omega,hl2l,hl2t,hx2,Rh _,G,G⟩ ?_
 rintro n3 H3 _ _ ⟨q,l3,CE,hn3,hq1,hqm,hl3,ht3,hx3,hle3,rfl,rfl⟩;refine bL ?_;refine bL ?_;refine aM (bX G G G (bX G G G (qY (M':=.row v1 3 (aH.sz Int) l3.length CE::M) (by rw [hl3]) (Bv (Qq ..) G G RO G (vw G G G G G ?_)))))
 refine a_ (aS ?_);refine bE (b:=decide ((q:Int)<(l3.length:Int))) G (λhb=>?_) (λhb=>?_)
 ·have hlt:q<l3.length:=by have:=Qr hb; omega
  refine mD (aS ?_);refine zU (by omega) (λgb off cap hv hcap=>?_)
  subst hv;refine uq (I3 (M':=[[.row (.slice (some ⟨gb,off,none⟩) l3.length cap) 3 (aH.sz Int) l3.length CE]].flatten++M) G ?_);refine rO 8 (zv [(GP (q:Int)),(λH rs v=>[]=rs/\.slice (some ⟨gb,off,none⟩) l3.length cap=v),(GP (q:Int)),(λH rs v=>[]=rs/\.slice (some ⟨gb,off+q*aH.sz Int,none⟩) (l3.length-q) (cap-q)=v),(λH rs v=>[]=rs/\.slice (some ⟨gb,off,none⟩) l3.length cap=v),(GP (q:Int)),(λH rs v=>[]=rs/\.slice (some ⟨gb,off,none⟩) q cap=v),(λH rs v=>∃ Ax:List Qj,[.row (.slice (some ⟨gb,off,none⟩) l3.length cap) 3 (aH.sz Int) l3.length Ax]=rs/\.int .i64 ((min q (l3.length-q):Nat):Int)=v/\Rw H (.slice (some ⟨gb,off,none⟩) l3.length cap) Ax (l3.take q++l3.take (min q (l3.length-q))++l3.drop (q+min q (l3.length-q))))]) [[],[],[],[],[],[],[],[8]] [[],[],[],[],[],[],[],[]] [[.row (.slice (some ⟨gb,off,none⟩) l3.length cap) 3 (aH.sz Int) l3.length CE]] [0,1,2,3,4,5,6,7] GS.mixed (by kernel_rfl) G G G (by kernel_rfl) (uP ⟨gZ _ _,gZ _ _,gZ _ _,gZ _ _,gZ _ _,gZ _ _,gZ _ _,(by rintro H1 H2 rs v hle ⟨Ax,rfl,rfl,h⟩; exact ⟨Ax,G,G,h.mono hle⟩),Qk⟩) ⟨?_,?_,?_,?_,?_,?_,?_,?_,Qk⟩ ?_
  ·intro HX hX X Rest hR
   intro hU hUp;refine bX G G G ?_;exact a_ (fU [] (Rh _) ⟨G,G⟩)
  ·intro HX hX X Rest hR
   intro hU hUp;refine bX G G G ?_;exact a_ (fU [] (Rh _) ⟨G,G⟩)
  ·intro HX hX X Rest hR
   intro hU hUp;refine bX G G G ?_;exact a_ (fU [] (Rh _) ⟨G,G⟩)
  ·intro HX hX X Rest hR
   rintro _ _ ⟨rfl,rfl⟩;rintro _ _ ⟨rfl,rfl⟩;intro hU hUp;refine tN (m:=cap) (h:=l3.length) (l:=q) G G RO R4 G (.inl G) (.inl ⟨G,G⟩) (.inl ⟨G,G⟩) (.inr ⟨_,_,_,G,G,by omega,by omega,by omega⟩) (by rw [Qs (by omega),RR,Ru]) ?_
   exact a_ (fU [] (Rh _) ⟨G,G⟩)
  ·intro HX hX X Rest hR
   intro hU hUp;refine bX G G G ?_;exact a_ (fU [] (Rh _) ⟨G,G⟩)
  ·intro HX hX X Rest hR
   intro hU hUp;refine bX G G G ?_;exact a_ (fU [] (Rh _) ⟨G,G⟩)
  ·intro HX hX X Rest hR
   rintro _ _ ⟨rfl,rfl⟩;rintro _ _ ⟨rfl,rfl⟩;intro hU hUp;refine tN (m:=cap) (h:=q) (l:=0) G G RO R4 G (.inl G) (.inl ⟨G,G⟩) (.inr ⟨_,_,_,G,G,by omega,by omega,by omega⟩) (.inl ⟨G,G⟩) (by rw [Qs (by omega),Tv,Tv,RR,Ru,RW,RV]) ?_
   exact a_ (fU [] (Rh _) ⟨G,G⟩)
  ·intro HX hX X Rest hR
   rintro _ _ ⟨rfl,rfl⟩;rintro _ _ ⟨rfl,rfl⟩;intro hU hUp;refine qY (M':=.row (.slice (some ⟨gb,off,none⟩) l3.length cap) 3 (aH.sz Int) l3.length CE::Rest) G (Bt (α:=Int) (l:=l3) (q:=q) G G RY R4 G (hx3.mono hX) (by omega) G G ?_)
   intro Ax hx4;exact a_ (fU [.row (.slice (some ⟨gb,off,none⟩) l3.length cap) 3 (aH.sz Int) l3.length Ax] (Rh _) ⟨Ax,G,G,hx4⟩)
  intro H5 hle5;rintro _ _ ⟨rfl,rfl⟩;rintro _ _ ⟨rfl,rfl⟩;rintro _ _ ⟨rfl,rfl⟩;rintro _ _ ⟨rfl,rfl⟩;rintro _ _ ⟨rfl,rfl⟩;rintro _ _ ⟨rfl,rfl⟩;rintro _ _ ⟨rfl,rfl⟩;rintro _ _ ⟨Ax,rfl,rfl,hx4⟩;refine qY (M':=.row (.slice (some ⟨gb,off,none⟩) l3.length cap) 3 (aH.sz Int) l3.length Ax::M) G ?_;have hrs:=Fp ht3 (by omega)
  refine vw G G G G G (aL G G G (a_ (mE ?_)));have hwr:i64.wrap ((q:Int)+((min q (l3.length-q):Nat):Int))=((q+min q (l3.length-q):Nat):Int):=by
   rw [xB (by omega) (by omega)]; omega
  exact Dr (vI (by omega:m-(q+min q (l3.length-q))<n3) ⟨q+min q (l3.length-q),_,Ax,G,by omega,by omega,by simp only [QE,QN,RX]; omega,hrs,hx4,Uf hle3 hle5,by rw [hl3],G⟩) (SV _) ⟨G,Q6 (λz=>some (Value.int .i64 z)) hwr,Qk⟩
 ·have hge:q=m:=by have:=QB hb; omega
  refine uQ (gY (gY (nW (aS ?_))));have hfin:l3=List.replicate m a:=by
   have h:=ht3;rw [hge,QD (by omega)] at h
   exact h
  refine bL ?_;refine aM (bX G G G (aL G G G ?_));refine a_ (aS ?_);refine mC (FK hle3 ?_);rw [<- hfin];exact l7 G G ⟨G,v1,CE,G,G,hx3.py⟩
theorem AR {an:Int}{ao:(List cB)}{without:Int}{v0:Qj}{r:(List Int)} (hm:pC an ao without=some r) (h0:aQ H v0 ao):
  Cq B w0 182 [.int .i64 (an),v0,.int .i64 (without)] H M (NN r):=by
 unfold pC at hm;refine f_ func182 ?_;refine g2 ?_;refine fO (α:=Int) (css:=[[.int .i64 ((-1))]]) (zs:=[.int .i64 (0)]) (out:=[.int .i64 ((-1))]) (ys:=([((-1))]:List Int)) G G G ⟨G,Qk⟩ RO R4 G SY (by kernel_rfl) G G G G ⟨[.int .i64 ((-1))],[],G,G,G⟩ G ?_
 intro co cp be;refine go ?_;obtain ⟨bf,hm⟩:=aK hm;refine gJ call205 G G G (λw ht=>by obtain ⟨H0_,hl0_,ht0_,hr0_,bk0_⟩:=ht.eG be G; have h:=Fs hr0_ bf ht0_; exact cM bk0_ h) ?_
 rintro _ _ _ ⟨rfl,_,rfl,a4,cq,rfl,rfl,ap⟩;have ap:=ap H;refine g2 ?_;refine gs ?_;obtain ⟨bg,hm⟩:=aK hm;obtain ⟨b4,bh,bi,hm⟩:=jE hm;refine cl [(1,_),(2,_),(7,_),(18,_)] [] 2 [1] 1 (λu m n H' M' L'=>∃ (a5:Nat) (ab:Nat),∃ ac:List Int,∃ a6:Int,∃ aq:List Qj,a5+ab=(an:Int).toNat/\ab=n/\b4 ab a5 (ac,a6)=some r/\Rw H' a4 aq ac/\H.le H'/\.row a4 3 (aH.sz Int) ac.length aq::m=M'/\(8,.int .i64 (a6))::(19,.int .i64 ((a5:Int)))::u=L') _ G ⟨0,_,_,_,_,QL _,G,hm,ap,lE,G,G⟩ ?_;rintro _ b5 _ _ ⟨a5,ab,ac,a6,aq,b6,rfl,hm,cr,cs,rfl,rfl⟩;refine g2 ?_;refine bE G (λar=>?_) (λar=>?_);obtain ⟨bj,rfl,bk,bl⟩:=lM b6 ar;have hm:=(bh _ _ _).symm.trans hm;generalize bm:b4 bj (a5+1)=bn at hm
 try dsimp only at hm
 unfold qO at hm;refine go ?_;refine cj [(1,_),(2,_),(7,_),(18,_),(19,_)] [] 1 (λu m H' M' L'=>∃ ad:List Int,∃ au:Int,∃ av:List Qj,kI bn ad au=some r/\Rw H' a4 av ad/\b5.le H'/\.row a4 3 (aH.sz Int) ad.length av::m=M'/\(8,.int .i64 (au))::u=L') ?_ (λb7=>?_);rintro ct _ _ ⟨ad,au,av,hm,cu,cv,rfl,rfl⟩;unfold kI at hm;refine gj ?_;exact kj (eb bk bm) (kK (eS bl (eU bg)));refine g2 ?_;refine gs ?_;obtain ⟨cw,cx,d0,hm⟩:=aB hm;refine go ?_;refine cd hm G (λbo hm=>?_) (λbo hm=>?_);refine gj ?_;exact kj (b7 _ _ _ pk);refine gs ?_;obtain ⟨d1,d2,d3,hm⟩:=aB hm;refine go ?_;refine wF 0 0 a6 ?_;intro d4 bp d5;refine g2 ?_;refine fO (α:=Int) (css:=[[.int .i64 ((a5:Int))]]) (zs:=[.int .i64 (0)]) (out:=[.int .i64 ((a5:Int))]) (ys:=([((a5:Int))]:List Int)) G G G ⟨G,Qk⟩ RO R4 G SY (by kernel_rfl) G G G G ⟨[.int .i64 ((a5:Int))],[],G,G,G⟩ G ?_
 intro d6 d7 bq;refine go ?_;obtain ⟨b8,br,bs,hm⟩:=kT hm;refine cl [(1,_),(2,_),(7,_),(8,_),(18,_),(19,_)] [] 2 [1] 0 (λu m n H' M' L'=>∃ ae aa:List Int,∃ aw:List Qj,∃ af:Qj,∃ ax:List Qj,b8 n (ae,aa)=some r/\Rw H' a4 aw ae/\Rw H' af ax aa/\b5.le H'/\.row a4 3 (aH.sz Int) ae.length aw::.row af 3 (aH.sz Int) aa.length ax::m=M'/\(10,af)::u=L') fY G ⟨_,_,_,_,_,hm,bp,bq,lE,G,G⟩ ?_;rintro ay bt _ _ ⟨ae,aa,aw,af,ax,hm,bu,bv,d8,rfl,rfl⟩
 rcases ay with _ | ay
 exact nomatch (bs _).symm.trans hm;have hm:=(br _ _).symm.trans hm;generalize bw:b8 ay=d9 at hm
 try dsimp only at hm
 unfold qP at hm;refine g2 ?_;refine cd hm G (λbz hm=>?_) (λbz hm=>?_);refine gs ?_;obtain ⟨a3,da,db,hm⟩:=aB hm;refine gs ?_;obtain ⟨dc,hm⟩:=aK hm;refine Wp [1] ?_;refine uS (α:=Int) (l:=(1:Int).toNat) (h:=aa.length) G G RO R4 G G bv (by omega) (by omega) (λm hmm=>(.inl ⟨G,G⟩)) (.inr ⟨_,_,_,G,G,by omega,by omega,G⟩) ?_
 intro dd de c0;refine gs ?_;obtain ⟨b9,c1,c2,hm⟩:=cN hm;refine cl [(1,_),(2,_),(7,_),(8,_),(11,_),(18,_),(19,_),(41,_),(42,_)] [] 2 [1] 0 (λu m n H' M' L'=>∃ (a7:Nat) (ag:List cB),∃ ah a8:List Int,∃ az:List Qj,∃ ai:Qj,∃ b0:List Qj,(ao).drop a7=ag/\ag.length=n/\b9 a7 ag (ah,a8)=some r/\Rw H' a4 az ah/\Rw H' ai b0 a8/\bt.le H'/\.row a4 3 (aH.sz Int) ah.length az::.row ai 3 (aH.sz Int) a8.length b0::m=M'/\(10,ai)::(43,.int .i64 ((a7:Int)))::u=L') _ G ⟨0,_,_,_,_,_,_,G,G,hm,bu,c0,lE,G,G⟩ ?_;rintro _ c3 _ _ ⟨a7,ag,ah,a8,az,ai,b0,ba,rfl,hm,df,bb,dg,rfl,rfl⟩;refine g2 ?_;refine bE G (λb1=>?_) (λb1=>?_);obtain ⟨a2,c4,rfl,c5,c6⟩:=fL ba b1;have hm:=(c1 _ _ _ _).symm.trans hm;generalize c7:b9 (a7+1) c4=c8 at hm
 try dsimp only at hm
 unfold qQ at hm;refine go ?_;refine cj [(1,_),(2,_),(7,_),(8,_),(11,_),(18,_),(19,_),(41,_),(42,_),(43,_)] [] 2 (λu m H' M' L'=>∃ aj ak:List Int,∃ b2:List Qj,∃ am:Qj,∃ b3:List Qj,eK c8 aj ak=some r/\Rw H' a4 b2 aj/\Rw H' am b3 ak/\c3.le H'/\.row a4 3 (aH.sz Int) aj.length b2::.row am 3 (aH.sz Int) ak.length b3::m=M'/\(10,am)::u=L') ?_ (λa9=>?_);rintro dh _ _ ⟨aj,ak,b2,am,b3,hm,di,dj,dk,rfl,rfl⟩;unfold eK at hm;refine gj ?_;exact kj (eb c6 c7) (kK (b_ c5 h0.mm.cQ));refine gs ?_;refine al (λdl=>?_);refine go ?_;refine wt 0 ?_;refine g2 ?_;cases bc:(decide ((a7:Int)=without));have hm:=dU bc hm;refine qD G G Sg R4 G G (by decide) (by decide) (go ?_)
 cases bd:(decide (a2.a0=a3));have hm:=dU bd hm;refine qD G G Sg R4 G G (by decide) (by decide) (go ?_)
 refine cd hm G (λc9 hm=>?_) (λc9 hm=>?_);refine gj ?_;exact kx [1,1] 1 (a9 _ _ _ pk);refine gs ?_;refine qD G G Sg R4 G G (by decide) (by decide) (go ?_)
 refine qD G G Sg R4 G G (by decide) (by decide) (gs ?_)
 obtain ⟨dm,dn,dp,hm⟩:=aB hm;refine go ?_;refine cd hm G (λcb hm=>?_) (λcb hm=>?_);refine gs ?_;obtain ⟨dq,ds,dt,hm⟩:=aB hm;refine go ?_;refine wF 1 0 a6 ?_;intro du dv dw;refine go ?_;refine dD (α:=Int) (css:=[[.int .i64 (i64.wrap ((i64.wrap (a2.a0+a2.a1))-a3))]]) (zs:=[.int .i64 (0)]) (out:=[.int .i64 (i64.wrap ((i64.wrap (a2.a0+a2.a1))-a3))]) (ys:=([(i64.wrap ((i64.wrap (a2.a0+a2.a1))-a3))]:List Int)) G G G ⟨G,Qk⟩ RO R4 G SY (by kernel_rfl) G G G G ⟨[.int .i64 (i64.wrap ((i64.wrap (a2.a0+a2.a1))-a3))],[],G,G,G⟩ G ?_
 intro dx cc dy ce e0 cf;have e1:Value.oz cc=([(i64.wrap ((i64.wrap (a2.a0+a2.a1))-a3))]:List Int).length:=by rw [ce]; rfl
 obtain ⟨cg,hm⟩:=aK hm;refine Wp [2] ?_;refine cW (α:=Int) (l:=a8) (ys:=([(i64.wrap ((i64.wrap (a2.a0+a2.a1))-a3))]:List Int)) G G RY ⟨_,G,G,G,G⟩ G G G G G bb.mm cf cg ?_;intro e2 e3 e4;refine gj ?_;exact kx [1,0] 1 (a9 _ _ _ pk);refine gj ?_;exact kx [1,1] 1 (a9 _ _ _ pk);have hm:=dV bd hm;refine go ?_;refine cF G ?_;refine gs ?_;refine qD G G Sg R4 G G (by decide) (by decide) (go ?_)
 refine qD G G Sg R4 G G (by decide) (by decide) (gs ?_)
 obtain ⟨e5,e6,e7,hm⟩:=aB hm;refine go ?_;refine cd hm G (λch hm=>?_) (λch hm=>?_);refine gs ?_;obtain ⟨e8,e9,ea,hm⟩:=aB hm;refine go ?_;refine wF 1 0 a6 ?_;intro ec ed ee;refine go ?_;refine dD (α:=Int) (css:=[[.int .i64 (i64.wrap ((i64.wrap (a2.a0+a2.a1))-a3))]]) (zs:=[.int .i64 (0)]) (out:=[.int .i64 (i64.wrap ((i64.wrap (a2.a0+a2.a1))-a3))]) (ys:=([(i64.wrap ((i64.wrap (a2.a0+a2.a1))-a3))]:List Int)) G G G ⟨G,Qk⟩ RO R4 G SY (by kernel_rfl) G G G G ⟨[.int .i64 (i64.wrap ((i64.wrap (a2.a0+a2.a1))-a3))],[],G,G,G⟩ G ?_
 intro eg ci eh ck ei cm;have ej:Value.oz ci=([(i64.wrap ((i64.wrap (a2.a0+a2.a1))-a3))]:List Int).length:=by rw [ck]; rfl
 obtain ⟨cn,hm⟩:=aK hm;refine Wp [2] ?_;refine cW (α:=Int) (l:=a8) (ys:=([(i64.wrap ((i64.wrap (a2.a0+a2.a1))-a3))]:List Int)) G G RY ⟨_,G,G,G,G⟩ G G G G G bb.mm cm cn ?_;intro ek el em;refine gj ?_;exact kx [1,0] 1 (a9 _ _ _ pk);refine gj ?_;exact kx [1,1] 1 (a9 _ _ _ pk);have hm:=dV bc hm;refine go ?_;refine cT G ?_;refine gj ?_;exact kx [1,1] 1 (a9 _ _ _ pk);obtain rfl:=fK ba b1;have hm:=(c2 _ _).symm.trans hm
 try dsimp only at hm
 refine gj ?_;exact kj (C4 bw);refine gt ?_;refine gj ?_;exact kx [0] 1 (b7 _ _ _ pk);obtain rfl:=lL b6 ar;have hm:=(bi _ _).symm.trans hm
 try dsimp only at hm
 refine gs ?_;exact ef
theorem tP {a0:Int}{a1:(List cB)}{v0:Qj}{r:(List Int)×Int} (hm:jR a0 a1=some r) (h0:aQ H v0 a1):
  Cq B w0 154 [.int .i64 (a0),v0] H M (K2 r.1 r.2):=by
 unfold jR at hm;refine f_ func154 ?_;refine g2 ?_;refine gs ?_;obtain ⟨a6,a3,hm⟩:=aU hm;refine cz @AQ a3 ?_;refine gs ?_;refine cd hm G (λa4 hm=>?_) (λa4 hm=>?_);refine bL (aM (bX G G G (aL G G G (aL G G G (a_ (aS ?_))))));refine gj ?_;refine cJ 3 (aH.sz Int) ?_;exact ef;refine gs ?_;obtain ⟨a7,a5,hm⟩:=aU hm;refine ca @AR a5 ?_;rintro _ _ _ ⟨rfl,a8,a9,rfl,rfl,a2⟩;have a2:=a2 H;refine go ?_;exact ef
theorem zp {a0:aD}{v0 v1 v2 v3 v4 v5:Qj}{r:(List Int)} (hm:oL a0=some r) (h0:aQ H v0 a0.bF) (h1:aQ H v1 a0.aN) (h2:aQ H v2 a0.aI) (h3:aQ H v3 a0.dB) (h4:aQ H v4 a0.bC) (h5:aQ H v5 a0.bS):
  Cq B w0 153 [.agg [v0,v1,v2,v3,v4,v5].toArray] H M (NN r):=by
 unfold oL at hm;refine f_ func153 ?_;refine gs ?_;refine bx (λa6=>?_);refine gs ?_;obtain ⟨a7,a4,hm⟩:=aU hm;refine ca @zq a4 ?_;rintro _ _ _ ⟨rfl,a8,a9,aa,ab,rfl,rfl,a1,a2⟩;have a1:=a1 H;have a2:=a2 H;refine gs ?_;obtain ⟨ac,a5,hm⟩:=aU hm;refine cy @tP a5 ?_;rintro _ _ _ ⟨rfl,⟨_,rfl,ad,ae,rfl,rfl,a3⟩⟩;have a3:=a3 H;refine gs ?_;refine Ek [1] 3 ?_;exact ef
theorem pP {a2:aD}{v0 v1 v2 v3 v4 v5:Qj}{r:aZ} (hm:dZ a2=some r) (h0:aQ H v0 a2.bF) (h1:aQ H v1 a2.aN) (h2:aQ H v2 a2.aI) (h3:aQ H v3 a2.dB) (h4:aQ H v4 a2.bC) (h5:aQ H v5 a2.bS):
  Cq B w0 123 [.agg [v0,v1,v2,v3,v4,v5].toArray] H M (λH M H' M' v=>H=H'/\∃ qv0:Qj,∃ qxs0:List Qj,∃ qv1:Qj,∃ qxs1:List Qj,.row qv0 3 (aH.sz Int) r.qq.length qxs0::.row qv1 3 (aH.sz Int) r.bR.length qxs1::M=M'/\.agg [qv0,qv1].toArray=v/\sW qv0 qxs0 r.qq/\sW qv1 qxs1 r.bR):=by
 unfold dZ at hm;refine f_ func123 ?_;refine gs ?_;refine bx (λbj=>?_);refine al (λbk=>?_);refine gs ?_;obtain ⟨ao,ap,hm⟩:=aU hm;refine ca @zp ap ?_;rintro _ _ _ ⟨rfl,ab,aq,rfl,rfl,a7⟩;have a7:=a7 H;refine eC (css:=[[ab]]) (zs:=[.slice none 0 0,.slice none 0 0]) (out:=[ab,.slice none 0 0]) (places:=[(0,1),(1,1)]) G G G ⟨(Rw.cells a7),Qk⟩ zeroValue183 G runUnderlying183 (λw=>by kernel_rfl) G ?_
 refine al (λbl=>?_);refine wt 0 ?_;refine g2 ?_;refine gs ?_;refine qu (.tail _ (.head _)) (λar=>?_);obtain ⟨ai,au,av,hm⟩:=cN hm;refine cl [(1,_),(2,_),(3,_),(14,_),(15,_)] [] 0 [] 0 (λu m n H' M' L'=>∃ (a4:Nat) (a8:List Int),∃ ac:Int,(ao).drop a4=a8/\a8.length=n/\ai a4 a8 ac=some r/\H.le H'/\m=M'/\(4,.int .i64 (ac))::(16,.int .i64 ((a4:Int)))::u=L') _ G ⟨0,_,_,G,G,hm,lE,G,G⟩ ?_;rintro _ aw _ _ ⟨a4,a8,ac,aj,rfl,hm,bm,rfl,rfl⟩;refine g2 ?_;refine bE G (λad=>?_) (λad=>?_);obtain ⟨bn,ax,rfl,ay,az⟩:=fL aj ad;have hm:=(au _ _ _ _).symm.trans hm;generalize b0:ai (a4+1) ax=bo at hm;unfold sS at hm;refine g2 ?_;refine MD G G G G (gt ?_);refine gj ?_;exact kj (eb az b0) (kK (b_ ay ar));obtain rfl:=fK aj ad;have hm:=(av _ _).symm.trans hm;refine g2 ?_;refine gs ?_;refine kE 231 (aH.sz cB) ?_;obtain ⟨ak,b1,b2,hm⟩:=cN hm
 refine cl [(1,_),(2,_),(3,_),(4,_),(26,_),(27,_)] [1,1,1,1] 1 [] 0 (λu m n H' M' L'=>∃ (a5:Nat) (a9:List aP),∃ a6:List cB,∃ aa:Qj,∃ ae:List Qj,(a2.aI).drop a5=a9/\a9.length=n/\ak a5 a9 a6=some r/\Rw H' aa ae a6/\aw.le H'/\.row aa 231 (aH.sz cB) a6.length ae::m=M'/\(7,aa)::(28,.int .i64 ((a5:Int)))::u=L') _ G ⟨0,_,_,_,_,G,G,hm,Rw.nil,lE,G,G⟩ ?_;rintro _ b3 _ _ ⟨a5,a9,a6,aa,ae,am,rfl,hm,b4,bp,rfl,rfl⟩;refine g2 ?_;refine bE G (λaf=>?_) (λaf=>?_);obtain ⟨bq,b5,rfl,b6,b7⟩:=fL am af;have hm:=(b1 _ _ _ _).symm.trans hm;generalize b8:ak (a5+1) b5=br at hm;unfold sT at hm;refine g2 ?_;refine al (λbs=>?_);refine wt 0 ?_;refine go ?_;obtain ⟨b9,ba,hm⟩:=aU hm;obtain ⟨a0,bt,bu,hm⟩:=aB hm;obtain ⟨bb,bc,hm⟩:=aU hm;obtain ⟨a1,bv,bw,hm⟩:=aB hm;refine oy fm 21 [ph _,ph _,ph _,ph _,ph _,ph _,ph _,ph (.int .i64 (b9)),ph _,ph _,ph _,ph _,ph _,ph _,ph _,ph _,ph (.int .i64 (bb)),ph _,ph _,ph (.agg [.int .i64 (a0),.int .i64 (a1)].toArray),(λH rs v=>∃ a3:Qj,[]=rs/\a3=v/\aQ H a3 ([(cB.mk a0 a1)])/\Value.oz a3=([(cB.mk a0 a1)]).length)] ⟨om,om,om,om,om,om,om,?_,om,om,om,om,om,om,om,om,?_,om,om,?_,?_,Qk⟩ ?_
 exact rk tt @cD ba;exact rk tt @cD bc;rintro HX hX X Rest hR _ _ ⟨rfl,rfl⟩ _ _ ⟨rfl,rfl⟩ hU hUp;refine yC (css:=[[.int .i64 (a0)],[.int .i64 (a1)]]) (zs:=[.int .i64 (0),.int .i64 (0)]) (out:=[.int .i64 (a0),.int .i64 (a1)]) (places:=[(0,1),(1,1)]) G G G ⟨G,G,Qk⟩ zeroValue231 G Sg R4 G G ?_;exact o0 ⟨G,G⟩;rintro HX hX X Rest hR _ _ ⟨rfl,rfl⟩ hU hUp;refine dD (α:=cB) (css:=[[.int .i64 (a0),.int .i64 (a1)]]) (zs:=[.int .i64 (0),.int .i64 (0)]) (out:=[.int .i64 (a0),.int .i64 (a1)]) (ys:=[(cB.mk a0 a1)]) G G G ⟨G,Qk⟩ runUnderlying230 sizeOf231 G zeroValue231 (by kernel_rfl) G G G G ⟨[.int .i64 (a0),.int .i64 (a1)],[],G,G,G⟩ G ?_
 intro bz a3 c0 bd be ag;have an:Value.oz a3=([(cB.mk a0 a1)]).length:=by rw [bd]; rfl
 exact oe [] be ⟨a3,G,G,(ag),(an)⟩;intro c1 c2;refine dr ?_;rintro _ _ ⟨a3,rfl,rfl,ag,an⟩;refine uK ?_;obtain ⟨bf,hm⟩:=aK hm;refine Wp [1] ?_;refine cW (α:=cB) (l:=a6) (ys:=[(cB.mk a0 a1)]) G G underlying230 ⟨_,G,G,G,G⟩ G G G G G b4.mm ag bf ?_;intro c3 c4 c5;refine gt ?_;refine gj ?_;exact kx [0,1,1,1,1] 1 (eb b7 b8) G (kK (b_ b6 h2.mm.cQ));obtain rfl:=fK am af;have hm:=(b2 _ _).symm.trans hm;refine gs ?_;obtain ⟨c6,bg,hm⟩:=aU hm;refine cy @tP bg ?_;rintro _ _ _ ⟨rfl,⟨_,rfl,bh,bi,rfl,rfl,ah⟩⟩;have ah:=ah b3;refine go ?_;refine wt 2 ?_;refine gs ?_;refine wt 4 ?_;refine go ?_;obtain rfl:=Qp hm;exact kR lE G (fZ.agg G isAgg183 sizeOf183 (.head _) G) (.cons _ (.cons _ (.cons _ (.cons_cons _ (.cons_cons _ (.cons _ (.refl _))))))) (.swap _ _ _) ⟨G,ab,aq,bh,bi,G,G,a7.mm.py,(ah).py⟩
theorem yN {a0:aD}{v0 v1 v2 v3 v4 v5:Qj}{r:Int} (hm:mh a0=some r) (h0:aQ H v0 a0.bF) (h1:aQ H v1 a0.aN) (h2:aQ H v2 a0.aI) (h3:aQ H v3 a0.dB) (h4:aQ H v4 a0.bC) (h5:aQ H v5 a0.bS):
  Cq B w0 155 [.agg [v0,v1,v2,v3,v4,v5].toArray] H M (yV r):=by
 unfold mh at hm;refine f_ func155 ?_;refine gs ?_;refine bx (λai=>?_);refine g2 ?_;refine gs ?_;obtain ⟨a9,aa,hm⟩:=aU hm;refine ca @pP aa ?_;rintro _ _ _ ⟨rfl,aj,ak,am,an,rfl,rfl,a5,a6⟩;have a5:=a5 H;have a6:=a6 H;refine y6 G G runUnderlying183 G isAgg80 G G (go ?_);refine qu (.tail _ (.head _)) (λab=>?_);obtain ⟨a7,ac,ad,hm⟩:=cN hm;refine cl [(8,_),(9,_)] [1] 2 [1] 2 (λu m n H' M' L'=>∃ (a1:Nat) (a2:List Int),∃ a3:Int,(a9.bR).drop a1=a2/\a2.length=n/\a7 a1 a2 a3=some r/\H.le H'/\m=M'/\(3,.int .i64 (a3))::(10,.int .i64 ((a1:Int)))::u=L') _ G ⟨0,_,_,G,G,hm,lE,G,G⟩ ?_;rintro _ ao _ _ ⟨a1,a2,a3,a8,rfl,hm,ap,rfl,rfl⟩;refine g2 ?_;refine bE G (λa4=>?_) (λa4=>?_);obtain ⟨aq,ae,rfl,af,ag⟩:=fL a8 a4;have hm:=(ac _ _ _ _).symm.trans hm;generalize ah:a7 (a1+1) ae=ar at hm;unfold rD at hm;refine g2 ?_
 refine MD G G G G (gt ?_);refine gj ?_;exact kj (eb ag ah) (kK (b_ af ab));obtain rfl:=fK a8 a4;have hm:=(ad _ _).symm.trans hm;refine gs ?_;refine Ek [] 1 ?_;exact ef
theorem sF {a0:aD}{a1:aZ}{node:Qi}{v0 v1 v2 v3 v4 v5 v6 v7:Qj}{r:Int} (hm:mX a0 a1 node=some r) (h0:aQ H v0 a0.bF) (h1:aQ H v1 a0.aN) (h2:aQ H v2 a0.aI) (h3:aQ H v3 a0.dB) (h4:aQ H v4 a0.bC) (h5:aQ H v5 a0.bS) (h6:aQ H v6 a1.qq) (h7:aQ H v7 a1.bR):
  Cq B w0 125 [.agg [v0,v1,v2,v3,v4,v5].toArray,.agg [v6,v7].toArray,.string (node)] H M (yV r):=by
 unfold mX at hm;refine f_ func125 ?_;refine gs ?_;refine bx (λa4=>?_);refine bx (λa5=>?_);refine gs ?_;obtain ⟨a2,a3,hm⟩:=aU hm;obtain ⟨a6,a7,a8,hm⟩:=aB hm;refine oy fm 10 [ph _,ph _,ph _,ph _,ph _,ph _,ph _,ph (.int .i64 (a2)),ph _,ph _] ⟨om,om,om,om,om,om,om,?_,om,om,Qk⟩ ?_;exact rk tt @cD a3;intro a9 aa;refine dz ?_;obtain ⟨ab,ac,ad,hm⟩:=aB hm;refine go ?_;refine Ek [] 2 ?_;exact ef
end Go.Sim
