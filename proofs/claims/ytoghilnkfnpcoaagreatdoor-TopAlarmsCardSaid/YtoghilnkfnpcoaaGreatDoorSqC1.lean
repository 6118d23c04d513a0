/-
  The proof, part C1.
-/
import Derived.KernelRfl
import Derived.LoopN
import Derived.Shelf.Strconv.Itoa0
import Derived.Shelf.Strconv.Itoa1
import Derived.Shelf.LaysM
import Derived.Shelf.Strconv.Itoa2
import Derived.Shelf.Strconv.Itoa3
import Derived.Shelf.Strconv.Clone
import Derived.Shelf.Strconv.SyntaxError
import Derived.Shelf.LaysC
import Derived.Shelf.Strconv.ToError
import Derived.Shelf.Strconv.Lower
import Derived.Shelf.Strconv.ParseUint10
import Derived.Shelf.Strconv.ParseUint10Empty
import Derived.Shelf.Strconv.ParseUint10Any
import Derived.Shelf.Strconv.RangeError
import Derived.Shelf.Strconv.ToErrorRange
import Derived.Shelf.Strconv.ParseUintEmpty
import Derived.Shelf.Strconv.ParseUint10b64
import Derived.Shelf.Strconv.ParseUint10b32
import Derived.Shelf.Strconv.ParseUint10b16
import Derived.Shelf.Strconv.ParseUint10b8
import Derived.Test.YtoghilnkfnpcoaaGreatDoorProg
import Derived.Test.YtoghilnkfnpcoaaGreatDoorRows
import Derived.Test.YtoghilnkfnpcoaaGreatDoorSqA2
set_option linter.unusedVariables false
set_option linter.unusedSimpArgs false
set_option linter.unusedSectionVars false
set_option linter.unnecessarySimpa false
namespace Go.Sim
abbrev QR := @Int.natCast_nonneg
abbrev O_ := @List.Perm.refl
abbrev RM := @Go.Proofs.Tryz.call87
abbrev O3 := @congrFun
abbrev Se := @Go.Proofs.Tryz.runUnderlying22
abbrev Pb := @Go.Proofs.Tryz.runUnderlying23
abbrev OV := @Go.Proofs.Tryz.runUnderlying9
abbrev Qb := @Go.Proofs.Tryz.sizeOf9
abbrev QH := @Go.Proofs.Tryz.underlying23
abbrev PY := @Go.Proofs.Tryz.zeroValue9
end Go.Sim
namespace Go.Sim
open Go
open _root_.Go.IntKind (i64 u64 u32 u8)
theorem G {α : Sort _} {a : α} : a = a := rfl
def zo:Nat->List bU->Option (bU×List bU)
 | _,[]=>none
 | 0,r::l=>some (r,l)
 | n+1,r::l=>match zo n l with
  | some (s,l')=>some (s,r::l')
  | none=>none
theorem uA:∀ {n:Nat}{l:List bU}{r:bU}{l':List bU},zo n l=some (r,l')->l.Perm (r::l')
 | _,[],_,_,h=>by simp [zo] at h
 | 0,s::l,r,l',h=>by simp only [zo,Ox,Qj] at h; rw [h.1,h.2]
 | n+1,s::l,r,l',h=>by
  simp only [zo] at h
  split at h
  ·rename_i q l2 e
   simp only [Ox,Qj] at h;obtain ⟨rfl,rfl⟩:=h;exact ((uA e).cons s).trans (List.Perm.swap _ _ _)
  ·cases h
def zg:List Nat->List bU->Option (List bU)
 | [],l=>some l
 | i::J,l=>match zo i l with
  | some (r,l')=>(match zg J l' with
   | some I=>some (r::I)
   | none=>none)
  | none=>none
theorem vW:∀ {ix:List Nat}{l l':List bU},zg ix l=some l'->l.Perm l'
 | [],l,l',h=>by simp only [zg,Ox] at h; rw [h]
 | i::I,l,l',h=>by
  simp only [zg] at h
  split at h
  ·rename_i r l1 e
   split at h
   ·rename_i l2 e2
    simp only [Ox] at h;subst h;exact (uA e).trans ((vW e2).cons r)
   ·cases h
  ·cases h
def CO:Nat->List bU->Option (List bU)
 | 0,l=>some l
 | _+1,[]=>none
 | n+1,_::l=>CO n l
theorem A3:∀ {n:Nat}{l l':List bU},CO n l=some l'->l'.Sublist l
 | 0,l,l',h=>by simp only [CO,Ox] at h; rw [h]; exact Qc _
 | n+1,[],l',h=>by simp [CO] at h
 | n+1,r::l,l',h=>(A3 (n:=n) (l:=l) h).cons r
def xx:List Nat->Nat->List bU->Option (List bU)
 | [],d,l=>CO d l
 | i::J,d,l=>match zo i l with
  | some (r,l')=>(match xx J d l' with
   | some I=>some (r::I)
   | none=>none)
  | none=>none
theorem yQ:∀ {ix:List Nat}{d:Nat}{l l':List bU},xx ix d l=some l'->∃ k,l.Perm k/\l'.Sublist k
 | [],d,l,l',h=>⟨l,O_ _,A3 h⟩
 | i::J,d,l,l',h=>by
  simp only [xx] at h
  split at h
  ·rename_i r l1 e
   split at h
   ·rename_i l2 e2
    simp only [Ox] at h;subst h;obtain ⟨k,I,hs⟩:=yQ e2;exact ⟨r::k,(uA e).trans (I.cons r),hs.cons_cons r⟩
   ·cases h
  ·cases h
def IE:List Nat->List bU->Option (List (List bU)×List bU)
 | [],l=>some ([],l)
 | i::J,l=>match zo i l with
  | some (r,l')=>(match IE J l' with
   | some (I,m)=>some ([r]::I,m)
   | none=>none)
  | none=>none
theorem Bi:∀ {ix:List Nat}{l:List bU}{I:List (List bU)}{m:List bU},IE ix l=some (I,m)->l.Perm (I.flatten++m)
 | [],l,I,m,h=>by simp only [IE,Ox,Qj] at h; obtain ⟨rfl,rfl⟩:=h; exact O_ _
 | i::J,l,I,m,h=>by
  simp only [IE] at h
  split at h
  ·rename_i r l1 e
   split at h
   ·rename_i I2 m2 e2
    simp only [Ox,Qj] at h;obtain ⟨rfl,rfl⟩:=h;simpa using (uA e).trans ((Bi e2).cons r)
   ·cases h
  ·cases h
section
variable {x:Cx}{ops:Array Oper}{Q:mj}{rest:List Oper}{H:Hp}{M M':List bU}{L L':Env}{e:Exit}{c:Code}
theorem Wp (ix:List Nat) (k:W x ops Q rest H M' L) (h:zg ix M=some M':=by rfl):W x ops Q rest H M L:=oy (vW h) k
theorem Cp (ix:List Nat) (k:Sim.C x c Q H M' L) (h:zg ix M=some M':=by rfl):Sim.C x c Q H M L:=zF (vW h) k
theorem Ep (ix:List Nat) (k:E x e Q H M' L) (h:zg ix M=some M':=by rfl):E x e Q H M L:=Dz (vW h) k
theorem Ek (ix:List Nat) (d:Nat) (k:E x e Q H M' L) (h:xx ix d M=some M':=by rfl):E x e Q H M L:=by
 obtain ⟨n,I,hs⟩:=yQ h;exact Dz I (Gr hs k)
theorem Ck (ix:List Nat) (d:Nat) (k:Sim.C x c Q H M' L) (h:xx ix d M=some M':=by rfl):Sim.C x c Q H M L:=by
 obtain ⟨n,I,hs⟩:=yQ h;exact zF I (λa w s t=>k a w s (t.sub hs))
theorem kx (ix:List Nat) (d:Nat) (k:E x e Q H M' L') (h:xx ix d M=some M':=by rfl) (hL:Kept L L':=by repeat first | exact N4 | refine ⟨rfl,?_⟩):E x e Q H M L:=
 Ek ix d (Bk hL (O_ _) k) h
theorem MF (ix:List Nat) (d:Nat) (S:A0) (n:Nat) (I:S n H M' L') (step:∀ n H M L,S n H M L->Sim.C x c (Exit.then (Gn x S n) Q) H M L) (h:xx ix d M=some M':=by rfl) (hL:Kept L L':=by repeat first | exact N4 | refine ⟨rfl,?_⟩):Sim.C x (.loop c) Q H M L:=
 Ck ix d (zD hL (O_ _) (zE S n I step)) h
end
def Gb:Nat->N3->List N3->Option (List N3)
 | _,_,[]=>none
 | 0,v,_::l=>some (v::l)
 | n+1,v,u::l=>match Gb n v l with
  | some l'=>some (u::l')
  | none=>none
def zf:List N3->Nat->List N3->Option (List N3)
 | l,_,[]=>some l
 | l,k,v::vs=>match Gb k v l with
  | some l'=>zf l' (k+1) vs
  | none=>none
theorem Fl:∀ {n:Nat}{v:N3}{l l':List N3},Gb n v l=some l'->l.set n v=l'/\n<l.length
 | _,_,[],_,h=>by simp [Gb] at h
 | 0,v,u::l,l',h=>by simp only [Gb,Ox] at h; subst h; exact ⟨rfl,by simp⟩
 | n+1,v,u::l,l',h=>by
  simp only [Gb] at h
  split at h
  ·rename_i l2 e
   simp only [Ox] at h;subst h;obtain ⟨I,J⟩:=Fl e;exact ⟨by simp [I],by simp; omega⟩
  ·cases h
theorem Ax:∀ {vs:List N3}{l:List N3}{k:Nat}{l':List N3},zf l k vs=some l'->over l k vs=l'/\(vs=[]\/k+vs.length<=l.length)
 | [],l,k,l',h=>by simp only [zf,Ox] at h; subst h; exact ⟨rfl,.inl rfl⟩
 | v::vs,l,k,l',h=>by
  simp only [zf] at h
  split at h
  ·rename_i l2 e
   obtain ⟨I,Y⟩:=Fl e;obtain ⟨O,J⟩:=Ax h;refine ⟨by simp only [over]; rw [I]; exact O,.inr ?_⟩
   have hl:l2.length=l.length:=by rw [<- I]; simp
   rcases J with rfl | J
   ·simp; omega
   ·simp only [Oj]; omega
  ·cases h
section
variable {x:Cx}{ops:Array Oper}{Q:mj}{rest:List Oper}{H:Hp}{M M':List bU}{L L':Env}{ty:TypeId}{pos:String}{aft:Array Edge}{g:Option (Nat×Bool)}
theorem ws (i:Nat) {T U n b o:Nat}{y z:Operand}{l cs out:List N3}{v:N3}{M1:List bU} (Z:v.cells=cs.toArray)
  (k:W x ops Q rest H (.obj b (.cells out.toArray U (0,0))::M1) L)
  (h1:∀ c ∈ cs,c.oneCell'=true:=by repeat first | exact P6 | refine fW rfl ?_)
  (hy:ev L y=some (.pointer (some ⟨b,o,none⟩)):=by rfl) (hz:ev L z=some v:=by rfl) (hM:zo i M=some (.obj b (.cells l.toArray U (0,0)),M1):=by rfl)
  (Y:gd ops L ⟨none,.store T y z,ty,pos,aft,g⟩=some true:=by rfl) (hn:∀ w,(sizeOf T).run x.P w=.ok n w:=by exact λ_=>rfl) (hl:cs.length=n:=by rfl) (ho:zf l o cs=some out:=by rfl):
  W x ops Q (⟨none,.store T y z,ty,pos,aft,g⟩::rest) H M L:=by
 refine oy (uA hM) ?_;obtain ⟨I,J⟩:=Ax ho;rcases J with rfl | J
 ·have I:l=out:=I
  subst I;exact Bt rfl Y (λa w hs ht=>⟨w,by
   have O:n=0:=hl.symm;subst O;simp [execOp,hs.ev hy,hs.ev hz,Instr.storeAt,Instr.sureAddr,storeVar,hn,Z,storeCells],H,_,ht,k⟩)
 ·exact Bu Y hn hy hz Z hl (by simpa [Qz] using J) h1 I k
end
section
variable {x:Cx}{ops:Array Oper}{Q:mj}{rest:List Oper}{H:Hp}{M M' M1:List bU}{rs:List bU}{L L':Env}{e:Exit}{c:Code}
end
section
variable {x:Cx}{ops:Array Oper}{Q:mj}{rest:List Oper}{H:Hp}{M:List bU}{L:Env}{e:Exit}{c:Code}
theorem sS (k:W x ops Q rest H M L):W x ops Q rest H M L:=k
theorem LN (k:E x e Q H M L):E x e Q H M L:=k
theorem LM (k:Go.Sim.C x c Q H M L):Go.Sim.C x c Q H M L:=k
end
section
variable {x:Cx}{ops:Array Oper}{Q:mj}{rest:List Oper}{H:Hp}{M:List bU}{L:Env}{d:Nat}{ty:TypeId}{pos:String}{aft:Array Edge}{g:Option (Nat×Bool)}
theorem fq {T:TypeId}{y:Operand}{ad:Addr}{f n o J O:Nat}{fs:Array Field}{nm tg pp:String}{em:Bool} (k:W x ops Q rest H M ((d,.pointer (some (ad.add o)))::L))
  (hy:ev L y=some (.pointer (some ad)):=by rfl) (Y:∀ w,(underlying T).run x.P w=.ok (.struct fs) w:=by exact λ_=>rfl) (Z:fs[f]? = some ⟨nm,J,o,em,tg,pp,O⟩:=by rfl) (hn:∀ w,(sizeOf J).run x.P w=.ok n w:=by exact λ_=>rfl)
  (I:Nat.beq n 0=false:=by rfl) (hg:gd ops L ⟨some d,.fieldAddr T y f,ty,pos,aft,g⟩=some true:=by rfl) (hN:Nat.blt d x.N=true:=by rfl):
  W x ops Q (⟨some d,.fieldAddr T y f,ty,pos,aft,g⟩::rest) H M L:=uf hg hN Y Z hn I rfl hy k
end
section
variable {x:Cx}{ops:Array Oper}{Q:mj}{rest:List Oper}{H:Hp}{M:List bU}{L:Env}{d:Nat}{ty:TypeId}{pos:String}{aft:Array Edge}{g:Option (Nat×Bool)}{y z c:Operand}{T U:TypeId}{n:Nat}{o:Oper}{op:BinOp}{uo:UnOp}{tys:Array TypeId}{fn:Fn}{ys bs:Array Operand}
theorem LO (k:W x ops Q (o::rest) H M L):W x ops Q (o::rest) H M L:=k
theorem p1 (k:W x ops Q (⟨some d,.move y,ty,pos,aft,g⟩::rest) H M L):W x ops Q (⟨some d,.move y,ty,pos,aft,g⟩::rest) H M L:=k
theorem p2 (k:W x ops Q (⟨some d,.assign y,ty,pos,aft,g⟩::rest) H M L):W x ops Q (⟨some d,.assign y,ty,pos,aft,g⟩::rest) H M L:=k
theorem p3 (k:W x ops Q (⟨some d,.fieldAddr T y n,ty,pos,aft,g⟩::rest) H M L):W x ops Q (⟨some d,.fieldAddr T y n,ty,pos,aft,g⟩::rest) H M L:=k
theorem p4 (k:W x ops Q (⟨some d,.load T y,ty,pos,aft,g⟩::rest) H M L):W x ops Q (⟨some d,.load T y,ty,pos,aft,g⟩::rest) H M L:=k
theorem p5 (k:W x ops Q (⟨some d,.binOp op T y z U,ty,pos,aft,g⟩::rest) H M L):W x ops Q (⟨some d,.binOp op T y z U,ty,pos,aft,g⟩::rest) H M L:=k
theorem p6 (k:W x ops Q (⟨some d,.pick c y z,ty,pos,aft,g⟩::rest) H M L):W x ops Q (⟨some d,.pick c y z,ty,pos,aft,g⟩::rest) H M L:=k
theorem p7 (k:W x ops Q (⟨some d,.extract y n,ty,pos,aft,g⟩::rest) H M L):W x ops Q (⟨some d,.extract y n,ty,pos,aft,g⟩::rest) H M L:=k
theorem p8 (k:W x ops Q (⟨some d,.nilCheck y,ty,pos,aft,g⟩::rest) H M L):W x ops Q (⟨some d,.nilCheck y,ty,pos,aft,g⟩::rest) H M L:=k
theorem p9 (k:W x ops Q (⟨some d,.unOp uo T y,ty,pos,aft,g⟩::rest) H M L):W x ops Q (⟨some d,.unOp uo T y,ty,pos,aft,g⟩::rest) H M L:=k
theorem pa (k:W x ops Q (⟨some d,.convert T U y,ty,pos,aft,g⟩::rest) H M L):W x ops Q (⟨some d,.convert T U y,ty,pos,aft,g⟩::rest) H M L:=k
theorem pb (k:W x ops Q (⟨some d,.makeFunc fn ys bs,ty,pos,aft,g⟩::rest) H M L):W x ops Q (⟨some d,.makeFunc fn ys bs,ty,pos,aft,g⟩::rest) H M L:=k
theorem pc (k:W x ops Q (⟨some d,.call ⟨.builtin .len,#[y],#[T]⟩,ty,pos,aft,g⟩::rest) H M L):W x ops Q (⟨some d,.call ⟨.builtin .len,#[y],#[T]⟩,ty,pos,aft,g⟩::rest) H M L:=k
theorem pg {j:Nat}{w:Bool}{J:Op}{I:Option Nat} (k:W x ops Q (⟨I,J,ty,pos,aft,some (j,w)⟩::rest) H M L):W x ops Q (⟨I,J,ty,pos,aft,some (j,w)⟩::rest) H M L:=k
end
abbrev ph (a:N3):Hp->List bU->N3->Prop:=λ_ rs v=>[]=rs/\a=v
def nn (n:Nat):List (List Nat):=List.replicate n []
section
variable {x:Cx}{ops:Array Oper}{Q:mj}{H H':Hp}{M:List bU}{L:Env}{t:Nat}{ps:Option Nat}{v:N3}{φ:Hp->List bU->N3->Prop}
theorem o0 (h:φ H [] v):W x ops (Bm x H M L (some t) ps φ) [] H M ((t,v)::L):=aT (iS [] (O1 _) h)
theorem oe (rs:List bU) (I:H.le H') (h:φ H' rs v):W x ops (Bm x H M L (some t) ps φ) [] H' (rs++M) ((t,v)::L):=aT (iS rs I h)
end
theorem dr {P Q:Prop} (k:Q) (h:Q->P:=by
  intro k
  repeat (rintro _ _ ⟨rfl,rfl⟩)
  exact k):P:=h k
theorem dz {P Q:Prop} (k:Q) (h:Q->P:=by
  intro k
  repeat (rintro _ _ ⟨rfl,rfl⟩)
  refine sS ?_;exact k):P:=h k
theorem ma {P:Prop} (h:P:=by
    repeat' first
      | exact N4
      | exact jT _ _
      | refine ⟨?_,?_⟩
      | (intro J O rs v I
         repeat' first
           | exact λh=>h
           | exact λh=>aV.mono I h
           | exact λh=>Rw.mono I h
           | exact λh=>qx.mono I h
           | exact λh=>ky.mono I h
           | exact λh=>Mx.mono h I
           | refine Exists.imp (λ_=>?_)
           | refine And.imp ?_ ?_)):P:=h
theorem M6 {x:Cx}{l:List Oper}{Q:mj}{H:Hp}{M:List bU}{L:Env}{id:Nat} (O:x.P.follows .mixedOrders=true) (m:Nat) (F:List (Hp->List bU->N3->Prop)) (C U:List (List Nat)) (I:List (List bU)) (live:List Nat)
  (hop:wG x l (yq F) C U [] (Cf m I) H M L 0 (l.take m))
  (k:∀ H',H.le H'->vM l (yq F) H' (List.range m) L (Cf m I) (λL' R=>W x l.toArray Q (l.drop m) H' (tP live R M) L'))
  (hB:uV l m=true:=by kernel_rfl) (Z:Nat.ble m l.length=true:=by rfl) (hD:xE l m L=true:=by rfl) (Y:xF l m=true:=by rfl)
  (hT:Et l m (m+I.length) C U live=true:=by kernel_rfl) (J:zH F:=by exact ma):Go.Sim.C x (.region id l.toArray true) Q H (I.flatten++M) L:=
 rL m (yq F) C U I live O hB Z hD Y hT (uB J) hop k
def Ms:Nat->Nat->List (Nat×List Nat)->List (List Nat)
 | 0,_,_=>[]
 | n+1,i,[]=>[]::Ms n (i+1) []
 | n+1,i,(j,c)::l=>bif Nat.beq i j then c::Ms n (i+1) l else []::Ms n (i+1) ((j,c)::l)
def sp (n:Nat) (l:List (Nat×List Nat)):List (List Nat):=Ms n 0 l
theorem vq {x:Cx}{l:List Oper}{Q:mj}{H:Hp}{M Y:List bU}{L:Env}{id:Nat}{I:List (List bU)} (O:x.P.follows .mixedOrders=true) (m:Nat) (F:List (Hp->List bU->N3->Prop)) (C U:List (List Nat)) (ix live:List Nat)
  (hI:IE ix M=some (I,Y))
  (hop:wG x l (yq F) C U [] (Cf m I) H Y L 0 (l.take m))
  (k:∀ H',H.le H'->vM l (yq F) H' (List.range m) L (Cf m I) (λL' R=>W x l.toArray Q (l.drop m) H' (tP live R Y) L'))
  (hB:uV l m=true:=by kernel_rfl) (hml:Nat.ble m l.length=true:=by rfl) (hD:xE l m L=true:=by rfl) (Z:xF l m=true:=by rfl)
  (hT:Et l m (m+I.length) C U live=true:=by kernel_rfl) (J:zH F:=by exact ma):Go.Sim.C x (.region id l.toArray true) Q H M L:=
 zF (Bi hI) (M6 O m F C U I live hop k hB hml hD Z hT J)
theorem mM {x:Cx}{l:List Oper}{Q:mj}{H:Hp}{M:List bU}{L:Env}{id:Nat} (J:x.P.follows .mixedOrders=true) (m:Nat) (F:List (Hp->List bU->N3->Prop))
  (Z:wG x l (yq F) (nn m) (nn m) [] (Cf m []) H M L 0 (l.take m))
  (k:∀ H',H.le H'->vM l (yq F) H' (List.range m) L (Cf m []) (λL' R=>W x l.toArray Q (l.drop m) H' (tP (List.range m) R M) L'))
  (hB:uV l m=true:=by kernel_rfl) (Y:Nat.ble m l.length=true:=by rfl) (hD:xE l m L=true:=by rfl) (O:xF l m=true:=by rfl)
  (hT:Et l m m (nn m) (nn m) (List.range m)=true:=by kernel_rfl) (I:zH F:=by exact ma):Go.Sim.C x (.region id l.toArray true) Q H M L:=
 rL m (yq F) (nn m) (nn m) [] (List.range m) J hB Y hD O hT (uB I) Z k
theorem eT {α I R:Type}{B:Nat->α->I->(I->Option R)->Option R}{K:I->Option R}{l:List α}{s:I}{r:Option R}{i:Nat} (h:gM B K i l s=r):
  ∃ F:Nat->List α->I->Option R,(∀ i y ys s,F i (y::ys) s=B i y s (F (i+1) ys))/\(∀ i s,F i [] s=K s)/\F i l s=r:=⟨gM B K,λ_ _ _ _=>rfl,λ_ _=>rfl,h⟩
theorem mw {I R:Type}{B:Nat->I->(I->Option R)->Option R}{K:I->Option R}{m:Nat}{s:I}{r:Option R}{i:Nat} (h:mn B K m i s=r):
  ∃ F:Nat->Nat->I->Option R,(∀ m i s,F (m+1) i s=B i s (F m (i+1)))/\(∀ i s,F 0 i s=K s)/\F m i s=r:=⟨mn B K,λ_ _ _=>rfl,λ_ _=>rfl,h⟩
theorem cV {I R:Type}{B:I->(I->Option R)->Option R}{m:Nat}{s:I}{r:Option R} (h:cE B m s=r):
  ∃ F:Nat->I->Option R,(∀ m s,F (m+1) s=B s (F m))/\(∀ s,F 0 s=none)/\F m s=r:=⟨cE B,λ_ _=>rfl,λ_=>rfl,h⟩
section
variable {x:Cx}{Q:mj}{H:Hp}{M M':List bU}{L L':Env}{e:Exit}{c:Code}
theorem kj (k:E x e Q H M L') (hL:Kept L L':=by repeat first | exact N4 | refine ⟨rfl,?_⟩):E x e Q H M L:=Bk hL (O_ _) k
theorem kp (k:E x e Q H M' L') (I:M.Perm M') (hL:Kept L L':=by repeat first | exact N4 | refine ⟨rfl,?_⟩):E x e Q H M L:=Bk hL I k
theorem KQ (S:A0) (n:Nat) (I:S n H M L') (step:∀ n H M L,S n H M L->Go.Sim.C x c (Exit.then (Gn x S n) Q) H M L) (hL:Kept L L':=by repeat first | exact N4 | refine ⟨rfl,?_⟩):Go.Sim.C x (.loop c) Q H M L:=
 zD hL (O_ _) (zE S n I step)
theorem cj {m:List bU}{d:Code} (u:Env) (ix:List Nat) (e:Nat) (S:Env->List bU->Lt) (rest:∀ H M L,S u m H M L->Go.Sim.C x d Q H M L)
  (k:(∀ H M L,S u m H M L->E x .normal (Exit.then (d.wp x.P Q) Q) H M L)->Go.Sim.C x c (Exit.then (d.wp x.P Q) Q) H M L) (hm:xx ix e M=some m:=by rfl) (I:Kept L u:=by repeat first | exact N4 | refine ⟨rfl,?_⟩):Go.Sim.C x (.seq c d) Q H M L:=
 rY (S u m) rest k
theorem cl {m:List bU} (u:Env) (J:List Nat) (e:Nat) (ix:List Nat) (d:Nat) (S:Env->List bU->A0) (n:Nat) (hm:xx J e M=some m) (I:S u m n H M' L') (step:∀ n H M L,S u m n H M L->Go.Sim.C x c (Exit.then (Gn x (S u m) n) Q) H M L)
  (h:xx ix d M=some M':=by rfl) (O:Kept L u:=by repeat first | exact N4 | refine ⟨rfl,?_⟩) (hL:Kept L L':=by repeat first | exact N4 | refine ⟨rfl,?_⟩):Go.Sim.C x (.loop c) Q H M L:=
 MF ix d (S u m) n I step h hL
theorem cd {α:Type}{o:Operand}{p q:Code}{b:Bool}{u v r:α} (hm:(if b=true then u else v)=r) (I:ev L o=some (.bool b)) (J:b=true->u=r->Go.Sim.C x p Q H M L) (O:b=false->v=r->Go.Sim.C x q Q H M L):Go.Sim.C x (.cond o p q) Q H M L:=
 bJ I (λh=>J h (fN h hm)) (λh=>O h (fM h hm))
theorem cT {o:Operand}{p q:Code} (I:ev L o=some (.bool true)) (k:Go.Sim.C x p Q H M L):Go.Sim.C x (.cond o p q) Q H M L:=bJ I (λ_=>k) (λh=>Bool.noConfusion h)
theorem cF {o:Operand}{p q:Code} (I:ev L o=some (.bool false)) (k:Go.Sim.C x q Q H M L):Go.Sim.C x (.cond o p q) Q H M L:=bJ I (λh=>Bool.noConfusion h) (λ_=>k)
end
theorem sb {a b:Bool} (h:a=b):some (Value.bool a)=some (Value.bool b):=by rw [h]
theorem KP:(∀ b,(b && true)=b)/\(∀ b,(true && b)=b)/\(∀ b,(false && b)=false)/\(∀ b,(b && false)=false)/\(∀ b,(b || true)=true)/\(∀ b,(true || b)=true)/\(∀ b,(b || false)=b)/\(∀ b,(false || b)=b)/\(!true)=false/\(!false)=true/\(∀ α:Type,(none:Option α).isNone=true)/\(∀ (α:Type) (a:α),(some a).isNone=false):=by
 refine ⟨?_,?_,?_,?_,?_,?_,?_,?_,rfl,rfl,λ_=>rfl,λ_ _=>rfl⟩ <;> intro b <;> cases b <;> rfl
section
variable {x:Cx}{ops:Array Oper}{Q:mj}{rest:List Oper}{H:Hp}{M:List bU}{L:Env}{d:Nat}{ty:TypeId}{pos:String}{aft:Array Edge}{g:Option (Nat×Bool)}
theorem lo {T b i U:Nat}{fz:Nat×Nat}{y:Operand}{l:List N3}{v:N3} (I:∀ w,(isAgg T).run x.P w=.ok false w) (Y:ev L y=some (.pointer (some ⟨b,i,none⟩))) (hm:bU.obj b (.cells l.toArray U fz) ∈ M) (J:l[i]? = some v)
  (k:W x ops Q rest H M ((d,v)::L)) (O:gd ops L ⟨some d,.load T y,ty,pos,aft,g⟩=some true:=by rfl) (hN:Nat.blt d x.N=true:=by rfl):W x ops Q (⟨some d,.load T y,ty,pos,aft,g⟩::rest) H M L:=
 ql O hN I Y (vm hm J) k
theorem la {T b U n:Nat}{fz:Nat×Nat}{y:Operand}{l:List N3} (I:∀ w,(isAgg T).run x.P w=.ok true w) (hn:∀ w,(sizeOf T).run x.P w=.ok n w) (O:ev L y=some (.pointer (some ⟨b,0,none⟩))) (hm:bU.obj b (.cells l.toArray U fz) ∈ M) (hl:l.length=n)
  (k:W x ops Q rest H M ((d,.agg l.toArray)::L)) (J:gd ops L ⟨some d,.load T y,ty,pos,aft,g⟩=some true:=by rfl) (hN:Nat.blt d x.N=true:=by rfl):W x ops Q (⟨some d,.load T y,ty,pos,aft,g⟩::rest) H M L:=
 nN J hN I hn O (B2 hm) hl k
theorem fi {T:TypeId}{y:Operand}{ad:Addr}{f n:Nat}{fs:Array Field}{I:Field} (o:Nat) (O:∀ w,(underlying T).run x.P w=.ok (.struct fs) w) (Y:fs[f]? = some I) (hn:∀ w,(sizeOf I.type).run x.P w=.ok n w) (hy:ev L y=some (.pointer (some ad)))
  (k:W x ops Q rest H M ((d,.pointer (some (ad.add o)))::L)) (ho:I.offset=o:=by rfl) (J:Nat.beq n 0=false:=by rfl) (Z:gd ops L ⟨some d,.fieldAddr T y f,ty,pos,aft,g⟩=some true:=by rfl) (hN:Nat.blt d x.N=true:=by rfl):
  W x ops Q (⟨some d,.fieldAddr T y f,ty,pos,aft,g⟩::rest) H M L:=uf Z hN O Y hn J ho hy k
end
theorem lE {H H':Hp} (h:H.le H':=by first | exact O1 _ | assumption | ((repeat first | assumption | exact O1 _ | refine Rv ?_ (by assumption)); done)):H.le H':=h
section
variable {α:Type}[aE α] {H H':Hp}{v:N3}{xs:List N3}{l:List α}{ad:Addr}
theorem aV.mm (h:aV H v l) (e:H.le H':=by exact lE):aV H' v l:=aV.mono e h
theorem Rw.mm (h:Rw H v xs l) (e:H.le H':=by exact lE):Rw H' v xs l:=Rw.mono e h
theorem qx.mm (h:qx H xs l) (e:H.le H':=by exact lE):qx H' xs l:=qx.mono e h
theorem ky.mm (h:ky H ad xs) (e:H.le H':=by exact lE):ky H' ad xs:=ky.mono e h
theorem Mx.mm {T1 T2:TypeId}{hs:List N3}{mx:List bU}{sg:List Nat}{ls:List (List α)} (h:Mx T1 T2 H v hs mx sg ls) (e:H.le H':=by exact lE):Mx T1 T2 H' v hs mx sg ls:=Mx.mono h e
end
section
variable {x:Cx}{ops:Array Oper}{Q:mj}{rest:List Oper}{H H0:Hp}{M:List bU}{L:Env}{d:Nat}{ty:TypeId}{pos:String}{aft:Array Edge}{g:Option (Nat×Bool)}{ee:Exit}
theorem Ew (H0:Hp) (k:E x ee Q H0 M L) (h:H0.le H:=by exact lE):E x ee Q H M L:=DA h k
theorem AP {α:Type}[aE α] {t e:TypeId}{y z:Operand}{v:N3}{xs:List α}{el:α}{kk:IntKind}{i:Int}{n:Nat} (hR:aV H0 v xs) (Y:xs[n]? = some el)
  (k:W x ops Q rest H M ((d,.pointer (some ((Value.base v).add (i.toNat*aE.sz α))))::L)) (I:H0.le H:=by exact lE) (hy:ev L y=some v:=by rfl) (hz:ev L z=some (.int kk i):=by rfl) (hn:i.toNat=n:=by rfl)
  (J:0<=i:=by first | exact QR _ | assumption | decide) (O:∀ w,(underlying t).run x.P w=.ok (.slice e) w:=by exact λ_=>rfl) (hs:∀ w,(sizeOf e).run x.P w=.ok (aE.sz α) w:=by exact λ_=>rfl)
  (Z:gd ops L ⟨some d,.indexAddr t y z,ty,pos,aft,g⟩=some true:=by rfl) (hN:Nat.blt d x.N=true:=by rfl):W x ops Q (⟨some d,.indexAddr t y z,ty,pos,aft,g⟩::rest) H M L:=
 Cv Z hN O hs hy (aV.mono I hR) hz J (by rw [hn]; exact Y) k
theorem lr {α:Type}[aE α] {t e:TypeId}{y:Operand}{v:N3}{xs:List α} (hR:aV H0 v xs) (k:W x ops Q rest H M ((d,.int .i64 xs.length)::L)) (I:H0.le H:=by exact lE) (Y:ev L y=some v:=by rfl)
  (J:∀ w,(underlying t).run x.P w=.ok (.slice e) w:=by exact λ_=>rfl) (O:gd ops L ⟨some d,.call ⟨.builtin .len,#[y],#[t]⟩,ty,pos,aft,g⟩=some true:=by rfl) (hN:Nat.blt d x.N=true:=by rfl):
  W x ops Q (⟨some d,.call ⟨.builtin .len,#[y],#[t]⟩,ty,pos,aft,g⟩::rest) H M L:=GH O hN J Y (aV.mono I hR) k
theorem gY {α:Type}{v:N3}{T:TypeId}{sz n:Nat}{xs:List N3}{t e:TypeId}{y z:Operand}{kk:IntKind}{i:Int}{l:List α}{el:α} (O:l[n]? = some el)
  (k:W x ops Q rest H M ((d,.pointer (some ((Value.base v).add (i.toNat*sz))))::L)) (Z:ev L y=some v:=by rfl) (hz:ev L z=some (.int kk i):=by rfl) (hn:i.toNat=n:=by rfl)
  (hm:bU.row v T sz l.length xs ∈ M:=by first | ((repeat first | exact List.Mem.head _ | refine List.Mem.tail _ ?_); done) | (refine hR _ ?_; (repeat first | exact List.Mem.head _ | refine List.Mem.tail _ ?_); done) | (refine hU _ ?_; (repeat first | exact List.Mem.head _ | refine List.Mem.tail _ ?_); done))
  (I:0<=i:=by first | exact QR _ | assumption | decide) (J:∀ w,(underlying t).run x.P w=.ok (.slice e) w:=by exact λ_=>rfl) (hs:∀ w,(sizeOf e).run x.P w=.ok sz w:=by exact λ_=>rfl)
  (Y:gd ops L ⟨some d,.indexAddr t y z,ty,pos,aft,g⟩=some true:=by rfl) (hN:Nat.blt d x.N=true:=by rfl):W x ops Q (⟨some d,.indexAddr t y z,ty,pos,aft,g⟩::rest) H M L:=
 xT hm Y hN J hs Z hz I (by rw [hn]; exact (N_.1 O).1) k
theorem lh {T:TypeId}{y:Operand}{ad:Addr}{cs:List N3}{v:N3} (O:ky H0 ad cs) (o:Nat) (k:W x ops Q rest H M ((d,v)::L)) (I:H0.le H:=by exact lE) (hy:ev L y=some (.pointer (some (ad.add o))):=by rfl) (Z:cs[o]? = some v:=by rfl)
  (J:∀ w,(isAgg T).run x.P w=.ok false w:=by exact λ_=>rfl) (Y:gd ops L ⟨some d,.load T y,ty,pos,aft,g⟩=some true:=by rfl) (hN:Nat.blt d x.N=true:=by rfl):W x ops Q (⟨some d,.load T y,ty,pos,aft,g⟩::rest) H M L:=
 ql Y hN J hy (ky.one (ky.mono I O) o Z).at k
theorem Mr {T:TypeId}{n:Nat}{y:Operand}{ad:Addr}{cs:List N3} (O:ky H0 ad cs) (k:W x ops Q rest H M ((d,.agg cs.toArray)::L)) (I:H0.le H:=by exact lE) (Z:ev L y=some (.pointer (some ad)):=by rfl)
  (J:∀ w,(isAgg T).run x.P w=.ok true w:=by exact λ_=>rfl) (hn:∀ w,(sizeOf T).run x.P w=.ok n w:=by exact λ_=>rfl) (hl:cs.length=n:=by rfl) (Y:gd ops L ⟨some d,.load T y,ty,pos,aft,g⟩=some true:=by rfl) (hN:Nat.blt d x.N=true:=by rfl):
  W x ops Q (⟨some d,.load T y,ty,pos,aft,g⟩::rest) H M L:=nN Y hN J hn Z (ky.mono I O).at hl k
theorem qp {T U:TypeId}{y:Operand}{v w:N3}{sz n i:Nat}{xs cs:List N3} (J:∀ j u,cs[j]? = some u->xs[i+j]? = some u) (k:W x ops Q rest H M ((d,w)::L)) (Z:ev L y=some (.pointer (some ((Value.base v).add i))):=by rfl)
  (hm:bU.row v U sz n xs ∈ M:=by first | ((repeat first | exact List.Mem.head _ | refine List.Mem.tail _ ?_); done) | (refine hR _ ?_; (repeat first | exact List.Mem.head _ | refine List.Mem.tail _ ?_); done) | (refine hU _ ?_; (repeat first | exact List.Mem.head _ | refine List.Mem.tail _ ?_); done))
  (O:cs[0]? = some w:=by rfl) (I:∀ w,(isAgg T).run x.P w=.ok false w:=by exact λ_=>rfl) (Y:gd ops L ⟨some d,.load T y,ty,pos,aft,g⟩=some true:=by rfl) (hN:Nat.blt d x.N=true:=by rfl):
  W x ops Q (⟨some d,.load T y,ty,pos,aft,g⟩::rest) H M L:=ql Y hN I Z (AB hm J O) k
theorem sW {T U:TypeId}{m:Nat}{y:Operand}{v:N3}{sz n i:Nat}{xs cs:List N3} (J:∀ j u,cs[j]? = some u->xs[i+j]? = some u) (k:W x ops Q rest H M ((d,.agg cs.toArray)::L)) (Y:ev L y=some (.pointer (some ((Value.base v).add i))):=by rfl)
  (hm:bU.row v U sz n xs ∈ M:=by first | ((repeat first | exact List.Mem.head _ | refine List.Mem.tail _ ?_); done) | (refine hR _ ?_; (repeat first | exact List.Mem.head _ | refine List.Mem.tail _ ?_); done) | (refine hU _ ?_; (repeat first | exact List.Mem.head _ | refine List.Mem.tail _ ?_); done))
  (I:∀ w,(isAgg T).run x.P w=.ok true w:=by exact λ_=>rfl) (hn:∀ w,(sizeOf T).run x.P w=.ok m w:=by exact λ_=>rfl) (hl:cs.length=m:=by rfl) (O:gd ops L ⟨some d,.load T y,ty,pos,aft,g⟩=some true:=by rfl) (hN:Nat.blt d x.N=true:=by rfl):
  W x ops Q (⟨some d,.load T y,ty,pos,aft,g⟩::rest) H M L:=nN O hN I hn Y (xc hm J) hl k
theorem bx {T:TypeId}{y:Operand}{v:N3}{cs:List N3} (k:∀ b,W x ops Q rest H (.obj b (.cells cs.toArray T (0,0))::M) ((d,.pointer (some ⟨b,0,none⟩))::L)) (O:ev L y=some v:=by rfl)
  (I:v.cells=cs.toArray:=by first | exact aV.cells (by assumption) | exact Rw.cells (by assumption) | rfl) (J:gd ops L ⟨some d,.box T y,ty,pos,aft,g⟩=some true:=by rfl) (hN:Nat.blt d x.N=true:=by rfl):
  W x ops Q (⟨some d,.box T y,ty,pos,aft,g⟩::rest) H M L:=Ly J hN O I k
theorem al {T:TypeId}{z:N3}{cs:List N3} (k:∀ b,W x ops Q rest H (.obj b (.cells cs.toArray T (0,0))::M) ((d,.pointer (some ⟨b,0,none⟩))::L))
  (O:∀ w,(zeroValue T).run x.P w=.ok z w:=by exact λ_=>rfl) (I:z.cells=cs.toArray:=by rfl) (J:gd ops L ⟨some d,.alloc T,ty,pos,aft,g⟩=some true:=by rfl) (hN:Nat.blt d x.N=true:=by rfl):
  W x ops Q (⟨some d,.alloc T,ty,pos,aft,g⟩::rest) H M L:=I3 J hN O I k
theorem wt (i:Nat) {T U n b o:Nat}{y z:Operand}{l cs out:List N3}{v:N3}{I:List bU}
  (k:W x ops Q rest H (.obj b (.cells out.toArray U (0,0))::I) L) (hy:ev L y=some (.pointer (some ⟨b,o,none⟩)):=by rfl) (hz:ev L z=some v:=by rfl)
  (hv:v.cells=cs.toArray:=by first | exact aV.cells (by assumption) | exact Rw.cells (by assumption) | rfl)
  (J:∀ c ∈ cs,c.oneCell'=true:=by repeat first | exact P6 | refine fW rfl ?_ | refine fW (aV.tN (by assumption)) ?_ | refine fW (Rw.one (by assumption)) ?_)
  (O:zo i M=some (.obj b (.cells l.toArray U (0,0)),I):=by rfl)
  (Y:gd ops L ⟨none,.store T y z,ty,pos,aft,g⟩=some true:=by rfl) (hn:∀ w,(sizeOf T).run x.P w=.ok n w:=by exact λ_=>rfl) (hl:cs.length=n:=by rfl) (Z:zf l o cs=some out:=by rfl):
  W x ops Q (⟨none,.store T y z,ty,pos,aft,g⟩::rest) H M L:=ws i hv k J hy hz O Y hn hl Z
theorem wr {α:Type}[aE α] (i o:Nat) {T U m:Nat}{y z:Operand}{v u:N3}{xs c cs out:List N3}{l:List α}{e:α}{I:Nat}{M1:List bU}{ad:Addr} (e2:α) (h:Rw H0 v xs l) (he:l[I]? = some e) (hg':∀ j w,c[j]? = some w->xs[I*aE.sz α+j]? = some w)
  (hc:aE.E H c e) (hE:aE.E H out e2)
  (k:∀ J,Rw H v J (l.set I e2)->(l.set I e2)[I]? = some e2->(∀ j w,out[j]? = some w->J[I*aE.sz α+j]? = some w)->W x ops Q rest H (.row v U (aE.sz α) (l.set I e2).length J::M1) L)
  (hle:H0.le H:=by exact lE) (hy:ev L y=some (.pointer (some ad)):=by rfl) (Y:ad=(Value.base v).add (I*aE.sz α+o):=by first | exact Fj _ _ | exact Im _ _ _) (hz:ev L z=some u:=by rfl)
  (hv:u.cells=cs.toArray:=by first | exact aV.cells (by assumption) | exact Rw.cells (by assumption) | rfl)
  (h1:∀ c ∈ cs,c.oneCell'=true:=by repeat first | exact P6 | refine fW rfl ?_ | refine fW (aV.tN (by assumption)) ?_ | refine fW (Rw.one (by assumption)) ?_)
  (hM:zo i M=some (.row v U (aE.sz α) l.length xs,M1):=by rfl) (hg:gd ops L ⟨none,.store T y z,ty,pos,aft,g⟩=some true:=by rfl) (hn:∀ w,(sizeOf T).run x.P w=.ok m w:=by exact λ_=>rfl) (hl:cs.length=m:=by rfl)
  (ho:zf c o cs=some out:=by rfl) (hb:Nat.ble (o+cs.length) c.length=true:=by rfl) (Z:Nat.ble (o+cs.length) (aE.sz α)=true:=by rfl) (O:Nat.blt 0 cs.length=true:=by rfl):
  W x ops Q (⟨none,.store T y z,ty,pos,aft,g⟩::rest) H M L:=by
 have h':=Rw.mono hle h;obtain ⟨ho1,_⟩:=Ax ho;obtain ⟨p1,p2,p3⟩:=Rw.put h' he hc hg' hb ho1 hE;refine oy (uA hM) ?_;refine Fw (n':=(l.set I e2).length) hg hn hy Y hz hv hl (Rw.room h' he Z) O h1 Pp ?_;exact k _ p1 p2 p3
end
class vL (α:Type) [aE α] where
 cs:α->List N3
 eq:∀ {H c x},aE.E H c x->c=cs x
instance:vL Int:=⟨λn=>[.int .i64 n],λh=>h⟩
instance:vL Bool:=⟨λb=>[.bool b],λh=>h⟩
instance:vL N2:=⟨λs=>[.string s],λh=>h⟩
instance:vL U8:=⟨λn=>[.int .u8 n.n],λh=>h⟩
instance:vL Mp:=⟨λn=>[.int .u16 n.n],λh=>h⟩
instance:vL bT:=⟨λn=>[.int .u32 n.n],λh=>h⟩
instance:vL Ko:=⟨λn=>[.int .u64 n.n],λh=>h⟩
instance:vL Mn:=⟨λn=>[.int .i32 n.n],λh=>h⟩
def KT:List N3->Option (List N3)
 | []=>some []
 | v::l=>match KT l with
  | some m=>some (v::m)
  | none=>none
theorem BD:∀ {l m:List N3},KT l=some m->l=m
 | [],m,h=>by simpa [KT] using h
 | v::l,m,h=>by
  simp only [KT] at h
  split at h
  ·rename_i k e
   simp only [Ox] at h;rw [BD e,h]
  ·cases h
theorem mA {P:Prop} (h:P:=by
  first
   | ((repeat first | exact List.Mem.head _ | refine List.Mem.tail _ ?_); done)
   | (refine hR _ ?_; (repeat first | exact List.Mem.head _ | refine List.Mem.tail _ ?_); done)
   | (refine hU _ ?_; (repeat first | exact List.Mem.head _ | refine List.Mem.tail _ ?_); done)):P:=h
section
variable {x:Cx}{ops:Array Oper}{Q:mj}{rest:List Oper}{H H0:Hp}{M:List bU}{L:Env}{d:Nat}{ty:TypeId}{pos:String}{aft:Array Edge}{g:Option (Nat×Bool)}{y z:Operand}{T U:TypeId}
theorem NH {t:TypeId} (k:W x ops Q (⟨some d,.indexAddr t y z,ty,pos,aft,g⟩::rest) H M L):W x ops Q (⟨some d,.indexAddr t y z,ty,pos,aft,g⟩::rest) H M L:=k
theorem iA {α:Type}{iR:aE α}{t e:TypeId}{v:N3}{xs:List α}{el:α}{kk:IntKind}{i:Int} (k:W x ops Q rest H M ((d,.pointer (some ((Value.base v).add (i.toNat*aE.sz α))))::L))
  (hy:ev L y=some v:=by rfl) (hz:ev L z=some (.int kk i):=by rfl) (hR:aV H0 v xs:=by with_reducible assumption) (Y:xs[i.toNat]? = some el:=by first | with_reducible assumption | assumption) (I:H0.le H:=by exact lE)
  (J:0<=i:=by first | exact QR _ | assumption | decide) (O:∀ w,(underlying t).run x.P w=.ok (.slice e) w:=by exact λ_=>rfl) (hs:∀ w,(sizeOf e).run x.P w=.ok (aE.sz α) w:=by exact λ_=>rfl)
  (Z:gd ops L ⟨some d,.indexAddr t y z,ty,pos,aft,g⟩=some true:=by rfl) (hN:Nat.blt d x.N=true:=by rfl):W x ops Q (⟨some d,.indexAddr t y z,ty,pos,aft,g⟩::rest) H M L:=
 Cv Z hN O hs hy (aV.mono I hR) hz J Y k
theorem iO {α:Type}{v:N3}{sz:Nat}{xs:List N3}{t e:TypeId}{kk:IntKind}{i:Int}{l:List α}{el:α}
  (k:W x ops Q rest H M ((d,.pointer (some ((Value.base v).add (i.toNat*sz))))::L)) (Z:ev L y=some v:=by rfl) (hz:ev L z=some (.int kk i):=by rfl)
  (hm:bU.row v T sz l.length xs ∈ M:=by exact mA) (O:l[i.toNat]? = some el:=by first | with_reducible assumption | assumption)
  (I:0<=i:=by first | exact QR _ | assumption | decide) (J:∀ w,(underlying t).run x.P w=.ok (.slice e) w:=by exact λ_=>rfl) (hs:∀ w,(sizeOf e).run x.P w=.ok sz w:=by exact λ_=>rfl)
  (Y:gd ops L ⟨some d,.indexAddr t y z,ty,pos,aft,g⟩=some true:=by rfl) (hN:Nat.blt d x.N=true:=by rfl):W x ops Q (⟨some d,.indexAddr t y z,ty,pos,aft,g⟩::rest) H M L:=
 xT hm Y hN J hs Z hz I (N_.1 O).1 k
theorem nA {α:Type}{Z:aE α}{e:TypeId}{v:N3}{xs:List α} (k:W x ops Q rest H M ((d,.int .i64 xs.length)::L)) (Y:ev L y=some v:=by rfl) (hR:aV H0 v xs:=by with_reducible assumption) (I:H0.le H:=by exact lE)
  (J:∀ w,(underlying T).run x.P w=.ok (.slice e) w:=by exact λ_=>rfl) (O:gd ops L ⟨some d,.call ⟨.builtin .len,#[y],#[T]⟩,ty,pos,aft,g⟩=some true:=by rfl) (hN:Nat.blt d x.N=true:=by rfl):
  W x ops Q (⟨some d,.call ⟨.builtin .len,#[y],#[T]⟩,ty,pos,aft,g⟩::rest) H M L:=GH O hN J Y (aV.mono I hR) k
theorem Nt {ad:Addr}{cs:List N3}{v:N3}{o:Nat} (k:W x ops Q rest H M ((d,v)::L)) (hy:ev L y=some (.pointer (some (ad.add o))):=by rfl) (O:ky H0 ad cs:=by first | with_reducible assumption | assumption) (Z:cs[o]? = some v:=by rfl)
  (J:∀ w,(isAgg T).run x.P w=.ok false w:=by exact λ_=>rfl) (I:H0.le H:=by exact lE) (Y:gd ops L ⟨some d,.load T y,ty,pos,aft,g⟩=some true:=by rfl) (hN:Nat.blt d x.N=true:=by rfl):
  W x ops Q (⟨some d,.load T y,ty,pos,aft,g⟩::rest) H M L:=ql Y hN J hy (ky.one (ky.mono I O) o Z).at k
theorem Ns {ad:Addr}{cs:List N3}{v:N3} (k:W x ops Q rest H M ((d,v)::L)) (hy:ev L y=some (.pointer (some ad)):=by rfl) (O:ky H0 ad cs:=by first | with_reducible assumption | assumption) (Z:cs[0]? = some v:=by rfl)
  (J:∀ w,(isAgg T).run x.P w=.ok false w:=by exact λ_=>rfl) (I:H0.le H:=by exact lE) (Y:gd ops L ⟨some d,.load T y,ty,pos,aft,g⟩=some true:=by rfl) (hN:Nat.blt d x.N=true:=by rfl):
  W x ops Q (⟨some d,.load T y,ty,pos,aft,g⟩::rest) H M L:=ql Y hN J hy (ky.one (ky.mono I O) 0 Z).at k
theorem Nu {ad:Addr}{cs:List N3}{n:Nat} (k:W x ops Q rest H M ((d,.agg cs.toArray)::L)) (Z:ev L y=some (.pointer (some ad)):=by rfl) (O:ky H0 ad cs:=by first | with_reducible assumption | assumption)
  (J:∀ w,(isAgg T).run x.P w=.ok true w:=by exact λ_=>rfl) (hn:∀ w,(sizeOf T).run x.P w=.ok n w:=by exact λ_=>rfl) (hl:cs.length=n:=by rfl) (I:H0.le H:=by exact lE) (Y:gd ops L ⟨some d,.load T y,ty,pos,aft,g⟩=some true:=by rfl) (hN:Nat.blt d x.N=true:=by rfl):
  W x ops Q (⟨some d,.load T y,ty,pos,aft,g⟩::rest) H M L:=nN Y hN J hn Z (ky.mono I O).at hl k
theorem yG {α:Type}[aE α] [vL α] {I:N3}{xs:List α}{el:α}{n:Nat} (hR:aV H0 I xs) (Y:xs[n]? = some el):ky H0 ((Value.base I).add (n*aE.sz α)) (vL.cs el):=by
 obtain ⟨c,J,O⟩:=aV.elem hR Y;rw [<- vL.eq J]; exact O
theorem zv {α:Type}[aE α] [vL α] {Y:N3}{xs:List N3}{l:List α}{el:α}{n:Nat} (hR:Rw H0 Y xs l) (O:l[n]? = some el):∀ j u,(vL.cs el)[j]? = some u->xs[n*aE.sz α+j]? = some u:=by
 obtain ⟨c,I,J⟩:=Rw.elem hR O;rw [<- vL.eq I]; exact J
theorem Nw {α:Type}{iR:aE α}{J v:N3}{xs:List α}{el:α}{n o:Nat} (k:W x ops Q rest H M ((d,v)::L)) (hy:ev L y=some (.pointer (some (((Value.base J).add (n*@aE.sz α iR)).add o))):=by rfl)
  (hR:aV H0 J xs:=by with_reducible assumption) (Y:xs[n]? = some el:=by first | with_reducible assumption | assumption) (iC:vL α:=by infer_instance) (hv:(vL.cs el)[o]? = some v:=by rfl) (I:H0.le H:=by exact lE)
  (O:∀ w,(isAgg T).run x.P w=.ok false w:=by exact λ_=>rfl) (Z:gd ops L ⟨some d,.load T y,ty,pos,aft,g⟩=some true:=by rfl) (hN:Nat.blt d x.N=true:=by rfl):
  W x ops Q (⟨some d,.load T y,ty,pos,aft,g⟩::rest) H M L:=ql Z hN O hy (ky.one (ky.mono I (yG hR Y)) o hv).at k
theorem Nv {α:Type}{iR:aE α}{J v:N3}{xs:List α}{el:α}{n:Nat} (k:W x ops Q rest H M ((d,v)::L)) (hy:ev L y=some (.pointer (some ((Value.base J).add (n*@aE.sz α iR)))):=by rfl)
  (hR:aV H0 J xs:=by with_reducible assumption) (Y:xs[n]? = some el:=by first | with_reducible assumption | assumption) (iC:vL α:=by infer_instance) (hv:(vL.cs el)[0]? = some v:=by rfl) (I:H0.le H:=by exact lE)
  (O:∀ w,(isAgg T).run x.P w=.ok false w:=by exact λ_=>rfl) (Z:gd ops L ⟨some d,.load T y,ty,pos,aft,g⟩=some true:=by rfl) (hN:Nat.blt d x.N=true:=by rfl):
  W x ops Q (⟨some d,.load T y,ty,pos,aft,g⟩::rest) H M L:=ql Z hN O hy (ky.one (ky.mono I (yG hR Y)) 0 hv).at k
theorem Nx {α:Type}{iR:aE α}{J:N3}{cs:List N3}{xs:List α}{el:α}{n m:Nat} (k:W x ops Q rest H M ((d,.agg cs.toArray)::L)) (hy:ev L y=some (.pointer (some ((Value.base J).add (n*@aE.sz α iR)))):=by rfl)
  (hR:aV H0 J xs:=by with_reducible assumption) (Y:xs[n]? = some el:=by first | with_reducible assumption | assumption) (iC:vL α:=by infer_instance) (hv:KT (vL.cs el)=some cs:=by rfl) (I:H0.le H:=by exact lE)
  (O:∀ w,(isAgg T).run x.P w=.ok true w:=by exact λ_=>rfl) (hn:∀ w,(sizeOf T).run x.P w=.ok m w:=by exact λ_=>rfl) (hl:cs.length=m:=by rfl) (Z:gd ops L ⟨some d,.load T y,ty,pos,aft,g⟩=some true:=by rfl) (hN:Nat.blt d x.N=true:=by rfl):
  W x ops Q (⟨some d,.load T y,ty,pos,aft,g⟩::rest) H M L:=nN Z hN O hn hy (ky.mono I (BD hv▸yG hR Y)).at hl k
theorem NC {α:Type}{iR:aE α}{I v:N3}{sz p:Nat}{xs:List N3}{l:List α}{el:α}{n o:Nat} (k:W x ops Q rest H M ((d,v)::L)) (hy:ev L y=some (.pointer (some (((Value.base I).add (n*@aE.sz α iR)).add o))):=by rfl)
  (hm:bU.row I U sz p xs ∈ M:=by exact mA) (hR:Rw H0 I xs l:=by with_reducible assumption) (O:l[n]? = some el:=by first | with_reducible assumption | assumption) (iC:vL α:=by infer_instance) (Z:(vL.cs el)[o]? = some v:=by rfl)
  (J:∀ w,(isAgg T).run x.P w=.ok false w:=by exact λ_=>rfl) (Y:gd ops L ⟨some d,.load T y,ty,pos,aft,g⟩=some true:=by rfl) (hN:Nat.blt d x.N=true:=by rfl):
  W x ops Q (⟨some d,.load T y,ty,pos,aft,g⟩::rest) H M L:=ql Y hN J hy (row_one hm (zv hR O) Z) k
theorem NB {α:Type}{iR:aE α}{I v:N3}{sz p:Nat}{xs:List N3}{l:List α}{el:α}{n:Nat} (k:W x ops Q rest H M ((d,v)::L)) (hy:ev L y=some (.pointer (some ((Value.base I).add (n*@aE.sz α iR)))):=by rfl)
  (hm:bU.row I U sz p xs ∈ M:=by exact mA) (hR:Rw H0 I xs l:=by with_reducible assumption) (O:l[n]? = some el:=by first | with_reducible assumption | assumption) (iC:vL α:=by infer_instance) (Z:(vL.cs el)[0]? = some v:=by rfl)
  (J:∀ w,(isAgg T).run x.P w=.ok false w:=by exact λ_=>rfl) (Y:gd ops L ⟨some d,.load T y,ty,pos,aft,g⟩=some true:=by rfl) (hN:Nat.blt d x.N=true:=by rfl):
  W x ops Q (⟨some d,.load T y,ty,pos,aft,g⟩::rest) H M L:=ql Y hN J hy (AB hm (zv hR O) Z) k
theorem ND {α:Type}{iR:aE α}{I:N3}{sz p m:Nat}{xs cs:List N3}{l:List α}{el:α}{n:Nat} (k:W x ops Q rest H M ((d,.agg cs.toArray)::L)) (hy:ev L y=some (.pointer (some ((Value.base I).add (n*@aE.sz α iR)))):=by rfl)
  (hm:bU.row I U sz p xs ∈ M:=by exact mA) (hR:Rw H0 I xs l:=by with_reducible assumption) (O:l[n]? = some el:=by first | with_reducible assumption | assumption) (iC:vL α:=by infer_instance) (Z:KT (vL.cs el)=some cs:=by rfl)
  (J:∀ w,(isAgg T).run x.P w=.ok true w:=by exact λ_=>rfl) (hn:∀ w,(sizeOf T).run x.P w=.ok m w:=by exact λ_=>rfl) (hl:cs.length=m:=by rfl) (Y:gd ops L ⟨some d,.load T y,ty,pos,aft,g⟩=some true:=by rfl) (hN:Nat.blt d x.N=true:=by rfl):
  W x ops Q (⟨some d,.load T y,ty,pos,aft,g⟩::rest) H M L:=nN Y hN J hn hy (xc hm (BD Z▸zv hR O)) hl k
theorem Nz {I v:N3}{sz p i o:Nat}{xs cs:List N3} (k:W x ops Q rest H M ((d,v)::L)) (hy:ev L y=some (.pointer (some (((Value.base I).add i).add o))):=by rfl)
  (hm:bU.row I U sz p xs ∈ M:=by exact mA) (O:∀ j u,cs[j]? = some u->xs[i+j]? = some u:=by assumption) (Z:cs[o]? = some v:=by rfl)
  (J:∀ w,(isAgg T).run x.P w=.ok false w:=by exact λ_=>rfl) (Y:gd ops L ⟨some d,.load T y,ty,pos,aft,g⟩=some true:=by rfl) (hN:Nat.blt d x.N=true:=by rfl):
  W x ops Q (⟨some d,.load T y,ty,pos,aft,g⟩::rest) H M L:=ql Y hN J hy (row_one hm O Z) k
theorem Ny {I v:N3}{sz p i:Nat}{xs cs:List N3} (k:W x ops Q rest H M ((d,v)::L)) (hy:ev L y=some (.pointer (some ((Value.base I).add i))):=by rfl)
  (hm:bU.row I U sz p xs ∈ M:=by exact mA) (O:∀ j u,cs[j]? = some u->xs[i+j]? = some u:=by assumption) (Z:cs[0]? = some v:=by rfl)
  (J:∀ w,(isAgg T).run x.P w=.ok false w:=by exact λ_=>rfl) (Y:gd ops L ⟨some d,.load T y,ty,pos,aft,g⟩=some true:=by rfl) (hN:Nat.blt d x.N=true:=by rfl):
  W x ops Q (⟨some d,.load T y,ty,pos,aft,g⟩::rest) H M L:=ql Y hN J hy (AB hm O Z) k
theorem NA {I:N3}{sz p i m:Nat}{xs cs:List N3} (k:W x ops Q rest H M ((d,.agg cs.toArray)::L)) (Z:ev L y=some (.pointer (some ((Value.base I).add i))):=by rfl)
  (hm:bU.row I U sz p xs ∈ M:=by exact mA) (O:∀ j u,cs[j]? = some u->xs[i+j]? = some u:=by assumption)
  (J:∀ w,(isAgg T).run x.P w=.ok true w:=by exact λ_=>rfl) (hn:∀ w,(sizeOf T).run x.P w=.ok m w:=by exact λ_=>rfl) (hl:cs.length=m:=by rfl) (Y:gd ops L ⟨some d,.load T y,ty,pos,aft,g⟩=some true:=by rfl) (hN:Nat.blt d x.N=true:=by rfl):
  W x ops Q (⟨some d,.load T y,ty,pos,aft,g⟩::rest) H M L:=nN Y hN J hn Z (xc hm O) hl k
theorem Nj {b i U:Nat}{fz:Nat×Nat}{l:List N3}{v:N3} (k:W x ops Q rest H M ((d,v)::L)) (Y:ev L y=some (.pointer (some ⟨b,i,none⟩)):=by rfl)
  (hm:bU.obj b (.cells l.toArray U fz) ∈ M:=by exact mA) (J:l[i]? = some v:=by rfl) (I:∀ w,(isAgg T).run x.P w=.ok false w:=by exact λ_=>rfl)
  (O:gd ops L ⟨some d,.load T y,ty,pos,aft,g⟩=some true:=by rfl) (hN:Nat.blt d x.N=true:=by rfl):W x ops Q (⟨some d,.load T y,ty,pos,aft,g⟩::rest) H M L:=
 ql O hN I Y (vm hm J) k
theorem Nk {b U n:Nat}{fz:Nat×Nat}{l:List N3} (k:W x ops Q rest H M ((d,.agg l.toArray)::L)) (O:ev L y=some (.pointer (some ⟨b,0,none⟩)):=by rfl)
  (hm:bU.obj b (.cells l.toArray U fz) ∈ M:=by exact mA) (I:∀ w,(isAgg T).run x.P w=.ok true w:=by exact λ_=>rfl) (hn:∀ w,(sizeOf T).run x.P w=.ok n w:=by exact λ_=>rfl) (hl:l.length=n:=by rfl)
  (J:gd ops L ⟨some d,.load T y,ty,pos,aft,g⟩=some true:=by rfl) (hN:Nat.blt d x.N=true:=by rfl):W x ops Q (⟨some d,.load T y,ty,pos,aft,g⟩::rest) H M L:=
 nN J hN I hn O (B2 hm) hl k
theorem Ni {v:N3}{sz n:Nat}{xs:List N3}{t e:TypeId} (k:W x ops Q rest H M ((d,.int .i64 n)::L)) (O:ev L y=some v:=by rfl) (hm:bU.row v T sz n xs ∈ M:=by exact mA)
  (I:∀ w,(underlying t).run x.P w=.ok (.slice e) w:=by exact λ_=>rfl) (J:gd ops L ⟨some d,.call ⟨.builtin .len,#[y],#[t]⟩,ty,pos,aft,g⟩=some true:=by rfl) (hN:Nat.blt d x.N=true:=by rfl):
  W x ops Q (⟨some d,.call ⟨.builtin .len,#[y],#[t]⟩,ty,pos,aft,g⟩::rest) H M L:=zO hm J hN I O k
end
structure Kp (Q:Prop):Prop where
 o:Q
theorem Kc {P Q:Prop} (k:Q) (h:Kp Q->P:=by
  intro k;refine LO ?_; first
   | (with_reducible refine p1 ?_); refine bZ rfl rfl rfl ?_
   | (with_reducible refine p2 ?_); refine aL rfl rfl rfl ?_
   | (with_reducible refine p3 ?_); refine fq ?_
   | (with_reducible refine p4 ?_); first
    | refine Nj ?_
    | refine Nk ?_
    | refine Nt ?_
    | refine Ns ?_
    | refine Nu ?_
    | refine Nw ?_
    | refine Nv ?_
    | refine Nx ?_
    | refine NC ?_
    | refine NB ?_
    | refine ND ?_
    | refine Nz ?_
    | refine Ny ?_
    | refine NA ?_
   | (with_reducible refine p5 ?_); refine qy rfl rfl rfl rfl rfl ?_
   | (with_reducible refine p8 ?_); refine pM rfl rfl rfl ?_
   | (with_reducible refine p7 ?_); refine sr rfl rfl rfl rfl ?_
   | (with_reducible refine p6 ?_); refine Br rfl rfl rfl rfl ?_
   | (with_reducible refine p9 ?_); refine LA rfl rfl rfl rfl ?_
   | (with_reducible refine pa ?_); refine sq rfl rfl (λ_=>rfl) (λ_=>rfl) rfl ?_
   | (with_reducible refine pb ?_); refine zQ rfl rfl rfl rfl ?_
   | (with_reducible refine pc ?_); first
    | refine Ni ?_
    | refine nA ?_
   | (with_reducible refine NH ?_); first
    | refine iO ?_
    | refine iA ?_
   | (with_reducible refine pg ?_); first
    | refine Lz rfl rfl rfl ?_
    | refine Ks rfl rfl ?_
  exact k.o):P:=h ⟨k⟩
theorem Ln {P Q:Prop} (k:Q) (h:Kp Q->P:=by
  intro k
  first
   | refine aT ?_
   | (with_reducible refine LN ?_); first
    | with_reducible refine aM ?_
    | with_reducible refine lN ?_
    | with_reducible refine nY ?_
    | with_reducible refine lG ?_
    | with_reducible refine tE ?_
    | with_reducible refine pJ ?_
    | refine tC rfl ?_
   | (with_reducible refine LM ?_); first
    | with_reducible refine aN ?_
    | with_reducible refine kb ?_
    | with_reducible refine vK ?_
    | with_reducible refine nX ?_
    | with_reducible refine ue ?_
  exact k.o):P:=h ⟨k⟩
theorem wo {P Q:Prop} (k:Q) (h:Kp Q->P:=by
  intro k
  repeat first
   | refine Kc ?_
  exact k.o):P:=h ⟨k⟩
theorem go {P Q:Prop} (k:Q) (h:Kp Q->P:=by
  intro k
  repeat first
   | refine Kc ?_
   | refine Ln ?_
  exact k.o):P:=h ⟨k⟩
theorem gj {P Q:Prop} (k:Q) (h:Kp Q->P:=by
  intro k
  repeat first
   | refine Kc ?_
   | refine aT ?_
   | (with_reducible refine LN ?_); first
    | with_reducible refine lN ?_
    | with_reducible refine nY ?_
    | with_reducible refine lG ?_
    | with_reducible refine tE ?_
    | with_reducible refine pJ ?_
    | refine tC rfl ?_
   | (with_reducible refine LM ?_); first
    | with_reducible refine aN ?_
    | with_reducible refine kb ?_
    | with_reducible refine vK ?_
    | with_reducible refine nX ?_
    | with_reducible refine ue ?_
  exact k.o):P:=h ⟨k⟩
theorem gt {P Q:Prop} (k:Q) (h:Kp Q->P:=by
  intro k
  repeat first
   | refine Kc ?_
   | refine aT ?_
   | (with_reducible refine LN ?_); first
    | with_reducible refine lN ?_
    | with_reducible refine nY ?_
    | with_reducible refine lG ?_
    | with_reducible refine tE ?_
    | with_reducible refine pJ ?_
    | refine tC rfl ?_
   | (with_reducible refine LM ?_); first
    | with_reducible refine aN ?_
    | with_reducible refine kb ?_
    | with_reducible refine vK ?_
    | with_reducible refine nX ?_
    | with_reducible refine ue ?_
  with_reducible refine aM ?_
  exact k.o):P:=h ⟨k⟩
theorem gs {P Q:Prop} (k:Q) (h:Kp Q->P:=by
  intro k
  repeat first
   | refine Kc ?_
   | refine Ln ?_
  refine cL ?_
  repeat first
   | refine Kc ?_
   | refine Ln ?_
  exact k.o):P:=h ⟨k⟩
theorem g2 {P Q:Prop} (k:Q) (h:Kp Q->P:=by
  intro k;refine gs ?_;refine gs ?_;exact k.o):P:=h ⟨k⟩
theorem om {P:Prop} (h:P:=by
  intro J O X Rest hR
  repeat (rintro _ _ ⟨rfl,rfl⟩)
  intro hU I
  repeat refine Kc ?_
  exact o0 ⟨rfl,rfl⟩):P:=h
theorem Lp {P q:Prop} (I:q) (h:q->P:=by
  intro I;intro O Y X Rest hR
  repeat (rintro _ _ ⟨rfl,rfl⟩)
  intro hU J
  repeat refine Kc ?_
  exact o0 ⟨rfl,(by first | rfl | (rw [I]; try rfl))⟩):P:=h I
theorem KA {P Q:Prop} (k:Q) (h:Kp Q->P:=by
  intro k;refine LO ?_; first
   | (with_reducible refine p1 ?_); refine bZ rfl rfl rfl ?_
   | (with_reducible refine p2 ?_); refine aL rfl rfl rfl ?_
   | (with_reducible refine p3 ?_); refine fq ?_
   | (with_reducible refine p4 ?_); first
    | refine Nj ?_
    | refine Nk ?_
   | (with_reducible refine p5 ?_); refine qy rfl rfl rfl rfl rfl ?_
   | (with_reducible refine p8 ?_); refine pM rfl rfl rfl ?_
   | (with_reducible refine p7 ?_); refine sr rfl rfl rfl rfl ?_
   | (with_reducible refine p6 ?_); refine Br rfl rfl rfl rfl ?_
   | (with_reducible refine p9 ?_); refine LA rfl rfl rfl rfl ?_
   | (with_reducible refine pa ?_); refine sq rfl rfl (λ_=>rfl) (λ_=>rfl) rfl ?_
   | (with_reducible refine pb ?_); refine zQ rfl rfl rfl rfl ?_
   | (with_reducible refine pc ?_); first
    | refine Ni ?_
   | (with_reducible refine pg ?_); first
    | refine Lz rfl rfl rfl ?_
    | refine Ks rfl rfl ?_
  exact k.o):P:=h ⟨k⟩
theorem qo {P Q:Prop} (k:Q) (h:Kp Q->P:=by
  intro k
  repeat first
   | refine KA ?_
  exact k.o):P:=h ⟨k⟩
theorem qg {P Q:Prop} (k:Q) (h:Kp Q->P:=by
  intro k
  repeat first
   | refine KA ?_
   | refine Ln ?_
  exact k.o):P:=h ⟨k⟩
theorem qj {P Q:Prop} (k:Q) (h:Kp Q->P:=by
  intro k
  repeat first
   | refine KA ?_
   | refine aT ?_
   | (with_reducible refine LN ?_); first
    | with_reducible refine lN ?_
    | with_reducible refine nY ?_
    | with_reducible refine lG ?_
    | with_reducible refine tE ?_
    | with_reducible refine pJ ?_
    | refine tC rfl ?_
   | (with_reducible refine LM ?_); first
    | with_reducible refine aN ?_
    | with_reducible refine kb ?_
    | with_reducible refine vK ?_
    | with_reducible refine nX ?_
    | with_reducible refine ue ?_
  exact k.o):P:=h ⟨k⟩
theorem qt {P Q:Prop} (k:Q) (h:Kp Q->P:=by
  intro k
  repeat first
   | refine KA ?_
   | refine aT ?_
   | (with_reducible refine LN ?_); first
    | with_reducible refine lN ?_
    | with_reducible refine nY ?_
    | with_reducible refine lG ?_
    | with_reducible refine tE ?_
    | with_reducible refine pJ ?_
    | refine tC rfl ?_
   | (with_reducible refine LM ?_); first
    | with_reducible refine aN ?_
    | with_reducible refine kb ?_
    | with_reducible refine vK ?_
    | with_reducible refine nX ?_
    | with_reducible refine ue ?_
  with_reducible refine aM ?_
  exact k.o):P:=h ⟨k⟩
theorem qs {P Q:Prop} (k:Q) (h:Kp Q->P:=by
  intro k
  repeat first
   | refine KA ?_
   | refine Ln ?_
  refine cL ?_
  repeat first
   | refine KA ?_
   | refine Ln ?_
  exact k.o):P:=h ⟨k⟩
theorem q2 {P Q:Prop} (k:Q) (h:Kp Q->P:=by
  intro k;refine qs ?_;refine qs ?_;exact k.o):P:=h ⟨k⟩
theorem qm {P:Prop} (h:P:=by
  intro J O X Rest hR
  repeat (rintro _ _ ⟨rfl,rfl⟩)
  intro hU I
  repeat refine KA ?_
  exact o0 ⟨rfl,rfl⟩):P:=h
theorem qn {P q:Prop} (I:q) (h:q->P:=by
  intro I;intro O Y X Rest hR
  repeat (rintro _ _ ⟨rfl,rfl⟩)
  intro hU J
  repeat refine KA ?_
  exact o0 ⟨rfl,(by first | rfl | (rw [I]; try rfl))⟩):P:=h I
section
variable {x:Cx}{ops:Array Oper}{Q:mj}{rest:List Oper}{H H0:Hp}{M:List bU}{L:Env}{ty:TypeId}{pos:String}{aft:Array Edge}{g:Option (Nat×Bool)}
theorem wF {α:Type}{iR:aE α} (i o:Nat) {T U m:Nat}{y z:Operand}{v u:N3}{xs cs out:List N3}{l:List α}{e:α}{J:Nat}{M1:List bU}{ad:Addr} (e2:α)
  (k:∀ I,Rw H v I (l.set J e2)->(l.set J e2)[J]? = some e2->W x ops Q rest H (.row v U (aE.sz α) (l.set J e2).length I::M1) L)
  (hy:ev L y=some (.pointer (some ad)):=by rfl) (hM:zo i M=some (.row v U (aE.sz α) l.length xs,M1):=by rfl) (Z:ad=(Value.base v).add (J*aE.sz α+o):=by first | exact Fj _ _ | exact Im _ _ _)
  (h:Rw H0 v xs l:=by with_reducible assumption) (he:l[J]? = some e:=by first | with_reducible assumption | assumption) (iC:vL α:=by infer_instance) (hle:H0.le H:=by exact lE) (hz:ev L z=some u:=by rfl)
  (hv:u.cells=cs.toArray:=by first | exact aV.cells (by assumption) | exact Rw.cells (by assumption) | rfl)
  (h1:∀ c ∈ cs,c.oneCell'=true:=by repeat first | exact P6 | refine fW rfl ?_ | refine fW (aV.tN (by assumption)) ?_ | refine fW (Rw.one (by assumption)) ?_)
  (hg:gd ops L ⟨none,.store T y z,ty,pos,aft,g⟩=some true:=by rfl) (hn:∀ w,(sizeOf T).run x.P w=.ok m w:=by exact λ_=>rfl) (hl:cs.length=m:=by rfl)
  (ho:zf (vL.cs e) o cs=some out:=by rfl) (hE:aE.E H out e2:=by rfl) (Y:aE.E H (vL.cs e) e:=by rfl) (hb:Nat.ble (o+cs.length) (vL.cs e).length=true:=by rfl) (hb2:Nat.ble (o+cs.length) (aE.sz α)=true:=by rfl) (O:Nat.blt 0 cs.length=true:=by rfl):
  W x ops Q (⟨none,.store T y z,ty,pos,aft,g⟩::rest) H M L:=
 wr i o e2 h he (zv h he) Y hE (λI a b _=>k I a b) hle hy Z hz hv h1 hM hg hn hl ho hb hb2 O
end
theorem fc {P:Prop} (h:P:=by
  first
   | with_reducible assumption
   | exact aV.mm (by with_reducible assumption)
   | exact Rw.mm (by with_reducible assumption)
   | exact Rw.nM (by with_reducible assumption)
   | exact aV.nil
   | exact Rw.nil
   | exact (Rw.nil (H:=H)).nM
   | exact lE
   | exact qx.mm (by assumption)
   | exact ky.mm (by assumption)
   | exact Mx.mm (by assumption)
   | exact qx.nM (by assumption)
   | exact I.mm (by with_reducible assumption)
   | exact aV.mm (by assumption)
   | exact Rw.mm (by assumption)
   | exact Rw.nM (by assumption)
   | assumption
   | rfl):P:=h
theorem pk {P:Prop} (h:P:=by
  repeat apply Exists.intro
  repeat' first
   | refine And.intro ?_ ?_
   | exact rfl
   | exact hm
  all_goals first | exact fc | skip):P:=h
section
variable {x:Cx}{ops:Array Oper}{Q:mj}{rest:List Oper}{H H0:Hp}{M:List bU}{L:Env}{d:Nat}{ty:TypeId}{pos:String}{aft:Array Edge}{g:Option (Nat×Bool)}
theorem zu {P:Program}{f:FuncId}{bs:Array N3}{B:Nat}{w0 w:World}{J I:Hp->List bU->N3->Prop} (h:Calls P f bs w (ub B w0 I)) (e:I=J):Calls P f bs w (ub B w0 J):=e▸h
theorem ca {C:Prop}{f:FuncId}{args:List Operand}{J:Array TypeId}{vs:List N3}{A:Prop}{O:Hp->List bU->N3->Prop} (c:C) (a:A)
  (k:∀ v H' M',O H' M' v->W x ops Q rest H' M' ((d,v)::L)) (I:∀ bs w,(callFunc f bs).run x.P w=.ok (.enter f bs) w:=by exact λ_ _=>rfl) (hv:xG L args=some vs:=by rfl)
  (Y:C->A->∀ w,St x.B x.w0 H M w->Calls x.P f vs.toArray w (ub x.B x.w0 O):=by
   intro c a w ht;apply zu;apply c a
   all_goals first | exact ht | skip
   all_goals first | exact fc | exact rfl) (Z:gd ops L ⟨some d,.call ⟨.value (.func f),args.toArray,J⟩,ty,pos,aft,g⟩=some true:=by rfl) (hN:Nat.blt d x.N=true:=by rfl):
  W x ops Q (⟨some d,.call ⟨.value (.func f),args.toArray,J⟩,ty,pos,aft,g⟩::rest) H M L:=dG I Z hN hv (Y c a) k
theorem cy {C:Prop}{f:FuncId}{args:List Operand}{Y:Array TypeId}{vs:List N3}{A:Prop}{Φ:Hp->List bU->N3->Prop} (c:C) (a:A)
  (k:∀ v H' M',Φ H' M' v->W x ops Q rest H' M' ((d,v)::L)) (I:∀ bs w,(callFunc f bs).run x.P w=.ok (.enter f bs) w:=by exact λ_ _=>rfl) (hv:xG L args=some vs:=by rfl)
  (hc:C->A->∀ w,St x.B x.w0 H M w->Calls x.P f vs.toArray w (ub x.B x.w0 Φ):=by
   intro c a w ht;apply zu;obtain ⟨H0_,Z,O,hr0_,J⟩:=St.re ht (by exact fc) rfl
   apply nO J;apply c a
   all_goals first | exact O | skip
   all_goals first | exact fc | exact rfl) (hg:gd ops L ⟨some d,.call ⟨.value (.func f),args.toArray,Y⟩,ty,pos,aft,g⟩=some true:=by rfl) (hN:Nat.blt d x.N=true:=by rfl):
  W x ops Q (⟨some d,.call ⟨.value (.func f),args.toArray,Y⟩,ty,pos,aft,g⟩::rest) H M L:=dG I hg hN hv (hc c a) k
theorem cY {C:Prop}{f:FuncId}{args:List Operand}{tys:Array TypeId}{vs:List N3}{A:Prop}{Φ:Hp->List bU->N3->Prop} (c:C) (a:A)
  (k:∀ v H' M',Φ H' M' v->W x ops Q rest H' M' ((d,v)::L)) (I:∀ bs w,(callFunc f bs).run x.P w=.ok (.enter f bs) w:=by exact λ_ _=>rfl) (hv:xG L args=some vs:=by rfl)
  (hc:C->A->∀ w,St x.B x.w0 H M w->Calls x.P f vs.toArray w (ub x.B x.w0 Φ):=by
   intro c a w ht;apply zu;obtain ⟨H0_,hl0_,Y,hr0_,J⟩:=St.re ht (by exact fc) rfl
   apply nO J;obtain ⟨H1_,hl1_,Z,hr1_,O⟩:=St.re Y (by exact fc) rfl
   apply nO O;apply c a
   all_goals first | exact Z | skip
   all_goals first | exact fc | exact rfl) (hg:gd ops L ⟨some d,.call ⟨.value (.func f),args.toArray,tys⟩,ty,pos,aft,g⟩=some true:=by rfl) (hN:Nat.blt d x.N=true:=by rfl):
  W x ops Q (⟨some d,.call ⟨.value (.func f),args.toArray,tys⟩,ty,pos,aft,g⟩::rest) H M L:=dG I hg hN hv (hc c a) k
theorem cz {C:Prop}{f:FuncId}{args:List Operand}{J:Array TypeId}{vs:List N3}{A:Prop}{u:N3} (c:C) (a:A)
  (k:W x ops Q rest H M ((d,u)::L)) (I:∀ bs w,(callFunc f bs).run x.P w=.ok (.enter f bs) w:=by exact λ_ _=>rfl) (Z:xG L args=some vs:=by rfl)
  (O:C->A->∀ w,St x.B x.w0 H M w->Calls x.P f vs.toArray w (ub x.B x.w0 λH' M' v=>H=H'/\M=M'/\u=v):=by
   intro c a w ht;apply zu;apply c a
   all_goals first | exact ht | skip
   all_goals first | exact fc | exact rfl) (Y:gd ops L ⟨some d,.call ⟨.value (.func f),args.toArray,J⟩,ty,pos,aft,g⟩=some true:=by rfl) (hN:Nat.blt d x.N=true:=by rfl):
  W x ops Q (⟨some d,.call ⟨.value (.func f),args.toArray,J⟩,ty,pos,aft,g⟩::rest) H M L:=dG I Y hN Z (O c a) (by rintro _ _ _ ⟨rfl,rfl,rfl⟩; exact k)
end
theorem ki {a b:Int} (h:a=b):some (Value.int .i64 a)=some (Value.int .i64 b):=by rw [h]
theorem kS {P:Prop} (h:P:=by
  repeat first
   | exact N4
   | refine ⟨rfl,?_⟩
   | refine ⟨sb (by simp only [KP, *]),?_⟩):P:=h
theorem kK {a b:Int}{P:Prop} (e:a=b) (h:a=b->P:=by
  intro e
  repeat first
   | exact N4
   | refine ⟨rfl,?_⟩
   | refine ⟨ki e,?_⟩
   | refine ⟨sb (by simp only [KP, *]),?_⟩):P:=h e
theorem eb {A B P:Prop} (a:A) (b:B) (h:A->B->P:=by
  intro a b;apply gV (Oh _)
  repeat apply Exists.intro
  refine And.intro a ?_;refine And.intro rfl ?_;refine And.intro ((O3 b _).trans hm) ?_
  repeat' first
   | refine And.intro ?_ ?_
   | exact rfl
  all_goals first | exact fc | skip):P:=h a b
theorem y_ {B P:Prop} (b:B) (h:B->P:=by
  intro b;apply gV (Oh _)
  repeat apply Exists.intro
  refine And.intro ((O3 b _).trans hm) ?_
  repeat' first
   | refine And.intro ?_ ?_
   | exact rfl
  all_goals first | exact fc | skip):P:=h b
theorem en {P:Prop} (h:P:=by
  obtain rfl:=N8 hm
  first
   | refine k5 rfl rfl ?_
   | refine wu rfl rfl rfl ?_
   | refine LG rfl rfl rfl rfl ?_
   | refine wm rfl ?_
  refine And.intro lE ?_
  repeat apply Exists.intro
  refine And.intro rfl ?_
  repeat' first
   | refine And.intro ?_ ?_
   | exact rfl
  all_goals first | exact fc | skip):P:=h
theorem ef {P:Prop} (h:P:=by
  obtain rfl:=N8 hm;refine Ew H ?_
  first
   | refine k5 rfl rfl ?_
   | refine wu rfl rfl rfl ?_
   | refine LG rfl rfl rfl rfl ?_
   | refine wm rfl ?_
  refine And.intro rfl ?_
  repeat apply Exists.intro
  refine And.intro rfl ?_
  repeat' first
   | refine And.intro ?_ ?_
   | exact rfl
  all_goals first | exact fc | skip):P:=h
section
variable {x:Cx}{ops:Array Oper}{Q:mj}{rest:List Oper}{H:Hp}{M:List bU}{L:Env}{d:Nat}{ty:TypeId}{pos:String}{aft:Array Edge}{g:Option (Nat×Bool)}{y:Operand}{T:TypeId}
theorem NF {b i U n:Nat}{fz:Nat×Nat}{l cs:List N3} (k:W x ops Q rest H M ((d,.agg cs.toArray)::L)) (Y:ev L y=some (.pointer (some ⟨b,i,none⟩)):=by rfl)
  (hm:bU.obj b (.cells l.toArray U fz) ∈ M:=by exact mA) (I:∀ w,(isAgg T).run x.P w=.ok true w:=by exact λ_=>rfl) (hn:∀ w,(sizeOf T).run x.P w=.ok n w:=by exact λ_=>rfl)
  (J:KT ((l.drop i).take n)=some cs:=by rfl) (hl:cs.length=n:=by rfl) (O:gd ops L ⟨some d,.load T y,ty,pos,aft,g⟩=some true:=by rfl) (hN:Nat.blt d x.N=true:=by rfl):
  W x ops Q (⟨some d,.load T y,ty,pos,aft,g⟩::rest) H M L:=
 nN O hN I hn Y (yo hm (by rw [hl]; exact BD J)) hl k
end
theorem Nr {F:N3->List bU->Prop} (k:∀ v rs,F v rs):∀ v rs,F v rs:=k
structure Ix (l:List Nat):Prop where
 o:True
theorem ix (l:List Nat):Ix l:=⟨N4⟩
theorem Wi {x:Cx}{ops:Array Oper}{Q:mj}{rest:List Oper}{H:Hp}{M M':List bU}{L:Env}{l:List Nat} (i:Ix l) (k:W x ops Q rest H M' L) (h:zg l M=some M':=by rfl):W x ops Q rest H M L:=Wp l k h
theorem rz {P:Prop} (h:P:=by
  first
   | exact o0 ⟨rfl,rfl⟩
   | exact o0 pk
   | exact oe [] lE pk
   | exact oe [_] lE pk
   | exact oe [_,_] lE pk
   | exact oe [_,_,_] lE pk
   | exact oe [_,_,_,_,_,_] lE pk
   | exact oe [_,_,_,_,_,_,_] lE pk
   | exact aT (A1 [_] lE pk)):P:=h
theorem rk {C A I P:Prop} (i:I) (c:C) (a:A) (h:I->C->A->P:=by
  intro i c a Y Z X Rest hR
  repeat (refine Nr ?_; (first | rintro _ _ ⟨rfl,rfl⟩ | rintro _ _ ⟨_,rfl,rfl⟩ | rintro _ _ ⟨_,_,rfl,rfl⟩ | rintro _ _ ⟨_,_,_,rfl,rfl⟩ | rintro _ _ ⟨_,_,_,_,rfl,rfl⟩ | rintro _ _ ⟨_,_,_,_,_,rfl,rfl⟩ | rintro _ _ ⟨_,_,_,_,_,_,rfl,rfl⟩ | rintro _ _ ⟨_,_,_,_,_,_,_,rfl,rfl⟩ | rintro _ _ ⟨_,_,_,_,_,_,_,_,rfl,rfl⟩ | rintro _ _ ⟨_,_,_,_,_,_,_,_,_,_,rfl,rfl⟩ | rintro _ _ ⟨_,_,_,_,_,_,_,_,_,_,_,_,rfl,rfl⟩ | rintro _ _ ⟨_,_,_,_,_,_,_,_,_,_,_,_,_,_,rfl,rfl⟩ | rintro _ _ ⟨rfl,rfl,J⟩ | rintro _ _ ⟨_,rfl,rfl,J⟩ | rintro _ _ ⟨_,_,rfl,rfl,J⟩ | rintro _ _ ⟨_,_,_,rfl,rfl,J⟩ | rintro _ _ ⟨_,_,_,_,rfl,rfl,J⟩ | rintro _ _ ⟨_,_,_,_,_,rfl,rfl,J⟩ | rintro _ _ ⟨_,_,_,_,_,_,rfl,rfl,J⟩ | rintro _ _ ⟨_,_,_,_,_,_,_,rfl,rfl,J⟩ | rintro _ _ ⟨_,_,_,_,_,_,_,_,rfl,rfl,J⟩ | rintro _ _ ⟨_,_,_,_,_,_,_,_,_,_,rfl,rfl,J⟩ | rintro _ _ ⟨_,_,_,_,_,_,_,_,_,_,_,_,rfl,rfl,J⟩ | rintro _ _ ⟨_,_,_,_,_,_,_,_,_,_,_,_,_,_,rfl,rfl,J⟩); repeat (with_reducible refine And.elim (λ_ J=>?_) J))
  intro hU O
  first | refine Wi i ?_ | skip
  repeat first
   | refine Kc ?_
   | refine NF ?_
   | (refine ca c a ?_; (first | rintro _ _ _ ⟨rfl,rfl,rfl⟩ | rintro _ _ _ ⟨rfl,_,rfl,rfl⟩ | rintro _ _ _ ⟨rfl,_,_,rfl,rfl⟩ | rintro _ _ _ ⟨rfl,_,_,_,rfl,rfl⟩ | rintro _ _ _ ⟨rfl,_,_,_,_,rfl,rfl⟩ | rintro _ _ _ ⟨rfl,_,_,_,_,_,rfl,rfl⟩ | rintro _ _ _ ⟨rfl,_,_,_,_,_,_,rfl,rfl⟩ | rintro _ _ _ ⟨rfl,_,_,_,_,_,_,_,rfl,rfl⟩ | rintro _ _ _ ⟨rfl,_,_,_,_,_,_,_,_,rfl,rfl⟩ | rintro _ _ _ ⟨rfl,_,_,_,_,_,_,_,_,_,_,rfl,rfl⟩ | rintro _ _ _ ⟨rfl,_,_,_,_,_,_,_,_,_,_,_,_,rfl,rfl⟩ | rintro _ _ _ ⟨rfl,_,_,_,_,_,_,_,_,_,_,_,_,_,_,rfl,rfl⟩ | rintro _ _ _ ⟨rfl,rfl,rfl,J⟩ | rintro _ _ _ ⟨rfl,_,rfl,rfl,J⟩ | rintro _ _ _ ⟨rfl,_,_,rfl,rfl,J⟩ | rintro _ _ _ ⟨rfl,_,_,_,rfl,rfl,J⟩ | rintro _ _ _ ⟨rfl,_,_,_,_,rfl,rfl,J⟩ | rintro _ _ _ ⟨rfl,_,_,_,_,_,rfl,rfl,J⟩ | rintro _ _ _ ⟨rfl,_,_,_,_,_,_,rfl,rfl,J⟩ | rintro _ _ _ ⟨rfl,_,_,_,_,_,_,_,rfl,rfl,J⟩ | rintro _ _ _ ⟨rfl,_,_,_,_,_,_,_,_,rfl,rfl,J⟩ | rintro _ _ _ ⟨rfl,_,_,_,_,_,_,_,_,_,_,rfl,rfl,J⟩ | rintro _ _ _ ⟨rfl,_,_,_,_,_,_,_,_,_,_,_,_,rfl,rfl,J⟩ | rintro _ _ _ ⟨rfl,_,_,_,_,_,_,_,_,_,_,_,_,_,_,rfl,rfl,J⟩ | rintro _ _ _ ⟨_,rfl,rfl⟩ | rintro _ _ _ ⟨_,_,rfl,rfl⟩ | rintro _ _ _ ⟨_,_,_,rfl,rfl⟩ | rintro _ _ _ ⟨_,_,_,_,rfl,rfl⟩ | rintro _ _ _ ⟨_,_,_,_,_,rfl,rfl⟩ | rintro _ _ _ ⟨_,_,_,_,_,_,rfl,rfl⟩ | rintro _ _ _ ⟨_,_,_,_,_,_,_,rfl,rfl⟩ | rintro _ _ _ ⟨_,_,_,_,_,_,_,_,rfl,rfl⟩ | rintro _ _ _ ⟨_,_,_,_,_,_,_,_,_,rfl,rfl⟩ | rintro _ _ _ ⟨_,_,_,_,_,_,_,_,_,_,_,rfl,rfl⟩ | rintro _ _ _ ⟨_,_,_,_,_,_,_,_,_,_,_,_,_,rfl,rfl⟩ | rintro _ _ _ ⟨_,_,_,_,_,_,_,_,_,_,_,_,_,_,_,rfl,rfl⟩ | rintro _ _ _ ⟨_,rfl,rfl,J⟩ | rintro _ _ _ ⟨_,_,rfl,rfl,J⟩ | rintro _ _ _ ⟨_,_,_,rfl,rfl,J⟩ | rintro _ _ _ ⟨_,_,_,_,rfl,rfl,J⟩ | rintro _ _ _ ⟨_,_,_,_,_,rfl,rfl,J⟩ | rintro _ _ _ ⟨_,_,_,_,_,_,rfl,rfl,J⟩ | rintro _ _ _ ⟨_,_,_,_,_,_,_,rfl,rfl,J⟩ | rintro _ _ _ ⟨_,_,_,_,_,_,_,_,rfl,rfl,J⟩ | rintro _ _ _ ⟨_,_,_,_,_,_,_,_,_,rfl,rfl,J⟩ | rintro _ _ _ ⟨_,_,_,_,_,_,_,_,_,_,_,rfl,rfl,J⟩ | rintro _ _ _ ⟨_,_,_,_,_,_,_,_,_,_,_,_,_,rfl,rfl,J⟩ | rintro _ _ _ ⟨_,_,_,_,_,_,_,_,_,_,_,_,_,_,_,rfl,rfl,J⟩); repeat (with_reducible refine And.elim (λ_ J=>?_) J))
  exact rz):P:=h i c a
theorem tt:True:=N4
theorem ro {P:Prop} (h:P:=by exact rk tt tt tt):P:=h
end Go.Sim
namespace Go.Proofs
open Go.Shelf
open _root_.Go.IntKind (i64 u64 u32 u8)
def Tryz.C3:Go.Shelf.Ren:=⟨fun | 283=>199 | n=>n,fun | 3=>3 | 9=>9 | 4=>4 | n=>n,fun | n=>n⟩
theorem Tryz.Jw:Go.Proofs.Lays.n283 Tryz.prog Tryz.C3:={
 mixed:=by kernel_rfl
 f283:=Tryz.func199.trans (congrArg some (by kernel_rfl))
 t3:=Tryz.underlying3
 a3:=Tryz.isAgg3
 z3:=Tryz.sizeOf3
 v3:=Tryz.zeroValue3
 t4:=Tryz.underlying4
 a4:=Tryz.isAgg4
 z4:=Tryz.sizeOf4
 v4:=Tryz.zeroValue4
 t9:=Tryz.underlying9
 a9:=Tryz.isAgg9
 z9:=Tryz.sizeOf9
 v9:=Tryz.zeroValue9 }
open Go.Lib in
theorem Tryz.internal_strconv_small (i:Nat) (h:i<100) (w:World):
  Calls Tryz.prog 199 #[.int .i64 i] w λe w'=>e=.returned (.string ⟨(Lib.decDigits i).toArray⟩)/\w'=w:=Any.internal_strconv_small Tryz.Jw i h w
def Tryz.BU:Go.Shelf.Ren:=⟨fun | 284=>200 | 129=>79 | 317=>205 | 318=>206 | n=>n,fun | 53=>136 | 3=>3 | 212=>282 | 0=>0 | 4=>4 | 46=>94 | 5=>5 | 9=>9 | n=>n,fun | 17=>3 | n=>n⟩
theorem Tryz.HC:Go.Proofs.LaysM.n284 Tryz.prog Tryz.BU:={
 mixed:=by kernel_rfl
 f129:=Tryz.func79.trans (congrArg some (by kernel_rfl))
 f284:=Tryz.func200.trans (congrArg some (by kernel_rfl))
 f317:=Tryz.func205.trans (congrArg some (by kernel_rfl))
 f318:=Tryz.func206.trans (congrArg some (by kernel_rfl))
 t0:=Tryz.underlying0
 a0:=Tryz.isAgg0
 z0:=Tryz.sizeOf0
 v0:=Tryz.zeroValue0
 t3:=Tryz.underlying3
 a3:=Tryz.isAgg3
 z3:=Tryz.sizeOf3
 v3:=Tryz.zeroValue3
 t4:=Tryz.underlying4
 a4:=Tryz.isAgg4
 z4:=Tryz.sizeOf4
 v4:=Tryz.zeroValue4
 t5:=Tryz.underlying5
 a5:=Tryz.isAgg5
 z5:=Tryz.sizeOf5
 v5:=Tryz.zeroValue5
 t9:=Tryz.underlying9
 a9:=Tryz.isAgg9
 z9:=Tryz.sizeOf9
 v9:=Tryz.zeroValue9
 t46:=Tryz.underlying94
 a46:=Tryz.isAgg94
 z46:=Tryz.sizeOf94
 v46:=Tryz.zeroValue94
 t53:=Tryz.underlying136
 a53:=Tryz.isAgg136
 z53:=Tryz.sizeOf136
 v53:=Tryz.zeroValue136
 t212:=Tryz.underlying282
 a212:=Tryz.isAgg282
 z212:=Tryz.sizeOf282
 v212:=Tryz.zeroValue282
 g17:=by kernel_rfl
 i0:=by kernel_rfl
 i3:=by kernel_rfl
 i4:=by kernel_rfl
 i5:=by kernel_rfl
 i9:=by kernel_rfl
 i46:=by kernel_rfl
 i53:=by kernel_rfl
 i212:=by kernel_rfl
 m17:=by kernel_rfl }
open Go.Lib in
theorem Tryz.internal_strconv_numDigits (u:Nat) (h1:1<=u) (h2:u<18446744073709551616) (w:World) (htab:Lib.TabIs Tryz.prog w "internal/strconv.uint64pow10" .u64 Lib.pow10Tab):
  Calls Tryz.prog 200 #[.int .u64 u] w λe w'=>e=.returned (.int .i64 (Lib.nDigits u))/\w'=w:=Any.internal_strconv_numDigits Tryz.HC u h1 h2 w htab
def Tryz.C4:Go.Shelf.Ren:=⟨fun | 285=>201 | n=>n,fun | 37=>82 | 53=>136 | 3=>3 | 4=>4 | 51=>134 | 9=>9 | 5=>5 | 0=>0 | n=>n,fun | n=>n⟩
theorem Tryz.Jx:Go.Proofs.Lays.n285 Tryz.prog Tryz.C4:={
 mixed:=by kernel_rfl
 f285:=Tryz.func201.trans (congrArg some (by kernel_rfl))
 t0:=Tryz.underlying0
 a0:=Tryz.isAgg0
 z0:=Tryz.sizeOf0
 v0:=Tryz.zeroValue0
 t3:=Tryz.underlying3
 a3:=Tryz.isAgg3
 z3:=Tryz.sizeOf3
 v3:=Tryz.zeroValue3
 t4:=Tryz.underlying4
 a4:=Tryz.isAgg4
 z4:=Tryz.sizeOf4
 v4:=Tryz.zeroValue4
 t5:=Tryz.underlying5
 a5:=Tryz.isAgg5
 z5:=Tryz.sizeOf5
 v5:=Tryz.zeroValue5
 t9:=Tryz.underlying9
 a9:=Tryz.isAgg9
 z9:=Tryz.sizeOf9
 v9:=Tryz.zeroValue9
 t37:=Tryz.underlying82
 a37:=Tryz.isAgg82
 z37:=Tryz.sizeOf82
 v37:=Tryz.zeroValue82
 t51:=Tryz.underlying134
 a51:=Tryz.isAgg134
 z51:=Tryz.sizeOf134
 v51:=Tryz.zeroValue134
 t53:=Tryz.underlying136
 a53:=Tryz.isAgg136
 z53:=Tryz.sizeOf136
 v53:=Tryz.zeroValue136 }
open Go.RowKit Go.Sort Go.Lib in
theorem Tryz.internal_strconv_formatBase10 (blk off cap:Nat) (u:Nat) (d:Array UInt8) (w:World) (hH:Holds (λ(b:UInt8)=>Value.int .u8 (b.toNat:Int)) w blk off d) (hu:u<10 ^ d.size) (hu64:u<18446744073709551616) (hsz:d.size<4611686018427387904):
  Calls Tryz.prog 201 #[.slice (some ⟨blk,off,none⟩) d.size cap,.int .u64 u] w λe w'=>
   e=.returned (.tuple #[])/\∃ (n v':Nat) (dk:Array UInt8),w'=(putRow (λ(b:UInt8)=>Value.int .u8 (b.toNat:Int)) w blk off dk).drewN n/\FmtInv d.size u 0 v' dk:=Any.internal_strconv_formatBase10 Tryz.Jx blk off cap u d w hH hu hu64 hsz
def Tryz.C5:Go.Shelf.Ren:=⟨fun | 287=>166 | 321=>182 | 322=>183 | n=>n,fun | 9=>9 | 3=>3 | 53=>136 | 75=>213 | 4=>4 | 167=>255 | 5=>5 | 46=>94 | 37=>82 | 0=>0 | 21=>21 | 80=>253 | n=>n,fun | n=>n⟩
theorem Tryz.Jy:Go.Proofs.Lays.n287 Tryz.prog Tryz.C5:={
 mixed:=by kernel_rfl
 f287:=Tryz.func166.trans (congrArg some (by kernel_rfl))
 f321:=Tryz.func182.trans (congrArg some (by kernel_rfl))
 f322:=Tryz.func183.trans (congrArg some (by kernel_rfl))
 t0:=Tryz.underlying0
 a0:=Tryz.isAgg0
 z0:=Tryz.sizeOf0
 v0:=Tryz.zeroValue0
 t3:=Tryz.underlying3
 a3:=Tryz.isAgg3
 z3:=Tryz.sizeOf3
 v3:=Tryz.zeroValue3
 t4:=Tryz.underlying4
 a4:=Tryz.isAgg4
 z4:=Tryz.sizeOf4
 v4:=Tryz.zeroValue4
 t5:=Tryz.underlying5
 a5:=Tryz.isAgg5
 z5:=Tryz.sizeOf5
 v5:=Tryz.zeroValue5
 t9:=Tryz.underlying9
 a9:=Tryz.isAgg9
 z9:=Tryz.sizeOf9
 v9:=Tryz.zeroValue9
 t21:=Tryz.underlying21
 a21:=Tryz.isAgg21
 z21:=Tryz.sizeOf21
 v21:=Tryz.zeroValue21
 t37:=Tryz.underlying82
 a37:=Tryz.isAgg82
 z37:=Tryz.sizeOf82
 v37:=Tryz.zeroValue82
 t46:=Tryz.underlying94
 a46:=Tryz.isAgg94
 z46:=Tryz.sizeOf94
 v46:=Tryz.zeroValue94
 t53:=Tryz.underlying136
 a53:=Tryz.isAgg136
 z53:=Tryz.sizeOf136
 v53:=Tryz.zeroValue136
 t75:=Tryz.underlying213
 a75:=Tryz.isAgg213
 z75:=Tryz.sizeOf213
 v75:=Tryz.zeroValue213
 t167:=Tryz.underlying255
 a167:=Tryz.isAgg255
 z167:=Tryz.sizeOf255
 v167:=Tryz.zeroValue255 }
open Go.RowKit in
theorem Tryz.internal_strconv_ParseUint_10_b32 (t:ByteArray) (hne:t.size≠0) (hmax:t.size<=9223372036854775806) (w:World):
  Calls Tryz.prog 166 #[.string t,.int .i64 10,.int .i64 32] w λe w'=>e=.returned (Lib.uintTupleM 255 4294967295 (Lib.parseUintM 4294967295 0 t.data.toList))/\w'=Lib.bytesWorld w 5 t:=Any.internal_strconv_ParseUint_10_b32 Tryz.Jy t hne hmax w
end Go.Proofs
namespace Go.Sim
open Go Go.Proofs.Tryz
open _root_.Go.IntKind (i64 u64 u32 u8)
set_option maxRecDepth 100000
set_option maxHeartbeats 4000000
instance:vL aF:=⟨λx=>[.string (x.Of),.string (x.By)],λh=>h⟩
instance:vL eJ:=⟨λx=>[.string (x.Name),.string (x.A),.string (x.B_),.bool (x.Bj),.bool (x.Open)],λh=>h⟩
instance:vL aZ:=⟨λx=>[.string (x.Name),.string (x.pK),.string (x.To),.int .i64 (x.X),.int .i64 (x.AN),.int .i64 (x.Shift),.int .i64 (x.t_),.int .i64 (x.yY),.int .i64 (x.DB)],λh=>h⟩
instance:vL fH:=⟨λx=>[.string (x.Name),.string (x.Node),.int .i64 (x.lO),.int .i64 (x.q8),.int .i64 (x.DC)],λh=>h⟩
instance:vL aJ:=⟨λx=>[.string (x.Name),.string (x.Node),.int .i64 (x.fX)],λh=>h⟩
instance:vL fZ:=⟨λx=>[.string (x.Name),.string (x.Node),.int .i64 (x.sy),.int .i64 (x.Discharge),.int .i64 (x.uC)],λh=>h⟩
instance:vL aA:=⟨λx=>[.string (x.Name),.int .i64 (x.Time),.bool (x.iP)],λh=>h⟩
instance:vL cG:=⟨λx=>[.int .i64 (x.a0),.int .i64 (x.a1)],λh=>h⟩
instance:vL bC:=⟨λx=>[.int .i64 (x.lO),.int .i64 (x.q8),.int .i64 (x.fX)],λh=>h⟩
theorem fm:Proofs.Tryz.prog.follows .mixedOrders=true:=by kernel_rfl
theorem EB.mixed:Proofs.Tryz.prog.follows .mixedOrders=true:=fm
class wh (B:Nat) (w0:World):Prop where
 lt:6<=B
 e1:∃ T p,w0.var? Proofs.Tryz.prog "strconv.ErrSyntax" = some #[.iface T p]
 e2:∃ T p,w0.var? Proofs.Tryz.prog "strconv.ErrRange" = some #[.iface T p]
 t3:Lib.TabIs Proofs.Tryz.prog w0 "internal/strconv.uint64pow10" .u64 Mq
 t4:Lib.TabIs Proofs.Tryz.prog w0 "math/bits.deBruijn32tab" .u8 MK
 t5:Lib.TabIs Proofs.Tryz.prog w0 "math/bits.deBruijn64tab" .u8 ML
theorem wh.below {B:Nat}{w0:World}[h:wh B w0] {g:Nat} (I:Nat.blt g 6=true):g<B:=by
 have:=h.lt;have:g<6:=by simpa [Pk] using I
 omega
theorem No:Proofs.Tryz.prog.globalNamed "strconv.ErrSyntax" = some 1:=by kernel_rfl
theorem Np:Proofs.Tryz.prog.globalNamed "strconv.ErrRange" = some 2:=by kernel_rfl
theorem Ng:Proofs.Tryz.prog.globalNamed "internal/strconv.uint64pow10" = some 3:=by kernel_rfl
theorem Nq:Proofs.Tryz.prog.globalNamed "math/bits.deBruijn32tab" = some 4:=by kernel_rfl
theorem Nh:Proofs.Tryz.prog.globalNamed "math/bits.deBruijn64tab" = some 5:=by kernel_rfl
abbrev Ex (d:Bool) (a:Hp) (c:List bU):Hp->List bU->N3->Prop:=λf g h=>a=f/\c=g/\.bool (d)=h
abbrev yz (d:Int) (a:Hp) (c:List bU):Hp->List bU->N3->Prop:=λf g h=>a=f/\c=g/\.int .i64 (d)=h
abbrev IS {I:Type} (a:Nat) (c:Nat->Nat->Unit->Option I) (d:I) (e:Hp) (l:Nat):Env->List bU->Nat->Hp->List bU->Env->Prop:=λf g h i j k=>∃ b0 b1:Nat,b0+b1=a/\b1=h/\c b1 b0 ()=some d/\e.le i/\g=j/\(l,.int .i64 (b0:Int))::f=k
abbrev Mi {I:Type} (a:List N2) (c:Nat->List N2->Unit->Option I) (d:I) (e:Hp) (l:Nat):Env->List bU->Nat->Hp->List bU->Env->Prop:=λf g h i j k=>∃ b0:Nat,∃ b1:List N2,(a).drop b0=b1/\b1.length=h/\c b0 b1 ()=some d/\e.le i/\g=j/\(l,.int .i64 (b0:Int))::f=k
abbrev Mu {α:Type}[aE α] (d:List α) (a:Hp) (c:List bU):Hp->List bU->N3->Prop:=λf g h=>a=f/\∃ b0:N3,∃ b1:List N3,.row b0 9 (aE.sz N2) d.length b1::c=g/\b0=h/\rr b0 b1 d
abbrev Nn {α:Type}[aE α] (a:List α):Hp->List bU->N3->Prop:=λf g h=>∃ b0:N3,∃ b1:List N3,[.row b0 9 (aE.sz N2) a.length b1]=g/\b0=h/\Rw f b0 b1 a
abbrev M9 {I:Type} (a:Int->Int->Option I) (c:I) (d:Hp) (e:Nat) (l:Nat):Env->List bU->Hp->List bU->Env->Prop:=λf g h i j=>∃ b0 b1:Int,a b0 b1=some c/\d=h/\g=i/\(e,.int .u64 (b0))::(l,.int .i64 (b1))::f=j
abbrev Ll {J:Type} (a:Nat->((List N2)×Int)->Option J) (c:J) (d:N3) (e:Hp) (l:Nat):Env->List bU->Nat->Hp->List bU->Env->Prop:=λf g h i j k=>∃ b0:List N2,∃ b1:Int,∃ I:List N3,a h (b0,b1)=some c/\Rw i d I b0/\e.le i/\.row d 9 (aE.sz N2) b0.length I::g=j/\(l,.int .i64 (b1))::f=k
abbrev Ci {I:Type} (a:Int->Option I) (c:I) (d:Hp) (e:Nat):Env->List bU->Hp->List bU->Env->Prop:=λf g h i j=>∃ b0:Int,a b0=some c/\d.le h/\g=i/\(e,.int .i64 (b0))::f=j
abbrev L7 {O:Type} (a:Int->Int->Int->Int->Option O) (c:O) (d:Hp) (e:Nat) (l:Nat) (m:Nat) (n:Nat):Env->List bU->Hp->List bU->Env->Prop:=λf g h i j=>∃ b0 b1 I J:Int,a b0 b1 I J=some c/\d=h/\.obj e (.cells ([.int .i64 (J)]:List N3).toArray 3 (0,0))::g=i/\(l,.int .i64 (b0))::(m,.int .i64 (b1))::(n,.int .i64 (I))::f=j
abbrev Kd {O:Type} (a:Nat->((List N2)×Int×Int)->Option O) (c:O) (d:N3) (e:Hp) (l:Nat) (m:Nat):Env->List bU->Nat->Hp->List bU->Env->Prop:=λf g h i j k=>∃ b0:List N2,∃ b1 I:Int,∃ J:List N3,a h (b0,b1,I)=some c/\Rw i d J b0/\e.le i/\.row d 9 (aE.sz N2) b0.length J::g=j/\(l,.int .i64 (b1))::(m,.int .i64 (I))::f=k
abbrev xr {I:Type} (a:Nat->Int->Option I) (c:I) (d:Hp) (e:Nat):Env->List bU->Nat->Hp->List bU->Env->Prop:=λf g h i j k=>∃ b0:Int,a h b0=some c/\d.le i/\g=j/\(e,.int .i64 (b0))::f=k
abbrev Le {I:Type} (a:Int->Option I) (c:I) (d:Hp) (e:Nat):Env->List bU->Hp->List bU->Env->Prop:=λf g h i j=>∃ b0:Int,a b0=some c/\d=h/\g=i/\(e,.int .i64 (b0))::f=j
abbrev L8 {Y:Type} (a:List N2) (c:Nat->List N2->List N2->Option Y) (d:Y) (e:Hp) (l:Nat) (m:Nat):Env->List bU->Nat->Hp->List bU->Env->Prop:=λf g h i j k=>∃ b0:Nat,∃ b1 I:List N2,∃ J:N3,∃ O:List N3,(a).drop b0=b1/\b1.length=h/\c b0 b1 I=some d/\Rw i J O I/\e.le i/\.row J 9 (aE.sz N2) I.length O::g=j/\(l,J)::(m,.int .i64 (b0:Int))::f=k
abbrev IQ {J:Type} (a:List N2->Option J) (c:J) (d:Hp) (e:Nat):Env->List bU->Hp->List bU->Env->Prop:=λf g h i j=>∃ b0:List N2,∃ b1:N3,∃ I:List N3,a b0=some c/\Rw h b1 I b0/\d.le h/\.row b1 9 (aE.sz N2) b0.length I::g=i/\(e,b1)::f=j
abbrev L9 {α:Type}[aE α] (d:List α) (e:Int) (a:Hp) (c:List bU):Hp->List bU->N3->Prop:=λf g h=>a=f/\∃ b0:N3,∃ b1:List N3,.row b0 9 (aE.sz N2) d.length b1::c=g/\.tuple #[b0,.int .i64 (e)]=h/\rr b0 b1 d
abbrev Lf (d:Nat) (e:N2) (l:Bool) (a:Hp) (c:List bU):Hp->List bU->N3->Prop:=λf g h=>a=f/\.obj d (.cells ([.string (e)]:List N3).toArray 9 (0,0))::c=g/\.bool (l)=h
abbrev L_ (d:aG) (a:Hp) (c:List bU):Hp->List bU->N3->Prop:=λf g h=>a=f/\∃ b0:N3,∃ b1:List N3,∃ O:N3,∃ b3:List N3,∃ Y:N3,∃ b5:List N3,∃ Z:N3,∃ b7:List N3,∃ b8:N3,∃ b9:List N3,∃ I:N3,∃ J:List N3,.row b0 9 (aE.sz N2) d.cA.length b1::.row O 149 (aE.sz eJ) d.dE.length b3::.row Y 114 (aE.sz aZ) d.aU.length b5::.row Z 156 (aE.sz fH) d.kF.length b7::.row b8 42 (aE.sz aJ) d.eS.length b9::.row I 160 (aE.sz fZ) d.eK.length J::c=g/\.agg [b0,O,Y,Z,b8,I].toArray=h/\rr b0 b1 d.cA/\rr O b3 d.dE/\rr Y b5 d.aU/\rr Z b7 d.kF/\rr b8 b9 d.eS/\rr I J d.eK
abbrev Ke (d:Nat) (e:N3) (l:Bool) (a:Hp) (c:List bU):Hp->List bU->N3->Prop:=λf g h=>a=f/\.obj d (.cells ([e]:List N3).toArray 23 (0,0))::c=g/\.bool (l)=h
abbrev Lh {α:Type}[aE α] (d:List α) (a:Hp) (c:List bU):Hp->List bU->N3->Prop:=λf g h=>a=f/\∃ b0:N3,∃ b1:List N3,.row b0 3 (aE.sz Int) d.length b1::c=g/\b0=h/\rr b0 b1 d
abbrev Ey (a:Int):Hp->List bU->N3->Prop:=λf g h=>[]=g/\.int .i64 (a)=h
abbrev Kf {α:Type}[aE α] (d:List α) (e:Int) (a:Hp) (c:List bU):Hp->List bU->N3->Prop:=λf g h=>a=f/\∃ b0:N3,∃ b1:List N3,.row b0 3 (aE.sz Int) d.length b1::c=g/\.tuple #[b0,.int .i64 (e)]=h/\rr b0 b1 d
abbrev Li {α:Type}[aE α] (a:List α):Hp->List bU->N3->Prop:=λf g h=>∃ b0:N3,∃ b1:List N3,[.row b0 3 (aE.sz Int) a.length b1]=g/\b0=h/\Rw f b0 b1 a
abbrev Du (d:aD) (a:Hp) (c:List bU):Hp->List bU->N3->Prop:=λf g h=>a.le f/\∃ b0:N3,c=g/\.agg [.bool (d.minus),b0].toArray=h/\aV f b0 d.words
abbrev Kg {α:Type}[aE α] (d:List α) (a:Hp) (c:List bU):Hp->List bU->N3->Prop:=λf g h=>a=f/\∃ b0:N3,∃ b1:List N3,.row b0 134 (aE.sz bT) d.length b1::c=g/\b0=h/\rr b0 b1 d
abbrev Ma {Y:Type} (a:List bT) (c:Nat->List bT->((List bT)×Int)->Option Y) (d:Y) (e:N3) (l:Hp) (m:Nat) (n:Nat):Env->List bU->Nat->Hp->List bU->Env->Prop:=λf g h i j k=>∃ b0:Nat,∃ b1 I:List bT,∃ J:Int,∃ O:List N3,(a).drop b0=b1/\b1.length=h/\c b0 b1 (I,J)=some d/\Rw i e O I/\l.le i/\.row e 134 (aE.sz bT) I.length O::g=j/\(m,.int .u64 (J))::(n,.int .i64 (b0:Int))::f=k
abbrev AY {α:Type}[aE α] (a:List α):Hp->List bU->N3->Prop:=λf g h=>∃ b0:N3,∃ b1:List N3,[.row b0 134 (aE.sz bT) a.length b1]=g/\b0=h/\Rw f b0 b1 a
abbrev Mb {Y:Type} (a:Nat) (c:Nat->Nat->((List bT)×Int)->Option Y) (d:Y) (e:N3) (l:Hp) (m:Nat) (n:Nat):Env->List bU->Nat->Hp->List bU->Env->Prop:=λf g h i j k=>∃ b0 b1:Nat,∃ I:List bT,∃ J:Int,∃ O:List N3,b0+b1=a/\b1=h/\c b1 b0 (I,J)=some d/\Rw i e O I/\l.le i/\.row e 134 (aE.sz bT) I.length O::g=j/\(m,.int .u64 (J))::(n,.int .i64 (b0:Int))::f=k
abbrev Lj {α:Type}[aE α] (a:aD) (c:List α):Hp->List bU->N3->Prop:=λf g h=>∃ b0:N3,∃ b1:List N3,∃ I:N3,[]=g/\.agg [.bool (a.minus),I].toArray=h/\Rw f b0 b1 c/\aV f b0 c/\aV f I a.words
abbrev yW (a:aD):Hp->List bU->N3->Prop:=λf g h=>∃ b0:N3,[]=g/\.agg [.bool (a.minus),b0].toArray=h/\aV f b0 a.words
abbrev Mc:Hp->List bU->N3->Prop:=λf g h=>∃ b0:Nat,[.obj b0 (.cells ([.bool (false),.slice none 0 0]:List N3).toArray 117 (0,0))]=g/\.pointer (some ⟨b0,0,none⟩)=h
abbrev Me {Z:Type} (a:Bool->(List bT)->Bool->(List bT)->Option Z) (c:Z) (d:Hp) (e:Nat) (l:Nat):Env->List bU->Hp->List bU->Env->Prop:=λf g h i j=>∃ b0:Bool,∃ b1:(List bT),∃ I:Bool,∃ J:(List bT),∃ O Y:N3,a b0 b1 I J=some c/\aV h O b1/\aV h Y J/\d.le h/\.obj e (.cells ([.bool (b0),O]:List N3).toArray 117 (0,0))::.obj l (.cells ([.bool (I),Y]:List N3).toArray 117 (0,0))::g=i/\f=j
abbrev AL (d:aB) (a:Hp) (c:List bU):Hp->List bU->N3->Prop:=λf g h=>a.le f/\∃ b0 b1:N3,c=g/\.agg [.bool (d.N.minus),b0,.bool (d.D.minus),b1].toArray=h/\aV f b0 d.N.words/\aV f b1 d.D.words
abbrev tQ (a:aB):Hp->List bU->N3->Prop:=λf g h=>∃ b0 b1:N3,[]=g/\.agg [.bool (a.N.minus),b0,.bool (a.D.minus),b1].toArray=h/\aV f b0 a.N.words/\aV f b1 a.D.words
abbrev Mf {α:Type}[aE α] (a:List α):Hp->List bU->N3->Prop:=λf g h=>∃ b0:N3,∃ b1:List N3,[.row b0 119 (aE.sz aB) a.length b1]=g/\b0=h/\Rw f b0 b1 a
abbrev Kh {α:Type}[aE α] (d:List α) (e:Nat) (l:N3) (m:N3) (n:N3) (o:N3) (p:N3) (q:N3) (r:N3) (s:N3) (a:Hp) (c:List bU):Hp->List bU->N3->Prop:=λf g h=>a.le f/\∃ b0:N3,∃ b1:List N3,.row b0 119 (aE.sz aB) d.length b1::.obj e (.cells ([l,m,n,o,p,q,r,s]:List N3).toArray 175 (0,0))::c=g/\b0=h/\Rw f b0 b1 d
abbrev Mg {O:Type} (a:List Int) (c:Nat->List Int->List aB->Option O) (d:O) (e:N3) (l:Hp) (m:Nat):Env->List bU->Nat->Hp->List bU->Env->Prop:=λf g h i j k=>∃ b0:Nat,∃ b1:List Int,∃ I:List aB,∃ J:List N3,(a).drop b0=b1/\b1.length=h/\c b0 b1 I=some d/\Rw i e J I/\l.le i/\.row e 119 (aE.sz aB) I.length J::g=j/\(m,.int .i64 (b0:Int))::f=k
abbrev Ki (a:Nat):Hp->List bU->N3->Prop:=λf g h=>[]=g/\.pointer (some ⟨a,0,none⟩)=h
abbrev Mh {α:Type}[aE α] (d:gW) (e:List α) (l:Int) (a:Hp) (c:List bU):Hp->List bU->N3->Prop:=λf g h=>a=f/\∃ b0:N3,∃ b1:List N3,∃ I:N3,∃ O:List N3,∃ J:N3,∃ Y:List N3,.row b0 121 (aE.sz N2) d.vJ.length b1::.row I 121 (aE.sz N2) d.u5.length O::.row J 9 (aE.sz N2) e.length Y::c=g/\.tuple #[.agg [b0,I].toArray,J,.int .i64 (l)]=h/\rr b0 b1 d.vJ/\rr I O d.u5/\rr J Y e
abbrev Ez {J:Type} (a:Nat->((List aA)×Int)->Option J) (c:J) (d:N3) (e:Hp) (l:Nat):Env->List bU->Nat->Hp->List bU->Env->Prop:=λf g h i j k=>∃ b0:List aA,∃ b1:Int,∃ I:List N3,a h (b0,b1)=some c/\Rw i d I b0/\e.le i/\.row d 56 (aE.sz aA) b0.length I::g=j/\(l,.int .i64 (b1))::f=k
abbrev IT {O:Type} (a:Nat->((List aA)×Int×Int)->Option O) (c:O) (d:N3) (e:Hp) (l:Nat) (m:Nat):Env->List bU->Nat->Hp->List bU->Env->Prop:=λf g h i j k=>∃ b0:List aA,∃ b1 I:Int,∃ J:List N3,a h (b0,b1,I)=some c/\Rw i d J b0/\e.le i/\.row d 56 (aE.sz aA) b0.length J::g=j/\(l,.int .i64 (b1))::(m,.int .i64 (I))::f=k
abbrev Mj {α:Type}[aE α] (d:List α) (e:Nat) (l:N3) (m:N3) (n:dW) (o:List N3) (a:Hp) (c:List bU):Hp->List bU->N3->Prop:=λf g h=>a=f/\∃ b0:N3,∃ b1:List N3,.row b0 56 (aE.sz aA) d.length b1::.obj e (.cells ([l,m,.int .i64 (n.last)]:List N3).toArray 63 (0,0))::.row m 56 (aE.sz aA) n.tH.length o::c=g/\b0=h/\rr b0 b1 d
abbrev Cq (B:Nat) (w0:World) (n:FuncId) (a:List N3) (H:Hp) (M:List bU) (F:Hp->List bU->Hp->List bU->N3->Prop):Prop:=∀ ⦃w⦄,St B w0 H M w->Calls Proofs.Tryz.prog n a.toArray w (ub B w0 (F H M))
theorem jE {n:FuncId}{I:Func}{c:Code}{vs:List N3}{N B:Nat}{w0:World}{H:Hp}{M:List bU}{F:Hp->List bU->Hp->List bU->N3->Prop} (Y:Proofs.Tryz.prog.funcs[n]? = some I)
  (k:C ⟨Proofs.Tryz.prog,N,B,w0⟩ c (bodyPost Proofs.Tryz.prog I (ub B w0 (F H M))) H M (A5 0 vs)) (O:I.body=some c:=by rfl) (hN:I.ntmps=N:=by rfl) (J:Nat.ble vs.length N=true:=by rfl):Cq B w0 n vs H M F:=λ_ ht=>enter Y O hN J ht k
variable {B:Nat}{w0 w:World}[wh B w0] {H:Hp}{M:List bU}
theorem oZ {J:N2}{r:Bool} (hm:bV J=some r):
  Cq B w0 19 [.string (J)] H M (Ex r):=by
 unfold bV at hm;refine jE func19 ?_;refine g2 ?_;refine gs ?_;obtain ⟨aa,hm⟩:=aI hm;refine Cr G G OV runUnderlying82 runUnderlying5 G aa ?_;intro ak ab am ac;refine go ?_;obtain ⟨Z,ad,ae,hm⟩:=eT hm;refine cl [(0,_),(6,_),(7,_)] [] 0 [] 0 (λu m n H' M' L'=>∃ (a0:Nat) (O:List U8),(ml J).drop a0=O/\O.length=n/\Z a0 O ()=some r/\ab.le H'/\m=M'/\(8,.int .i64 ((a0:Int)))::u=L') _ G ⟨0,_,G,G,hm,lE,G,G⟩ ?_;rintro _ a7 _ _ ⟨a0,O,a8,rfl,hm,an,rfl,rfl⟩;refine g2 ?_;refine bJ G (λY=>?_) (λY=>?_);obtain ⟨a1,af,rfl,ag,ah⟩:=kv a8 Y;have hm:=(ad _ _ _ _).symm.trans hm;generalize ai:Z (a0+1) af=ao at hm;unfold pU at hm;refine g2 ?_;refine cj [(0,_),(6,_),(7,_),(8,_)] [] 0 (λu m H' M' L'=>a7=H'/\m=M'/\(31,.bool (!(((decide (65<=a1.n)) && (decide (a1.n<=90))) || (((decide (0<(a0:Int))) && (decide (48<=a1.n))) && (decide (a1.n<=57))))))::u=L') ?_ (λI=>?_)
 rintro _ _ _ ⟨rfl,rfl,rfl⟩;refine cd hm G (λaj hm=>?_) (λaj hm=>?_);refine gs ?_;exact ef;refine gt ?_;refine gj ?_;exact kj (eb ah ai) (kK (dJ ag ac.mm.fO));refine go ?_;cases ap:(decide (65<=a1.n));refine go ?_;cases aq:(decide (0<(a0:Int)));refine gj ?_;exact kj (I _ _ _ pk) kS;refine go ?_;cases ar:(decide (48<=a1.n));refine gj ?_;exact kj (I _ _ _ pk) kS;refine gj ?_;exact kj (I _ _ _ pk) kS;refine go ?_;cases au:(decide (a1.n<=90));refine go ?_;cases av:(decide (0<(a0:Int)));refine gj ?_;exact kj (I _ _ _ pk) kS;refine go ?_;cases aw:(decide (48<=a1.n));refine gj ?_;exact kj (I _ _ _ pk) kS;refine gj ?_;exact kj (I _ _ _ pk) kS;refine gj ?_;exact kj (I _ _ _ pk) kS;obtain rfl:=ku a8 Y;have hm:=(ae _ _).symm.trans hm;refine go ?_;refine cj [] [] 0 (λu m H' M' L'=>a7=H'/\m=M'/\(2,.bool ((decide (1<=(J.size:Int))) && (decide ((J.size:Int)<=8))))::u=L') ?_ (λa9=>?_)
 rintro _ _ _ ⟨rfl,rfl,rfl⟩;refine go ?_;exact ef;refine go ?_;refine oI G G OV G (go ?_);cases ax:(decide (1<=(J.size:Int)));refine gj ?_;exact kj (a9 _ _ _ pk) kS;refine go ?_;refine oI G G OV G (gj ?_);exact kj (a9 _ _ _ pk) kS
theorem po {J:(List aF)}{a0:aF}{v0:N3}{r:Int} (hm:gR J a0=some r) (h0:aV H v0 J):
  Cq B w0 37 [v0,.agg [.string (a0.Of),.string (a0.By)].toArray] H M (yz r):=by
 unfold gR at hm;refine jE func37 ?_;refine gs ?_;refine bx (λaf=>?_);refine g2 ?_;obtain ⟨Y,a8,a9,hm⟩:=mw hm;refine cl [(0,_),(3,_),(7,_)] [] 0 [] 0 (IS (((J.length:Int):Int).toNat) Y r H 8) _ G ⟨0,_,OB _,G,hm,lE,G,G⟩ ?_;rintro _ ag _ _ ⟨a1,a2,Z,rfl,hm,ah,rfl,rfl⟩;refine g2 ?_;refine bJ G (λO=>?_) (λO=>?_);obtain ⟨aa,rfl,ab,ac⟩:=oC Z O;have hm:=(a8 _ _ _).symm.trans hm;generalize ad:Y aa (a1+1)=ai at hm;unfold iV at hm;refine g2 ?_;refine gs ?_;obtain ⟨I,aj,ak,hm⟩:=aC hm;refine mM fm 5 [ph _,ph _,ph _,ph _,ph _] ⟨om,om,om,om,om,N4⟩ ?_;intro am an;refine dz ?_;refine I4 (b:=decide (a0.Of=I.Of) && (decide (a0.By=I.By) && true)) G G (by kernel_rfl) G G (λw=>yU (bs:=[decide (a0.Of=I.Of),decide (a0.By=I.By)]) runUnderlying35 (by kernel_rfl) ⟨(by decide),(A6 isAgg9 OV G G),(by decide),(A6 isAgg9 OV G G),N4⟩) ?_
 refine go ?_;refine cd hm G (λae hm=>?_) (λae hm=>?_);refine gs ?_;refine Ek [] 1 ?_;exact ef;refine gt ?_;refine gj ?_;exact kj (eb ab ad) (kK (jW ac (jX (oh (h0).fO))));obtain rfl:=oB Z O;have hm:=(a9 _ _).symm.trans hm;refine gs ?_;refine Ek [] 1 ?_;exact ef
theorem ou {a1:(List aF)}{a0:aF}{I:N3}{r:Bool} (hm:eA a1 a0=some r) (Z:aV H I a1):
  Cq B w0 20 [I,.agg [.string (a0.Of),.string (a0.By)].toArray] H M (Ex r):=by
 unfold eA at hm;refine jE func20 ?_;refine gs ?_;refine bx (λO=>?_);refine gs ?_;obtain ⟨Y,J,hm⟩:=aO hm;refine cz @po J ?_;refine go ?_;refine Ek [] 1 ?_;exact ef
theorem tR {a1:(List aF)}{v0:N3}{r:Int} (hm:mP a1=some r) (h0:aV H v0 a1):
  Cq B w0 7 [v0] H M (yz r):=by
 unfold mP at hm;refine jE func7 ?_;refine g2 ?_;refine gs ?_;refine cd hm G (λa9 hm=>?_) (λa9 hm=>?_);refine gs ?_;exact ef;refine g2 ?_;obtain ⟨Y,aa,ab,hm⟩:=eT hm;refine cl [(0,_),(8,_),(9,_)] [] 0 [] 0 (λu m n H' M' L'=>∃ (a0:Nat) (J:List aF),(a1).drop a0=J/\J.length=n/\Y a0 J ()=some r/\H.le H'/\m=M'/\(10,.int .i64 ((a0:Int)))::u=L') _ G ⟨0,_,G,G,hm,lE,G,G⟩ ?_;rintro _ ao _ _ ⟨a0,J,Z,rfl,hm,ap,rfl,rfl⟩;refine g2 ?_;refine bJ G (λO=>?_) (λO=>?_);obtain ⟨aq,ac,rfl,ad,ae⟩:=kv Z O;have hm:=(aa _ _ _ _).symm.trans hm;generalize af:Y (a0+1) ac=ar at hm;unfold s5 at hm;refine g2 ?_;refine al (λau=>?_);refine go ?_;refine wt 0 ?_;refine gs ?_;obtain ⟨ag,ah,hm⟩:=aO hm;refine cz @oZ ah ?_;refine go ?_;cases a7:(ag);have hm:=fM a7 hm;refine go ?_;refine cT G ?_;refine gs ?_;refine Ek [] 1 ?_
 exact ef;have hm:=fN a7 hm;refine go ?_;obtain ⟨av,ai,hm⟩:=aO hm;refine cz @oZ ai ?_;refine go ?_;refine cd hm G (λaj hm=>?_) (λaj hm=>?_);refine gs ?_;refine Ek [] 1 ?_;exact ef;refine gs ?_;refine cd hm G (λak hm=>?_) (λak hm=>?_);refine gs ?_;refine Ek [] 1 ?_;exact ef;refine gs ?_;obtain ⟨aw,hm⟩:=aI hm;refine mM fm 4 [ph _,ph _,(λH rs v=>∃ I:N3,[]=rs/\I=v/\aV H I (uW a1 0 (((a0:Int):Int).toNat))),ph _] ⟨om,om,?_,om,N4⟩ ?_;rintro HX hX X Rest hR _ _ ⟨rfl,rfl⟩ _ _ ⟨rfl,rfl⟩ hU hUp;refine wK (α:=aF) (l:=0) (h:=((a0:Int):Int).toNat) (xs:=a1) G G Se sizeOf35 G h0.mm (by omega) (by omega) (.inl G) (λcap hcap=>by rw [Oc G]; exact (.inl ⟨G,G⟩)) (λm hmm=>(.inr ⟨_,_,_,G,G,by omega,by omega,G⟩)) (.inl ⟨G,G⟩) ?_
 intro I a8 ax;exact o0 ⟨I,G,G,(a8)⟩;intro ay az;refine dr ?_;rintro _ _ ⟨I,rfl,rfl,a8⟩;refine dz ?_;obtain ⟨b0,am,hm⟩:=aO hm;refine cz @ou am ?_;refine go ?_;refine cd hm G (λan hm=>?_) (λan hm=>?_);refine gs ?_;refine Ek [] 1 ?_;exact ef;refine gt ?_;refine gj ?_;exact kx [] 1 (eb ae af) G (kK (dJ ad h0.mm.fO));obtain rfl:=ku Z O;have hm:=(ab _ _).symm.trans hm;refine gs ?_;exact ef
theorem cO {I:(List N2)}{O:N2}{v0:N3}{r:Int} (hm:aX I O=some r) (h0:aV H v0 I):
  Cq B w0 48 [v0,.string (O)] H M (yz r):=by
 unfold aX at hm;refine jE func48 ?_;refine g2 ?_;refine gs ?_;obtain ⟨Y,a7,a8,hm⟩:=mw hm;refine cl [(0,_),(1,_),(7,_)] [] 0 [] 0 (IS (((I.length:Int):Int).toNat) Y r H 8) _ G ⟨0,_,OB _,G,hm,lE,G,G⟩ ?_;rintro _ ae _ _ ⟨a0,a1,Z,rfl,hm,af,rfl,rfl⟩;refine g2 ?_;refine bJ G (λJ=>?_) (λJ=>?_);obtain ⟨a9,rfl,aa,ab⟩:=oC Z J;have hm:=(a7 _ _ _).symm.trans hm;generalize ac:Y a9 (a0+1)=ag at hm;unfold mq at hm;refine g2 ?_;refine gs ?_;obtain ⟨ah,ai,aj,hm⟩:=aC hm;refine go ?_;refine cd hm G (λad hm=>?_) (λad hm=>?_);refine gs ?_;exact ef;refine gt ?_;refine gj ?_;exact kj (eb aa ac) (kK (jW ab (jX (oh (h0).fO))));obtain rfl:=oB Z J;have hm:=(a8 _ _).symm.trans hm;refine gs ?_;exact ef
theorem cX {a0:(List N2)}{a1:N2}{I:N3}{r:Bool} (hm:aW a0 a1=some r) (Y:aV H I a0):
  Cq B w0 32 [I,.string (a1)] H M (Ex r):=by
 unfold aW at hm;refine jE func32 ?_;refine g2 ?_;obtain ⟨O,J,hm⟩:=aO hm;refine cz @cO J ?_;refine go ?_;exact ef
theorem wc {dI:(List aF)}{a1:(List N2)}{v0 v1:N3}{r:Int} (hm:pf dI a1=some r) (h0:aV H v0 dI) (Y:aV H v1 a1):
  Cq B w0 16 [v0,v1] H M (yz r):=by
 unfold pf at hm;refine jE func16 ?_;refine g2 ?_;refine gs ?_;obtain ⟨aj,a6,hm⟩:=aO hm;refine cz @tR a6 ?_;refine gs ?_;refine cd hm G (λa7 hm=>?_) (λa7 hm=>?_);refine gs ?_;exact ef;refine g2 ?_;refine cd hm G (λa8 hm=>?_) (λa8 hm=>?_);refine gs ?_;exact ef;refine g2 ?_;obtain ⟨J,a9,aa,hm⟩:=eT hm;refine cl [(1,_),(16,_),(17,_)] [] 0 [] 0 (Mi a1 J r H 18) _ G ⟨0,_,G,G,hm,lE,G,G⟩ ?_;rintro _ ak _ _ ⟨a0,a2,O,rfl,hm,am,rfl,rfl⟩;refine g2 ?_;refine bJ G (λI=>?_) (λI=>?_);obtain ⟨an,ab,rfl,ac,ad⟩:=kv O I;have hm:=(a9 _ _ _ _).symm.trans hm;generalize ae:J (a0+1) ab=ao at hm;unfold s6 at hm;refine g2 ?_;refine gs ?_;obtain ⟨ap,af,hm⟩:=aO hm;refine cz @oZ af ?_;refine go ?_;refine cd hm G (λag hm=>?_) (λag hm=>?_);refine gs ?_;exact ef;refine gs ?_;obtain ⟨aq,hm⟩:=aI hm;refine wK (α:=N2) (l:=0) (h:=((a0:Int):Int).toNat) (xs:=a1) G G Pb Qb G Y.mm (by omega) (by omega) (.inl G) (λcap Z=>by rw [Oc G]; exact (.inl ⟨G,G⟩)) (λm hmm=>(.inr ⟨_,_,_,G,G,by omega,by omega,G⟩)) (.inl ⟨G,G⟩) ?_
 intro ar au av;refine go ?_;obtain ⟨aw,ah,hm⟩:=aO hm;refine cz @cX ah ?_;refine go ?_;refine cd hm G (λai hm=>?_) (λai hm=>?_);refine gs ?_;exact ef;refine gt ?_;refine gj ?_;exact kj (eb ad ae) (kK (dJ ac Y.mm.fO));obtain rfl:=ku O I;have hm:=(aa _ _).symm.trans hm;refine gs ?_;exact ef
theorem rA {dI:(List aF)}{ap:(List N2)}{name:N2}{v0 v1:N3}{r:(List N2)} (hm:l7 dI ap name=some r) (h0:aV H v0 dI) (h1:aV H v1 ap):
  Cq B w0 33 [v0,v1,.string (name)] H M (Mu r):=by
 unfold l7 at hm;refine jE func33 ?_;refine g2 ?_;refine g2 ?_;refine iZ (α:=N2) (css:=[[.string (name)]]) (zs:=[.string (⟨#[]⟩)]) (out:=[.string (name)]) (ys:=[name]) G G G ⟨G,N4⟩ Pb Qb G PY (by kernel_rfl) G G G G ⟨[.string (name)],[],G,G,G⟩ G ?_
 intro bt bu ax;refine go ?_;refine lC 9 (aE.sz N2) ?_;obtain ⟨aq,ay,az,hm⟩:=cV hm;refine cl [(0,_),(1,_)] [] 2 [] 0 (λu m n H' M' L'=>∃ Y a1:List N2,∃ Z:N3,∃ ag:List N3,∃ a7:N3,∃ ah:List N3,aq n (Y,a1)=some r/\Rw H' Z ag Y/\Rw H' a7 ah a1/\H.le H'/\.row Z 9 (aE.sz N2) Y.length ag::.row a7 9 (aE.sz N2) a1.length ah::m=M'/\(7,Z)::(8,a7)::u=L') a_ G ⟨_,_,_,_,_,_,hm,Rw.nil,ax,lE,G,G⟩ ?_;rintro ai b0 _ _ ⟨Y,a1,Z,ag,a7,ah,hm,b1,b2,bv,rfl,rfl⟩
 rcases ai with _ | ai
 exact nomatch (az _).symm.trans hm;have hm:=(ay _ _).symm.trans hm;generalize b3:aq ai=bw at hm
 try dsimp only at hm
 unfold qT at hm;refine g2 ?_;refine cd hm G (λb4 hm=>?_) (λb4 hm=>?_);refine gs ?_;obtain ⟨b5,bz,c0,hm⟩:=aC hm;refine gs ?_;obtain ⟨c1,hm⟩:=aI hm;refine Wp [1] ?_;refine wJ (α:=N2) (l:=(1:Int).toNat) (h:=a1.length) G G Pb Qb G G b2 (by omega) (by omega) (λm hmm=>(.inl ⟨G,G⟩)) (.inr ⟨_,_,_,G,G,by omega,by omega,G⟩) ?_
 intro c2 c3 b6;refine gs ?_;obtain ⟨ar,b7,b8,hm⟩:=eT hm;refine cl [(0,_),(1,_),(9,_),(22,_),(23,_)] [] 2 [1] 0 (λu m n H' M' L'=>∃ (I:Nat) (a8:List aF),∃ J O:List N2,∃ a9:N3,∃ aj:List N3,∃ aa:N3,∃ ak:List N3,(dI).drop I=a8/\a8.length=n/\ar I a8 (J,O)=some r/\Rw H' a9 aj J/\Rw H' aa ak O/\b0.le H'/\.row a9 9 (aE.sz N2) J.length aj::.row aa 9 (aE.sz N2) O.length ak::m=M'/\(7,a9)::(8,aa)::(24,.int .i64 ((I:Int)))::u=L') _ G ⟨0,_,_,_,_,_,_,_,G,G,hm,b1,b6,lE,G,G⟩ ?_;rintro _ b9 _ _ ⟨I,a8,J,O,a9,aj,aa,ak,au,rfl,hm,ba,bb,c4,rfl,rfl⟩;refine g2 ?_;refine bJ G (λam=>?_) (λam=>?_);obtain ⟨a0,bc,rfl,bd,be⟩:=kv au am;have hm:=(b7 _ _ _ _).symm.trans hm;generalize bf:ar (I+1) bc=bg at hm
 try dsimp only at hm
 unfold qu at hm;refine go ?_;refine cj [(0,_),(1,_),(9,_),(22,_),(23,_),(24,_)] [] 2 (λu m H' M' L'=>∃ ab ac:List N2,∃ ad:N3,∃ an:List N3,∃ ae:N3,∃ ao:List N3,kA bg ab ac=some r/\Rw H' ad an ab/\Rw H' ae ao ac/\b9.le H'/\.row ad 9 (aE.sz N2) ab.length an::.row ae 9 (aE.sz N2) ac.length ao::m=M'/\(7,ad)::(8,ae)::u=L') ?_ (λaf=>?_);rintro c5 _ _ ⟨ab,ac,ad,an,ae,ao,hm,c6,c7,c8,rfl,rfl⟩;unfold kA at hm;refine gj ?_;exact kj (eb be bf) (kK (dJ bd h0.mm.fO));refine gs ?_;refine al (λc9=>?_);refine wt 0 ?_;refine gs ?_;cases av:(decide (a0.Of=b5));have hm:=fM av hm;refine go ?_;refine cF G ?_;refine gj ?_;exact kx [1,1] 1 (af _ _ _ pk);have hm:=fN av hm;refine go ?_;obtain ⟨bh,bi,hm⟩:=aO hm;refine cz @cX bi ?_;refine go ?_;cases aw:(bh);have hm:=fM aw hm;refine go ?_;refine cF G ?_
 refine gj ?_;exact kx [1,1] 1 (af _ _ _ pk);have hm:=fN aw hm;refine go ?_;refine Wp [1] ?_;obtain ⟨cb,bj,hm⟩:=aO hm;refine cy @cX bj ?_;rintro _ _ _ ⟨rfl,⟨_,rfl,rfl,rfl⟩⟩;refine go ?_;refine cd hm G (λbk hm=>?_) (λbk hm=>?_);refine gs ?_;refine dZ (α:=N2) (css:=[[.string (a0.By)]]) (zs:=[.string (⟨#[]⟩)]) (out:=[.string (a0.By)]) (ys:=[a0.By]) G G G ⟨G,N4⟩ Pb Qb G PY (by kernel_rfl) G G G G ⟨[.string (a0.By)],[],G,G,G⟩ G ?_
 intro cc bl ce bm cf bn;have cg:Value.pX bl=([a0.By]).length:=by rw [bm]; rfl
 obtain ⟨bo,hm⟩:=aI hm;refine dU (α:=N2) (l:=J) (ys:=[a0.By]) G G QH ⟨_,G,G,G,G⟩ G G G G G ba.mm bn bo ?_;intro ch ci ck;refine go ?_;refine dZ (α:=N2) (css:=[[.string (a0.By)]]) (zs:=[.string (⟨#[]⟩)]) (out:=[.string (a0.By)]) (ys:=[a0.By]) G G G ⟨G,N4⟩ Pb Qb G PY (by kernel_rfl) G G G G ⟨[.string (a0.By)],[],G,G,G⟩ G ?_
 intro cm bp cn bq co br;have cp:Value.pX bp=([a0.By]).length:=by rw [bq]; rfl
 obtain ⟨bs,hm⟩:=aI hm;refine Wp [2] ?_;refine dU (α:=N2) (l:=O) (ys:=[a0.By]) G G QH ⟨_,G,G,G,G⟩ G G G G G bb.mm br bs ?_;intro cq cr cs;refine gj ?_;exact kx [1,0] 1 (af _ _ _ pk);refine gj ?_;exact kx [0,1] 1 (af _ _ _ pk);obtain rfl:=ku au am;have hm:=(b8 _ _).symm.trans hm
 try dsimp only at hm
 refine gj ?_;exact kj (y_ b3);refine gs ?_;refine Ek [0] 1 ?_;exact ef
theorem xg {a5 a4:N2}{a7:(List aF)}{a8:(List N2)}{b0 b1:Nat}{v0:N3}{b2:Nat}{v1:N3}{r:Bool} (hm:qz a5 a4 a7 a8=some r) (h0:aV H v0 a7) (h1:aV H v1 a8):
  Cq B w0 50 [.string (a5),.pointer (some ⟨b0,0,none⟩),.pointer (some ⟨b1,0,none⟩),.pointer (some ⟨b2,0,none⟩)] H (.obj b0 (.cells ([.string (a4)]:List N3).toArray 9 (0,0))::.obj b1 (.cells [v0].toArray 22 (0,0))::.obj b2 (.cells [v1].toArray 23 (0,0))::M) (λH _ H' M' v=>H=H'/\.obj b0 (.cells ([.string (a4)]:List N3).toArray 9 (0,0))::.obj b1 (.cells [v0].toArray 22 (0,0))::.obj b2 (.cells [v1].toArray 23 (0,0))::M=M'/\.bool (r)=v):=by
 unfold qz at hm;refine jE func50 ?_;refine q2 ?_;cases a1:(xO a5 a4);have hm:=fM a1 hm;obtain ⟨a6,a9,hm⟩:=aO hm;refine mM fm 9 [ph _,ph _,ph (.bool (false)),ph _,ph _,ph _,ph _,(Nn a6),ph _] ⟨qm,qm,?_,qm,qm,qm,qm,?_,qm,N4⟩ ?_;rintro HX hX X Rest hR _ _ ⟨rfl,rfl⟩ _ _ ⟨rfl,rfl⟩ hU O;refine qo ?_;exact o0 ⟨G,(by first | rfl | (rw [a1]; try rfl) | exact (Pc Value.bool a1).symm)⟩
 intro HX hX X Rest hR;refine dr ?_;intro hU O;refine dG call33 G G G (λw ht=>(rA (hm:=a9) h0.mm h1.mm ht :)) ?_;rintro _ _ _ ⟨rfl,a0,a2,rfl,rfl,I⟩;have I:=I HX;exact oe [.row a0 9 (aE.sz N2) a6.length a2] lE ⟨a0,a2,G,G,(I)⟩;intro ab ac;refine dr ?_;rintro _ _ ⟨a0,a2,rfl,rfl,I⟩;refine dz ?_;refine Wp [0,0,0,0] ?_;obtain ⟨ad,aa,hm⟩:=aO hm;refine dG call32 G G G (λw ht=>by obtain ⟨H0_,hl0_,Z,Y,J⟩:=ht.re I G; have h:=cX (hm:=aa) Y Z; exact nO J (h)) ?_
 rintro _ _ _ ⟨rfl,⟨_,rfl,rfl,rfl⟩⟩;refine qg ?_;obtain rfl:=N8 hm;refine Ek [1,1,1] 1 ?_;refine Ew H ?_;exact k5 G G ⟨G,G,G⟩;have hm:=fN a1 hm;refine mM fm 9 [ph _,ph _,ph (.bool (true)),ph _,ph _,ph _,ph _,ph _,ph _] ⟨qm,qm,?_,qm,qm,qm,qm,qm,qm,N4⟩ ?_;rintro HX hX X Rest hR _ _ ⟨rfl,rfl⟩ _ _ ⟨rfl,rfl⟩ hU O;refine qo ?_;exact o0 ⟨G,(by first | rfl | (rw [a1]; try rfl) | exact (Pc Value.bool a1).symm)⟩
 intro ae af;refine dz ?_;refine qg ?_;obtain rfl:=N8 hm;refine Ew H ?_;exact k5 G G ⟨G,G,G⟩
theorem nW {I:(List N2)}{J:N2}{Z:(List aF)}{a6:(List N2)}{v0:N3}{b0 b1:Nat}{v1:N3}{Y:Nat}{v2:N3}{r:Int} (hm:fT I J Z a6=some r) (h0:aV H v0 I) (h1:aV H v1 Z) (h2:aV H v2 a6):
  Cq B w0 80 [v0,.func (.func 50) [].toArray [.pointer (some ⟨b0,0,none⟩),.pointer (some ⟨b1,0,none⟩),.pointer (some ⟨Y,0,none⟩)].toArray] H (.obj b0 (.cells ([.string (J)]:List N3).toArray 9 (0,0))::.obj b1 (.cells [v1].toArray 22 (0,0))::.obj Y (.cells [v2].toArray 23 (0,0))::M) (λH _ H' M' v=>H=H'/\.obj b0 (.cells ([.string (J)]:List N3).toArray 9 (0,0))::.obj b1 (.cells [v1].toArray 22 (0,0))::.obj Y (.cells [v2].toArray 23 (0,0))::M=M'/\.int .i64 (r)=v):=by
 unfold fT at hm;refine jE func80 ?_;refine g2 ?_;refine gs ?_;obtain ⟨a7,a9,aa,hm⟩:=mw hm;refine cl [(0,_),(1,_),(7,_)] [] 0 [] 0 (IS (((I.length:Int):Int).toNat) a7 r H 8) _ G ⟨0,_,OB _,G,hm,lE,G,G⟩ ?_;rintro _ ah _ _ ⟨a0,a1,a8,rfl,hm,ai,rfl,rfl⟩;refine g2 ?_;refine bJ G (λO=>?_) (λO=>?_);obtain ⟨ab,rfl,ac,ad⟩:=oC a8 O;have hm:=(a9 _ _ _).symm.trans hm;generalize ae:a7 ab (a0+1)=aj at hm;unfold iE at hm;refine g2 ?_;refine gs ?_;obtain ⟨ak,am,an,hm⟩:=aC hm;refine go ?_;obtain ⟨ao,af,hm⟩:=aO hm;refine lZ call50 G G G G (λw ht=>(xg (hm:=af) h1.mm h2.mm ht :)) ?_;rintro _ _ _ ⟨rfl,rfl,rfl⟩;refine go ?_;refine cd hm G (λag hm=>?_) (λag hm=>?_);refine gs ?_;exact ef;refine gt ?_;refine gj ?_;exact kj (eb ac ae) (kK (jW ad (jX (oh (h0).fO))));obtain rfl:=oB a8 O;have hm:=(aa _ _).symm.trans hm;refine gs ?_
 exact ef
theorem nq {a1:(List N2)}{a0:N2}{J:(List aF)}{O:(List N2)}{Y:N3}{b0 b1:Nat}{v1:N3}{I:Nat}{v2:N3}{r:Bool} (hm:eZ a1 a0 J O=some r) (h0:aV H Y a1) (h1:aV H v1 J) (h2:aV H v2 O):
  Cq B w0 49 [Y,.func (.func 50) [].toArray [.pointer (some ⟨b0,0,none⟩),.pointer (some ⟨b1,0,none⟩),.pointer (some ⟨I,0,none⟩)].toArray] H (.obj b0 (.cells ([.string (a0)]:List N3).toArray 9 (0,0))::.obj b1 (.cells [v1].toArray 22 (0,0))::.obj I (.cells [v2].toArray 23 (0,0))::M) (λH _ H' M' v=>H=H'/\.obj b0 (.cells ([.string (a0)]:List N3).toArray 9 (0,0))::.obj b1 (.cells [v1].toArray 22 (0,0))::.obj I (.cells [v2].toArray 23 (0,0))::M=M'/\.bool (r)=v):=by
 unfold eZ at hm;refine jE func49 ?_;refine g2 ?_;obtain ⟨a5,Z,hm⟩:=aO hm;refine cz @nW Z ?_;refine go ?_;exact ef
theorem x9 {dI:(List aF)}{a0:(List N2)}{name:N2}{I v1:N3}{r:Bool} (hm:pZ dI a0 name=some r) (h0:aV H I dI) (h1:aV H v1 a0):
  Cq B w0 35 [I,v1,.string (name)] H M (Ex r):=by
 unfold pZ at hm;refine jE func35 ?_;refine gs ?_;refine bx (λY=>?_);refine bx (λZ=>?_);refine bx (λa6=>?_);refine gs ?_;obtain ⟨a7,J,hm⟩:=aO hm;refine ca @rA J ?_;rintro _ _ _ ⟨rfl,a8,a9,rfl,rfl,a1⟩;have a1:=a1 H;refine go ?_;refine Wp [0,0,1] ?_;obtain ⟨aa,O,hm⟩:=aO hm;refine cy @nq O ?_;rintro _ _ _ ⟨rfl,⟨_,rfl,rfl,rfl⟩⟩;refine go ?_;refine Ek [] 4 ?_;exact ef
theorem xl {I r:Int} (hm:sJ I=some r):
  Cq B w0 79 [.int .u64 (I)] H M (yz r):=by
 unfold sJ at hm;refine jE func79 ?_;refine gs ?_;refine cj [] [] 0 (M9 oY r H 0 2) ?_ (λJ=>?_);rintro _ _ _ ⟨a0,a1,hm,rfl,rfl,rfl⟩;unfold oY at hm;refine cj [] [] 0 (M9 oX r H 0 2) ?_ (λO=>?_);rintro _ _ _ ⟨a2,a3,hm,rfl,rfl,rfl⟩;unfold oX at hm;refine cj [] [] 0 (M9 oW r H 0 2) ?_ (λY=>?_);rintro _ _ _ ⟨a4,a5,hm,rfl,rfl,rfl⟩;unfold oW at hm;refine gs ?_;obtain ⟨af,Z,ab,hm⟩:=aC hm;refine xB G G OV G G Z ab (go ?_);exact ef;refine gs ?_;refine cd hm G (λac hm=>?_) (λac hm=>?_);refine gs ?_;refine rN G G G G (by decide) (gt ?_)
 refine gj ?_;exact kj (Y _ _ _ pk);refine gj ?_;exact kj (Y _ _ _ pk);refine gs ?_;refine cd hm G (λad hm=>?_) (λad hm=>?_);refine gs ?_;refine rN G G G G (by decide) (gt ?_)
 refine gj ?_;exact kj (O _ _ _ pk);refine gj ?_;exact kj (O _ _ _ pk);refine gs ?_;refine cd hm G (λae hm=>?_) (λae hm=>?_);refine gs ?_;refine rN G G G G (by decide) (gt ?_)
 refine gj ?_;exact kj (J _ _ _ pk);refine gj ?_;exact kj (J _ _ _ pk)
theorem sK {a0 r:Int} (hm:np a0=some r):
  Cq B w0 45 [.int .u64 (a0)] H M (yz r):=by
 unfold np at hm;refine jE func45 ?_;refine g2 ?_;refine cF G ?_;refine gs ?_;obtain ⟨I,a1,hm⟩:=aO hm;refine cz @xl a1 ?_;refine go ?_;exact ef
theorem oJ {a0:N2}{r:Bool} (hm:eM a0=r):
  Cq B w0 47 [.string (a0)] H M (Ex r):=by
 unfold eM at hm;refine jE func47 ?_;refine g2 ?_;obtain rfl:=hm;refine Ew H ?_;exact k5 G G ⟨G,G,G⟩
theorem eU {a0 a1:N2}{r:Bool} (hm:bB a0 a1=r):
  Cq B w0 87 [.string (a0),.string (a1)] H M (Ex r):=by
 unfold bB at hm;refine jE func87 ?_;refine qs ?_;refine cj [] [] 0 (λu m H' M' L'=>H=H'/\m=M'/\(4,.bool (((eM a0) && (!(eM a1))) || (xO a0 a1)))::u=L') ?_ (λI=>?_);rintro _ _ _ ⟨rfl,rfl,rfl⟩;refine qg ?_;obtain rfl:=hm;refine Ew H ?_;exact k5 G G ⟨G,G,G⟩;refine qg ?_;refine dG call47 G G G (λw ht=>(oJ (hm:=(G:eM a0=_))  ht :)) ?_;rintro _ _ _ ⟨rfl,rfl,rfl⟩;refine qg ?_;cases J:((eM a0));refine qj ?_;exact kj (I _ _ _ ⟨G,G,G⟩) ⟨(by exact sb (by first | rfl | simp only [J,KP,xO])),N4⟩
 refine qg ?_;refine dG call47 G G G (λw ht=>(oJ (hm:=(G:eM a1=_))  ht :)) ?_;rintro _ _ _ ⟨rfl,rfl,rfl⟩;refine qg ?_;cases O:(eM a1);refine qj ?_;exact kj (I _ _ _ ⟨G,G,G⟩) ⟨(by exact sb (by first | rfl | simp only [J,O,KP,xO])),N4⟩
 refine qj ?_;exact kj (I _ _ _ ⟨G,G,G⟩) ⟨(by exact sb (by first | rfl | simp only [J,O,KP,xO])),N4⟩
theorem q6 {O:(List N2)}{a9 ag:Int}{J:N3}{xs0:List N3}{r:(List N2)} (hm:g_ O a9 ag=some r) (h0:Rw H J xs0 O):
  Cq B w0 81 [J,.int .i64 (a9),.int .i64 (ag)] H (.row J 9 (aE.sz N2) O.length xs0::M) (λH _ H' M' v=>H=H'/\∃ qxs0:List N3,.row J 9 (aE.sz N2) r.length qxs0::M=M'/\.tuple #[]=v/\rr J qxs0 r):=by
 unfold g_ at hm;refine jE func81 ?_;refine qs ?_;obtain ⟨ah,av,aw,hm⟩:=cV hm;refine cl [(0,_),(1,_),(2,_)] [] 1 [] 0 (Ll ah r J H 6) a_ G ⟨_,_,_,hm,h0,lE,G,G⟩ ?_;rintro ab ax _ _ ⟨a5,aa,a6,hm,ai,ba,rfl,rfl⟩
 rcases ab with _ | ab
 exact nomatch (aw _).symm.trans hm;have hm:=(av _ _).symm.trans hm;generalize aj:ah ab=bb at hm
 try dsimp only at hm
 unfold kH at hm;refine q2 ?_;refine cd hm G (λay hm=>?_) (λay hm=>?_);refine q2 ?_;obtain ⟨ak,az,b0,hm⟩:=cV hm;refine cl [(0,_),(1,_),(2,_),(6,_)] [] 1 [] 0 (Ll ak r J ax 7) a_ G ⟨_,_,_,hm,ai,lE,G,G⟩ ?_;rintro ad bc _ _ ⟨a2,a0,ac,hm,a1,bd,rfl,rfl⟩
 rcases ad with _ | ad
 exact nomatch (b0 _).symm.trans hm;have hm:=(az _ _).symm.trans hm;generalize b1:ak ad=be at hm
 try dsimp only at hm
 unfold kI at hm;refine q2 ?_;cases a7:(decide (a9<a0));have hm:=fM a7 hm;refine mM fm 13 [ph _,ph _,ph (.bool (false)),ph _,ph _,ph _,ph _,ph _,ph _,ph _,ph _,ph _,ph _] ⟨qm,qm,qn a7,qm,qm,qm,qm,qm,qm,qm,qm,qm,qm,N4⟩ ?_;intro bf bg;refine dz ?_;refine qg ?_;refine cF G ?_;refine qt ?_;refine qj ?_;exact kj (gV (Oh _) ⟨_,_,_,((O3 aj _).trans hm),a1.mm,lE,G,G⟩);have hm:=fN a7 hm;obtain ⟨am,bh,an,hm⟩:=aC hm;obtain ⟨_,rfl,b2⟩:=(a1).elem an;obtain ⟨ao,bi,ap,hm⟩:=aC hm;obtain ⟨_,rfl,b3⟩:=(a1).elem ap;refine mM fm 13 [ph _,ph _,ph (.bool (true)),ph _,ph _,ph _,ph (.pointer (some ((Value.base (J)).add ((a0:Int).toNat*aE.sz N2)))),ph (.string (am)),ph _,ph _,ph _,ph (.pointer (some ((Value.base (J)).add ((i64.wrap (a0-1):Int).toNat*aE.sz N2)))),ph (.string (ao))] ⟨qm,qm,qn a7,qm,qm,qm,?_,?_,qm,qm,qm,?_,?_,N4⟩ ?_
 intro Y Z X Rest hR;refine dr ?_;intro hU I;refine gY an ?_;exact o0 ⟨G,G⟩;rintro Y Z X Rest hR _ _ ⟨rfl,rfl⟩ _ _ ⟨rfl,rfl⟩ hU I;refine qp b2 ?_;exact o0 ⟨G,G⟩;intro Y Z X Rest hR;refine dr ?_;intro hU I;refine gY ap ?_;exact o0 ⟨G,G⟩;rintro Y Z X Rest hR _ _ ⟨rfl,rfl⟩ _ _ ⟨rfl,rfl⟩ hU I;refine qp b3 ?_;exact o0 ⟨G,G⟩;intro bj bk;refine dz ?_;refine dG RM G G G (λw ht=>(eU (hm:=(G:bB am ao=_))  ht :)) ?_;rintro _ _ _ ⟨rfl,rfl,rfl⟩;refine qg ?_;refine cd hm G (λb4 hm=>?_) (λb4 hm=>?_);refine qs ?_;obtain ⟨a4,bl,aq,hm⟩:=aC hm;obtain ⟨_,rfl,b5⟩:=(a1).elem aq;obtain ⟨ar,bm,au,hm⟩:=aC hm;obtain ⟨_,rfl,b6⟩:=(a1).elem au;obtain ⟨bn,bo,ae,hm⟩:=aC hm;obtain ⟨_,rfl,b7⟩:=(a1).elem ae;refine vq fm 16 [ph _,ph _,ph _,ph _,ph _,ph _,ph _,ph _,ph (.pointer (some ((Value.base (J)).add ((i64.wrap (a0-1):Int).toNat*aE.sz N2)))),ph (.string (a4)),ph _,ph _,ph (.pointer (some ((Value.base (J)).add ((a0:Int).toNat*aE.sz N2)))),ph (.string (ar)),ph (.pointer (some ((Value.base (J)).add ((a0:Int).toNat*aE.sz N2)))),(λH rs v=>∃ a3:List N3,[.row J 9 (aE.sz N2) (a2.set ((a0:Int).toNat) a4).length a3]=rs/\.pointer (some ((Value.base (J)).add ((a0:Int).toNat*aE.sz N2)))=v/\Rw H J a3 (a2.set ((a0:Int).toNat) a4))] (sp 16 [(15,[16])]) (sp 16 [(8,[16]),(9,[16]),(12,[16]),(13,[16]),(14,[16])]) [0] [0,1,2,3,4,5,6,7,8,9,10,11,12,13,14,15] G ⟨qm,qm,qm,qm,qm,qm,qm,qm,?_,?_,qm,qm,?_,?_,?_,?_,N4⟩ ?_
 rintro Y Z X Rest hR _ _ ⟨rfl,rfl⟩ _ _ ⟨rfl,rfl⟩ hU I;refine gY aq ?_;exact o0 ⟨G,G⟩;rintro Y Z X Rest hR _ _ ⟨rfl,rfl⟩ hU I;refine qp b5 ?_;exact o0 ⟨G,G⟩;rintro Y Z X Rest hR _ _ ⟨rfl,rfl⟩ _ _ ⟨rfl,rfl⟩ hU I;refine gY au ?_;exact o0 ⟨G,G⟩;rintro Y Z X Rest hR _ _ ⟨rfl,rfl⟩ hU I;refine qp b6 ?_;exact o0 ⟨G,G⟩;intro Y Z X Rest hR;refine dr ?_;intro hU I;refine gY ae ?_;exact o0 ⟨G,G⟩;intro Y Z X Rest hR;refine dr ?_;intro hU I;refine wr 0 0 a4 a1 ae b7 G G ?_;intro a3 a8 bp bq;exact aT (fV G [.row J 9 (aE.sz N2) (a2.set ((a0:Int).toNat) a4).length a3] lE ⟨a3,G,G,(a8)⟩);intro br bs;refine dr ?_;rintro _ _ _ ⟨a3,rfl,_,a8⟩;refine sS ?_;refine Wp [0] ?_;obtain ⟨bt,bu,af,hm⟩:=aC hm;refine gY af ?_;obtain ⟨_,rfl,b8⟩:=(a8).elem af;refine wr 0 0 ar a8 af b8 G G ?_;intro bv b9 bw bz;refine qt ?_;refine qj ?_;exact kj (gV (Oh _) ⟨_,_,_,((O3 b1 _).trans hm),b9,lE,G,G⟩)
 refine qt ?_;refine qj ?_;exact kj (gV (Oh _) ⟨_,_,_,((O3 aj _).trans hm),a1.mm,lE,G,G⟩);refine qg ?_;refine tD ?_;obtain rfl:=N8 hm;refine Ew H ?_;exact wm G ⟨G,a6,G,G,(ai).nM⟩
theorem ox {Z:(List N2)}{lo hi first:Int}{J:N3}{xs0:List N3}{r:(List N2)} (hm:iB Z lo hi first=some r) (h0:Rw H J xs0 Z):
  Cq B w0 125 [J,.int .i64 (lo),.int .i64 (hi),.int .i64 (first)] H (.row J 9 (aE.sz N2) Z.length xs0::M) (λH _ H' M' v=>H=H'/\∃ qxs0:List N3,.row J 9 (aE.sz N2) r.length qxs0::M=M'/\.tuple #[]=v/\rr J qxs0 r):=by
 unfold iB at hm;refine jE func125 ?_;refine qs ?_;obtain ⟨ad,ar,au,hm⟩:=cV hm;refine cl [(0,_),(2,_),(3,_)] [] 1 [] 0 (Ll ad r J H 8) a_ G ⟨_,_,_,hm,h0,lE,G,G⟩ ?_;rintro a9 av _ _ ⟨a2,a0,a4,hm,a1,bb,rfl,rfl⟩
 rcases a9 with _ | a9
 exact nomatch (au _).symm.trans hm;have hm:=(ar _ _).symm.trans hm;generalize aw:ad a9=ax at hm
 try dsimp only at hm
 unfold lL at hm;refine q2 ?_;refine qs ?_;refine cd hm G (λay hm=>?_) (λay hm=>?_);refine qg ?_;refine tD ?_;obtain rfl:=N8 hm;refine Ew H ?_;exact wm G ⟨G,a4,G,G,(a1).nM⟩;refine qg ?_;refine cj [(0,_),(2,_),(3,_),(8,_)] [] 0 (Ci (eR first a2 a0 ax) r av 9) ?_ (λaa=>?_);rintro bc _ _ ⟨a5,hm,bd,rfl,rfl⟩;unfold eR at hm;refine q2 ?_;obtain ⟨ae,be,af,hm⟩:=aC hm;obtain ⟨_,rfl,az⟩:=(a1).elem af;obtain ⟨ag,bf,ah,hm⟩:=aC hm;obtain ⟨_,rfl,b0⟩:=(a1).elem ah;refine mM fm 12 [ph _,ph _,ph _,ph _,ph (.pointer (some ((Value.base (J)).add ((i64.wrap (first+a0):Int).toNat*aE.sz N2)))),ph (.string (ae)),ph _,ph _,ph _,ph _,ph (.pointer (some ((Value.base (J)).add ((i64.wrap (first+a5):Int).toNat*aE.sz N2)))),ph (.string (ag))] ⟨qm,qm,qm,qm,?_,?_,qm,qm,qm,qm,?_,?_,N4⟩ ?_;rintro O Y X Rest hR _ _ ⟨rfl,rfl⟩ _ _ ⟨rfl,rfl⟩ hU I
 refine gY af ?_;exact o0 ⟨G,G⟩;rintro O Y X Rest hR _ _ ⟨rfl,rfl⟩ hU I;refine qp az ?_;exact o0 ⟨G,G⟩;rintro O Y X Rest hR _ _ ⟨rfl,rfl⟩ _ _ ⟨rfl,rfl⟩ hU I;refine gY ah ?_;exact o0 ⟨G,G⟩;rintro O Y X Rest hR _ _ ⟨rfl,rfl⟩ hU I;refine qp b0 ?_;exact o0 ⟨G,G⟩;intro bg bh;refine dz ?_;refine dG RM G G G (λw ht=>(eU (hm:=(G:bB ae ag=_))  ht :)) ?_;rintro _ _ _ ⟨rfl,rfl,rfl⟩;refine qg ?_;refine cd hm G (λb1 hm=>?_) (λb1 hm=>?_);refine qg ?_;obtain rfl:=N8 hm;refine Ew H ?_;exact wm G ⟨G,a4,G,G,a1.mm.nM⟩;refine qs ?_;obtain ⟨a6,bi,ai,hm⟩:=aC hm;obtain ⟨_,rfl,b2⟩:=(a1).elem ai;obtain ⟨aj,bj,ak,hm⟩:=aC hm;obtain ⟨_,rfl,b3⟩:=(a1).elem ak;obtain ⟨bk,bl,ab,hm⟩:=aC hm;obtain ⟨_,rfl,b4⟩:=(a1).elem ab;refine vq fm 22 [ph _,ph _,ph _,ph _,ph _,ph _,ph _,ph _,ph _,ph _,ph _,ph _,ph (.pointer (some ((Value.base (J)).add ((i64.wrap (first+a5):Int).toNat*aE.sz N2)))),ph (.string (a6)),ph _,ph _,ph _,ph _,ph (.pointer (some ((Value.base (J)).add ((i64.wrap (first+a0):Int).toNat*aE.sz N2)))),ph (.string (aj)),ph (.pointer (some ((Value.base (J)).add ((i64.wrap (first+a0):Int).toNat*aE.sz N2)))),(λH rs v=>∃ a3:List N3,[.row J 9 (aE.sz N2) (a2.set ((i64.wrap (first+a0):Int).toNat) a6).length a3]=rs/\.pointer (some ((Value.base (J)).add ((i64.wrap (first+a0):Int).toNat*aE.sz N2)))=v/\Rw H J a3 (a2.set ((i64.wrap (first+a0):Int).toNat) a6))] (sp 22 [(21,[22])]) (sp 22 [(12,[22]),(13,[22]),(18,[22]),(19,[22]),(20,[22])]) [0] [0,1,2,3,4,5,6,7,8,9,10,11,12,13,14,15,16,17,18,19,20,21] G ⟨qm,qm,qm,qm,qm,qm,qm,qm,qm,qm,qm,qm,?_,?_,qm,qm,qm,qm,?_,?_,?_,?_,N4⟩ ?_
 rintro O Y X Rest hR _ _ ⟨rfl,rfl⟩ _ _ ⟨rfl,rfl⟩ hU I;refine gY ai ?_;exact o0 ⟨G,G⟩;rintro O Y X Rest hR _ _ ⟨rfl,rfl⟩ hU I;refine qp b2 ?_;exact o0 ⟨G,G⟩;rintro O Y X Rest hR _ _ ⟨rfl,rfl⟩ _ _ ⟨rfl,rfl⟩ hU I;refine gY ak ?_;exact o0 ⟨G,G⟩;rintro O Y X Rest hR _ _ ⟨rfl,rfl⟩ hU I;refine qp b3 ?_;exact o0 ⟨G,G⟩;intro O Y X Rest hR;refine dr ?_;intro hU I;refine gY ab ?_;exact o0 ⟨G,G⟩;intro O Y X Rest hR;refine dr ?_;intro hU I;refine wr 0 0 a6 a1 ab b4 G G ?_;intro a3 a7 bm bn;exact aT (fV G [.row J 9 (aE.sz N2) (a2.set ((i64.wrap (first+a0):Int).toNat) a6).length a3] lE ⟨a3,G,G,(a7)⟩);intro bo bp;refine dr ?_;rintro _ _ _ ⟨a3,rfl,_,a7⟩;refine sS ?_;refine Wp [0] ?_;obtain ⟨bq,br,ac,hm⟩:=aC hm;refine gY ac ?_;obtain ⟨_,rfl,b5⟩:=(a7).elem ac;refine wr 0 0 aj a7 ac b5 G G ?_;intro bs b6 bt bu;refine aT (aM ?_);refine qj ?_;exact kj (gV (Oh _) ⟨_,_,_,((O3 aw _).trans hm),b6,lE,G,G⟩)
 refine qs ?_;cases a8:(decide ((i64.wrap ((i64.wrap ((i64.wrap (2*a0))+1))+1))<hi));have hm:=fM a8 hm;refine mM fm 18 [ph _,ph _,ph _,ph (.bool (false)),ph _,ph _,ph _,ph _,ph _,ph _,ph _,ph _,ph _,ph _,ph _,ph _,ph _,ph _] ⟨qm,qm,qm,qn a8,qm,qm,qm,qm,qm,qm,qm,qm,qm,qm,qm,qm,qm,qm,N4⟩ ?_;intro bv b7;refine dz ?_;refine qg ?_;refine cF G ?_;refine qj ?_;exact kj (aa _ _ _ ⟨_,hm,b7,G,G⟩);have hm:=fN a8 hm;obtain ⟨am,bw,an,hm⟩:=aC hm;obtain ⟨_,rfl,b8⟩:=(a1).elem an;obtain ⟨ao,bz,ap,hm⟩:=aC hm;obtain ⟨_,rfl,b9⟩:=(a1).elem ap;refine mM fm 18 [ph _,ph _,ph _,ph (.bool (true)),ph _,ph _,ph _,ph _,ph _,ph (.pointer (some ((Value.base (J)).add ((i64.wrap (first+(i64.wrap ((i64.wrap (2*a0))+1))):Int).toNat*aE.sz N2)))),ph (.string (am)),ph _,ph _,ph _,ph _,ph _,ph (.pointer (some ((Value.base (J)).add ((i64.wrap ((i64.wrap (first+(i64.wrap ((i64.wrap (2*a0))+1))))+1):Int).toNat*aE.sz N2)))),ph (.string (ao))] ⟨qm,qm,qm,qn a8,qm,qm,qm,qm,qm,?_,?_,qm,qm,qm,qm,qm,?_,?_,N4⟩ ?_
 intro O Y X Rest hR;refine dr ?_;intro hU I;refine gY an ?_;exact o0 ⟨G,G⟩;rintro O Y X Rest hR _ _ ⟨rfl,rfl⟩ _ _ ⟨rfl,rfl⟩ hU I;refine qp b8 ?_;exact o0 ⟨G,G⟩;intro O Y X Rest hR;refine dr ?_;intro hU I;refine gY ap ?_;exact o0 ⟨G,G⟩;rintro O Y X Rest hR _ _ ⟨rfl,rfl⟩ _ _ ⟨rfl,rfl⟩ hU I;refine qp b9 ?_;exact o0 ⟨G,G⟩;intro c0 aq;refine dz ?_;refine dG RM G G G (λw ht=>(eU (hm:=(G:bB am ao=_))  ht :)) ?_;rintro _ _ _ ⟨rfl,rfl,rfl⟩;refine qg ?_;refine cd hm G (λba hm=>?_) (λba hm=>?_);refine qj ?_;exact kj (aa _ _ _ ⟨_,hm,aq,G,G⟩);refine qj ?_;exact kj (aa _ _ _ ⟨_,hm,aq,G,G⟩)
theorem sx {J:(List N2)}{a0 ah:Int}{I:N3}{xs0:List N3}{r:(List N2)} (hm:jC J a0 ah=some r) (h0:Rw H I xs0 J):
  Cq B w0 82 [I,.int .i64 (a0),.int .i64 (ah)] H (.row I 9 (aE.sz N2) J.length xs0::M) (λH _ H' M' v=>H=H'/\∃ Y:List N3,.row I 9 (aE.sz N2) r.length Y::M=M'/\.tuple #[]=v/\rr I Y r):=by
 unfold jC at hm;refine jE func82 ?_;refine q2 ?_;refine q2 ?_;refine qs ?_;refine sT G G G G (by decide) (qg ?_)
 obtain ⟨ai,aq,ar,hm⟩:=cV hm;refine cl [(0,_),(6,_),(7,_),(8,_)] [] 1 [] 0 (Ll ai r I H 9) a_ G ⟨_,_,_,hm,h0,lE,G,G⟩ ?_;rintro ab aj _ _ ⟨a5,a9,aa,hm,ak,au,rfl,rfl⟩
 rcases ab with _ | ab
 exact nomatch (ar _).symm.trans hm;have hm:=(aq _ _).symm.trans hm;generalize av:ai ab=b9 at hm
 try dsimp only at hm
 unfold lH at hm;refine q2 ?_;refine cd hm G (λaw hm=>?_) (λaw hm=>?_);refine qs ?_;obtain ⟨ba,ax,hm⟩:=aO hm;refine dG call125 G G G (λw ht=>(ox (hm:=ax) ak ht :)) ?_;rintro _ _ _ ⟨rfl,bb,rfl,rfl,ac⟩;have ac:=ac aj;refine qt ?_;refine qj ?_;exact kj (gV (Oh _) ⟨_,_,_,((O3 av _).trans hm),ac,au,G,G⟩);refine qs ?_;obtain ⟨am,ay,az,hm⟩:=cV hm;refine cl [(0,_),(6,_),(7,_)] [] 1 [] 0 (Ll am r I aj 10) a_ G ⟨_,_,_,hm,ak,lE,G,G⟩ ?_;rintro ad bc _ _ ⟨a1,a6,a7,hm,a3,bd,rfl,rfl⟩
 rcases ad with _ | ad
 exact nomatch (az _).symm.trans hm;have hm:=(ay _ _).symm.trans hm;generalize b0:am ad=be at hm
 try dsimp only at hm
 unfold lI at hm;refine q2 ?_;refine cd hm G (λb1 hm=>?_) (λb1 hm=>?_);refine q2 ?_;obtain ⟨a4,bf,an,hm⟩:=aC hm;obtain ⟨_,rfl,b2⟩:=(a3).elem an;obtain ⟨ao,bg,ap,hm⟩:=aC hm;obtain ⟨_,rfl,b3⟩:=(a3).elem ap;obtain ⟨bh,bi,ae,hm⟩:=aC hm;obtain ⟨_,rfl,b4⟩:=(a3).elem ae;refine vq fm 18 [ph _,ph _,ph _,ph _,ph _,ph _,ph _,ph _,ph _,ph _,ph (.pointer (some ((Value.base (I)).add ((i64.wrap (a0+a6):Int).toNat*aE.sz N2)))),ph (.string (a4)),ph _,ph _,ph (.pointer (some ((Value.base (I)).add ((a0:Int).toNat*aE.sz N2)))),ph (.string (ao)),ph (.pointer (some ((Value.base (I)).add ((a0:Int).toNat*aE.sz N2)))),(λH rs v=>∃ Z:List N3,[.row I 9 (aE.sz N2) (a1.set ((a0:Int).toNat) a4).length Z]=rs/\.pointer (some ((Value.base (I)).add ((a0:Int).toNat*aE.sz N2)))=v/\Rw H I Z (a1.set ((a0:Int).toNat) a4))] (sp 18 [(17,[18])]) (sp 18 [(10,[18]),(11,[18]),(14,[18]),(15,[18]),(16,[18])]) [0] [0,1,2,3,4,5,6,7,8,9,10,11,12,13,14,15,16,17] G ⟨qm,qm,qm,qm,qm,qm,qm,qm,qm,qm,?_,?_,qm,qm,?_,?_,?_,?_,N4⟩ ?_
 rintro HX hX X Rest hR _ _ ⟨rfl,rfl⟩ _ _ ⟨rfl,rfl⟩ hU O;refine gY an ?_;exact o0 ⟨G,G⟩;rintro HX hX X Rest hR _ _ ⟨rfl,rfl⟩ hU O;refine qp b2 ?_;exact o0 ⟨G,G⟩;rintro HX hX X Rest hR _ _ ⟨rfl,rfl⟩ _ _ ⟨rfl,rfl⟩ hU O;refine gY ap ?_;exact o0 ⟨G,G⟩;rintro HX hX X Rest hR _ _ ⟨rfl,rfl⟩ hU O;refine qp b3 ?_;exact o0 ⟨G,G⟩;intro HX hX X Rest hR;refine dr ?_;intro hU O;refine gY ae ?_;exact o0 ⟨G,G⟩;intro HX hX X Rest hR;refine dr ?_;intro hU O;refine wr 0 0 a4 a3 ae b4 G G ?_;intro Z a8 bj bk;exact aT (fV G [.row I 9 (aE.sz N2) (a1.set ((a0:Int).toNat) a4).length Z] lE ⟨Z,G,G,(a8)⟩);intro b5 bl;refine dr ?_;rintro _ _ _ ⟨Z,rfl,_,a8⟩;refine sS ?_;refine Wp [0] ?_;obtain ⟨bm,bn,af,hm⟩:=aC hm;refine gY af ?_;obtain ⟨_,rfl,b6⟩:=(a8).elem af;refine wr 0 0 ao a8 af b6 G G ?_;intro bo b7 bp bq;refine qg ?_;obtain ⟨br,b8,hm⟩:=aO hm;refine dG call125 G G G (λw ht=>(ox (hm:=b8) b7 ht :)) ?_
 rintro _ _ _ ⟨rfl,bs,rfl,rfl,ag⟩;have ag:=ag b5;refine qt ?_;refine qj ?_;exact kj (gV (Oh _) ⟨_,_,_,((O3 b0 _).trans hm),ag,lE,G,G⟩);refine qg ?_;refine tD ?_;obtain rfl:=N8 hm;refine Ew H ?_;exact wm G ⟨G,a7,G,G,(a3).nM⟩
theorem mu {I:(List N2)}{a0 a1 J:Int}{Y:N3}{O:List N3}{b0:Nat}{r:Int×Int×Int} (hm:gI I a0 a1 J=some r) (h0:Rw H Y O I):
  Cq B w0 150 [Y,.int .i64 (a0),.int .i64 (a1),.pointer (some ⟨b0,0,none⟩)] H (.row Y 9 (aE.sz N2) I.length O::.obj b0 (.cells ([.int .i64 (J)]:List N3).toArray 3 (0,0))::M) (λH _ H' M' v=>H=H'/\.row Y 9 (aE.sz N2) I.length O::.obj b0 (.cells ([.int .i64 (r.2.2)]:List N3).toArray 3 (0,0))::M=M'/\.tuple #[.int .i64 (r.1),.int .i64 (r.2.1)]=v):=by
 unfold gI at hm;refine jE func150 ?_;refine g2 ?_;refine gs ?_;obtain ⟨Z,a5,a6,hm⟩:=aC hm;obtain ⟨a3,a7,a8,hm⟩:=aC hm;refine mM fm 8 [ph _,ph _,ph _,ph _,ph _,ph _,ph _,ph _] ⟨om,om,om,om,om,om,om,om,N4⟩ ?_;intro a9 aa;refine dz ?_;refine cz @eU (G:bB Z a3=_) ?_;refine go ?_;refine cd hm G (λa4 hm=>?_) (λa4 hm=>?_);refine gs ?_;refine wt 1 ?_;refine gs ?_;refine Ek [1] 0 ?_;exact ef;refine gs ?_;exact ef
theorem pw {I:(List N2)}{a0 a1 a2 J:Int}{Y:N3}{O:List N3}{b0:Nat}{r:Int×Int} (hm:iN I a0 a1 a2 J=some r) (Z:Rw H Y O I):
  Cq B w0 127 [Y,.int .i64 (a0),.int .i64 (a1),.int .i64 (a2),.pointer (some ⟨b0,0,none⟩)] H (.row Y 9 (aE.sz N2) I.length O::.obj b0 (.cells ([.int .i64 (J)]:List N3).toArray 3 (0,0))::M) (λH _ H' M' v=>H=H'/\.row Y 9 (aE.sz N2) I.length O::.obj b0 (.cells ([.int .i64 (r.2)]:List N3).toArray 3 (0,0))::M=M'/\.int .i64 (r.1)=v):=by
 unfold iN at hm;refine jE func127 ?_;refine q2 ?_;obtain ⟨a6,a3,hm⟩:=aO hm;refine dG call150 G G G (λw ht=>(mu (hm:=a3) Z ht :)) ?_;rintro _ _ _ ⟨rfl,rfl,rfl⟩;refine qs ?_;obtain ⟨a7,a4,hm⟩:=aO hm;refine dG call150 G G G (λw ht=>(mu (hm:=a4) Z ht :)) ?_;rintro _ _ _ ⟨rfl,rfl,rfl⟩;refine qs ?_;obtain ⟨a8,a5,hm⟩:=aO hm;refine dG call150 G G G (λw ht=>(mu (hm:=a5) Z ht :)) ?_;rintro _ _ _ ⟨rfl,rfl,rfl⟩;refine qs ?_;obtain rfl:=N8 hm;refine Ew H ?_;exact k5 G G ⟨G,G,G⟩
theorem kJ {I:(List N2)}{a0 J:Int}{Y:N3}{O:List N3}{b0:Nat}{r:Int×Int} (hm:gT I a0 J=some r) (Z:Rw H Y O I):
  Cq B w0 126 [Y,.int .i64 (a0),.pointer (some ⟨b0,0,none⟩)] H (.row Y 9 (aE.sz N2) I.length O::.obj b0 (.cells ([.int .i64 (J)]:List N3).toArray 3 (0,0))::M) (λH _ H' M' v=>H=H'/\.row Y 9 (aE.sz N2) I.length O::.obj b0 (.cells ([.int .i64 (r.2)]:List N3).toArray 3 (0,0))::M=M'/\.int .i64 (r.1)=v):=by
 unfold gT at hm;refine jE func126 ?_;refine q2 ?_;obtain ⟨a2,a1,hm⟩:=aO hm;refine dG call127 G G G (λw ht=>(pw (hm:=a1) Z ht :)) ?_;rintro _ _ _ ⟨rfl,rfl,rfl⟩;refine qg ?_;obtain rfl:=N8 hm;refine Ew H ?_;exact k5 G G ⟨G,G,G⟩
theorem rH {I:(List N2)}{Z a7:Int}{Y:N3}{J:List N3}{r:Int×Int} (hm:iM I Z a7=some r) (O:Rw H Y J I):
  Cq B w0 84 [Y,.int .i64 (Z),.int .i64 (a7)] H (.row Y 9 (aE.sz N2) I.length J::M) (λH _ H' M' v=>H=H'/\.row Y 9 (aE.sz N2) I.length J::M=M'/\.tuple #[.int .i64 (r.1),.int .i64 (r.2)]=v):=by
 unfold iM at hm;refine jE func84 ?_;refine q2 ?_;refine qs ?_;refine al (λa8=>?_);refine qs ?_;refine sT G G G G (by decide) (qs ?_)
 refine sT G G G G (by decide) (qs ?_)
 refine sT G G G G (by decide) (qg ?_)
 refine cj [(9,_)] [1] 1 (λu m H' M' L'=>∃ a0 a1:Int,fA a0 a1=some r/\H=H'/\.obj a8 (.cells ([.int .i64 (a1)]:List N3).toArray 3 (0,0))::m=M'/\(11,.int .i64 (a0))::u=L') ?_ (λa9=>?_);rintro _ _ _ ⟨a0,a1,hm,rfl,rfl,rfl⟩;unfold fA at hm;refine q2 ?_;refine cd hm G (λab hm=>?_) (λab hm=>?_);refine qs ?_;obtain rfl:=N8 hm;refine Ek [1] 1 ?_;refine Ew H ?_;exact wu G G G ⟨G,G,G⟩;refine qs ?_;refine cd hm G (λac hm=>?_) (λac hm=>?_);refine qs ?_;obtain rfl:=N8 hm;refine Ek [1] 1 ?_;refine Ew H ?_;exact wu G G G ⟨G,G,G⟩;refine qs ?_;obtain rfl:=N8 hm;refine Ek [1] 1 ?_;refine Ew H ?_;exact wu G G G ⟨G,G,G⟩;refine qs ?_;refine cd hm G (λad hm=>?_) (λad hm=>?_);refine cj [(0,_),(9,_)] [1] 1 (L7 (gS I) r H a8 10 11 12) ?_ (λaa=>?_);rintro _ _ _ ⟨a2,a3,a4,a5,hm,rfl,rfl,rfl⟩
 unfold gS at hm;refine qg ?_;refine Wp [1] ?_;obtain ⟨aj,ae,hm⟩:=aO hm;refine dG call127 G G G (λw ht=>(pw (hm:=ae) O ht :)) ?_;rintro _ _ _ ⟨rfl,rfl,rfl⟩;refine qj ?_;exact kx [1] 0 (a9 _ _ _ ⟨_,_,hm,G,G,G⟩);refine qs ?_;refine cd hm G (λaf hm=>?_) (λaf hm=>?_);refine qs ?_;refine Wp [1] ?_;obtain ⟨ak,ag,hm⟩:=aO hm;refine dG call126 G G G (λw ht=>(kJ (hm:=ag) O ht :)) ?_;rintro _ _ _ ⟨rfl,rfl,rfl⟩;refine qs ?_;obtain ⟨am,ah,hm⟩:=aO hm;refine dG call126 G G G (λw ht=>(kJ (hm:=ah) O ht :)) ?_;rintro _ _ _ ⟨rfl,rfl,rfl⟩;refine qg ?_;obtain ⟨an,ai,hm⟩:=aO hm;refine dG call126 G G G (λw ht=>(kJ (hm:=ai) O ht :)) ?_;rintro _ _ _ ⟨rfl,rfl,rfl⟩;refine qj ?_;exact kx [1] 0 (aa _ _ _ ⟨_,_,_,_,hm,G,G,G⟩);refine qj ?_;exact kj (aa _ _ _ ⟨_,_,_,_,hm,G,G,G⟩);refine qj ?_;exact kj (a9 _ _ _ ⟨_,_,hm,G,G,G⟩)
theorem rm {J:(List N2)}{ab ac:Int}{I:N3}{xs0:List N3}{r:(List N2)} (hm:iH J ab ac=some r) (h0:Rw H I xs0 J):
  Cq B w0 85 [I,.int .i64 (ab),.int .i64 (ac)] H (.row I 9 (aE.sz N2) J.length xs0::M) (λH _ H' M' v=>H=H'/\∃ Y:List N3,.row I 9 (aE.sz N2) r.length Y::M=M'/\.tuple #[]=v/\rr I Y r):=by
 unfold iH at hm;refine jE func85 ?_;refine q2 ?_;obtain ⟨ad,ah,ai,hm⟩:=cV hm;refine cl [(0,_)] [] 1 [] 0 (Kd ad r I H 6 7) a_ G ⟨_,_,_,_,hm,h0,lE,G,G⟩ ?_;rintro a8 ar _ _ ⟨a1,a0,a5,a6,hm,a3,au,rfl,rfl⟩
 rcases a8 with _ | a8
 exact nomatch (ai _).symm.trans hm;have hm:=(ah _ _).symm.trans hm;generalize aj:ad a8=av at hm
 try dsimp only at hm
 unfold kX at hm;refine q2 ?_;refine cd hm G (λak hm=>?_) (λak hm=>?_);refine qs ?_;obtain ⟨a4,aw,ae,hm⟩:=aC hm;obtain ⟨_,rfl,am⟩:=(a3).elem ae;obtain ⟨af,ax,ag,hm⟩:=aC hm;obtain ⟨_,rfl,an⟩:=(a3).elem ag;obtain ⟨ay,az,a9,hm⟩:=aC hm;obtain ⟨_,rfl,ao⟩:=(a3).elem a9;refine vq fm 14 [ph _,ph _,ph _,ph _,ph _,ph _,ph (.pointer (some ((Value.base (I)).add ((a5:Int).toNat*aE.sz N2)))),ph (.string (a4)),ph _,ph _,ph (.pointer (some ((Value.base (I)).add ((a0:Int).toNat*aE.sz N2)))),ph (.string (af)),ph (.pointer (some ((Value.base (I)).add ((a0:Int).toNat*aE.sz N2)))),(λH rs v=>∃ Z:List N3,[.row I 9 (aE.sz N2) (a1.set ((a0:Int).toNat) a4).length Z]=rs/\.pointer (some ((Value.base (I)).add ((a0:Int).toNat*aE.sz N2)))=v/\Rw H I Z (a1.set ((a0:Int).toNat) a4))] (sp 14 [(13,[14])]) [[],[],[],[],[],[],[14],[14],[],[],[14],[14],[14],[]] [0] [0,1,2,3,4,5,6,7,8,9,10,11,12,13] G ⟨qm,qm,qm,qm,qm,qm,?_,?_,qm,qm,?_,?_,?_,?_,N4⟩ ?_
 rintro HX hX X Rest hR _ _ ⟨rfl,rfl⟩ _ _ ⟨rfl,rfl⟩ hU O;refine gY ae ?_;exact o0 ⟨G,G⟩;rintro HX hX X Rest hR _ _ ⟨rfl,rfl⟩ hU O;refine qp am ?_;exact o0 ⟨G,G⟩;rintro HX hX X Rest hR _ _ ⟨rfl,rfl⟩ _ _ ⟨rfl,rfl⟩ hU O;refine gY ag ?_;exact o0 ⟨G,G⟩;rintro HX hX X Rest hR _ _ ⟨rfl,rfl⟩ hU O;refine qp an ?_;exact o0 ⟨G,G⟩;intro HX hX X Rest hR;refine dr ?_;intro hU O;refine gY a9 ?_;exact o0 ⟨G,G⟩;intro HX hX X Rest hR;refine dr ?_;intro hU O;refine wr 0 0 a4 a3 a9 ao G G ?_;intro Z a7 b0 b1;exact aT (fV G [.row I 9 (aE.sz N2) (a1.set ((a0:Int).toNat) a4).length Z] lE ⟨Z,G,G,(a7)⟩);intro b2 b3;refine dr ?_;rintro _ _ _ ⟨Z,rfl,_,a7⟩;refine sS ?_;refine Wp [0] ?_;obtain ⟨b4,b5,aa,hm⟩:=aC hm;refine gY aa ?_;obtain ⟨_,rfl,ap⟩:=(a7).elem aa;refine wr 0 0 af a7 aa ap G G ?_;intro b6 aq b7 b8;refine aT (aM (cL (aN (bZ G G G (qy G G G G G (aL G G G (aT (aM ?_))))))))
 refine qj ?_;exact kj (gV (Oh _) ⟨_,_,_,_,((O3 aj _).trans hm),aq,lE,G,G⟩);refine qg ?_;refine tD ?_;obtain rfl:=N8 hm;refine Ew H ?_;exact wm G ⟨G,a6,G,G,(a3).nM⟩
theorem py {Z:(List N2)}{aq af:Int}{J:N3}{xs0:List N3}{r:Bool×(List N2)} (hm:e_ Z aq af=some r) (h0:Rw H J xs0 Z):
  Cq B w0 86 [J,.int .i64 (aq),.int .i64 (af)] H (.row J 9 (aE.sz N2) Z.length xs0::M) (λH _ H' M' v=>H=H'/\∃ qxs0:List N3,.row J 9 (aE.sz N2) r.2.length qxs0::M=M'/\.bool (r.1)=v/\rr J qxs0 r.2):=by
 unfold e_ at hm;refine jE func86 ?_;refine q2 ?_;refine q2 ?_;obtain ⟨bd,c8,c9,hm⟩:=cV hm;refine cl [(0,_),(1,_),(2,_)] [] 1 [] 0 (Kd bd r J H 7 8) a_ G ⟨_,_,_,_,hm,h0,lE,G,G⟩ ?_;rintro au av _ _ ⟨a4,ar,a9,aa,hm,a3,dn,rfl,rfl⟩
 rcases au with _ | au
 exact nomatch (c9 _).symm.trans hm;have hm:=(c8 _ _).symm.trans hm;generalize cb:bd au=aw at hm
 try dsimp only at hm
 unfold iW at hm;refine q2 ?_;refine cd hm G (λcc hm=>?_) (λcc hm=>?_);refine qg ?_;refine cj [(0,_),(1,_),(2,_),(8,_)] [] 1 (λu m H' M' L'=>∃ aj:List N2,∃ ax:Int,∃ ay:List N3,eC a9 aw aj ax=some r/\Rw H' J ay aj/\av.le H'/\.row J 9 (aE.sz N2) aj.length ay::m=M'/\(7,.int .i64 (ax))::u=L') ?_ (λaz=>?_);rintro dp _ _ ⟨aj,ax,ay,hm,ce,dq,rfl,rfl⟩;unfold eC at hm;refine qj ?_;exact kj (gV (Oh _) ⟨_,_,_,_,((O3 cb _).trans hm),ce,lE,G,G⟩);refine qg ?_;refine cj [(0,_),(1,_),(2,_),(8,_)] [] 0 (Ci (dH aq af a4 a9 aw) r av 7) ?_ (λbe=>?_);rintro ds _ _ ⟨a2,hm,dt,rfl,rfl⟩;unfold dH at hm;refine q2 ?_;refine cd hm G (λcf hm=>?_) (λcf hm=>?_);refine qs ?_;obtain rfl:=N8 hm;refine Ew H ?_;exact k5 G G ⟨G,aa,G,G,a3.mm.nM⟩;refine q2 ?_;refine cd hm G (λcg hm=>?_) (λcg hm=>?_)
 refine qs ?_;obtain rfl:=N8 hm;refine Ew H ?_;exact k5 G G ⟨G,aa,G,G,a3.mm.nM⟩;refine qs ?_;obtain ⟨ag,du,bf,hm⟩:=aC hm;obtain ⟨_,rfl,ch⟩:=(a3).elem bf;obtain ⟨bg,dv,bh,hm⟩:=aC hm;obtain ⟨_,rfl,ci⟩:=(a3).elem bh;obtain ⟨dw,dx,b0,hm⟩:=aC hm;obtain ⟨_,rfl,ck⟩:=(a3).elem b0;refine vq fm 16 [ph _,ph _,ph _,ph _,ph _,ph _,ph _,ph _,ph (.pointer (some ((Value.base (J)).add ((i64.wrap (a2-1):Int).toNat*aE.sz N2)))),ph (.string (ag)),ph _,ph _,ph (.pointer (some ((Value.base (J)).add ((a2:Int).toNat*aE.sz N2)))),ph (.string (bg)),ph (.pointer (some ((Value.base (J)).add ((a2:Int).toNat*aE.sz N2)))),(λH rs v=>∃ ab:List N3,[.row J 9 (aE.sz N2) (a4.set ((a2:Int).toNat) ag).length ab]=rs/\.pointer (some ((Value.base (J)).add ((a2:Int).toNat*aE.sz N2)))=v/\Rw H J ab (a4.set ((a2:Int).toNat) ag))] (sp 16 [(15,[16])]) (sp 16 [(8,[16]),(9,[16]),(12,[16]),(13,[16]),(14,[16])]) [0] [0,1,2,3,4,5,6,7,8,9,10,11,12,13,14,15] G ⟨qm,qm,qm,qm,qm,qm,qm,qm,?_,?_,qm,qm,?_,?_,?_,?_,N4⟩ ?_
 rintro O Y X Rest hR _ _ ⟨rfl,rfl⟩ _ _ ⟨rfl,rfl⟩ hU I;refine gY bf ?_;exact o0 ⟨G,G⟩;rintro O Y X Rest hR _ _ ⟨rfl,rfl⟩ hU I;refine qp ch ?_;exact o0 ⟨G,G⟩;rintro O Y X Rest hR _ _ ⟨rfl,rfl⟩ _ _ ⟨rfl,rfl⟩ hU I;refine gY bh ?_;exact o0 ⟨G,G⟩;rintro O Y X Rest hR _ _ ⟨rfl,rfl⟩ hU I;refine qp ci ?_;exact o0 ⟨G,G⟩;intro O Y X Rest hR;refine dr ?_;intro hU I;refine gY b0 ?_;exact o0 ⟨G,G⟩;intro O Y X Rest hR;refine dr ?_;intro hU I;refine wr 0 0 ag a3 b0 ck G G ?_;intro ab ak dy e0;exact aT (fV G [.row J 9 (aE.sz N2) (a4.set ((a2:Int).toNat) ag).length ab] lE ⟨ab,G,G,(ak)⟩);intro bi e1;refine dr ?_;rintro _ _ _ ⟨ab,rfl,_,ak⟩;refine sS ?_;refine Wp [0] ?_;obtain ⟨e2,e3,b1,hm⟩:=aC hm;refine gY b1 ?_;obtain ⟨_,rfl,cm⟩:=(ak).elem b1;refine wr 0 0 bg ak b1 cm G G ?_;intro e4 bj e5 e6;refine qg ?_;refine cj [(0,_),(1,_),(2,_),(7,_),(8,_)] [] 1 (λu m H' M' L'=>∃ am:List N2,∃ b2:List N3,eD af a9 aw a2 am=some r/\Rw H' J b2 am/\bi.le H'/\.row J 9 (aE.sz N2) am.length b2::m=M'/\u=L') ?_ (λb3=>?_)
 rintro cn _ _ ⟨am,b2,hm,bk,e7,rfl,rfl⟩;unfold eD at hm;refine qs ?_;refine cd hm G (λco hm=>?_) (λco hm=>?_);refine qs ?_;obtain ⟨bl,cp,cq,hm⟩:=cV hm;refine cl [(0,_),(1,_),(2,_),(7,_),(8,_)] [] 1 [] 0 (Ll bl r J cn 10) a_ G ⟨_,_,_,hm,bk,lE,G,G⟩ ?_;rintro b5 e8 _ _ ⟨a7,a0,b4,hm,a5,e9,rfl,rfl⟩
 rcases b5 with _ | b5
 exact nomatch (cq _).symm.trans hm;have hm:=(cp _ _).symm.trans hm;generalize cr:bl b5=ea at hm
 try dsimp only at hm
 unfold lA at hm;refine q2 ?_;refine cd hm G (λcs hm=>?_) (λcs hm=>?_);refine q2 ?_;refine qs ?_;obtain ⟨bm,ec,bn,hm⟩:=aC hm;obtain ⟨_,rfl,ct⟩:=(a5).elem bn;obtain ⟨bo,ed,bp,hm⟩:=aC hm;obtain ⟨_,rfl,cu⟩:=(a5).elem bp;refine mM fm 9 [ph _,ph _,ph (.pointer (some ((Value.base (J)).add ((a0:Int).toNat*aE.sz N2)))),ph (.string (bm)),ph _,ph _,ph _,ph (.pointer (some ((Value.base (J)).add ((i64.wrap (a0-1):Int).toNat*aE.sz N2)))),ph (.string (bo))] ⟨qm,qm,?_,?_,qm,qm,qm,?_,?_,N4⟩ ?_;rintro O Y X Rest hR _ _ ⟨rfl,rfl⟩ _ _ ⟨rfl,rfl⟩ hU I;refine gY bn ?_;exact o0 ⟨G,G⟩;rintro O Y X Rest hR _ _ ⟨rfl,rfl⟩ hU I;refine qp ct ?_;exact o0 ⟨G,G⟩;rintro O Y X Rest hR _ _ ⟨rfl,rfl⟩ _ _ ⟨rfl,rfl⟩ hU I;refine gY bp ?_;exact o0 ⟨G,G⟩;rintro O Y X Rest hR _ _ ⟨rfl,rfl⟩ hU I;refine qp cu ?_;exact o0 ⟨G,G⟩;intro ee eg
 refine dz ?_;refine dG RM G G G (λw ht=>(eU (hm:=(G:bB bm bo=_))  ht :)) ?_;rintro _ _ _ ⟨rfl,rfl,rfl⟩;refine qg ?_;refine cd hm G (λcv hm=>?_) (λcv hm=>?_);refine qj ?_;exact kj (az _ _ _ ⟨_,_,_,hm,a5.mm,lE,G,G⟩);refine qg ?_;obtain ⟨ah,eh,bq,hm⟩:=aC hm;obtain ⟨_,rfl,cw⟩:=(a5).elem bq;obtain ⟨br,ei,bs,hm⟩:=aC hm;obtain ⟨_,rfl,cx⟩:=(a5).elem bs;obtain ⟨ej,ek,b6,hm⟩:=aC hm;obtain ⟨_,rfl,d0⟩:=(a5).elem b6;refine vq fm 16 [ph _,ph _,ph _,ph _,ph _,ph _,ph _,ph _,ph (.pointer (some ((Value.base (J)).add ((i64.wrap (a0-1):Int).toNat*aE.sz N2)))),ph (.string (ah)),ph _,ph _,ph (.pointer (some ((Value.base (J)).add ((a0:Int).toNat*aE.sz N2)))),ph (.string (br)),ph (.pointer (some ((Value.base (J)).add ((a0:Int).toNat*aE.sz N2)))),(λH rs v=>∃ ac:List N3,[.row J 9 (aE.sz N2) (a7.set ((a0:Int).toNat) ah).length ac]=rs/\.pointer (some ((Value.base (J)).add ((a0:Int).toNat*aE.sz N2)))=v/\Rw H J ac (a7.set ((a0:Int).toNat) ah))] (sp 16 [(15,[16])]) (sp 16 [(8,[16]),(9,[16]),(12,[16]),(13,[16]),(14,[16])]) [0] [0,1,2,3,4,5,6,7,8,9,10,11,12,13,14,15] G ⟨qm,qm,qm,qm,qm,qm,qm,qm,?_,?_,qm,qm,?_,?_,?_,?_,N4⟩ ?_
 rintro O Y X Rest hR _ _ ⟨rfl,rfl⟩ _ _ ⟨rfl,rfl⟩ hU I;refine gY bq ?_;exact o0 ⟨G,G⟩;rintro O Y X Rest hR _ _ ⟨rfl,rfl⟩ hU I;refine qp cw ?_;exact o0 ⟨G,G⟩;rintro O Y X Rest hR _ _ ⟨rfl,rfl⟩ _ _ ⟨rfl,rfl⟩ hU I;refine gY bs ?_;exact o0 ⟨G,G⟩;rintro O Y X Rest hR _ _ ⟨rfl,rfl⟩ hU I;refine qp cx ?_;exact o0 ⟨G,G⟩;intro O Y X Rest hR;refine dr ?_;intro hU I;refine gY b6 ?_;exact o0 ⟨G,G⟩;intro O Y X Rest hR;refine dr ?_;intro hU I;refine wr 0 0 ah a5 b6 d0 G G ?_;intro ac an el em;exact aT (fV G [.row J 9 (aE.sz N2) (a7.set ((a0:Int).toNat) ah).length ac] lE ⟨ac,G,G,(an)⟩);intro eo ep;refine dr ?_;rintro _ _ _ ⟨ac,rfl,_,an⟩;refine sS ?_;refine Wp [0] ?_;obtain ⟨er,es,b7,hm⟩:=aC hm;refine gY b7 ?_;obtain ⟨_,rfl,d1⟩:=(an).elem b7;refine wr 0 0 br an b7 d1 G G ?_;intro et d2 eu ev;refine qt ?_;refine qj ?_;exact kj (gV (Oh _) ⟨_,_,_,((O3 cr _).trans hm),d2,lE,G,G⟩)
 refine qj ?_;exact kj (az _ _ _ ⟨_,_,_,hm,a5,lE,G,G⟩);refine qj ?_;exact kj (az _ _ _ ⟨_,_,_,hm,bk,lE,G,G⟩);refine qs ?_;refine cd hm G (λd3 hm=>?_) (λd3 hm=>?_);refine qs ?_;obtain ⟨bt,d4,d5,hm⟩:=cV hm;refine cl [(0,_),(1,_),(2,_),(7,_),(8,_)] [] 1 [] 0 (Ll bt r J bi 9) a_ G ⟨_,_,_,hm,bj,lE,G,G⟩ ?_;rintro b9 ew _ _ ⟨a8,a1,b8,hm,a6,d6,rfl,rfl⟩
 rcases b9 with _ | b9
 exact nomatch (d5 _).symm.trans hm;have hm:=(d4 _ _).symm.trans hm;generalize d7:bt b9=ex at hm
 try dsimp only at hm
 unfold lB at hm;refine q2 ?_;refine cd hm G (λd8 hm=>?_) (λd8 hm=>?_);refine q2 ?_;refine qs ?_;obtain ⟨bu,ey,bv,hm⟩:=aC hm;obtain ⟨_,rfl,d9⟩:=(a6).elem bv;obtain ⟨bw,ez,bz,hm⟩:=aC hm;obtain ⟨_,rfl,da⟩:=(a6).elem bz;refine mM fm 9 [ph _,ph _,ph (.pointer (some ((Value.base (J)).add ((a1:Int).toNat*aE.sz N2)))),ph (.string (bu)),ph _,ph _,ph _,ph (.pointer (some ((Value.base (J)).add ((i64.wrap (a1-1):Int).toNat*aE.sz N2)))),ph (.string (bw))] ⟨qm,qm,?_,?_,qm,qm,qm,?_,?_,N4⟩ ?_;rintro O Y X Rest hR _ _ ⟨rfl,rfl⟩ _ _ ⟨rfl,rfl⟩ hU I;refine gY bv ?_;exact o0 ⟨G,G⟩;rintro O Y X Rest hR _ _ ⟨rfl,rfl⟩ hU I;refine qp d9 ?_;exact o0 ⟨G,G⟩;rintro O Y X Rest hR _ _ ⟨rfl,rfl⟩ _ _ ⟨rfl,rfl⟩ hU I;refine gY bz ?_;exact o0 ⟨G,G⟩;rintro O Y X Rest hR _ _ ⟨rfl,rfl⟩ hU I;refine qp da ?_;exact o0 ⟨G,G⟩;intro fa fb
 refine dz ?_;refine dG RM G G G (λw ht=>(eU (hm:=(G:bB bu bw=_))  ht :)) ?_;rintro _ _ _ ⟨rfl,rfl,rfl⟩;refine qg ?_;refine cd hm G (λdb hm=>?_) (λdb hm=>?_);refine qj ?_;exact kj (b3 _ _ _ ⟨_,_,hm,a6.mm,lE,G,G⟩);refine qg ?_;obtain ⟨ai,fd,c0,hm⟩:=aC hm;obtain ⟨_,rfl,dc⟩:=(a6).elem c0;obtain ⟨c1,fe,c2,hm⟩:=aC hm;obtain ⟨_,rfl,dd⟩:=(a6).elem c2;obtain ⟨ff,fg,ba,hm⟩:=aC hm;obtain ⟨_,rfl,de⟩:=(a6).elem ba;refine vq fm 16 [ph _,ph _,ph _,ph _,ph _,ph _,ph _,ph _,ph (.pointer (some ((Value.base (J)).add ((i64.wrap (a1-1):Int).toNat*aE.sz N2)))),ph (.string (ai)),ph _,ph _,ph (.pointer (some ((Value.base (J)).add ((a1:Int).toNat*aE.sz N2)))),ph (.string (c1)),ph (.pointer (some ((Value.base (J)).add ((a1:Int).toNat*aE.sz N2)))),(λH rs v=>∃ ad:List N3,[.row J 9 (aE.sz N2) (a8.set ((a1:Int).toNat) ai).length ad]=rs/\.pointer (some ((Value.base (J)).add ((a1:Int).toNat*aE.sz N2)))=v/\Rw H J ad (a8.set ((a1:Int).toNat) ai))] (sp 16 [(15,[16])]) (sp 16 [(8,[16]),(9,[16]),(12,[16]),(13,[16]),(14,[16])]) [0] [0,1,2,3,4,5,6,7,8,9,10,11,12,13,14,15] G ⟨qm,qm,qm,qm,qm,qm,qm,qm,?_,?_,qm,qm,?_,?_,?_,?_,N4⟩ ?_
 rintro O Y X Rest hR _ _ ⟨rfl,rfl⟩ _ _ ⟨rfl,rfl⟩ hU I;refine gY c0 ?_;exact o0 ⟨G,G⟩;rintro O Y X Rest hR _ _ ⟨rfl,rfl⟩ hU I;refine qp dc ?_;exact o0 ⟨G,G⟩;rintro O Y X Rest hR _ _ ⟨rfl,rfl⟩ _ _ ⟨rfl,rfl⟩ hU I;refine gY c2 ?_;exact o0 ⟨G,G⟩;rintro O Y X Rest hR _ _ ⟨rfl,rfl⟩ hU I;refine qp dd ?_;exact o0 ⟨G,G⟩;intro O Y X Rest hR;refine dr ?_;intro hU I;refine gY ba ?_;exact o0 ⟨G,G⟩;intro O Y X Rest hR;refine dr ?_;intro hU I;refine wr 0 0 ai a6 ba de G G ?_;intro ad ao fh fi;exact aT (fV G [.row J 9 (aE.sz N2) (a8.set ((a1:Int).toNat) ai).length ad] lE ⟨ad,G,G,(ao)⟩);intro fj fk;refine dr ?_;rintro _ _ _ ⟨ad,rfl,_,ao⟩;refine sS ?_;refine Wp [0] ?_;obtain ⟨fl,fn,bb,hm⟩:=aC hm;refine gY bb ?_;obtain ⟨_,rfl,df⟩:=(ao).elem bb;refine wr 0 0 c1 ao bb df G G ?_;intro fo dg fp fr;refine qt ?_;refine qj ?_;exact kj (gV (Oh _) ⟨_,_,_,((O3 d7 _).trans hm),dg,lE,G,G⟩)
 refine qj ?_;exact kj (b3 _ _ _ ⟨_,_,hm,a6,d6,G,G⟩);refine qj ?_;exact kj (b3 _ _ _ ⟨_,_,hm,bj,lE,G,G⟩);refine qg ?_;obtain ⟨c3,dh,di,hm⟩:=cV hm;refine cl [(0,_),(1,_),(2,_),(8,_)] [] 0 [] 0 (xr c3 r av 7) a_ G ⟨_,hm,lE,G,G⟩ ?_;rintro bc fs _ _ ⟨ae,hm,ft,rfl,rfl⟩
 rcases bc with _ | bc
 exact nomatch (di _).symm.trans hm;have hm:=(dh _ _).symm.trans hm;generalize dj:c3 bc=fu at hm;unfold iX at hm;refine q2 ?_;cases ap:(decide (ae<af));have hm:=fM ap hm;refine mM fm 13 [ph _,ph _,ph (.bool (false)),ph _,ph _,ph _,ph _,ph _,ph _,ph _,ph _,ph _,ph _] ⟨qm,qm,qn ap,qm,qm,qm,qm,qm,qm,qm,qm,qm,qm,N4⟩ ?_;intro fv fw;refine dz ?_;refine qg ?_;refine cF G ?_;refine qj ?_;exact kj (be _ _ _ ⟨_,hm,lE,G,G⟩);have hm:=fN ap hm;obtain ⟨c4,fx,c5,hm⟩:=aC hm;obtain ⟨_,rfl,dk⟩:=(a3).elem c5;obtain ⟨c6,fy,c7,hm⟩:=aC hm;obtain ⟨_,rfl,dl⟩:=(a3).elem c7;refine mM fm 13 [ph _,ph _,ph (.bool (true)),ph _,ph _,ph _,ph (.pointer (some ((Value.base (J)).add ((ae:Int).toNat*aE.sz N2)))),ph (.string (c4)),ph _,ph _,ph _,ph (.pointer (some ((Value.base (J)).add ((i64.wrap (ae-1):Int).toNat*aE.sz N2)))),ph (.string (c6))] ⟨qm,qm,qn ap,qm,qm,qm,?_,?_,qm,qm,qm,?_,?_,N4⟩ ?_
 intro O Y X Rest hR;refine dr ?_;intro hU I;refine gY c5 ?_;exact o0 ⟨G,G⟩;rintro O Y X Rest hR _ _ ⟨rfl,rfl⟩ _ _ ⟨rfl,rfl⟩ hU I;refine qp dk ?_;exact o0 ⟨G,G⟩;intro O Y X Rest hR;refine dr ?_;intro hU I;refine gY c7 ?_;exact o0 ⟨G,G⟩;rintro O Y X Rest hR _ _ ⟨rfl,rfl⟩ _ _ ⟨rfl,rfl⟩ hU I;refine qp dl ?_;exact o0 ⟨G,G⟩;intro fz g0;refine dz ?_;refine dG RM G G G (λw ht=>(eU (hm:=(G:bB c4 c6=_))  ht :)) ?_;rintro _ _ _ ⟨rfl,rfl,rfl⟩;refine qg ?_;refine cd hm G (λdm hm=>?_) (λdm hm=>?_);refine kb (aM ?_);refine qj ?_;exact kj (gV (Oh _) ⟨_,((O3 dj _).trans hm),lE,G,G⟩);refine qj ?_;exact kj (be _ _ _ ⟨_,hm,lE,G,G⟩);refine qs ?_;obtain rfl:=N8 hm;refine Ew H ?_;exact k5 G G ⟨G,aa,G,G,(a3).nM⟩
theorem oc {Z:(List N2)}{a0 aq dP:Int}{J:N3}{xs0:List N3}{r:Int×Bool×(List N2)} (hm:fF Z a0 aq dP=some r) (h0:Rw H J xs0 Z):
  Cq B w0 89 [J,.int .i64 (a0),.int .i64 (aq),.int .i64 (dP)] H (.row J 9 (aE.sz N2) Z.length xs0::M) (λH _ H' M' v=>H=H'/\∃ qxs0:List N3,.row J 9 (aE.sz N2) r.2.2.length qxs0::M=M'/\.tuple #[.int .i64 (r.1),.bool (r.2.1)]=v/\rr J qxs0 r.2.2):=by
 unfold fF at hm;refine jE func89 ?_;refine q2 ?_;obtain ⟨a1,eu,bm,hm⟩:=aC hm;obtain ⟨_,rfl,d3⟩:=(h0).elem bm;obtain ⟨a5,ev,bn,hm⟩:=aC hm;obtain ⟨_,rfl,d4⟩:=(h0).elem bn;obtain ⟨ew,ex,b4,hm⟩:=aC hm;obtain ⟨_,rfl,d5⟩:=(h0).elem b4;refine vq fm 14 [ph _,ph _,ph _,ph _,ph _,ph _,ph (.pointer (some ((Value.base (J)).add ((dP:Int).toNat*aE.sz N2)))),ph (.string (a1)),ph _,ph _,ph (.pointer (some ((Value.base (J)).add ((a0:Int).toNat*aE.sz N2)))),ph (.string (a5)),ph (.pointer (some ((Value.base (J)).add ((a0:Int).toNat*aE.sz N2)))),(λH rs v=>∃ ab:List N3,[.row J 9 (aE.sz N2) (Z.set ((a0:Int).toNat) a1).length ab]=rs/\.pointer (some ((Value.base (J)).add ((a0:Int).toNat*aE.sz N2)))=v/\Rw H J ab (Z.set ((a0:Int).toNat) a1))] (sp 14 [(13,[14])]) [[],[],[],[],[],[],[14],[14],[],[],[14],[14],[14],[]] [0] [0,1,2,3,4,5,6,7,8,9,10,11,12,13] G ⟨qm,qm,qm,qm,qm,qm,?_,?_,qm,qm,?_,?_,?_,?_,N4⟩ ?_
 rintro O Y X Rest hR _ _ ⟨rfl,rfl⟩ _ _ ⟨rfl,rfl⟩ hU I;refine gY bm ?_;exact o0 ⟨G,G⟩;rintro O Y X Rest hR _ _ ⟨rfl,rfl⟩ hU I;refine qp d3 ?_;exact o0 ⟨G,G⟩;rintro O Y X Rest hR _ _ ⟨rfl,rfl⟩ _ _ ⟨rfl,rfl⟩ hU I;refine gY bn ?_;exact o0 ⟨G,G⟩;rintro O Y X Rest hR _ _ ⟨rfl,rfl⟩ hU I;refine qp d4 ?_;exact o0 ⟨G,G⟩;intro O Y X Rest hR;refine dr ?_;intro hU I;refine gY b4 ?_;exact o0 ⟨G,G⟩;intro O Y X Rest hR;refine dr ?_;intro hU I;refine wr 0 0 a1 h0 b4 d5 G G ?_;intro ab ar ey ez;exact aT (fV G [.row J 9 (aE.sz N2) (Z.set ((a0:Int).toNat) a1).length ab] lE ⟨ab,G,G,(ar)⟩);intro bo fa;refine dr ?_;rintro _ _ _ ⟨ab,rfl,_,ar⟩;refine sS ?_;refine Wp [0] ?_;obtain ⟨fb,fd,b5,hm⟩:=aC hm;refine gY b5 ?_;obtain ⟨_,rfl,d6⟩:=(ar).elem b5;refine wr 0 0 a5 ar b5 d6 G G ?_;intro fe a2 ff fg;refine qs ?_;refine cj [(0,_),(1,_),(11,_)] [] 0 (Ci (fL Z a0 aq dP a1 a5) r bo 10) ?_ (λbp=>?_)
 rintro bq _ _ ⟨a3,hm,fh,rfl,rfl⟩;unfold fL at hm;refine cj [(0,_),(1,_),(10,_)] [] 0 (Ci (fK Z a0 dP a1 a5 a3) r bq 11) ?_ (λbr=>?_);rintro fi _ _ ⟨a6,hm,fj,rfl,rfl⟩;unfold fK at hm;refine q2 ?_;refine cd hm G (λd7 hm=>?_) (λd7 hm=>?_);refine qs ?_;obtain ⟨ag,fk,bs,hm⟩:=aC hm;obtain ⟨_,rfl,d8⟩:=(a2).elem bs;obtain ⟨bt,fl,bu,hm⟩:=aC hm;obtain ⟨_,rfl,d9⟩:=(a2).elem bu;obtain ⟨fn,fo,b6,hm⟩:=aC hm;obtain ⟨_,rfl,da⟩:=(a2).elem b6;refine vq fm 14 [ph _,ph _,ph _,ph _,ph _,ph _,ph (.pointer (some ((Value.base (J)).add ((a0:Int).toNat*aE.sz N2)))),ph (.string (ag)),ph _,ph _,ph (.pointer (some ((Value.base (J)).add ((a6:Int).toNat*aE.sz N2)))),ph (.string (bt)),ph (.pointer (some ((Value.base (J)).add ((a6:Int).toNat*aE.sz N2)))),(λH rs v=>∃ ac:List N3,[.row J 9 (aE.sz N2) (((Z.set ((a0:Int).toNat) a1).set ((dP:Int).toNat) a5).set ((a6:Int).toNat) ag).length ac]=rs/\.pointer (some ((Value.base (J)).add ((a6:Int).toNat*aE.sz N2)))=v/\Rw H J ac (((Z.set ((a0:Int).toNat) a1).set ((dP:Int).toNat) a5).set ((a6:Int).toNat) ag))] (sp 14 [(13,[14])]) [[],[],[],[],[],[],[14],[14],[],[],[14],[14],[14],[]] [0] [0,1,2,3,4,5,6,7,8,9,10,11,12,13] G ⟨qm,qm,qm,qm,qm,qm,?_,?_,qm,qm,?_,?_,?_,?_,N4⟩ ?_
 rintro O Y X Rest hR _ _ ⟨rfl,rfl⟩ _ _ ⟨rfl,rfl⟩ hU I;refine gY bs ?_;exact o0 ⟨G,G⟩;rintro O Y X Rest hR _ _ ⟨rfl,rfl⟩ hU I;refine qp d8 ?_;exact o0 ⟨G,G⟩;rintro O Y X Rest hR _ _ ⟨rfl,rfl⟩ _ _ ⟨rfl,rfl⟩ hU I;refine gY bu ?_;exact o0 ⟨G,G⟩;rintro O Y X Rest hR _ _ ⟨rfl,rfl⟩ hU I;refine qp d9 ?_;exact o0 ⟨G,G⟩;intro O Y X Rest hR;refine dr ?_;intro hU I;refine gY b6 ?_;exact o0 ⟨G,G⟩;intro O Y X Rest hR;refine dr ?_;intro hU I;refine wr 0 0 ag a2 b6 da G G ?_;intro ac au fp fr;exact aT (fV G [.row J 9 (aE.sz N2) (((Z.set ((a0:Int).toNat) a1).set ((dP:Int).toNat) a5).set ((a6:Int).toNat) ag).length ac] lE ⟨ac,G,G,(au)⟩);intro fs ft;refine dr ?_;rintro _ _ _ ⟨ac,rfl,_,au⟩;refine sS ?_;refine Wp [0] ?_;obtain ⟨fu,fv,b7,hm⟩:=aC hm;refine gY b7 ?_;obtain ⟨_,rfl,db⟩:=(au).elem b7;refine wr 0 0 bt au b7 db G G ?_;intro dc dd fw fx
 refine qs ?_;obtain rfl:=N8 hm;refine Ew H ?_;exact wu G G G ⟨G,dc,G,G,(dd).nM⟩;refine qs ?_;obtain ⟨ah,fy,bv,hm⟩:=aC hm;obtain ⟨_,rfl,de⟩:=(a2).elem bv;obtain ⟨bw,fz,bz,hm⟩:=aC hm;obtain ⟨_,rfl,df⟩:=(a2).elem bz;obtain ⟨g0,g1,b8,hm⟩:=aC hm;obtain ⟨_,rfl,dg⟩:=(a2).elem b8;refine vq fm 14 [ph _,ph _,ph _,ph _,ph _,ph _,ph (.pointer (some ((Value.base (J)).add ((a6:Int).toNat*aE.sz N2)))),ph (.string (ah)),ph _,ph _,ph (.pointer (some ((Value.base (J)).add ((a3:Int).toNat*aE.sz N2)))),ph (.string (bw)),ph (.pointer (some ((Value.base (J)).add ((a3:Int).toNat*aE.sz N2)))),(λH rs v=>∃ ad:List N3,[.row J 9 (aE.sz N2) (((Z.set ((a0:Int).toNat) a1).set ((dP:Int).toNat) a5).set ((a3:Int).toNat) ah).length ad]=rs/\.pointer (some ((Value.base (J)).add ((a3:Int).toNat*aE.sz N2)))=v/\Rw H J ad (((Z.set ((a0:Int).toNat) a1).set ((dP:Int).toNat) a5).set ((a3:Int).toNat) ah))] (sp 14 [(13,[14])]) [[],[],[],[],[],[],[14],[14],[],[],[14],[14],[14],[]] [0] [0,1,2,3,4,5,6,7,8,9,10,11,12,13] G ⟨qm,qm,qm,qm,qm,qm,?_,?_,qm,qm,?_,?_,?_,?_,N4⟩ ?_
 rintro O Y X Rest hR _ _ ⟨rfl,rfl⟩ _ _ ⟨rfl,rfl⟩ hU I;refine gY bv ?_;exact o0 ⟨G,G⟩;rintro O Y X Rest hR _ _ ⟨rfl,rfl⟩ hU I;refine qp de ?_;exact o0 ⟨G,G⟩;rintro O Y X Rest hR _ _ ⟨rfl,rfl⟩ _ _ ⟨rfl,rfl⟩ hU I;refine gY bz ?_;exact o0 ⟨G,G⟩;rintro O Y X Rest hR _ _ ⟨rfl,rfl⟩ hU I;refine qp df ?_;exact o0 ⟨G,G⟩;intro O Y X Rest hR;refine dr ?_;intro hU I;refine gY b8 ?_;exact o0 ⟨G,G⟩;intro O Y X Rest hR;refine dr ?_;intro hU I;refine wr 0 0 ah a2 b8 dg G G ?_;intro ad av g3 g4;exact aT (fV G [.row J 9 (aE.sz N2) (((Z.set ((a0:Int).toNat) a1).set ((dP:Int).toNat) a5).set ((a3:Int).toNat) ah).length ad] lE ⟨ad,G,G,(av)⟩);intro c0 g5;refine dr ?_;rintro _ _ _ ⟨ad,rfl,_,av⟩;refine sS ?_;refine Wp [0] ?_;obtain ⟨g6,g7,b9,hm⟩:=aC hm;refine gY b9 ?_;obtain ⟨_,rfl,dh⟩:=(av).elem b9;refine wr 0 0 bw av b9 dh G G ?_;intro g8 di g9 ga
 refine q2 ?_;refine cj [(0,_),(1,_)] [] 1 (λu m H' M' L'=>∃ aa:List N2,∃ a7:Int,∃ ba:List N3,jF a0 aa a7=some r/\Rw H' J ba aa/\c0.le H'/\.row J 9 (aE.sz N2) aa.length ba::m=M'/\(11,.int .i64 (a7))::u=L') ?_ (λdj=>?_);rintro gb _ _ ⟨aa,a7,ba,hm,aw,gc,rfl,rfl⟩;unfold jF at hm;refine qs ?_;obtain ⟨ai,gd,c1,hm⟩:=aC hm;obtain ⟨_,rfl,dk⟩:=(aw).elem c1;obtain ⟨c2,gf,c3,hm⟩:=aC hm;obtain ⟨_,rfl,dl⟩:=(aw).elem c3;obtain ⟨gg,gh,bb,hm⟩:=aC hm;obtain ⟨_,rfl,dm⟩:=(aw).elem bb;refine vq fm 14 [ph _,ph _,ph _,ph _,ph _,ph _,ph (.pointer (some ((Value.base (J)).add ((a0:Int).toNat*aE.sz N2)))),ph (.string (ai)),ph _,ph _,ph (.pointer (some ((Value.base (J)).add ((a7:Int).toNat*aE.sz N2)))),ph (.string (c2)),ph (.pointer (some ((Value.base (J)).add ((a7:Int).toNat*aE.sz N2)))),(λH rs v=>∃ ae:List N3,[.row J 9 (aE.sz N2) (aa.set ((a7:Int).toNat) ai).length ae]=rs/\.pointer (some ((Value.base (J)).add ((a7:Int).toNat*aE.sz N2)))=v/\Rw H J ae (aa.set ((a7:Int).toNat) ai))] (sp 14 [(13,[14])]) [[],[],[],[],[],[],[14],[14],[],[],[14],[14],[14],[]] [0] [0,1,2,3,4,5,6,7,8,9,10,11,12,13] G ⟨qm,qm,qm,qm,qm,qm,?_,?_,qm,qm,?_,?_,?_,?_,N4⟩ ?_
 rintro O Y X Rest hR _ _ ⟨rfl,rfl⟩ _ _ ⟨rfl,rfl⟩ hU I;refine gY c1 ?_;exact o0 ⟨G,G⟩;rintro O Y X Rest hR _ _ ⟨rfl,rfl⟩ hU I;refine qp dk ?_;exact o0 ⟨G,G⟩;rintro O Y X Rest hR _ _ ⟨rfl,rfl⟩ _ _ ⟨rfl,rfl⟩ hU I;refine gY c3 ?_;exact o0 ⟨G,G⟩;rintro O Y X Rest hR _ _ ⟨rfl,rfl⟩ hU I;refine qp dl ?_;exact o0 ⟨G,G⟩;intro O Y X Rest hR;refine dr ?_;intro hU I;refine gY bb ?_;exact o0 ⟨G,G⟩;intro O Y X Rest hR;refine dr ?_;intro hU I;refine wr 0 0 ai aw bb dm G G ?_;intro ae ax gi gk;exact aT (fV G [.row J 9 (aE.sz N2) (aa.set ((a7:Int).toNat) ai).length ae] lE ⟨ae,G,G,(ax)⟩);intro gl gm;refine dr ?_;rintro _ _ _ ⟨ae,rfl,_,ax⟩;refine sS ?_;refine Wp [0] ?_;obtain ⟨gn,gp,bc,hm⟩:=aC hm;refine gY bc ?_;obtain ⟨_,rfl,dn⟩:=(ax).elem bc;refine wr 0 0 c2 ax bc dn G G ?_;intro dp dq gq gr;refine qs ?_;obtain rfl:=N8 hm;refine Ew H ?_
 exact wu G G G ⟨G,dp,G,G,(dq).nM⟩;refine qg ?_;obtain ⟨c4,ds,dt,hm⟩:=cV hm;refine cl [(0,_),(1,_)] [] 1 [] 0 (Kd c4 r J c0 10 11) a_ G ⟨_,_,_,_,hm,di,lE,G,G⟩ ?_;rintro bf c5 _ _ ⟨a8,bd,aj,be,hm,a9,gu,rfl,rfl⟩
 rcases bf with _ | bf
 exact nomatch (dt _).symm.trans hm;have hm:=(ds _ _).symm.trans hm;generalize du:c4 bf=c6 at hm
 try dsimp only at hm
 unfold jG at hm;refine qg ?_;refine cj [(0,_),(1,_),(11,_)] [] 0 (Ci (fJ a0 a8 aj c6) r c5 10) ?_ (λc7=>?_);rintro c8 _ _ ⟨a4,hm,gv,rfl,rfl⟩;unfold fJ at hm;refine cj [(0,_),(1,_),(10,_)] [] 0 (Ci (fI a0 a8 c6 a4) r c8 11) ?_ (λc9=>?_);rintro gw _ _ ⟨ay,hm,gx,rfl,rfl⟩;unfold fI at hm;refine q2 ?_;refine cd hm G (λdv hm=>?_) (λdv hm=>?_);refine qj ?_;exact kj (dj _ _ _ ⟨_,_,_,hm,a9.mm,lE,G,G⟩);refine qs ?_;obtain ⟨ak,gy,cb,hm⟩:=aC hm;obtain ⟨_,rfl,dw⟩:=(a9).elem cb;obtain ⟨cc,gz,ce,hm⟩:=aC hm;obtain ⟨_,rfl,dx⟩:=(a9).elem ce;obtain ⟨h1,h2,bg,hm⟩:=aC hm;obtain ⟨_,rfl,dy⟩:=(a9).elem bg;refine vq fm 14 [ph _,ph _,ph _,ph _,ph _,ph _,ph (.pointer (some ((Value.base (J)).add ((ay:Int).toNat*aE.sz N2)))),ph (.string (ak)),ph _,ph _,ph (.pointer (some ((Value.base (J)).add ((a4:Int).toNat*aE.sz N2)))),ph (.string (cc)),ph (.pointer (some ((Value.base (J)).add ((a4:Int).toNat*aE.sz N2)))),(λH rs v=>∃ af:List N3,[.row J 9 (aE.sz N2) (a8.set ((a4:Int).toNat) ak).length af]=rs/\.pointer (some ((Value.base (J)).add ((a4:Int).toNat*aE.sz N2)))=v/\Rw H J af (a8.set ((a4:Int).toNat) ak))] (sp 14 [(13,[14])]) [[],[],[],[],[],[],[14],[14],[],[],[14],[14],[14],[]] [0] [0,1,2,3,4,5,6,7,8,9,10,11,12,13] G ⟨qm,qm,qm,qm,qm,qm,?_,?_,qm,qm,?_,?_,?_,?_,N4⟩ ?_
 rintro O Y X Rest hR _ _ ⟨rfl,rfl⟩ _ _ ⟨rfl,rfl⟩ hU I;refine gY cb ?_;exact o0 ⟨G,G⟩;rintro O Y X Rest hR _ _ ⟨rfl,rfl⟩ hU I;refine qp dw ?_;exact o0 ⟨G,G⟩;rintro O Y X Rest hR _ _ ⟨rfl,rfl⟩ _ _ ⟨rfl,rfl⟩ hU I;refine gY ce ?_;exact o0 ⟨G,G⟩;rintro O Y X Rest hR _ _ ⟨rfl,rfl⟩ hU I;refine qp dx ?_;exact o0 ⟨G,G⟩;intro O Y X Rest hR;refine dr ?_;intro hU I;refine gY bg ?_;exact o0 ⟨G,G⟩;intro O Y X Rest hR;refine dr ?_;intro hU I;refine wr 0 0 ak a9 bg dy G G ?_;intro af az h3 h4;exact aT (fV G [.row J 9 (aE.sz N2) (a8.set ((a4:Int).toNat) ak).length af] lE ⟨af,G,G,(az)⟩);intro h5 h6;refine dr ?_;rintro _ _ _ ⟨af,rfl,_,az⟩;refine sS ?_;refine Wp [0] ?_;obtain ⟨h7,h8,bh,hm⟩:=aC hm;refine gY bh ?_;obtain ⟨_,rfl,e0⟩:=(az).elem bh;refine wr 0 0 cc az bh e0 G G ?_;intro h9 e1 ha hb;refine aT (aM (cL (aN (bZ G G G (qy G G G G G (aL G G G (aT (aM ?_))))))))
 refine qj ?_;exact kj (gV (Oh _) ⟨_,_,_,_,((O3 du _).trans hm),e1,lE,G,G⟩);refine qg ?_;obtain ⟨cf,e2,e3,hm⟩:=cV hm;refine cl [(0,_),(1,_),(10,_)] [] 0 [] 0 (xr cf r c8 11) a_ G ⟨_,hm,lE,G,G⟩ ?_;rintro bi hc _ _ ⟨am,hm,hd,rfl,rfl⟩
 rcases bi with _ | bi
 exact nomatch (e3 _).symm.trans hm;have hm:=(e2 _ _).symm.trans hm;generalize e4:cf bi=he at hm;unfold ln at hm;refine q2 ?_;cases b0:(decide (a4<=am));have hm:=fM b0 hm;refine mM fm 12 [ph _,ph _,ph (.bool (false)),ph _,ph _,ph _,ph _,ph _,ph _,ph _,ph _,ph _] ⟨qm,qm,qn b0,qm,qm,qm,qm,qm,qm,qm,qm,qm,N4⟩ ?_;intro hf hg;refine dz ?_;refine qg ?_;refine cF G ?_;refine qj ?_;exact kj (c9 _ _ _ ⟨_,hm,lE,G,G⟩);have hm:=fN b0 hm;obtain ⟨cg,hh,ch,hm⟩:=aC hm;obtain ⟨_,rfl,e5⟩:=(a9).elem ch;obtain ⟨ci,hi,ck,hm⟩:=aC hm;obtain ⟨_,rfl,e6⟩:=(a9).elem ck;refine mM fm 12 [ph _,ph _,ph (.bool (true)),ph _,ph _,ph _,ph (.pointer (some ((Value.base (J)).add ((am:Int).toNat*aE.sz N2)))),ph (.string (cg)),ph _,ph _,ph (.pointer (some ((Value.base (J)).add ((a0:Int).toNat*aE.sz N2)))),ph (.string (ci))] ⟨qm,qm,qn b0,qm,qm,qm,?_,?_,qm,qm,?_,?_,N4⟩ ?_
 intro O Y X Rest hR;refine dr ?_;intro hU I;refine gY ch ?_;exact o0 ⟨G,G⟩;rintro O Y X Rest hR _ _ ⟨rfl,rfl⟩ _ _ ⟨rfl,rfl⟩ hU I;refine qp e5 ?_;exact o0 ⟨G,G⟩;intro O Y X Rest hR;refine dr ?_;intro hU I;refine gY ck ?_;exact o0 ⟨G,G⟩;rintro O Y X Rest hR _ _ ⟨rfl,rfl⟩ _ _ ⟨rfl,rfl⟩ hU I;refine qp e6 ?_;exact o0 ⟨G,G⟩;intro hj hk;refine dz ?_;refine dG RM G G G (λw ht=>(eU (hm:=(G:bB cg ci=_))  ht :)) ?_;rintro _ _ _ ⟨rfl,rfl,rfl⟩;refine qg ?_;refine cd hm G (λe7 hm=>?_) (λe7 hm=>?_);refine kb (aM ?_);refine qj ?_;exact kj (gV (Oh _) ⟨_,((O3 e4 _).trans hm),lE,G,G⟩);refine qj ?_;exact kj (c9 _ _ _ ⟨_,hm,lE,G,G⟩);refine qg ?_;obtain ⟨cm,e8,e9,hm⟩:=cV hm;refine cl [(0,_),(1,_),(11,_)] [] 0 [] 0 (xr cm r c5 10) a_ G ⟨_,hm,lE,G,G⟩ ?_;rintro bj hn _ _ ⟨an,hm,ho,rfl,rfl⟩
 rcases bj with _ | bj
 exact nomatch (e9 _).symm.trans hm;have hm:=(e8 _ _).symm.trans hm;generalize ea:cm bj=hp at hm;unfold lq at hm;refine q2 ?_;cases b1:(decide (an<=aj));have hm:=fM b1 hm;refine mM fm 12 [ph _,ph _,ph (.bool (false)),ph _,ph _,ph _,ph _,ph _,ph _,ph _,ph _,ph _] ⟨qm,qm,qn b1,qm,qm,qm,qm,qm,qm,qm,qm,qm,N4⟩ ?_;intro hq hr;refine dz ?_;refine qg ?_;refine cF G ?_;refine qj ?_;exact kj (c7 _ _ _ ⟨_,hm,lE,G,G⟩);have hm:=fN b1 hm;obtain ⟨cn,hs,co,hm⟩:=aC hm;obtain ⟨_,rfl,ec⟩:=(a9).elem co;obtain ⟨cp,hu,cq,hm⟩:=aC hm;obtain ⟨_,rfl,ed⟩:=(a9).elem cq;refine mM fm 12 [ph _,ph _,ph (.bool (true)),ph _,ph _,ph _,ph (.pointer (some ((Value.base (J)).add ((an:Int).toNat*aE.sz N2)))),ph (.string (cn)),ph _,ph _,ph (.pointer (some ((Value.base (J)).add ((a0:Int).toNat*aE.sz N2)))),ph (.string (cp))] ⟨qm,qm,qn b1,qm,qm,qm,?_,?_,qm,qm,?_,?_,N4⟩ ?_
 intro O Y X Rest hR;refine dr ?_;intro hU I;refine gY co ?_;exact o0 ⟨G,G⟩;rintro O Y X Rest hR _ _ ⟨rfl,rfl⟩ _ _ ⟨rfl,rfl⟩ hU I;refine qp ec ?_;exact o0 ⟨G,G⟩;intro O Y X Rest hR;refine dr ?_;intro hU I;refine gY cq ?_;exact o0 ⟨G,G⟩;rintro O Y X Rest hR _ _ ⟨rfl,rfl⟩ _ _ ⟨rfl,rfl⟩ hU I;refine qp ed ?_;exact o0 ⟨G,G⟩;intro hv hw;refine dz ?_;refine dG RM G G G (λw ht=>(eU (hm:=(G:bB cn cp=_))  ht :)) ?_;rintro _ _ _ ⟨rfl,rfl,rfl⟩;refine qg ?_;refine cd hm G (λee hm=>?_) (λee hm=>?_);refine kb (aM ?_);refine qj ?_;exact kj (gV (Oh _) ⟨_,((O3 ea _).trans hm),lE,G,G⟩);refine qj ?_;exact kj (c7 _ _ _ ⟨_,hm,lE,G,G⟩);refine qg ?_;obtain ⟨cr,eg,eh,hm⟩:=cV hm;refine cl [(0,_),(1,_),(10,_)] [] 0 [] 0 (xr cr r bq 11) a_ G ⟨_,hm,lE,G,G⟩ ?_;rintro bk hx _ _ ⟨ao,hm,hy,rfl,rfl⟩
 rcases bk with _ | bk
 exact nomatch (eh _).symm.trans hm;have hm:=(eg _ _).symm.trans hm;generalize ei:cr bk=hz at hm;unfold lu at hm;refine q2 ?_;cases b2:(decide (a3<=ao));have hm:=fM b2 hm;refine mM fm 12 [ph _,ph _,ph (.bool (false)),ph _,ph _,ph _,ph _,ph _,ph _,ph _,ph _,ph _] ⟨qm,qm,qn b2,qm,qm,qm,qm,qm,qm,qm,qm,qm,N4⟩ ?_;intro ia ib;refine dz ?_;refine qg ?_;refine cF G ?_;refine qj ?_;exact kj (br _ _ _ ⟨_,hm,lE,G,G⟩);have hm:=fN b2 hm;obtain ⟨cs,ic,ct,hm⟩:=aC hm;obtain ⟨_,rfl,ej⟩:=(a2).elem ct;obtain ⟨cu,ie,cv,hm⟩:=aC hm;obtain ⟨_,rfl,ek⟩:=(a2).elem cv;refine mM fm 12 [ph _,ph _,ph (.bool (true)),ph _,ph _,ph _,ph (.pointer (some ((Value.base (J)).add ((ao:Int).toNat*aE.sz N2)))),ph (.string (cs)),ph _,ph _,ph (.pointer (some ((Value.base (J)).add ((a0:Int).toNat*aE.sz N2)))),ph (.string (cu))] ⟨qm,qm,qn b2,qm,qm,qm,?_,?_,qm,qm,?_,?_,N4⟩ ?_
 intro O Y X Rest hR;refine dr ?_;intro hU I;refine gY ct ?_;exact o0 ⟨G,G⟩;rintro O Y X Rest hR _ _ ⟨rfl,rfl⟩ _ _ ⟨rfl,rfl⟩ hU I;refine qp ej ?_;exact o0 ⟨G,G⟩;intro O Y X Rest hR;refine dr ?_;intro hU I;refine gY cv ?_;exact o0 ⟨G,G⟩;rintro O Y X Rest hR _ _ ⟨rfl,rfl⟩ _ _ ⟨rfl,rfl⟩ hU I;refine qp ek ?_;exact o0 ⟨G,G⟩;intro ig ih;refine dz ?_;refine dG RM G G G (λw ht=>(eU (hm:=(G:bB cs cu=_))  ht :)) ?_;rintro _ _ _ ⟨rfl,rfl,rfl⟩;refine qg ?_;refine cd hm G (λel hm=>?_) (λel hm=>?_);refine kb (aM ?_);refine qj ?_;exact kj (gV (Oh _) ⟨_,((O3 ei _).trans hm),lE,G,G⟩);refine qj ?_;exact kj (br _ _ _ ⟨_,hm,lE,G,G⟩);refine qg ?_;obtain ⟨cw,em,eo,hm⟩:=cV hm;refine cl [(0,_),(1,_),(11,_)] [] 0 [] 0 (xr cw r bo 10) a_ G ⟨_,hm,lE,G,G⟩ ?_;rintro bl ii _ _ ⟨ap,hm,ij,rfl,rfl⟩
 rcases bl with _ | bl
 exact nomatch (eo _).symm.trans hm;have hm:=(em _ _).symm.trans hm;generalize ep:cw bl=ik at hm;unfold lv at hm;refine q2 ?_;cases b3:(decide (ap<=(i64.wrap (aq-1))));have hm:=fM b3 hm;refine mM fm 12 [ph _,ph _,ph (.bool (false)),ph _,ph _,ph _,ph _,ph _,ph _,ph _,ph _,ph _] ⟨qm,qm,qn b3,qm,qm,qm,qm,qm,qm,qm,qm,qm,N4⟩ ?_;intro il im;refine dz ?_;refine qg ?_;refine cF G ?_;refine qj ?_;exact kj (bp _ _ _ ⟨_,hm,lE,G,G⟩);have hm:=fN b3 hm;obtain ⟨cx,io,d0,hm⟩:=aC hm;obtain ⟨_,rfl,er⟩:=(a2).elem d0;obtain ⟨d1,ip,d2,hm⟩:=aC hm;obtain ⟨_,rfl,es⟩:=(a2).elem d2;refine mM fm 12 [ph _,ph _,ph (.bool (true)),ph _,ph _,ph _,ph (.pointer (some ((Value.base (J)).add ((ap:Int).toNat*aE.sz N2)))),ph (.string (cx)),ph _,ph _,ph (.pointer (some ((Value.base (J)).add ((a0:Int).toNat*aE.sz N2)))),ph (.string (d1))] ⟨qm,qm,qn b3,qm,qm,qm,?_,?_,qm,qm,?_,?_,N4⟩ ?_
 intro O Y X Rest hR;refine dr ?_;intro hU I;refine gY d0 ?_;exact o0 ⟨G,G⟩;rintro O Y X Rest hR _ _ ⟨rfl,rfl⟩ _ _ ⟨rfl,rfl⟩ hU I;refine qp er ?_;exact o0 ⟨G,G⟩;intro O Y X Rest hR;refine dr ?_;intro hU I;refine gY d2 ?_;exact o0 ⟨G,G⟩;rintro O Y X Rest hR _ _ ⟨rfl,rfl⟩ _ _ ⟨rfl,rfl⟩ hU I;refine qp es ?_;exact o0 ⟨G,G⟩;intro iq ir;refine dz ?_;refine dG RM G G G (λw ht=>(eU (hm:=(G:bB cx d1=_))  ht :)) ?_;rintro _ _ _ ⟨rfl,rfl,rfl⟩;refine qg ?_;refine cd hm G (λet hm=>?_) (λet hm=>?_);refine kb (aM ?_);refine qj ?_;exact kj (gV (Oh _) ⟨_,((O3 ep _).trans hm),lE,G,G⟩);refine qj ?_;exact kj (bp _ _ _ ⟨_,hm,lE,G,G⟩)
theorem qO {O:(List N2)}{a0 av dP:Int}{J:N3}{xs0:List N3}{r:Int×(List N2)} (hm:gU O a0 av dP=some r) (h0:Rw H J xs0 O):
  Cq B w0 88 [J,.int .i64 (a0),.int .i64 (av),.int .i64 (dP)] H (.row J 9 (aE.sz N2) O.length xs0::M) (λH _ H' M' v=>H=H'/\∃ qxs0:List N3,.row J 9 (aE.sz N2) r.2.length qxs0::M=M'/\.int .i64 (r.1)=v/\rr J qxs0 r.2):=by
 unfold gU at hm;refine jE func88 ?_;refine q2 ?_;obtain ⟨a6,cf,aw,hm⟩:=aC hm;obtain ⟨_,rfl,bj⟩:=(h0).elem aw;obtain ⟨ax,cg,ay,hm⟩:=aC hm;obtain ⟨_,rfl,bk⟩:=(h0).elem ay;obtain ⟨ch,ci,ai,hm⟩:=aC hm;obtain ⟨_,rfl,bl⟩:=(h0).elem ai;refine vq fm 14 [ph _,ph _,ph _,ph _,ph _,ph _,ph (.pointer (some ((Value.base (J)).add ((dP:Int).toNat*aE.sz N2)))),ph (.string (a6)),ph _,ph _,ph (.pointer (some ((Value.base (J)).add ((a0:Int).toNat*aE.sz N2)))),ph (.string (ax)),ph (.pointer (some ((Value.base (J)).add ((a0:Int).toNat*aE.sz N2)))),(λH rs v=>∃ a4:List N3,[.row J 9 (aE.sz N2) (O.set ((a0:Int).toNat) a6).length a4]=rs/\.pointer (some ((Value.base (J)).add ((a0:Int).toNat*aE.sz N2)))=v/\Rw H J a4 (O.set ((a0:Int).toNat) a6))] (sp 14 [(13,[14])]) [[],[],[],[],[],[],[14],[14],[],[],[14],[14],[14],[]] [0] [0,1,2,3,4,5,6,7,8,9,10,11,12,13] G ⟨qm,qm,qm,qm,qm,qm,?_,?_,qm,qm,?_,?_,?_,?_,N4⟩ ?_
 rintro Y Z X Rest hR _ _ ⟨rfl,rfl⟩ _ _ ⟨rfl,rfl⟩ hU I;refine gY aw ?_;exact o0 ⟨G,G⟩;rintro Y Z X Rest hR _ _ ⟨rfl,rfl⟩ hU I;refine qp bj ?_;exact o0 ⟨G,G⟩;rintro Y Z X Rest hR _ _ ⟨rfl,rfl⟩ _ _ ⟨rfl,rfl⟩ hU I;refine gY ay ?_;exact o0 ⟨G,G⟩;rintro Y Z X Rest hR _ _ ⟨rfl,rfl⟩ hU I;refine qp bk ?_;exact o0 ⟨G,G⟩;intro Y Z X Rest hR;refine dr ?_;intro hU I;refine gY ai ?_;exact o0 ⟨G,G⟩;intro Y Z X Rest hR;refine dr ?_;intro hU I;refine wr 0 0 a6 h0 ai bl G G ?_;intro a4 ab ck cm;exact aT (fV G [.row J 9 (aE.sz N2) (O.set ((a0:Int).toNat) a6).length a4] lE ⟨a4,G,G,(ab)⟩);intro az cn;refine dr ?_;rintro _ _ _ ⟨a4,rfl,_,ab⟩;refine sS ?_;refine Wp [0] ?_;obtain ⟨co,cp,aj,hm⟩:=aC hm;refine gY aj ?_;obtain ⟨_,rfl,bm⟩:=(ab).elem aj;refine wr 0 0 ax ab aj bm G G ?_;intro cq bn cr cs;refine qs ?_;refine cj [] [] 1 (λu m H' M' L'=>∃ ak:Int,∃ ac:List N2,∃ ad:List N3,iK ak ac=some r/\Rw H' J ad ac/\az.le H'/\.row J 9 (aE.sz N2) ac.length ad::m=M'/\(9,.int .i64 (ak))::u=L') ?_ (λbo=>?_)
 rintro ct _ _ ⟨ak,ac,ad,hm,bp,cu,rfl,rfl⟩;unfold iK at hm;refine qs ?_;obtain rfl:=N8 hm;refine Ew H ?_;exact k5 G G ⟨G,ad,G,G,(bp).nM⟩;refine qg ?_;obtain ⟨b0,bq,br,hm⟩:=cV hm;refine cl [(0,_),(1,_)] [] 1 [] 0 (Kd b0 r J az 9 10) a_ G ⟨_,_,_,_,hm,bn,lE,G,G⟩ ?_;rintro ao b1 _ _ ⟨a2,am,a7,an,hm,a3,cv,rfl,rfl⟩
 rcases ao with _ | ao
 exact nomatch (br _).symm.trans hm;have hm:=(bq _ _).symm.trans hm;generalize bs:b0 ao=b2 at hm
 try dsimp only at hm
 unfold ko at hm;refine qg ?_;refine cj [(0,_),(1,_),(10,_)] [] 0 (Ci (dY a0 a2 a7 b2) r b1 9) ?_ (λb3=>?_);rintro b4 _ _ ⟨a1,hm,cw,rfl,rfl⟩;unfold dY at hm;refine cj [(0,_),(1,_),(9,_)] [] 0 (Ci (dX a2 b2 a1) r b4 10) ?_ (λb5=>?_);rintro cx _ _ ⟨ae,hm,d0,rfl,rfl⟩;unfold dX at hm;refine q2 ?_;refine cd hm G (λbt hm=>?_) (λbt hm=>?_);refine qj ?_;exact kj (bo _ _ _ ⟨_,_,_,hm,a3.mm,lE,G,G⟩);refine qs ?_;obtain ⟨a8,d1,b6,hm⟩:=aC hm;obtain ⟨_,rfl,bu⟩:=(a3).elem b6;obtain ⟨b7,d2,b8,hm⟩:=aC hm;obtain ⟨_,rfl,bv⟩:=(a3).elem b8;obtain ⟨d3,d4,ap,hm⟩:=aC hm;obtain ⟨_,rfl,bw⟩:=(a3).elem ap;refine vq fm 14 [ph _,ph _,ph _,ph _,ph _,ph _,ph (.pointer (some ((Value.base (J)).add ((ae:Int).toNat*aE.sz N2)))),ph (.string (a8)),ph _,ph _,ph (.pointer (some ((Value.base (J)).add ((a1:Int).toNat*aE.sz N2)))),ph (.string (b7)),ph (.pointer (some ((Value.base (J)).add ((a1:Int).toNat*aE.sz N2)))),(λH rs v=>∃ a5:List N3,[.row J 9 (aE.sz N2) (a2.set ((a1:Int).toNat) a8).length a5]=rs/\.pointer (some ((Value.base (J)).add ((a1:Int).toNat*aE.sz N2)))=v/\Rw H J a5 (a2.set ((a1:Int).toNat) a8))] (sp 14 [(13,[14])]) [[],[],[],[],[],[],[14],[14],[],[],[14],[14],[14],[]] [0] [0,1,2,3,4,5,6,7,8,9,10,11,12,13] G ⟨qm,qm,qm,qm,qm,qm,?_,?_,qm,qm,?_,?_,?_,?_,N4⟩ ?_
 rintro Y Z X Rest hR _ _ ⟨rfl,rfl⟩ _ _ ⟨rfl,rfl⟩ hU I;refine gY b6 ?_;exact o0 ⟨G,G⟩;rintro Y Z X Rest hR _ _ ⟨rfl,rfl⟩ hU I;refine qp bu ?_;exact o0 ⟨G,G⟩;rintro Y Z X Rest hR _ _ ⟨rfl,rfl⟩ _ _ ⟨rfl,rfl⟩ hU I;refine gY b8 ?_;exact o0 ⟨G,G⟩;rintro Y Z X Rest hR _ _ ⟨rfl,rfl⟩ hU I;refine qp bv ?_;exact o0 ⟨G,G⟩;intro Y Z X Rest hR;refine dr ?_;intro hU I;refine gY ap ?_;exact o0 ⟨G,G⟩;intro Y Z X Rest hR;refine dr ?_;intro hU I;refine wr 0 0 a8 a3 ap bw G G ?_;intro a5 af d5 d6;exact aT (fV G [.row J 9 (aE.sz N2) (a2.set ((a1:Int).toNat) a8).length a5] lE ⟨a5,G,G,(af)⟩);intro d7 d8;refine dr ?_;rintro _ _ _ ⟨a5,rfl,_,af⟩;refine sS ?_;refine Wp [0] ?_;obtain ⟨d9,da,aq,hm⟩:=aC hm;refine gY aq ?_;obtain ⟨_,rfl,bz⟩:=(af).elem aq;refine wr 0 0 b7 af aq bz G G ?_;intro db c0 dc dd;refine aT (aM (cL (aN (bZ G G G (qy G G G G G (aL G G G (aT (aM ?_))))))))
 refine qj ?_;exact kj (gV (Oh _) ⟨_,_,_,_,((O3 bs _).trans hm),c0,lE,G,G⟩);refine qg ?_;obtain ⟨b9,c1,c2,hm⟩:=cV hm;refine cl [(0,_),(1,_),(9,_)] [] 0 [] 0 (xr b9 r b4 10) a_ G ⟨_,hm,lE,G,G⟩ ?_;rintro ar de _ _ ⟨a9,hm,df,rfl,rfl⟩
 rcases ar with _ | ar
 exact nomatch (c2 _).symm.trans hm;have hm:=(c1 _ _).symm.trans hm;generalize c3:b9 ar=dg at hm;unfold kq at hm;refine q2 ?_;cases ag:(decide (a1<=a9));have hm:=fM ag hm;refine mM fm 12 [ph _,ph _,ph (.bool (false)),ph _,ph _,ph _,ph _,ph _,ph _,ph _,ph _,ph _] ⟨qm,qm,qn ag,qm,qm,qm,qm,qm,qm,qm,qm,qm,N4⟩ ?_;intro dh di;refine dz ?_;refine qg ?_;refine cF G ?_;refine qj ?_;exact kj (b5 _ _ _ ⟨_,hm,lE,G,G⟩);have hm:=fN ag hm;obtain ⟨ba,dj,bb,hm⟩:=aC hm;obtain ⟨_,rfl,c4⟩:=(a3).elem bb;obtain ⟨bc,dk,bd,hm⟩:=aC hm;obtain ⟨_,rfl,c5⟩:=(a3).elem bd;refine mM fm 12 [ph _,ph _,ph (.bool (true)),ph _,ph _,ph _,ph (.pointer (some ((Value.base (J)).add ((a0:Int).toNat*aE.sz N2)))),ph (.string (ba)),ph _,ph _,ph (.pointer (some ((Value.base (J)).add ((a9:Int).toNat*aE.sz N2)))),ph (.string (bc))] ⟨qm,qm,qn ag,qm,qm,qm,?_,?_,qm,qm,?_,?_,N4⟩ ?_
 intro Y Z X Rest hR;refine dr ?_;intro hU I;refine gY bb ?_;exact o0 ⟨G,G⟩;rintro Y Z X Rest hR _ _ ⟨rfl,rfl⟩ _ _ ⟨rfl,rfl⟩ hU I;refine qp c4 ?_;exact o0 ⟨G,G⟩;intro Y Z X Rest hR;refine dr ?_;intro hU I;refine gY bd ?_;exact o0 ⟨G,G⟩;rintro Y Z X Rest hR _ _ ⟨rfl,rfl⟩ _ _ ⟨rfl,rfl⟩ hU I;refine qp c5 ?_;exact o0 ⟨G,G⟩;intro dl dm;refine dz ?_;refine dG RM G G G (λw ht=>(eU (hm:=(G:bB ba bc=_))  ht :)) ?_;rintro _ _ _ ⟨rfl,rfl,rfl⟩;refine qg ?_;refine cd hm G (λc6 hm=>?_) (λc6 hm=>?_);refine kb (aM ?_);refine qj ?_;exact kj (gV (Oh _) ⟨_,((O3 c3 _).trans hm),lE,G,G⟩);refine qj ?_;exact kj (b5 _ _ _ ⟨_,hm,lE,G,G⟩);refine qg ?_;obtain ⟨be,c7,c8,hm⟩:=cV hm;refine cl [(0,_),(1,_),(10,_)] [] 0 [] 0 (xr be r b1 9) a_ G ⟨_,hm,lE,G,G⟩ ?_;rintro au dn _ _ ⟨aa,hm,dp,rfl,rfl⟩
 rcases au with _ | au
 exact nomatch (c8 _).symm.trans hm;have hm:=(c7 _ _).symm.trans hm;generalize c9:be au=dq at hm;unfold kr at hm;refine q2 ?_;cases ah:(decide (aa<=a7));have hm:=fM ah hm;refine mM fm 12 [ph _,ph _,ph (.bool (false)),ph _,ph _,ph _,ph _,ph _,ph _,ph _,ph _,ph _] ⟨qm,qm,qn ah,qm,qm,qm,qm,qm,qm,qm,qm,qm,N4⟩ ?_;intro ds dt;refine dz ?_;refine qg ?_;refine cF G ?_;refine qj ?_;exact kj (b3 _ _ _ ⟨_,hm,lE,G,G⟩);have hm:=fN ah hm;obtain ⟨bf,du,bg,hm⟩:=aC hm;obtain ⟨_,rfl,cb⟩:=(a3).elem bg;obtain ⟨bh,dv,bi,hm⟩:=aC hm;obtain ⟨_,rfl,cc⟩:=(a3).elem bi;refine mM fm 12 [ph _,ph _,ph (.bool (true)),ph _,ph _,ph _,ph (.pointer (some ((Value.base (J)).add ((a0:Int).toNat*aE.sz N2)))),ph (.string (bf)),ph _,ph _,ph (.pointer (some ((Value.base (J)).add ((aa:Int).toNat*aE.sz N2)))),ph (.string (bh))] ⟨qm,qm,qn ah,qm,qm,qm,?_,?_,qm,qm,?_,?_,N4⟩ ?_
 intro Y Z X Rest hR;refine dr ?_;intro hU I;refine gY bg ?_;exact o0 ⟨G,G⟩;rintro Y Z X Rest hR _ _ ⟨rfl,rfl⟩ _ _ ⟨rfl,rfl⟩ hU I;refine qp cb ?_;exact o0 ⟨G,G⟩;intro Y Z X Rest hR;refine dr ?_;intro hU I;refine gY bi ?_;exact o0 ⟨G,G⟩;rintro Y Z X Rest hR _ _ ⟨rfl,rfl⟩ _ _ ⟨rfl,rfl⟩ hU I;refine qp cc ?_;exact o0 ⟨G,G⟩;intro dw dx;refine dz ?_;refine dG RM G G G (λw ht=>(eU (hm:=(G:bB bf bh=_))  ht :)) ?_;rintro _ _ _ ⟨rfl,rfl,rfl⟩;refine qg ?_;refine cd hm G (λce hm=>?_) (λce hm=>?_);refine kb (aM ?_);refine qj ?_;exact kj (gV (Oh _) ⟨_,((O3 c9 _).trans hm),lE,G,G⟩);refine qj ?_;exact kj (b3 _ _ _ ⟨_,hm,lE,G,G⟩)
theorem ru {I r:Int} (hm:jN I=some r):
  Cq B w0 121 [.int .i64 (I)] H M (λH M H' M' v=>H=H'/\M=M'/\.int .u64 (r)=v):=by
 unfold jN at hm;refine jE func121 ?_;refine g2 ?_;obtain ⟨J,a0,hm⟩:=aO hm;refine cz @sK a0 ?_;obtain ⟨a1,hm⟩:=aI hm;refine y7 G G G G a1 (go ?_);exact ef
theorem rS {a0:Ko}{b0:Nat}{r:Int×Ko} (hm:dA a0=r):
  Cq B w0 122 [.pointer (some ⟨b0,0,none⟩)] H (.obj b0 (.cells ([.int .u64 (a0.n)]:List N3).toArray 188 (0,0))::M) (λH _ H' M' v=>H=H'/\.obj b0 (.cells ([.int .u64 (r.2.n)]:List N3).toArray 188 (0,0))::M=M'/\.int .u64 (r.1)=v):=by
 unfold dA at hm;refine jE func122 ?_;refine g2 ?_;refine mM fm 7 [ph _,ph _,ph _,ph _,ph _,ph _,ph (.int .u64 (pz .u64 a0.n 13))] ⟨om,om,om,om,om,om,?_,N4⟩ ?_;rintro J O X Rest hR _ _ ⟨rfl,rfl⟩ hU I;refine y7 G G G G (by decide) ?_
 exact o0 ⟨G,G⟩;intro a1 Y;refine dz ?_;refine go ?_;refine wt 0 ?_;refine gs ?_;refine mM fm 7 [ph _,ph _,ph _,ph _,ph _,ph _,ph (.int .u64 (mO .u64 (u64.wrap ((BitVec.ofInt (u64).bits a0.n ^^^ BitVec.ofInt (u64).bits (pz .u64 a0.n 13)).toNat)) 7))] ⟨om,om,om,om,om,om,?_,N4⟩ ?_;rintro J O X Rest hR _ _ ⟨rfl,rfl⟩ hU I;refine rN G G G G (by decide) ?_
 exact o0 ⟨G,G⟩;intro Z a4;refine dz ?_;refine go ?_;refine wt 0 ?_;refine gs ?_;refine mM fm 7 [ph _,ph _,ph _,ph _,ph _,ph _,ph (.int .u64 (pz .u64 (u64.wrap ((BitVec.ofInt (u64).bits (u64.wrap ((BitVec.ofInt (u64).bits a0.n ^^^ BitVec.ofInt (u64).bits (pz .u64 a0.n 13)).toNat)) ^^^ BitVec.ofInt (u64).bits (mO .u64 (u64.wrap ((BitVec.ofInt (u64).bits a0.n ^^^ BitVec.ofInt (u64).bits (pz .u64 a0.n 13)).toNat)) 7)).toNat)) 17))] ⟨om,om,om,om,om,om,?_,N4⟩ ?_;rintro J O X Rest hR _ _ ⟨rfl,rfl⟩ hU I;refine y7 G G G G (by decide) ?_
 exact o0 ⟨G,G⟩;intro a5 a6;refine dz ?_;refine go ?_;refine wt 0 ?_;refine gs ?_;obtain rfl:=hm;refine Ew H ?_;exact k5 G G ⟨G,G,G⟩
theorem qZ {J:(List N2)}{a6 ad:Int}{I:N3}{Z:List N3}{r:(List N2)} (hm:gZ J a6 ad=some r) (h0:Rw H I Z J):
  Cq B w0 83 [I,.int .i64 (a6),.int .i64 (ad)] H (.row I 9 (aE.sz N2) J.length Z::M) (λH _ H' M' v=>H=H'/\∃ Y:List N3,.row I 9 (aE.sz N2) r.length Y::M=M'/\.tuple #[]=v/\rr I Y r):=by
 unfold gZ at hm;refine jE func83 ?_;refine q2 ?_;refine cd hm G (λaj hm=>?_) (λaj hm=>?_);refine qs ?_;refine al (λak=>?_);refine wt 0 ?_;refine qs ?_;obtain ⟨b1,am,hm⟩:=aO hm;refine dG call121 G G G (λw ht=>(ru (hm:=am)  ht :)) ?_;rintro _ _ _ ⟨rfl,rfl,rfl⟩;refine qs ?_;refine sT G G G G (by decide) (qg ?_)
 obtain ⟨ae,an,ao,hm⟩:=cV hm;refine cl [(0,_),(1,_),(6,_),(7,_),(8,_)] [] 2 [1] 0 (λu m n H' M' L'=>∃ a1:List N2,∃ a0 a3:Int,∃ a7:List N3,ae n (a1,a0,a3)=some r/\Rw H' I a7 a1/\H.le H'/\.row I 9 (aE.sz N2) a1.length a7::.obj ak (.cells ([.int .u64 (a3)]:List N3).toArray 188 (0,0))::m=M'/\(9,.int .i64 (a0))::u=L') a_ G ⟨_,_,_,_,hm,h0,lE,G,G⟩ ?_;rintro aa ap _ _ ⟨a1,a0,a3,a7,hm,a4,b2,rfl,rfl⟩
 rcases aa with _ | aa
 exact nomatch (ao _).symm.trans hm;have hm:=(an _ _).symm.trans hm;generalize aq:ae aa=ar at hm
 try dsimp only at hm
 unfold kG at hm;refine q2 ?_;refine sT G G G G (by decide) (qg ?_)
 refine cd hm G (λau hm=>?_) (λau hm=>?_);refine q2 ?_;refine Wp [1] ?_;refine dG call122 G G G (λw ht=>(rS (hm:=(G:dA ⟨a3⟩=_))  ht :)) ?_;rintro _ _ _ ⟨rfl,rfl,rfl⟩;refine qg ?_;refine cj [(0,_),(1,_),(6,_),(7,_),(8,_),(9,_)] [] 0 (Le (eL a6 a1 a0 a3 ar) r ap 10) ?_ (λaf=>?_);rintro _ _ _ ⟨a8,hm,rfl,rfl,rfl⟩;unfold eL at hm;obtain ⟨a5,b3,ag,hm⟩:=aC hm;obtain ⟨_,rfl,av⟩:=(a4).elem ag;obtain ⟨ah,b4,ai,hm⟩:=aC hm;obtain ⟨_,rfl,aw⟩:=(a4).elem ai;obtain ⟨b5,b6,ab,hm⟩:=aC hm;obtain ⟨_,rfl,ax⟩:=(a4).elem ab;refine vq fm 18 [ph _,ph _,ph _,ph _,ph _,ph _,ph _,ph _,ph _,ph _,ph (.pointer (some ((Value.base (I)).add ((i64.wrap (a6+a8):Int).toNat*aE.sz N2)))),ph (.string (a5)),ph _,ph _,ph (.pointer (some ((Value.base (I)).add ((a0:Int).toNat*aE.sz N2)))),ph (.string (ah)),ph (.pointer (some ((Value.base (I)).add ((a0:Int).toNat*aE.sz N2)))),(λH rs v=>∃ a2:List N3,[.row I 9 (aE.sz N2) (a1.set ((a0:Int).toNat) a5).length a2]=rs/\.pointer (some ((Value.base (I)).add ((a0:Int).toNat*aE.sz N2)))=v/\Rw H I a2 (a1.set ((a0:Int).toNat) a5))] (sp 18 [(17,[18])]) (sp 18 [(10,[18]),(11,[18]),(14,[18]),(15,[18]),(16,[18])]) [1] [0,1,2,3,4,5,6,7,8,9,10,11,12,13,14,15,16,17] G ⟨qm,qm,qm,qm,qm,qm,qm,qm,qm,qm,?_,?_,qm,qm,?_,?_,?_,?_,N4⟩ ?_
 rintro HX hX X Rest hR _ _ ⟨rfl,rfl⟩ _ _ ⟨rfl,rfl⟩ hU O;refine gY ag ?_;exact o0 ⟨G,G⟩;rintro HX hX X Rest hR _ _ ⟨rfl,rfl⟩ hU O;refine qp av ?_;exact o0 ⟨G,G⟩;rintro HX hX X Rest hR _ _ ⟨rfl,rfl⟩ _ _ ⟨rfl,rfl⟩ hU O;refine gY ai ?_;exact o0 ⟨G,G⟩;rintro HX hX X Rest hR _ _ ⟨rfl,rfl⟩ hU O;refine qp aw ?_;exact o0 ⟨G,G⟩;intro HX hX X Rest hR;refine dr ?_;intro hU O;refine gY ab ?_;exact o0 ⟨G,G⟩;intro HX hX X Rest hR;refine dr ?_;intro hU O;refine wr 0 0 a5 a4 ab ax G G ?_;intro a2 a9 b7 b8;exact aT (fV G [.row I 9 (aE.sz N2) (a1.set ((a0:Int).toNat) a5).length a2] lE ⟨a2,G,G,(a9)⟩);intro b9 ba;refine dr ?_;rintro _ _ _ ⟨a2,rfl,_,a9⟩;refine sS ?_;refine Wp [0,0] ?_;obtain ⟨bb,bc,ac,hm⟩:=aC hm;refine gY ac ?_;obtain ⟨_,rfl,ay⟩:=(a9).elem ac;refine wr 0 0 ah a9 ac ay G G ?_;intro bd az be bf;refine qt ?_;refine qj ?_;exact kj (gV (Oh _) ⟨_,_,_,_,((O3 aq _).trans hm),az,lE,G,G⟩)
 refine qs ?_;refine cd hm G (λb0 hm=>?_) (λb0 hm=>?_);refine qj ?_;exact kj (af _ _ _ ⟨_,hm,G,G,G⟩);refine qj ?_;exact kj (af _ _ _ ⟨_,hm,G,G,G⟩);refine qg ?_;refine tD ?_;obtain rfl:=N8 hm;refine Ek [0] 1 ?_;refine Ew H ?_;exact wm G ⟨G,a7,G,G,(a4).nM⟩;refine qg ?_;refine tD ?_;obtain rfl:=N8 hm;refine Ew H ?_;exact wm G ⟨G,Z,G,G,(h0).nM⟩
theorem rl {self:(List N2)->Int->Int->Int->Option ((List N2))} (ih:∀ {B:Nat}{w0 w:World}[wh B w0] {H:Hp}{M:List bU}{I:(List N2)}{a5 a6 J:Int}{O:N3}{Z:List N3}{r:(List N2)} (hm:self I a5 a6 J=some r) (h0:Rw H O Z I) (ht:St B w0 H (.row O 9 (aE.sz N2) I.length Z::M) w),
    Calls prog 51 [O,.int .i64 (a5),.int .i64 (a6),.int .i64 (J)].toArray w (ub B w0 λH' M' v=>H=H'/\∃ Y:List N3,.row O 9 (aE.sz N2) r.length Y::M=M'/\.tuple #[]=v/\rr O Y r)) {B:Nat}{w0 w:World}[wh B w0] {H:Hp}{M:List bU}{I:(List N2)}{a5 a6 J:Int}{O:N3}{Z:List N3}{r:(List N2)} (hm:iG self I a5 a6 J=some r) (h0:Rw H O Z I) (ht:St B w0 H (.row O 9 (aE.sz N2) I.length Z::M) w):
    Calls prog 51 [O,.int .i64 (a5),.int .i64 (a6),.int .i64 (J)].toArray w (ub B w0 λH' M' v=>H=H'/\∃ Y:List N3,.row O 9 (aE.sz N2) r.length Y::M=M'/\.tuple #[]=v/\rr O Y r):=by
 unfold iG at hm;refine enter func51 G G G ht ?_;refine g2 ?_;obtain ⟨av,b9,ba,hm⟩:=cV hm;refine cl [(0,_)] [] 1 [] 0 (λu m n H' M' L'=>∃ a9:List N2,∃ a3 a4 aj:Int,∃ a1 a2:Bool,∃ ak:List N3,av n (a9,a3,a4,aj,a1,a2)=some r/\Rw H' O ak a9/\H.le H'/\.row O 9 (aE.sz N2) a9.length ak::m=M'/\(1,.int .i64 (a3))::(2,.int .i64 (a4))::(3,.int .i64 (aj))::(8,.bool (a1))::(9,.bool (a2))::u=L') a_ G ⟨_,_,_,_,_,_,_,hm,h0,lE,G,G⟩ ?_;rintro am a0 _ _ ⟨a9,a3,a4,aj,a1,a2,ak,hm,c1,c2,rfl,rfl⟩
 rcases am with _ | am
 exact nomatch (ba _).symm.trans hm;have hm:=(b9 _ _).symm.trans hm;generalize a7:av am=an at hm
 try dsimp only at hm
 unfold lK at hm;refine g2 ?_;refine gs ?_;refine cd hm G (λbb hm=>?_) (λbb hm=>?_);refine gs ?_;obtain ⟨c3,bc,hm⟩:=aO hm;refine ca @q6 bc ?_;rintro _ _ _ ⟨rfl,c4,rfl,rfl,aw⟩;have aw:=aw a0;refine go ?_;exact ef;refine g2 ?_;refine cd hm G (λbd hm=>?_) (λbd hm=>?_);refine gs ?_;obtain ⟨c5,be,hm⟩:=aO hm;refine ca @sx be ?_;rintro _ _ _ ⟨rfl,c6,rfl,rfl,ax⟩;have ax:=ax a0;refine go ?_;exact ef;refine go ?_;refine cj [(0,_),(1,_),(2,_),(8,_),(9,_),(10,_)] [] 1 (λu m H' M' L'=>∃ aa:List N2,∃ a8:Int,∃ ao:List N3,gE self a3 a4 a1 a2 an aa a8=some r/\Rw H' O ao aa/\a0=H'/\.row O 9 (aE.sz N2) aa.length ao::m=M'/\(3,.int .i64 (a8))::u=L') ?_ (λay=>?_);rintro _ _ _ ⟨aa,a8,ao,hm,c7,rfl,rfl,rfl⟩;unfold gE at hm;refine gs ?_;obtain ⟨c8,bf,hm⟩:=aO hm;refine cz @rH bf ?_;refine go ?_;refine cj [(0,_),(1,_),(2,_),(3,_),(8,_),(9,_),(10,_)] [] 1 (λu m H' M' L'=>∃ ab:List N2,∃ ac ad:Int,∃ ap:List N3,gC self a3 a4 a1 a2 an a8 ab ac ad=some r/\Rw H' O ap ab/\a0=H'/\.row O 9 (aE.sz N2) ab.length ap::m=M'/\(11,.int .i64 (ac))::(12,.int .i64 (ad))::u=L') ?_ (λaz=>?_)
 rintro _ _ _ ⟨ab,ac,ad,ap,hm,c9,rfl,rfl,rfl⟩;unfold gC at hm;refine cj [(0,_),(1,_),(2,_),(3,_),(8,_),(9,_),(10,_),(11,_)] [] 1 (λu m H' M' L'=>∃ ae:List N2,∃ aq:List N3,gB self a3 a4 a1 a2 an a8 ac ae=some r/\Rw H' O aq ae/\a0=H'/\.row O 9 (aE.sz N2) ae.length aq::m=M'/\u=L') ?_ (λb0=>?_);rintro _ _ _ ⟨ae,aq,hm,cb,rfl,rfl,rfl⟩;unfold gB at hm;refine g2 ?_;cases af:(decide (0<a3));have hm:=fM af hm;refine mM fm 12 [ph _,ph (.bool (false)),ph _,ph _,ph _,ph _,ph _,ph _,ph _,ph _,ph _,ph _] ⟨om,Lp af,om,om,om,om,om,om,om,om,om,om,N4⟩ ?_;intro ar cc;refine dz ?_;refine go ?_;refine cF G ?_;refine gs ?_;obtain ⟨ce,bg,hm⟩:=aO hm;refine ca @oc bg ?_;rintro _ _ _ ⟨rfl,cf,rfl,rfl,ag⟩;have ag:=ag ar;refine g2 ?_;refine gs ?_;refine sT G G G G (by decide) (gs ?_)
 refine cd hm G (λbh hm=>?_) (λbh hm=>?_);refine g2 ?_;obtain ⟨cg,bi,hm⟩:=aO hm;refine dG call51 G G G (λw ht=>(ih (hm:=bi) ag ht :)) ?_;rintro _ _ _ ⟨rfl,ch,rfl,rfl,b1⟩;have b1:=b1 ar;refine aT (aM ?_);refine gj ?_;exact kj (y_ a7);refine g2 ?_;obtain ⟨ci,bj,hm⟩:=aO hm;refine dG call51 G G G (λw ht=>(ih (hm:=bj) ag ht :)) ?_;rintro _ _ _ ⟨rfl,ck,rfl,rfl,b2⟩;have b2:=b2 ar;refine aT (aM ?_);refine gj ?_;exact kj (y_ a7);have hm:=fN af hm;obtain ⟨bk,cm,cn,hm⟩:=aC hm;obtain ⟨bl,co,cp,hm⟩:=aC hm;refine mM fm 12 [ph _,ph (.bool (true)),ph _,ph _,ph _,ph _,ph _,ph _,ph _,ph _,ph _,ph _] ⟨om,Lp af,om,om,om,om,om,om,om,om,om,om,N4⟩ ?_;intro ah cq;refine dz ?_;refine cz @eU (G:bB bk bl=_) ?_;refine go ?_;refine cd hm G (λbm hm=>?_) (λbm hm=>?_);refine gs ?_;obtain ⟨cr,bn,hm⟩:=aO hm;refine ca @qO bn ?_
 rintro _ _ _ ⟨rfl,cs,rfl,rfl,b3⟩;have b3:=b3 ah;refine aL G G G (aT (aM (cL (aN (bZ G G G (aL G G G (aT (aM ?_))))))));refine gj ?_;exact kj (y_ a7);refine gs ?_;obtain ⟨ct,bo,hm⟩:=aO hm;refine ca @oc bo ?_;rintro _ _ _ ⟨rfl,cu,rfl,rfl,ai⟩;have ai:=ai ah;refine g2 ?_;refine gs ?_;refine sT G G G G (by decide) (gs ?_)
 refine cd hm G (λbp hm=>?_) (λbp hm=>?_);refine g2 ?_;obtain ⟨cv,bq,hm⟩:=aO hm;refine dG call51 G G G (λw ht=>(ih (hm:=bq) ai ht :)) ?_;rintro _ _ _ ⟨rfl,cw,rfl,rfl,b4⟩;have b4:=b4 ah;refine aT (aM ?_);refine gj ?_;exact kj (y_ a7);refine g2 ?_;obtain ⟨cx,br,hm⟩:=aO hm;refine dG call51 G G G (λw ht=>(ih (hm:=br) ai ht :)) ?_;rintro _ _ _ ⟨rfl,d0,rfl,rfl,b5⟩;have b5:=b5 ah;refine aT (aM ?_);refine gj ?_;exact kj (y_ a7);refine cj [(0,_),(1,_),(2,_),(3,_),(8,_),(9,_),(10,_),(11,_)] [] 0 (λu m H' M' L'=>a0=H'/\m=M'/\(68,.bool ((a1 && a2) && (decide (ad=1))))::u=L') ?_ (λau=>?_);rintro _ _ _ ⟨rfl,rfl,rfl⟩;refine cd hm G (λbs hm=>?_) (λbs hm=>?_);refine gs ?_;obtain ⟨d1,bt,hm⟩:=aO hm;refine ca @py bt ?_;rintro _ _ _ ⟨rfl,d2,rfl,rfl,b6⟩;have b6:=b6 a0;refine go ?_;refine cd hm G (λbu hm=>?_) (λbu hm=>?_)
 refine go ?_;exact ef;refine gj ?_;exact kj (b0 _ _ _ pk);refine gj ?_;exact kj (b0 _ _ _ pk);refine go ?_;cases d3:(a1);refine gj ?_;exact kj (au _ _ _ pk) kS;refine go ?_;cases d4:(a2);refine gj ?_;exact kj (au _ _ _ pk) kS;refine gj ?_;exact kj (au _ _ _ pk) kS;refine gs ?_;refine cd hm G (λbv hm=>?_) (λbv hm=>?_);refine gs ?_;obtain ⟨d5,bw,hm⟩:=aO hm;refine ca @rm bw ?_;rintro _ _ _ ⟨rfl,d6,rfl,rfl,b7⟩;have b7:=b7 a0;refine aT (aM (cL (aN (bZ G G G (qy G G G G G (bZ G G G (bZ G G G (qy G G G G G (qy G G G G G (aL G G G (aT (aM ?_))))))))))));refine gj ?_;exact kj (az _ _ _ pk);refine gj ?_;exact kj (az _ _ _ pk);refine gs ?_;refine cd hm G (λbz hm=>?_) (λbz hm=>?_);refine gs ?_;obtain ⟨d7,c0,hm⟩:=aO hm;refine ca @qZ c0 ?_;rintro _ _ _ ⟨rfl,d8,rfl,rfl,b8⟩;have b8:=b8 a0;refine aT (aM ?_);refine gj ?_;exact kj (ay _ _ _ pk);refine gj ?_;exact kj (ay _ _ _ pk)
theorem nb:∀ (n:Nat) {B:Nat}{w0 w:World}[wh B w0] {H:Hp}{M:List bU}{I:(List N2)}{O Y J:Int}{v0:N3}{xs0:List N3}{r:(List N2)} (hm:bO n I O Y J=some r) (h0:Rw H v0 xs0 I) (ht:St B w0 H (.row v0 9 (aE.sz N2) I.length xs0::M) w),
  Calls prog 51 [v0,.int .i64 (O),.int .i64 (Y),.int .i64 (J)].toArray w (ub B w0 λH' M' v=>H=H'/\∃ Z:List N3,.row v0 9 (aE.sz N2) r.length Z::M=M'/\.tuple #[]=v/\rr v0 Z r)
 | 0=>λhm=>nomatch hm
 | n+1=>by
  intros; exact rl (self:=bO n) (nb n) ‹_› ‹_› ‹_›
theorem sM {I:(List N2)}{O Y J:Int}{v0:N3}{xs0:List N3}{r:(List N2)} (hm:mL I O Y J=some r) (h0:Rw H v0 xs0 I) (ht:St B w0 H (.row v0 9 (aE.sz N2) I.length xs0::M) w):
  Calls prog 51 [v0,.int .i64 (O),.int .i64 (Y),.int .i64 (J)].toArray w (ub B w0 λH' M' v=>H=H'/\∃ Z:List N3,.row v0 9 (aE.sz N2) r.length Z::M=M'/\.tuple #[]=v/\rr v0 Z r):=nb a_ (hm:=hm) h0 ht
theorem tM {a0:(List N2)}{J:N3}{O:List N3}{r:(List N2)} (hm:kD a0=some r) (h0:Rw H J O a0):
  Cq B w0 36 [J] H (.row J 9 (aE.sz N2) a0.length O::M) (λH _ H' M' v=>H=H'/\∃ I:List N3,.row J 9 (aE.sz N2) r.length I::M=M'/\.tuple #[]=v/\rr J I r):=by
 unfold kD at hm;refine jE func36 ?_;refine gs ?_;obtain ⟨a4,Y,hm⟩:=aO hm;refine cz @sK Y ?_;obtain ⟨a5,Z,hm⟩:=aO hm;refine ca @sM Z ?_;rintro _ _ _ ⟨rfl,a6,rfl,rfl,a1⟩;have a1:=a1 H;refine go ?_;refine tD ?_;exact ef
theorem r9 {dI:(List aF)}{I:(List N2)}{v0 v1:N3}{r:(List N2)} (hm:mE dI I=some r) (h0:aV H v0 dI) (h1:aV H v1 I):
  Cq B w0 17 [v0,v1] H M (Mu r):=by
 unfold mE at hm;refine jE func17 ?_;refine g2 ?_;refine g2 ?_;refine lC 9 (aE.sz N2) ?_;obtain ⟨ab,ag,ah,hm⟩:=eT hm;refine cl [(0,_),(1,_),(8,_),(9,_)] [] 1 [] 0 (L8 I ab r H 5 10) _ G ⟨0,_,_,_,_,G,G,hm,Rw.nil,lE,G,G⟩ ?_;rintro _ O _ _ ⟨a1,a3,a2,a4,a8,ad,rfl,hm,ai,ay,rfl,rfl⟩;refine g2 ?_;refine bJ G (λJ=>?_) (λJ=>?_);obtain ⟨a0,aj,rfl,ak,am⟩:=kv ad J;have hm:=(ag _ _ _ _).symm.trans hm;generalize an:ab (a1+1) aj=ao at hm;unfold ry at hm;refine go ?_;refine cj [(0,_),(1,_),(8,_),(9,_),(10,_)] [] 1 (IQ (ny ao) r O 5) ?_ (λY=>?_);rintro az _ _ ⟨a5,a6,aa,hm,b0,b1,rfl,rfl⟩;unfold ny at hm;refine gj ?_;exact kj (eb am an) (kK (dJ ak h1.mm.fO));refine g2 ?_;obtain ⟨b2,ap,hm⟩:=aO hm;refine cz @x9 ap ?_;refine go ?_;refine cd hm G (λaq hm=>?_) (λaq hm=>?_);refine go ?_;refine dZ (α:=N2) (css:=[[.string (a0)]]) (zs:=[.string (⟨#[]⟩)]) (out:=[.string (a0)]) (ys:=[a0]) G G G ⟨G,N4⟩ Pb Qb G PY (by kernel_rfl) G G G G ⟨[.string (a0)],[],G,G,G⟩ G ?_
 intro b3 ar b4 au b5 av;have b6:Value.pX ar=([a0]).length:=by rw [au]; rfl
 obtain ⟨aw,hm⟩:=aI hm;refine dU (α:=N2) (l:=a2) (ys:=[a0]) G G QH ⟨_,G,G,G,G⟩ G G G G G ai.mm av aw ?_;intro b7 b8 b9;refine gj ?_;exact kj (Y _ _ _ pk);refine gj ?_;exact kj (Y _ _ _ pk);obtain rfl:=ku ad J;have hm:=(ah _ _).symm.trans hm;refine gs ?_;obtain ⟨ba,ax,hm⟩:=aO hm;refine ca @tM ax ?_;rintro _ _ _ ⟨rfl,bb,rfl,rfl,Z⟩;have Z:=Z O;refine gs ?_;exact ef
theorem yK {dI:(List aF)}{a0:(List N2)}{I v1:N3}{r:(List N2)×Int} (hm:sD dI a0=some r) (h0:aV H I dI) (h1:aV H v1 a0):
  Cq B w0 4 [I,v1] H M (L9 r.1 r.2):=by
 unfold sD at hm;refine jE func4 ?_;refine g2 ?_;refine gs ?_;obtain ⟨Z,J,hm⟩:=aO hm;refine cz @wc J ?_;refine gs ?_;refine cd hm G (λO hm=>?_) (λO hm=>?_);refine cL (aN (bZ G G G (aL G G G (aL G G G (aT (aM ?_))))));refine gj ?_;refine dT 9 (aE.sz N2) ?_;exact ef;refine gs ?_;obtain ⟨a6,Y,hm⟩:=aO hm;refine ca @r9 Y ?_;rintro _ _ _ ⟨rfl,a7,a8,rfl,rfl,a1⟩;have a1:=a1 H;refine go ?_;exact ef
theorem tk {I O:(List N2)}{v0 v1:N3}{r:Bool} (hm:kn I O=some r) (h0:aV H v0 I) (h1:aV H v1 O):
  Cq B w0 5 [v0,v1] H M (Ex r):=by
 unfold kn at hm;refine jE func5 ?_;refine g2 ?_;refine gs ?_;refine cd hm G (λa7 hm=>?_) (λa7 hm=>?_);refine gs ?_;exact ef;refine g2 ?_;obtain ⟨Y,a8,a9,hm⟩:=mw hm;refine cl [(0,_),(1,_),(12,_)] [] 0 [] 0 (IS (((I.length:Int):Int).toNat) Y r H 13) _ G ⟨0,_,OB _,G,hm,lE,G,G⟩ ?_;rintro _ af _ _ ⟨a0,a1,Z,rfl,hm,ag,rfl,rfl⟩;refine g2 ?_;refine bJ G (λJ=>?_) (λJ=>?_);obtain ⟨aa,rfl,ab,ac⟩:=oC Z J;have hm:=(a8 _ _ _).symm.trans hm;generalize ad:Y aa (a0+1)=ah at hm;unfold mo at hm;refine g2 ?_;refine gs ?_;obtain ⟨ai,aj,ak,hm⟩:=aC hm;obtain ⟨am,an,ao,hm⟩:=aC hm;refine mM fm 8 [ph _,ph _,ph _,ph _,ph _,ph _,ph _,ph _] ⟨om,om,om,om,om,om,om,om,N4⟩ ?_;intro ap aq;refine dz ?_;refine go ?_;refine cd hm G (λae hm=>?_) (λae hm=>?_);refine gs ?_;exact ef;refine gt ?_;refine gj ?_;exact kj (eb ab ad) (kK (jW ac (jX (oh (h0).fO))))
 obtain rfl:=oB Z J;have hm:=(a9 _ _).symm.trans hm;refine gs ?_;exact ef
end Go.Sim
