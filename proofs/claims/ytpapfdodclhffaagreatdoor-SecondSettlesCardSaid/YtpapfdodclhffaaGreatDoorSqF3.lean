/-
  The proof, part F3.
-/
import Derived.Test.YtpapfdodclhffaaGreatDoorSqF2
set_option linter.unusedVariables false
set_option linter.unusedSimpArgs false
set_option linter.unusedSectionVars false
set_option linter.unnecessarySimpa false
namespace Go.Sim
abbrev X4 := @List.prefix_refl
end Go.Sim
namespace Go.Sim
open Go
open _root_.Go.IntKind (i64 u64 u32 u8)
structure wc (s:aN):Prop where
 n:pU s.bN
 r:∀ r ∈ s.jO,CN r
structure QN (s:aN) (r:Rm):Prop where
 n:r.eD=s.bN
 on:r.on=nm s.bN
 he:r.held=[]
 w:rf s.bN=some (some r.watch,0)
 ti:r.time=0
 lo:r.log.lT=[]
 ov:r.over=[]
 ru:r.rules=s.jO
theorem O6 {s:aN} (hz:wc s):Gd (nk s) (λq=>(∃ e,e≠0/\q=(none,e)/\qv s=some e)\/∃ r,q=(some r,0)/\Inv r/\QN s r):=by
 suffices h:Gd (qv s) (λe=>e=0->cR s.bN=some 0/\AI s.jO/\s.bN.bM.length<=5/\∃ st ov,fB s.bN (nm s.bN)=some (st,ov,0)/\PA s.bN (nm s.bN) st ov) by
  obtain ⟨e,he,Z⟩:=h;unfold nk;refine Gd.bind_eq he (Gd.ite (λh=>Gd.ret (.inl ⟨e,by simpa using h,rfl,he⟩)) (λh=>?_))
  have Y:e=0:=by simpa using h
  subst Y;obtain ⟨hc,J,h5,st,ov,hst,hsg⟩:=Z rfl;have hV:=hsg.v;obtain ⟨w,hw,hwo⟩:=NP hc hV;have hrl:=J.1;refine Gd.bind_eq (copy_eq hV) (Gd.nd (by omega) (Gd.bind_eq (EH _ hV.l5) ?_))
  refine Gd.lH (λm i (l:List B2)=>i+m=s.jO.length/\l=s.jO) ?_ ?_ ((s.jO.length:Int):Int).toNat 0 s.jO ⟨by omega,rfl⟩
  ·rintro m i l nx ⟨hi,rfl⟩ hnx
   have I:i<s.jO.length:=by omega
   unfold xl;refine Gd.iT I (Gd.nd ?_ (Gd.iT I (hnx _ ⟨by omega,?_⟩)))
   ·have hco:=(J.2 _ (Sz I)).2
    obtain ⟨f,hf,hfk⟩:=vJ s.jO[i].um (hz.r _ (Sz I)).2;rw [hco] at hf;have:=(hfk (RX hf).symm).len;omega
   ·exact Wh I
  ·rintro i l ⟨_,rfl⟩
   refine Gd.bind_eq hw (Gd.opt (λk=>by simp at k) (λw' hw'=>?_))
   obtain rfl:=RX hw';refine Gd.bind_eq hst (Gd.ret (.inr ⟨_,rfl,⟨hz.n,⟨J,hz.r⟩,⟨L4 hV,λx hx=>hx⟩,h5,⟨ov,hsg⟩,hwo,by simp,by simp [mi],by simp [mi],by simp,by simp [mi]⟩,⟨rfl,rfl,rfl,hw,rfl,rfl,rfl,rfl⟩⟩))
 unfold qv;obtain ⟨e,he,Z⟩:=Xu s.bN hz.n;refine Gd.bind_eq he (Gd.ite (λh=>Gd.ret (λk=>absurd k (by simpa using h))) (λh=>?_))
 have Y:e=0:=by simpa using h
 subst Y;have hV:=Z rfl;refine Gd.fH (Ey s.jO hz.r) (λf hf=>Gd.ite (λh=>Gd.ret (λk=>absurd k (by simpa using h))) (λh=>?_))
 have J:=hf.1 (by simpa using h)
 refine Gd.ite (λ_=>Gd.ret (λh=>by simp at h)) (λh5=>Gd.bind_eq (EH _ hV.l5) (Gd.fH (P:=λq=>(q.2.2=0->PA s.bN (nm s.bN) q.1 q.2.1)/\fB s.bN (nm s.bN)=some q) ?_ (λq hq=>Gd.ret (λY=>⟨he,J,by have:=Sc h5; omega,q.1,q.2.1,?_,hq.1 Y⟩))))
 ·obtain ⟨q,hq,_,hs⟩:=CQ hz.n (nm s.bN)
  exact ⟨q,hq,hs,hq⟩
 ·rw [hq.2]
  obtain ⟨a,b,c⟩:=q;simp only at Y;rw [Y]
theorem O5 {r:Rm} (h:Inv r):oD r=some r.eD:=by
 obtain ⟨ov,hs⟩:=h.st;unfold oD;rw [copy_eq hs.v]; rfl
structure Q8 (e:Ev):Prop where
 t:0<=e.Time/\e.Time<=200000
 v:-1000000<=e.Value/\e.Value<=1000000
 k:e.Kind.size<=8
 n:e.Name.size<=8
abbrev Pr:=aC
abbrev Iv:=aP
def zH:Rm->List Ev->Rm->Prop
 | r,[],r'=>r'=r
 | r,e::es,r'=>∃ r1,kz r e=some (0,r1)/\zH r1 es r'
theorem zH.add:∀ {es:List Ev}{r0 r r':Rm}{e:Ev},zH r0 es r->kz r e=some (0,r')->zH r0 (es++[e]) r'
 | [],_,_,_,_,h,hs=>by
  obtain rfl:=h;exact ⟨_,hs,rfl⟩
 | _::_,_,_,_,_,⟨r1,h1,h⟩,hs=>⟨r1,h1,zH.add h hs⟩
theorem zH.rE:∀ {es:List Ev}{r0 r r':Rm},zH r0 es r->zH r0 es r'->r=r'
 | [],_,_,_,h,h'=>by rw [show _=_ from h,show _=_ from h']
 | _::_,_,_,_,⟨a,ha,h⟩,⟨b,hb,h'⟩=>by
  rw [ha] at hb;obtain rfl:=(Prod.mk.inj (RX hb)).2;exact h.rE h'
theorem zH.app:∀ {es fs:List Ev}{r0 r:Rm},zH r0 (es++fs) r->∃ x,zH r0 es x/\zH x fs r
 | [],_,r0,_,h=>⟨r0,rfl,h⟩
 | _::_,_,_,_,⟨a,ha,h⟩=>by
  obtain ⟨x,h1,h2⟩:=h.app;exact ⟨x,⟨a,ha,h1⟩,h2⟩
def CM (p:Pr) (m:Iv):Prop:=m.Term<=p.term /\
 (m.Term=p.term->(m.Ea=true/\0<=m.Number/\m.Number<=(p.events.a1.length:Int))\/(m.Ea=false/\∃ k:Nat,m.Number=(k:Int)+1/\p.events.a0[k]? = some m.Event))
theorem CM.mono {p p':Pr}{m:Iv} (h:CM p m) (ht:p'.term=p.term) (h1:p.events.a1.length<=p'.events.a1.length) (I:∀ (k:Nat) (x:Ev),p.events.a0[k]? = some x->p'.events.a0[k]? = some x):CM p' m:=by
 refine ⟨by rw [ht]; exact h.1,λk=>?_⟩
 rw [ht] at k;rcases h.2 k with ⟨a,b,c⟩ | ⟨a,i,b,c⟩
 ·exact .inl ⟨a,b,by omega⟩
 ·exact .inr ⟨a,i,b,I _ _ c⟩
structure PI (s:aN) (r0:Rm) (K:Nat) (p:Pr):Prop where
 su:p.nY=s
 i0:Inv p.kQ.a0
 i1:Inv p.kQ.a1
 p0:zH r0 p.events.a0 p.kQ.a0
 p1:zH r0 p.events.a1 p.kQ.a1
 pre:p.events.a1 <+: p.events.a0
 l0:p.events.a0.length<=60
 lk:p.events.a0.length+1<=K
 ev:∀ e ∈ p.events.a0,xv e
 wl:p.fM.length<=40
 wm:∀ m ∈ p.fM,CM p m
 dl:0<=p.done/\p.done<=(p.events.a1.length:Int)
 bl:p.done<=p.mT/\p.mT<=(p.events.a0.length:Int)
 tm:1<=p.term/\p.term<=(K:Int)
 tb:p.term=1->p.mT=p.done
theorem PI.mono {s:aN}{r0:Rm}{K K':Nat}{p:Pr} (h:PI s r0 K p) (I:K<=K'):PI s r0 K' p:=
 ⟨h.su,h.i0,h.i1,h.p0,h.p1,h.pre,h.l0,by have:=h.lk; omega,h.ev,h.wl,h.wm,h.dl,h.bl,⟨h.tm.1,by have:=h.tm.2; omega⟩,h.tb⟩
theorem PI.fM {s:aN}{r0:Rm}{K:Nat}{p:Pr} (h:PI s r0 K p) {l:List Iv} (hl:l.length<=40) (O:∀ m ∈ l,CM p m):PI s r0 K { p with fM:=l }:=
 ⟨h.su,h.i0,h.i1,h.p0,h.p1,h.pre,h.l0,h.lk,h.ev,hl,O,h.dl,h.bl,h.tm,h.tb⟩
def Ext (p p':Pr):Prop:=p.mT<=p'.mT/\p.events.a0.take p.mT.toNat <+: p'.events.a0
theorem Ext.same {p p':Pr} (I:p'.mT=p.mT) (he:p.events.a0 <+: p'.events.a0):Ext p p':=⟨by omega,(List.take_prefix _ _).trans he⟩
theorem Cz {s:aN}{r0:Rm}{K:Nat}{p:Pr} (h:PI s r0 K p) {l:List Iv} (hl:l.length<=60) (O:∀ m ∈ l,CM p m):
  Gd (lq p l) (λq=>(q=(9,p)/\40<p.fM.length+l.length)\/(p.fM.length+l.length<=40/\q=(0,{ p with fM:=p.fM++l })/\PI s r0 K q.2)):=by
 have J:=h.wl;have e:i64.wrap ((p.fM.length:Int)+(l.length:Int))=(p.fM.length:Int)+(l.length:Int):=bZ ⟨by omega,by omega⟩
 unfold lq;rw [e];refine Gd.ite (λk=>Gd.ret (.inl ⟨rfl,?_⟩)) (λk=>Gd.nd (by omega) (Gd.ret (.inr ⟨?_,rfl,?_⟩)))
 ·have:=R7 k; omega
 ·have:=Sc k; omega
 ·have:=Sc k
  exact h.fM (by rw [Sg]; omega) (λm I=>by
   rcases Sf.1 I with I | I
   ·exact h.wm m I
   ·exact O m I)
theorem Jm {p:Pr} (J:p.fM.length<=40) (k:Int):Gd (np p k) (λq=>(q.2.1=8/\q.2.2=p/\¬ (0<=k/\k<(p.fM.length:Int))) \/
  (q.2.1=0/\∃ i:Nat,k=(i:Int)/\p.fM[i]? = some q.1/\q.2.2={ p with fM:=p.fM.take i++p.fM.drop (i+1) })):=by
 unfold np;refine Gd.ite (λh=>Gd.ret (.inl ⟨rfl,rfl,?_⟩)) (λh=>?_)
 ·simp at h
  omega
 ·have h2:0<=k/\k<(p.fM.length:Int):=by simpa using h
  obtain ⟨i,rfl⟩:∃ i:Nat,k=(i:Int):=⟨k.toNat,by omega⟩
  have hi:i<p.fM.length:=by omega
  have I:i64.wrap ((i:Int)+1)=((i+1:Nat):Int):=by rw [bZ ⟨by omega,by omega⟩]; rfl
  rw [I];exact Gd.iT hi (Gd.nd ⟨by omega,by omega,by omega⟩ (Gd.ret (.inr ⟨rfl,i,rfl,RY hi,rfl⟩)))
theorem C6 {α:Type}{l:List α}{i:Nat}{m:α} (h:l[i]? = some m):(l.take i++l.drop (i+1)).length+1=l.length:=by
 have:=(R3.1 h).1;rw [Sg,Ss,Tx];omega
theorem Lc {α:Type}{l:List α}{i:Nat}{x:α} (h:x ∈ l.take i++l.drop (i+1)):x ∈ l:=by
 rcases Sf.1 h with h | h
 ·exact Uu h
 ·exact Wq h
theorem PI.cut {s:aN}{r0:Rm}{K:Nat}{p:Pr} (h:PI s r0 K p) {i:Nat}{m:Iv} (hi:p.fM[i]? = some m):PI s r0 K { p with fM:=p.fM.take i++p.fM.drop (i+1) }:=
 h.fM (by have:=C6 hi; have:=h.wl; omega) (λx I=>h.wm x (Lc I))
theorem Dx {p:Pr}{n:Nat}{e:Ev} (hn:n<=100) (h:p.events.a0[n]? = some e):lO p ((n:Int)+1)=some ⟨p.term,(n:Int)+1,false,e⟩:=by
 rw [<- Gd.eq];unfold lO;have I:i64.wrap ((n:Int)+1-1)=(n:Int):=by rw [bZ ⟨by omega,by omega⟩]; omega
 rw [I];exact Gd.ix (by omega) (by simpa using h) (Gd.ret rfl)
theorem EL {s:aN}{r0:Rm}{K:Nat}{p:Pr} (h:PI s r0 K p) {e:Ev} (he:xv e):Gd (gF p e) (λq=>PI s r0 (K+1) q.2.2/\Ext p q.2.2/\q.2.2.term=p.term):=by
 have hw:=h.wl;have hl0:=h.l0;have hlk:=h.lk;unfold gF;refine Gd.ite (λ_=>Gd.ret ⟨h.mono (by omega),Ext.same rfl (X4 _),rfl⟩) (λhk=>?_)
 have hk:¬ (p.events.a0.length:Int)=60/\¬ (p.fM.length:Int)=40:=by simpa using hk
 obtain ⟨⟨f,r⟩,hq,hc⟩:=Jl h.i0 he;refine Gd.bind_eq hq (Gd.ite (λk=>?_) (λk=>?_))
 ·have hr:r=p.kQ.a0:=hc.2 (by simpa using k)
  subst hr;exact Gd.ret ⟨h.mono (by omega),Ext.same rfl (X4 _),rfl⟩
 ·have k0:f=0:=by simpa using k
  subst k0;have I:p.events.a0 <+: p.events.a0++[e]:=List.prefix_append _ _;have hP:PI s r0 (K+1) ⟨p.nY,⟨r,p.kQ.a1⟩,⟨p.events.a0++[e],p.events.a1⟩,p.fM,p.term,p.done,p.mT⟩:=by
   refine ⟨h.su,hc.1,h.i1,h.p0.add hq,h.p1,h.pre.trans I,?_,?_,λx J=>?_,hw,λm O=>(h.wm m O).mono rfl (Sj _) (λk x J=>?_),h.dl,⟨h.bl.1,?_⟩,⟨h.tm.1,?_⟩,h.tb⟩
   ·simp only [Sg,R_,XY]; omega
   ·simp only [Sg,R_,XY]; omega
   ·rcases Sf.1 J with J | J
    ·exact h.ev x J
    ·rw [Sy.1 J]; exact he
   ·rw [S9 (R3.1 J).1]; exact J
   ·have:=h.bl.2; simp only [Sg,R_,XY]; omega
   ·have:=h.tm.2; simp only; omega
  have Z:((p.events.a0++[e]).length:Int)=(p.events.a0.length:Int)+1:=by simp
  refine Gd.nd (by simp only [R_,XY]; omega) ?_
  rw [Z];have Y:(p.events.a0++[e])[p.events.a0.length]? = some e:=List.getElem?_concat_length;refine Gd.bind_eq (Dx (by omega) Y) ?_
  refine Gd.fH (Cz hP (by simp) (λm O=>?_)) (λq hq=>Gd.ret ?_)
  ·rw [Sy] at O
   subst O;exact ⟨T_ _,λ_=>.inr ⟨rfl,p.events.a0.length,rfl,Y⟩⟩
  ·rcases hq with ⟨rfl,_⟩ | ⟨_,rfl,hP2⟩
   ·exact ⟨hP,Ext.same rfl I,rfl⟩
   ·exact ⟨hP2,Ext.same rfl I,rfl⟩
theorem Fb {s:aN}{r0:Rm}{K:Nat}{p:Pr} (h:PI s r0 K p) (k:Int):Gd (hO p k) (λq=>PI s r0 K q.2/\Ext p q.2/\q.2.term=p.term /\
  (0<=k/\k<(p.fM.length:Int)->q.1=0/\q.2.fM.length+1=p.fM.length)):=by
 unfold hO;refine Gd.fH (Jm h.wl k) (λq hq=>Gd.ret ?_);rcases hq with ⟨h8,I,Z⟩ | ⟨J,i,rfl,hi,I⟩
 ·exact ⟨by rw [I]; exact h,by rw [I]; exact Ext.same rfl (X4 _),by rw [I],λY=>absurd Y Z⟩
 ·rw [I]
  exact ⟨h.cut hi,Ext.same rfl (X4 _),rfl,λ_=>⟨J,C6 hi⟩⟩
def Ee (p:Pr) (d:Nat) (l:List Iv) (n:Nat):Prop:=l.length+d=n/\∀ j m,l[j]? = some m->m.Term=p.term/\m.Number=((d+j:Nat):Int)+1/\m.Ea=false/\p.events.a0[d+j]? = some m.Event
theorem Ee.ok {p:Pr}{d:Nat}{l:List Iv}{n:Nat} (h:Ee p d l n):∀ m ∈ l,CM p m:=by
 intro m O;obtain ⟨j,I⟩:=List.getElem?_of_mem O;obtain ⟨a,b,c,e⟩:=h.2 j m I;exact ⟨by omega,λ_=>.inr ⟨c,d+j,b,e⟩⟩
theorem BK {s:aN}{r0:Rm}{K:Nat}{p:Pr} (h:PI s r0 K p):Gd (gE p) (λq=>PI s r0 K q.2/\Ext p q.2/\q.2.term=p.term /\
  ∃ d l,p.done=((d:Nat):Int)/\Ee p d l p.events.a0.length/\(p.fM.length+l.length<=40->q=(0,{ p with fM:=p.fM++l }))):=by
 have hl0:=h.l0;have hd:=h.dl;have hpl:=h.pre.length_le;obtain ⟨d,I⟩:∃ d:Nat,p.done=(d:Int):=⟨p.done.toNat,by omega⟩
 unfold gE;have hw:i64.wrap (p.done+1)=(d:Int)+1:=by rw [bZ ⟨by omega,by omega⟩]; omega
 rw [hw];refine Gd.iV (λv=>∃ n:Nat,v.2=(n:Int)+1/\n<=p.events.a0.length/\Ee p d v.1 n) (λv=>(61-v.2).toNat) (λv nx hI hnx=>?_) gO _ ⟨d,rfl,by omega,by simp [Ee]⟩ (by simp only [gO]; omega)
 obtain ⟨l,v⟩:=v;obtain ⟨n,hv,hn,O⟩:=hI;simp only at hv O;subst hv;unfold qR;refine Gd.ite (λk=>?_) (λk=>?_)
 ·have k:=R7 k
  have hlt:n<p.events.a0.length:=by omega
  have J:p.events.a0[n]? = some p.events.a0[n]:=RY hlt;have hm1:=O.1;refine Gd.bind_eq (Dx (by omega) J) (Gd.nd (by simp only [R_,XY]; omega) ?_)
  have hw:i64.wrap ((n:Int)+1+1)=((n+1:Nat):Int)+1:=by rw [bZ ⟨by omega,by omega⟩]; omega
  rw [hw];refine hnx _ ⟨n+1,rfl,by omega,?_,λj m Y=>?_⟩ (by simp only; omega)
  ·simp only [Sg,R_,XY]; omega
  ·rcases TZ j l.length with Z | Z
   ·rw [S9 Z] at Y
    exact O.2 j m Y
   ·have hjl2:=(R3.1 Y).1
    simp only [Sg,R_,XY] at hjl2;obtain rfl:j=l.length:=by omega
    rw [List.getElem?_concat_length] at Y;obtain rfl:=RX Y;have hdn:d+l.length=n:=by omega
    rw [hdn];exact ⟨rfl,rfl,rfl,J⟩
 ·have k:=Sc k
  obtain rfl:n=p.events.a0.length:=by omega
  have hm1:=O.1;refine Gd.fH (Cz h (l:=l) (by omega) O.ok) (λq hq=>Gd.ret ?_)
  rcases hq with ⟨rfl,h40⟩ | ⟨_,rfl,hP2⟩
  ·exact ⟨h,Ext.same rfl (X4 _),rfl,d,l,I,O,λhh=>absurd hh (by omega)⟩
  ·exact ⟨hP2,Ext.same rfl (X4 _),rfl,d,l,I,O,λ_=>rfl⟩
inductive OE (p:Pr) (m:Iv) (w:List Iv) (p':Pr):Prop
 | vf (h:m.Term<p.term) (e:p'={ p with fM:=w })
 | QD (h:m.Term=p.term) (a:m.Ea=true) (e:p'={ p with fM:=w,done:=max p.done m.Number,mT:=max p.mT (max p.done m.Number) })
 | msg (h:m.Term=p.term) (a:m.Ea=false) (l1:List Ev) (r1:Rm) (z:Ev) (h1:m.Number=(p.events.a1.length:Int)+1->l1=p.events.a1++[m.Event]) (h2:m.Number≠(p.events.a1.length:Int)+1->l1=p.events.a1)
   (e:p'={ p with kQ:=⟨p.kQ.a0,r1⟩,events:=⟨p.events.a0,l1⟩,fM:=w++[⟨p.term,(l1.length:Int),true,z⟩] })
theorem OE.ext {p p':Pr}{m:Iv}{w:List Iv} (h:OE p m w p'):Ext p p'/\p'.term=p.term:=by
 cases h with
 | vf _ e=>subst e; exact ⟨Ext.same rfl (X4 _),rfl⟩
 | QD _ _ e=>subst e; exact ⟨⟨by simp only; omega,List.take_prefix _ _⟩,rfl⟩
 | msg _ _ l1 r1 z _ _ e=>subst e; exact ⟨Ext.same rfl (X4 _),rfl⟩
theorem Am {s:aN}{r0:Rm}{K:Nat}{p:Pr} (h:PI s r0 K p) (k:Int):Gd (fC p k) (λq=>PI s r0 K q.2/\Ext p q.2/\q.2.term=p.term /\
  (∀ i:Nat,k=(i:Int)->∀ m,p.fM[i]? = some m->q.1=0/\OE p m (p.fM.take i++p.fM.drop (i+1)) q.2)):=by
 have hl0:=h.l0;have hpl:=h.pre.length_le;unfold fC;refine Gd.fH (Jm h.wl k) (λt ht=>?_);obtain ⟨m,f,p1⟩:=t;rcases ht with ⟨h8,hp,Y⟩ | ⟨h0,i,rfl,hi,hp⟩
 ·simp only at h8 hp
  subst h8 hp;refine Gd.ite (λ_=>Gd.ret ⟨h,Ext.same rfl (X4 _),rfl,λi hi m O=>?_⟩) (λk=>by simp at k)
  have:=(R3.1 O).1;exact absurd ⟨by omega,by omega⟩ Y
 simp only at h0 hi hp;subst h0 hp;refine Gd.ite (λk=>by simp at k) (λ_=>?_)
 have I:=h.cut hi;have hwl:=C6 hi;have hw:=h.wl;have hmo:=h.wm m (Sd hi);have fin:∀ q:Int×Pr,q.1=0->PI s r0 K q.2->OE p m (p.fM.take i++p.fM.drop (i+1)) q.2->PI s r0 K q.2/\Ext p q.2/\q.2.term=p.term/\(∀ j:Nat,(i:Int)=(j:Int)->∀ m,p.fM[j]? = some m->q.1=0/\OE p m (p.fM.take j++p.fM.drop (j+1)) q.2):=by
  intro q hq0 hq hd;refine ⟨hq,hd.ext.1,hd.ext.2,λj hj m' hm'=>?_⟩;obtain rfl:i=j:=by omega
  rw [hi] at hm';obtain rfl:=RX hm';exact ⟨hq0,hd⟩
 refine Gd.ite (λht=>?_) (λht=>?_)
 ·unfold kA
  exact Gd.ret (fin _ rfl I (.vf (R7 ht) rfl))
 have hte:m.Term=p.term:=by
  have:=Sc ht;have:=hmo.1;simp only at *
  omega
 rcases hmo.2 hte with ⟨ha,hn0,hn1⟩ | ⟨ha,k,hnk,hke⟩
 ·refine Gd.ite (λ_=>?_) (λk=>by rw [ha] at k; cases k)
  unfold kA;refine Gd.ret (fin _ rfl ⟨I.su,I.i0,I.i1,I.p0,I.p1,I.pre,I.l0,I.lk,I.ev,I.wl,I.wm,?_,?_,I.tm,λk=>?_⟩ (.QD hte ha rfl))
  ·have:=h.dl; simp only; omega
  ·have:=h.bl; have:=h.dl; simp only; omega
  ·have:=h.tb k; simp only; omega
 refine Gd.ite (λk=>by rw [ha] at k; cases k) (λ_=>?_)
 have hwr:i64.wrap ((p.events.a1.length:Int)+1)=(p.events.a1.length:Int)+1:=bZ ⟨by omega,by omega⟩
 simp only;rw [hwr];have Z:∀ (l1:List Ev) (r1:Rm),Inv r1->zH r0 l1 r1->l1 <+: p.events.a0->p.events.a1.length<=l1.length->(m.Number=(p.events.a1.length:Int)+1->l1=p.events.a1++[m.Event])->(m.Number≠(p.events.a1.length:Int)+1->l1=p.events.a1) ->
   Gd (g_ (m,0,{ p with fM:=p.fM.take i++p.fM.drop (i+1) }) l1 r1) (λq=>PI s r0 K q.2/\Ext p q.2/\q.2.term=p.term/\(∀ j:Nat,(i:Int)=(j:Int)->∀ m,p.fM[j]? = some m->q.1=0/\OE p m (p.fM.take j++p.fM.drop (j+1)) q.2)):=by
  intro l1 r1 hi1 hp1 hpre hle h1 h2;have hP:PI s r0 K { p with kQ:=⟨p.kQ.a0,r1⟩,events:=⟨p.events.a0,l1⟩,fM:=p.fM.take i++p.fM.drop (i+1) }:=
   ⟨I.su,I.i0,hi1,I.p0,hp1,hpre,I.l0,I.lk,I.ev,I.wl,λx hx=>(I.wm x hx).mono rfl hle (λ_ _ h=>h),⟨h.dl.1,by have:=h.dl.2; simp only; omega⟩,h.bl,h.tm,h.tb⟩
  unfold g_;refine Gd.fH (Cz hP (by simp) (λx hx=>?_)) (λq hq=>Gd.ret ?_)
  ·rw [Sy] at hx
   subst hx;exact ⟨T_ _,λ_=>.inl ⟨rfl,by simp only; omega,T_ _⟩⟩
  ·rcases hq with ⟨_,h40⟩ | ⟨_,rfl,hP2⟩
   ·simp only [R_,XY] at h40; omega
   ·exact fin _ rfl hP2 (.msg hte ha l1 r1 _ h1 h2 rfl)
 refine Gd.ite (λY=>?_) (λY=>?_)
 ·have Y:=R7 Y
  have hkl:k=p.events.a1.length:=by omega
  subst hkl;obtain ⟨rest,hr⟩:=h.pre;have J:=hke;rw [<- hr,SB (Sj _),Tk] at J;obtain ⟨rest,rfl⟩:∃ rest',rest=m.Event::rest':=by
   cases rest with
   | nil=>simp at J
   | cons x xs=>simp at J; exact ⟨xs,by rw [J]⟩
  have hpf:=h.p0;rw [<- hr] at hpf;obtain ⟨x,hx,y,hy,_⟩:=hpf.app;obtain rfl:=hx.rE h.p1;obtain ⟨⟨f,r⟩,hq,hst⟩:=Jl h.i1 (h.ev m.Event (Sd hke));rw [hy] at hq;obtain ⟨rfl,rfl⟩:=Prod.mk.inj (RX hq);refine Gd.bind_eq hy (Gd.ite (λ_=>Gd.nd (by simp only [R_,XY]; omega) (Z _ _ hst.1 (h.p1.add hy) ⟨rest,by rw [Sr]; exact hr⟩ (by simp) (λ_=>rfl) (λk=>absurd Y k))) (λk=>by simp at k))
 ·have Y:=Sc Y
  exact Z _ _ h.i1 h.p1 h.pre (Sj _) (λk=>absurd k Y) (λ_=>rfl)
theorem B0 {s:aN}{r0:Rm}{K:Nat}{p:Pr} (hn:nk s=some (some r0,0)) (hi:Inv r0) (h:PI s r0 K p) (Z:K<=1000):Gd (fZ p) (λq=>PI s r0 (K+1) q.2/\Ext p q.2 /\
  (p.mT<=(p.events.a1.length:Int)->q=(0,{ p with kQ:=⟨p.kQ.a1,r0⟩,events:=⟨p.events.a1,[]⟩,term:=p.term+1,done:=0 }))):=by
 have I:=h.l0;have J:=h.pre.length_le;unfold fZ;refine Gd.ite (λk=>Gd.ret ⟨h.mono (by omega),Ext.same rfl (X4 _),λhh=>?_⟩) (λk=>?_)
 ·have:=R7 k; omega
 have k:=Sc k;have ht:=h.tm;have hd:=h.dl;have hb:=h.bl;rw [h.su];refine Gd.bind_eq hn (Gd.bind_eq rfl ?_);rw [bZ (n:=p.term+1) ⟨by omega,by omega⟩]
 refine Gd.ret ⟨⟨rfl,h.i1,hi,h.p1,rfl,List.nil_prefix,?_,?_,λe he=>h.ev e (h.pre.subset he),h.wl,λm O=>⟨?_,λk=>?_⟩,?_,?_,?_,λk=>?_⟩,⟨T_ _,?_⟩,λ_=>?_⟩
 ·simp only; omega
 ·have:=h.lk; simp only; omega
 ·have:=(h.wm m O).1; simp only; omega
 ·have:=(h.wm m O).1; simp only at k; omega
 ·simp
 ·simp only; omega
 ·simp only; omega
 ·simp only at k; omega
 ·simp only
  obtain ⟨rest,Y⟩:=h.pre;rw [<- Y,U9 (by omega)]
  exact List.take_prefix _ _
 ·rw [<- h.su]
theorem K_ {l:List B2} (h:CO l) {x:B2} (Z:x ∈ l):x.um.length<=100000000000:=by
 have I:=(h.ok.2 x Z).2;obtain ⟨f,Y,J⟩:=vJ x.um (h.sz x Z).2;rw [I] at Y;have:=(J (RX Y).symm).len;omega
structure Od (s:aN) (r0:Rm) (p:Pr):Prop where
 n:nk s=some (some r0,0)
 i:Inv r0
 q:PI s r0 1 p
 t:p.term=1
theorem Cw {s:aN} (hz:wc s):Gd (oO s) (λq=>(∃ e,e≠0/\q=(none,e)/\qv s=some e)\/∃ r0 p,q=(some p,0)/\Od s r0 p):=by
 obtain ⟨q,hq,hc⟩:=O6 hz;unfold oO;refine Gd.bind_eq hq ?_;rcases hc with ⟨e,he,rfl,hck⟩ | ⟨r0,rfl,I,Z⟩
 ·exact Gd.opt (λ_=>Gd.ite (λ_=>Gd.ret (.inl ⟨e,he,rfl,hck⟩)) (λk=>by simp [he] at k)) (λ_ h=>by simp at h)
 refine Gd.opt (λh=>by simp at h) (λr' Y=>?_)
 obtain rfl:=RX Y;refine Gd.ite (λk=>by simp at k) (λ_=>Gd.bind_eq hq (Gd.opt (λh=>by simp at h) (λr' Y=>?_)))
 obtain rfl:=RX Y;have hru:CO s.jO:=by have:=I.ru; rwa [Z.ru] at this
 have hrl:=hru.ok.1;refine Gd.ite (λk=>by simp at k) (λ_=>Gd.bind_eq (O5 I) (Gd.nd (by omega) ?_))
 refine Gd.lH (λm i (l:List B2)=>i+m=s.jO.length/\l=s.jO) ?_ ?_ ((s.jO.length:Int):Int).toNat 0 s.jO ⟨by omega,rfl⟩
 ·rintro m i l nx ⟨hi,rfl⟩ hnx
  have J:i<s.jO.length:=by omega
  unfold vz;refine Gd.iT J (Gd.nd ?_ (Gd.iT J (hnx _ ⟨by omega,Wh J⟩)))
  have:=K_ hru (Sz J);omega
 ·rintro i l ⟨_,rfl⟩
  refine Gd.ret (.inr ⟨r0,_,rfl,hq,I,⟨?_,I,I,rfl,rfl,X4 _,by simp,by simp,by simp,by simp,by simp,by simp,by simp,by simp,λ_=>rfl⟩,rfl⟩)
  simp only [Z.n]
theorem Oy (n m:Int) (I:0<=m) (h1:m<=1000):Gd (jI n 0 m) (λr=>0<=r/\r<=m):=by
 have e:i64.wrap ((i64.wrap (m-0))+1)=m+1:=by rw [bZ (n:=m-0) (by omega),bZ (by omega)]; omega
 have h1:Int.tmod n (m+1)<m+1:=Int.tmod_lt_of_pos n (by omega)
 have h2:-(m+1)<Int.tmod n (m+1):=by
  have:=Int.tmod_lt_of_pos (-n) (show (0:Int)<m+1 by omega)
  rw [Int.neg_tmod] at this; omega
 unfold jI mY;rw [e];refine Gd.nd (by omega) (Gd.ite (λh=>?_) (λh=>?_))
 ·simp at h
  rw [bZ (n:=Int.tmod n (m+1)+(m+1)) (by omega),bZ (by omega)]
  exact Gd.ret ⟨by omega,by omega⟩
 ·simp at h
  rw [bZ (by omega)]
  exact Gd.ret ⟨by omega,by omega⟩
theorem vY {p:Pr} (h:p.events.a0.length<=60):fR p=some p.events.a0:=by
 rw [<- Gd.eq];unfold fR;exact Gd.nd (by omega) (Gd.ret rfl)
theorem I8 {R:Type}{Q:R->Prop}{l:List Ev} (hl:∀ e ∈ l,xv e) (k:Nat) {f:Ev->Option R} (J:decide (0<(l.length:Int))=true) (Y:∀ e,xv e->Gd (f e) Q):Gd (cZ ((l.length:Int)≠0) (idx l (Int.tmod (k:Int) (l.length:Int)) f)) Q:=by
 have J:0<l.length:=by have:=R7 J; omega
 have I:k%l.length<l.length:=U3 _ J;have e:Int.tmod (k:Int) (l.length:Int)=((k%l.length:Nat):Int):=rfl;rw [e];exact Gd.nd (by omega) (Gd.iT I (Y _ (hl _ (Sz I))))
section
variable {R:Type}{Q:R->Prop}{s:aN}{r0:Rm}{K:Nat}{p:Pr}{f:Pr->Option R}
end

structure PN (p:Pr) (j:Nat) (L A:List Iv):Prop where
 w:p.fM=L++A
 m:Ee p j L p.events.a0.length
 a:∀ x ∈ A,x.Term=p.term/\x.Ea=true
 c:j<=p.events.a1.length
 e:j=p.events.a0.length->(∃ x ∈ A,x.Number=(p.events.a0.length:Int))\/p.done=(p.events.a0.length:Int)

end Go.Sim
