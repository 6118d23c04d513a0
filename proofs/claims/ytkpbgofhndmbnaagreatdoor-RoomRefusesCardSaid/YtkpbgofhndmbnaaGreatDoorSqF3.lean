/-
  The proof, part F3.
-/
import Derived.Test.YtkpbgofhndmbnaaGreatDoorSqF2
set_option linter.unusedVariables false
set_option linter.unusedSimpArgs false
set_option linter.unusedSectionVars false
set_option linter.unnecessarySimpa false
namespace Go.Sim
abbrev VK := @Go.Lib.decDigits_length
end Go.Sim
namespace Go.Sim
open Go
open _root_.Go.IntKind (i64 u64 u32 u8)
theorem L3 (off:List BA) (x:BA):jB x off=some (!wB off x):=by
 unfold jB wB;rw [rU];simp
theorem L4 (off A:List BA) (hA:A.length<=1000):Gd (dS A off) (λr=>r=A.filter (wB off)):=
 BL (λx=>jB x off) (wB off) (L3 off) _ A (by omega)
theorem L7 (ex:List BA) (x:BA):kX x ex=some (!decide (x ∈ ex)):=by
 unfold kX;rw [rU];simp
theorem L8 (ex A:List BA) (hA:A.length<=1000):Gd (eD A ex) (λr=>r=A.filter (λx=>decide (x ∈ ex))):=
 BL (λx=>kX x ex) (λx=>decide (x ∈ ex)) (L7 ex) _ A (by omega)
structure Bj (n:Net) (on:List BA):Prop where
 nd:on.Nodup
 s:∀ x ∈ on,x ∈ nm n
theorem Bj.len {n:Net}{on:List BA} (h:Bj n on):on.length<=n.bC.length:=by
 have:=Fi on (nm n) h.nd h.s;rw [xL] at this;exact this
theorem Bj.N0 {n:Net}{on:List BA} (h:Bj n on) (hc:cA n=some 0) (hl:n.bC.length<=12):eF n on=some 0:=
 IX hc on (Ro h.len (by omega)) h.nd h.s
theorem Bj.filter {n:Net}{on:List BA} (h:Bj n on) (p:BA->Bool):Bj n (on.filter p):=
 ⟨h.nd.sublist List.filter_sublist,λx hx=>h.s x ((Rn.1 hx).1)⟩
theorem AK {n:Net}{a b:List BA} (h:∀ x ∈ nm n,x ∈ a↔x ∈ b):qW n a=qW n b:=by
 unfold qW
 congr 1
 refine List.filter_congr (λx hx=>?_);unfold E3;have:=h x.Name (Ra.2 ⟨x,hx,rfl⟩);exact Xa.2 this
structure Own (k:BA) (t:Int) (names:List BA) (l:List Ev):Prop where
 n:l.map (·.Name)=names
 k:∀ e ∈ l,e.Kind=k/\e.Time=t
 c:∀ e ∈ l,dG e=some 0
theorem Own.add {k:BA}{t v:Int}{names:List BA}{l:List Ev} (h:Own k t names l) (s:BA) (hc:dG (aE.mk t k s v)=some 0):Own k t (names++[s]) (l++[aE.mk t k s v]):=
 ⟨by simp [h.n],λe he=>by
  rcases QC.1 he with he | he
  ·exact h.k e he
  ·rw [QZ.1 he]; exact ⟨rfl,rfl⟩,λe he=>by
  rcases QC.1 he with he | he
  ·exact h.c e he
  ·rw [QZ.1 he]; exact hc⟩
theorem Own.len {k:BA}{t:Int}{names:List BA}{l:List Ev} (h:Own k t names l):l.length=names.length:=by
 rw [<- h.n]; simp
theorem GC {r:Rm} (hz:pD r.bY) (hV:pz r.bY) (hc:cA r.bY=some 0) (hl:r.bY.bC.length<=5) (hon:Bj r.bY r.on)
  (ht:0<=r.time/\r.time<=200000) (hlog:∀ x ∈ r.log.gO,x.Time<=r.time) (hll:r.log.gO.length<=200) {over:List BA} (ho:over.length<=24) (hov:∀ x ∈ over,∃ b ∈ r.bY.aI,b.Name=x):
  Gd (nC r over) (λr'=>
   (mn r.bY r.on=some ([],8)/\∃ ev,Own wJ r.time over ev/\r'=aO.mk r.bY r.rules r.on r.held r.watch r.state r.time (bI.mk (r.log.gO++ev)) over) \/
   ∃ off st ev,Own xy r.time off ev/\MB r.bY (r.on.filter (wB off)) st []/\(∀ x ∈ off,x ∈ r.on)/\off.length<=5 /\
    r'=aO.mk r.bY r.rules (r.on.filter (wB off)) r.held r.watch st r.time (bI.mk (r.log.gO++ev)) r.over):=by
 have h5:=hV.l5;have hol:=hon.len;have hck:=hon.N0 hc h5;have hnl:=xL r.bY;obtain ⟨⟨off,e⟩,hre,hrs⟩:=HM hz hV r.on hck (by omega) _ rfl
 unfold nC;refine Gd.bind_eq hre (Gd.ite (λh=>?_) (λh=>?_))
 ·rcases hrs with ⟨h0,_⟩ | ⟨h8,_⟩
  ·exact absurd h0 (by simpa using h)
  refine Gd.dI (λi (ys:List BA) (s:List Ev)=>i+ys.length=over.length/\over.drop i=ys/\∃ ev,Own wJ r.time (over.take i) ev/\s=r.log.gO++ev) ?_ ?_ over 0 r.log.gO ⟨by simp,rfl,[],⟨by simp,by simp,by simp⟩,by simp⟩
  ·rintro i y ys s nx ⟨hi,hd,ev,hev,rfl⟩ hnx
   simp only [Qy] at hi;have hlt:i<over.length:=by omega
   have hd':=hd;rw [QV hlt] at hd';have hy:over[i]=y:=(VO hd').1;have hel:=hev.len;unfold qi;obtain ⟨b,hb,hbn⟩:=hov y (hy▸QY hlt);have hac:dG (aE.mk r.time wJ y 0)=some 0:=BC ht Gz (by rw [<- hbn]; exact (hV.vb b hb).1) (by omega)
   obtain ⟨k,hk⟩:=append_eq (l:=r.log.gO++ev) (e:=aE.mk r.time wJ y 0) (by simp only [QE,hel,QN]; omega) (by
    intro x hx;rcases QC.1 hx with hx | hx
    ·exact hlog x hx
    ·exact Int.le_of_eq (hev.k x hx).2) hac
   refine Gd.bind_eq hk (hnx _ ⟨by omega,(VO hd').2,ev++[aE.mk r.time wJ y 0],?_,by simp⟩)
   rw [QO hlt,hy];exact hev.add y hac
  ·rintro i s ⟨hi,hd,ev,hev,rfl⟩
   rw [QD (by simp at hi; omega)] at hev
   exact Gd.ret (.inl ⟨by rw [hre,h8],ev,hev,rfl⟩)
 ·have h0:e=0:=by simpa using h
  subst h0;rcases hrs with ⟨_,hsub,hacc,_⟩ | ⟨h8,_⟩
  ·simp only at hsub hacc
   have uJ:∀ x ∈ off,x ∈ nm r.bY/\x ∈ r.on:=λx hx=>by
    have:=hsub.subset hx;rw [Rn] at this;exact ⟨this.1,by simpa using this.2⟩
   have hofl:off.length<=5:=by
    refine Ro hsub.length_le (Ro (VX _ _) (by omega))
   refine Gd.dI (λi (ys:List BA) (s:List Ev)=>i+ys.length=off.length/\off.drop i=ys/\∃ ev,Own xy r.time (off.take i) ev/\s=r.log.gO++ev) ?_ ?_ off 0 r.log.gO ⟨by simp,rfl,[],⟨by simp,by simp,by simp⟩,by simp⟩
   ·rintro i y ys s nx ⟨hi,hd,ev,hev,rfl⟩ hnx
    simp only [Qy] at hi;have hlt:i<off.length:=by omega
    have hd':=hd;rw [QV hlt] at hd';have hy:off[i]=y:=(VO hd').1;have hel:=hev.len;unfold qk;obtain ⟨b,hb,hbn⟩:=Ra.1 (uJ y (hy▸QY hlt)).1;refine Gd.eQ (Nq _ y) (λj hj=>?_);rcases hj with ⟨_,hno⟩ | ⟨j,hjl,rfl,hp,_⟩
    ·have:=hno b hb
     simp [hbn] at this
    have hld:=hV.vl _ (QY hjl);have hdm:0<=r.bY.bC[j].dA/\r.bY.bC[j].dA<=100000:=by
     have:=hld.2.2;simp [aY,bM] at this;omega
    refine Gd.iH hjl ?_;have hac:dG (aE.mk r.time xy y r.bY.bC[j].dA)=some 0:=BC ht IK (by rw [<- hbn]; exact (hV.vl b hb).1) (by omega)
    obtain ⟨k,hk⟩:=append_eq (l:=r.log.gO++ev) (e:=aE.mk r.time xy y r.bY.bC[j].dA) (by simp only [QE,hel,QN]; omega) (by
     intro x hx;rcases QC.1 hx with hx | hx
     ·exact hlog x hx
     ·exact Int.le_of_eq (hev.k x hx).2) hac
    refine Gd.bind_eq hk (hnx _ ⟨by omega,(VO hd').2,ev++[aE.mk r.time xy y r.bY.bC[j].dA],?_,by simp⟩)
    rw [QO hlt,hy];exact hev.add y hac
   ·rintro i s ⟨hi,hd,ev,hev,rfl⟩
    rw [QD (by simp at hi; omega)] at hev
    refine Gd.eQ (L4 off r.on (by omega)) (λon' hon'=>?_)
    subst hon';have hon2:=hon.filter (wB off);have hck2:=hon2.N0 hc h5;obtain ⟨s,hs,hsg⟩:=Bp hz (r.on.filter (wB off));obtain ⟨q,hq⟩:=GL (hz.qW (r.on.filter (wB off)));have hqs:=Jd hV hck2 hq;rw [hs] at hqs;have hqs:=Qp hqs;subst hqs;have hw:qW r.bY (((nm r.bY).filter (λx=>decide (x ∈ r.on))).filter (wB off))=qW r.bY (r.on.filter (wB off)):=AK (λx hx=>by
     simp only [Rn,hx,true_and,Q9])
    have hord:Cj r.bY (r.on.filter (wB off)):=by
     unfold CL Cj at hacc;rw [hw] at hacc;exact hacc
    obtain ⟨e0,e1⟩:=(IA hq).1 hord;have hst:=hsg.2 e0;rw [e1] at hst;exact Gd.bind_eq hs (Gd.ret (.inr ⟨off,s.1,ev,hev,hst,λx hx=>(uJ x hx).2,hofl,rfl⟩))
  ·simp at h8
structure Inv (r:Rm):Prop where
 sz:pD r.bY
 ru:FM r.rules
 on:Bj r.bY r.on
 ll:r.bY.bC.length<=5
 st:∃ ov,MB r.bY r.on r.state ov
 w:w8 r.bY r.watch
 tm:0<=r.time/\r.time<=200000
 lt:∀ x ∈ r.log.gO,x.Time<=r.time
 lc:r.log.gO.length<=250
 ol:r.over.length<=24
 lk:∀ x ∈ r.log.gO,dG x=some 0
def zS (r:Rm) (e:Ev):Option bT:=
 if 1<=e.Time-r.time then (lT r.watch r.state.gK (e.Time-r.time)).map (·.2.2) else some r.watch
structure N5 (r:Rm) (e:Ev) (r':Rm):Prop where
  c:dG e=some 0
  t:r.time<=e.Time
  t':r'.time=e.Time
  ru:r'.rules=r.rules
  he:r'.held=r.held
  k:e.Kind≠xy/\e.Kind≠wJ
  sw:r'.bY.aN=r.bY.aN\/MC r.held r.bY e r'.bY.aN
  hn:e.Kind=BE\/e.Kind=yF->e.Name ∉ r.held
  ln:nm r'.bY=nm r.bY
  wa:zS r e=some r'.watch
  x:∃ on1,(e.Kind≠CZ/\on1=r.on\/e.Kind=CZ/\e.Name ∈ nm r.bY/\e.Name ∉ r.on/\on1=r.on++[e.Name]) /\
    ∃ st1 ov1 ex,MB r'.bY on1 st1 ov1/\kG r'.watch=some ex /\
    ((ov1.filter (λx=>decide (x ∈ ex))=[]/\r'.on=on1/\r'.state=st1/\r'.over=[]/\r'.log.gO=r.log.gO++[e]) \/
     (mn r'.bY on1=some ([],8)/\r'.on=on1/\r'.state=st1/\r'.over=ov1.filter (λx=>decide (x ∈ ex))/\∃ ev,Own wJ e.Time r'.over ev/\r'.log.gO=r.log.gO++[e]++ev) \/
     (∃ off ev,Own xy e.Time off ev/\r'.on=on1.filter (wB off)/\MB r'.bY r'.on r'.state []/\(∀ x ∈ off,x ∈ on1)/\r'.over=[]/\r'.log.gO=r.log.gO++[e]++ev))
theorem w8.PI {n m:Net}{w:bT} (h:w8 n w) (e:m.aI=n.aI):w8 m w:=⟨by rw [h.b,e],by rw [h.f,e],by rw [h.a,e],by rw [h.o,e]⟩
theorem Mb {r:Rm} (h:Inv r) {e:Ev} (hc:dG e=some 0) (ht:r.time<=e.Time) (ht2:0<=e.Time/\e.Time<=200000) (hl:r.log.gO.length<200)
  {c:cU} (hef:OZ r.held r.bY r.on e c) {st:cG}{ov:List BA} (hs:MB c.n c.on st ov) {w:bT} (hw:w8 c.n w) (hwe:zS r e=some w):
  Gd (kH r e (0,c) (st,ov,0) w.lC w.mw w.su w.over w.time) (λq=>q.1=0/\Inv q.2/\N5 r e q.2):=by
 have hll:c.n.bC.length=r.bY.bC.length:=by
  have:=Q6 List.length hef.ln
  rwa [xL,xL] at this
 have h5:=h.ll;have hon:Bj c.n c.on:=by
  rcases hef.on with ⟨_,ho⟩ | ⟨_,hm,hno,ho⟩
  ·rw [ho]; exact ⟨h.on.nd,λx hx=>by rw [hef.ln]; exact h.on.s x hx⟩
  ·rw [ho]
   refine ⟨?_,λx hx=>?_⟩
   ·rw [Rg]
    refine ⟨h.on.nd,by simp,λa ha b hb=>?_⟩
    rw [QZ.1 hb];intro k; rw [k] at ha; exact hno ha
   ·rw [hef.ln]
    rcases QC.1 hx with hx | hx
    ·exact h.on.s x hx
    ·rw [QZ.1 hx]; exact hm
 have hlt:∀ x ∈ r.log.gO++[e],x.Time<=e.Time:=λx hx=>by
  rcases QC.1 hx with hx | hx
  ·exact Int.le_trans (h.lt x hx) ht
  ·rw [QZ.1 hx]; exact S6 _
 have hlk:∀ x ∈ r.log.gO++[e],dG x=some 0:=λx hx=>by
  rcases QC.1 hx with hx | hx
  ·exact h.lk x hx
  ·rw [QZ.1 hx]; exact hc
 unfold kH ny;obtain ⟨k,hk⟩:=append_eq (l:=r.log.gO) (e:=e) (by omega) (λx hx=>Int.le_trans (h.lt x hx) ht) hc
 refine Gd.bind_eq hk ?_;obtain ⟨ex,hex,hexl⟩:=FD hw hs.v.l3;refine Gd.bind_eq hex (Gd.eQ (L8 ex ov (Ro hs.ol (by omega))) (λov' ho'=>?_))
 subst ho';have hol:(ov.filter (λx=>decide (x ∈ ex))).length<=24:=Ro (VX _ _) hs.ol;refine Gd.ite (λhp=>?_) (λhp=>?_)
 ·refine Gd.eQ (GC (r:=aO.mk c.n r.rules c.on r.held w st e.Time (bI.mk (r.log.gO++[e])) []) hef.sz hs.v hs.cn (by simp only; omega) hon ht2 hlt (by simp; omega) hol (λx hx=>hs.om x (Rn.1 hx).1)) (λq hq=>Gd.ret ⟨rfl,?_⟩)
  rcases hq with ⟨hre,ev,hev,rfl⟩ | ⟨off,st',ev,hev,hst,hoff,hofl,rfl⟩
  ·have hel:ev.length<=24:=by rw [hev.len]; exact hol
   refine ⟨⟨hef.sz,h.ru,hon,by simp only; omega,⟨ov,hs⟩,hw,ht2,?_,?_,hol,?_⟩,⟨hc,ht,rfl,rfl,rfl,hef.ks,hef.sw,hef.hn,hef.ln,hwe,c.on,hef.on,st,ov,ex,hs,hex,.inr (.inl ⟨hre,rfl,rfl,rfl,ev,hev,rfl⟩)⟩⟩
   ·intro x hx
    rcases QC.1 hx with hx | hx
    ·exact hlt x hx
    ·exact Int.le_of_eq (hev.k x hx).2
   ·simp only [QE,Qy,VY]; omega
   ·intro x hx
    rcases QC.1 hx with hx | hx
    ·exact hlk x hx
    ·exact hev.c x hx
  ·have hel:=hev.len
   refine ⟨⟨hef.sz,h.ru,hon.filter _,by simp only; omega,⟨[],hst⟩,hw,ht2,?_,?_,by simp,?_⟩,⟨hc,ht,rfl,rfl,rfl,hef.ks,hef.sw,hef.hn,hef.ln,hwe,c.on,hef.on,st,ov,ex,hs,hex,.inr (.inr ⟨off,ev,hev,rfl,hst,hoff,rfl,rfl⟩)⟩⟩
   ·intro x hx
    rcases QC.1 hx with hx | hx
    ·exact hlt x hx
    ·exact Int.le_of_eq (hev.k x hx).2
   ·simp only [QE,Qy,VY,hel]; omega
   ·intro x hx
    rcases QC.1 hx with hx | hx
    ·exact hlk x hx
    ·exact hev.c x hx
 ·have h0:ov.filter (λx=>decide (x ∈ ex))=[]:=by
   simp only [Xc] at hp;exact List.length_eq_zero_iff.1 (Nat.le_zero.1 (Nat.not_lt.1 (λk=>hp (Int.ofNat_lt.2 k))))
  refine Gd.ret ⟨rfl,⟨hef.sz,h.ru,hon,by simp only; omega,⟨ov,hs⟩,hw,ht2,hlt,by simp; omega,by simp,hlk⟩,⟨hc,ht,rfl,rfl,rfl,hef.ks,hef.sw,hef.hn,hef.ln,hwe,c.on,hef.on,st,ov,ex,hs,hex,.inl ⟨h0,rfl,rfl,rfl,rfl⟩⟩⟩
theorem Ei {r:Rm} (h:Inv r) {e:Ev} (he:zW e):Gd (gT r e) (λq=>Inv q.2/\(q.1≠0->q.2=r)/\(q.1=0->N5 r e q.2)):=by
 obtain ⟨ov0,hs0⟩:=h.st;have hV:=hs0.v;have hol:=h.on.len;have h5:=h.ll;have no:∀ k:Int,k≠0->Gd (some (k,r)) (λq:Int×Rm=>Inv q.2/\(q.1≠0->q.2=r)/\(q.1=0->N5 r e q.2)):=λk hk=>Gd.ret ⟨h,λ_=>rfl,λk0=>absurd k0 hk⟩;unfold gT;obtain ⟨k,hk,hkt⟩:=HS he;refine Gd.bind_eq hk (Gd.ite (λk0=>no k (by simpa using k0)) (λk0=>?_))
 have k0:k=0:=by simpa using k0
 subst k0;have ht2:=hkt rfl;refine Gd.ite (λ_=>no _ (by decide)) (λht=>?_)
 have ht:r.time<=e.Time:=by simpa using ht
 have htm:=h.tm;have hlc:=h.lc;refine Gd.eQ (P:=λx=>x=r.log.gO) (by unfold kM; exact Gd.nd (by omega) (Gd.ret rfl)) (λal hal=>?_)
 subst hal;refine Gd.ite (λ_=>no _ (by decide)) (λhl=>Gd.bind_eq (copy_eq hV) (Gd.nd (by omega) (Gd.eQ (Ig h.sz hV h.ru (by omega) he) (λc hce=>?_))))
 have hl:r.log.gO.length<200:=by
  simp at hl; omega
 obtain ⟨f,c⟩:=c;refine Gd.ite (λk0=>no f (by simpa using k0)) (λk0=>?_)
 have k0:f=0:=by simpa using k0
 subst k0;have hef:=hce rfl;refine Gd.eQ (Bp hef.sz c.on) (λs hs=>?_);obtain ⟨st,ov,g⟩:=s;refine Gd.ite (λk0=>no g (by simpa using k0)) (λk0=>?_)
 have k0:g=0:=by simpa using k0
 subst k0;have hst:=hs.2 rfl;have hw0:=h.w.PI hef.br;have hd:i64.wrap (e.Time-r.time)=e.Time-r.time:=bV ⟨by omega,by omega⟩
 refine Gd.ite (λ_=>no _ (by decide)) (λ_=>?_)
 rw [hd];have fin:∀ w,w8 c.n w->zS r e=some w->Gd (kH r e (0,c) (st,ov,0) w.lC w.mw w.su w.over w.time) (λq=>Inv q.2/\(q.1≠0->q.2=r)/\(q.1=0->N5 r e q.2)):=λw hw hwe=>
  (Mb h hk ht ht2 hl hef hst hw hwe).mono (λq hq=>⟨hq.2.1,λk=>absurd hq.1 k,λ_=>hq.2.2⟩)
 refine Gd.ite (λh1=>?_) (λh1=>?_)
 ·obtain ⟨q,hq,hqw⟩:=K0 h.w hV hs0.fl hs0.ff (e.Time-r.time)
  refine Gd.bind_eq hq (fin q.2.2 (hqw.PI hef.br) ?_);unfold zS;rw [Qu (Qr h1),hq]
  rfl
 ·refine fin r.watch hw0 ?_
  unfold zS;rw [Qs (QB h1)]
structure w7 (s:aX):Prop where
 n:pD s.bN
 r:∀ r ∈ s.nf,Bo r
structure MX (s:aX) (r:Rm):Prop where
 n:r.bY=s.bN
 on:r.on=nm s.bN
 he:r.held=[]
 w:qa s.bN=some (some r.watch,0)
 ti:r.time=0
 lo:r.log.gO=[]
 ov:r.over=[]
theorem Nx {s:aX} (hz:w7 s):Gd (oc s) (λq=>(∃ e,e≠0/\q=(none,e)/\kD s=some e)\/∃ r,q=(some r,0)/\Inv r/\MX s r):=by
 suffices h:Gd (kD s) (λe=>e=0->cA s.bN=some 0/\yZ s.nf/\s.bN.bC.length<=5/\∃ st ov,eB s.bN (nm s.bN)=some (st,ov,0)/\MB s.bN (nm s.bN) st ov) by
  obtain ⟨e,he,hok⟩:=h;unfold oc;refine Gd.bind_eq he (Gd.ite (λh=>Gd.ret (.inl ⟨e,by simpa using h,rfl,he⟩)) (λh=>?_))
  have h0:e=0:=by simpa using h
  subst h0;obtain ⟨hc,hru,h5,st,ov,hst,hsg⟩:=hok rfl;have hV:=hsg.v;obtain ⟨w,hw,hwo⟩:=L6 hc hV;have hrl:=hru.1;refine Gd.bind_eq (copy_eq hV) (Gd.nd (by omega) (Gd.bind_eq (As _ hV.l5) ?_))
  refine Gd.kL (λm i (l:List Dt)=>i+m=s.nf.length/\l=s.nf) ?_ ?_ ((s.nf.length:Int):Int).toNat 0 s.nf ⟨by omega,rfl⟩
  ·rintro m i l nx ⟨hi,rfl⟩ hnx
   have hlt:i<s.nf.length:=by omega
   unfold vP;refine Gd.iH hlt (Gd.nd ?_ (Gd.iH hlt (hnx _ ⟨by omega,?_⟩)))
   ·have hco:=(hru.2 _ (QY hlt)).2
    obtain ⟨f,hf,hfk⟩:=wK s.nf[i].vY (hz.r _ (QY hlt)).2;rw [hco] at hf;have:=(hfk (Qp hf).symm).len;omega
   ·exact Vd hlt
  ·rintro i l ⟨_,rfl⟩
   refine Gd.bind_eq hw (Gd.opt (λk=>by simp at k) (λw' hw'=>?_))
   obtain rfl:=Qp hw';refine Gd.bind_eq hst (Gd.ret (.inr ⟨_,rfl,⟨hz.n,⟨hru,hz.r⟩,⟨Fg hV,λx hx=>hx⟩,h5,⟨ov,hsg⟩,hwo,by simp,by simp [lB],by simp [lB],by simp,by simp [lB]⟩,⟨rfl,rfl,rfl,hw,rfl,rfl,rfl⟩⟩))
 unfold kD;obtain ⟨e,he,hok⟩:=Vv s.bN hz.n;refine Gd.bind_eq he (Gd.ite (λh=>Gd.ret (λk=>absurd k (by simpa using h))) (λh=>?_))
 have h0:e=0:=by simpa using h
 subst h0;have hV:=hok rfl;refine Gd.eQ (C_ s.nf hz.r) (λf hf=>Gd.ite (λh=>Gd.ret (λk=>absurd k (by simpa using h))) (λh=>?_))
 have hru:=hf.1 (by simpa using h)
 refine Gd.ite (λ_=>Gd.ret (λh=>by simp at h)) (λh5=>Gd.bind_eq (As _ hV.l5) (Gd.eQ (P:=λq=>(q.2.2=0->MB s.bN (nm s.bN) q.1 q.2.1)/\eB s.bN (nm s.bN)=some q) ?_ (λq hq=>Gd.ret (λh0=>⟨he,hru,by have:=QB h5; omega,q.1,q.2.1,?_,hq.1 h0⟩))))
 ·obtain ⟨q,hq,_,hs⟩:=Bp hz.n (nm s.bN)
  exact ⟨q,hq,hs,hq⟩
 ·rw [hq.2]
  obtain ⟨a,b,c⟩:=q;simp only at h0;rw [h0]
theorem Nd {s:aX} (hz:w7 s):∃ s',eX s=some s'/\w7 s':=by
 suffices h:Gd (eX s) w7 by
  obtain ⟨r,hr,h⟩:=h;exact ⟨r,hr,h⟩
 have hslc:∀ {α:Type} (l:List α) (k:Nat) (x:α),x ∈ r8 l 0 k->x ∈ l:=λl k x hx=>by
  unfold r8 at hx;exact SX (by simpa using hx)
 unfold eX pG;refine Gd.eQ (P:=λn=>pD n) (Gd.nd (by omega) (Gd.nd (by omega) (Gd.ret ⟨hz.n.nd,hz.n.sw,hz.n.br,λx hx=>hz.n.gn x (hslc _ _ x hx),λx hx=>hz.n.ld x (hslc _ _ x hx),hz.n.st⟩))) (λn hn=>Gd.nd (by omega) (Gd.ret ⟨?_,hz.r⟩))
 exact ⟨hn.nd,hn.sw,hn.br,hn.gn,λx hx=>hn.ld x (hslc _ _ x hx),hn.st⟩
theorem vV:iX=some true:=by kernel_rfl
theorem Ko {r:Rm} (h:Inv r):lU r=some r.bY:=by
 obtain ⟨ov,hs⟩:=h.st;unfold lU;rw [copy_eq hs.v]; rfl
def MM (r:Rm):List BA:=(nm r.bY).filter (λx=>decide (x ∈ r.on))
theorem NB (r:Rm) (x:BA):mq x r=some (!decide (x ∈ r.on)):=by
 unfold mq;rw [rU];simp
theorem Ku (r:Rm) (A:List BA) (hA:A.length<=1000):Gd (eE A r) (λq=>q=A.filter (λx=>decide (x ∈ r.on))):=
 BL (λx=>mq x r) (λx=>decide (x ∈ r.on)) (NB r) ⟨#[]⟩ A (by omega)
theorem Ht {r:Rm} (h:Inv r):eR r=some (MM r):=by
 obtain ⟨ov,hs⟩:=h.st;have h5:=hs.v.l5;rw [<- Gd.eq];unfold eR;refine Gd.bind_eq (As _ h5) (Gd.eQ (Ku r _ (by rw [xL]; omega)) (λq hq=>Gd.ret ?_))
 rw [hq]; rfl
theorem It {s:BA} (h:gQ s=some true):s.size<=8:=by
 by_cases hs:s.size<=maxLen
 ·have key:Gd (gQ s) (λb=>b=true->s.size<=8):=by
   unfold gQ;refine Gd.nd hs (Gd.dI (λ_ _ _=>True) (λi y ys s nx _ hn=>?_) (λ_ _ _=>Gd.ret (λk=>?_)) _ _ _ Qk)
   ·unfold qM
    exact Gd.ite (λ_=>Gd.ret (λk=>by cases k)) (λ_=>hn _ Qk)
   ·simp at k; omega
  obtain ⟨b,hb,hk⟩:=key;rw [h] at hb;cases hb;exact hk rfl
 ·unfold gQ cZ at h
  rw [Qs hs] at h;cases h
theorem Iw {s:BA} (h:bK s=some true):s.size<=8:=by
 by_cases hs:s.size<=maxLen
 ·have key:Gd (bK s) (λb=>b=true->s.size<=8):=by
   unfold bK;refine Gd.nd hs (Gd.dI (λ_ _ _=>True) (λi y ys s nx _ hn=>?_) (λ_ _ _=>Gd.ret (λk=>?_)) _ _ _ Qk)
   ·unfold n_
    exact Gd.ite (λ_=>Gd.ret (λk=>by cases k)) (λ_=>hn _ Qk)
   ·simp at k; omega
  obtain ⟨b,hb,hk⟩:=key;rw [h] at hb;cases hb;exact hk rfl
 ·unfold bK cZ at h
  rw [Qs hs] at h;cases h
structure PA (e:Ev):Prop where
 t:0<=e.Time/\e.Time<=200000
 v:-1000000<=e.Value/\e.Value<=1000000
 k:e.Kind.size<=8
 n:e.Name.size<=8
theorem Of {e:Ev} (h:dG e=some 0):PA e:=by
 unfold dG at h
 split at h
 ·simp at h
 rename_i ht
 cases hk:gQ e.Kind with
 | none=>rw [hk] at h; cases h
 | some b=>
  rw [hk] at h;cases b with
  | false=>simp at h
  | true=>
   cases hn:bK e.Name with
   | none=>rw [hn] at h; simp at h
   | some c=>
    rw [hn] at h;cases c with
    | false=>simp at h
    | true=>
     simp at h ht;exact ⟨by omega,by omega,It hk,Iw hn⟩
theorem C1 (u:Nat) (h:u<10 ^ 20):(Lib.decDigits u).length<=20:=by
 rw [VK];have key:∀ (k u:Nat),u<10 ^ (k+1)->Lib.nDigits u<=k+1:=by
  intro k
  induction k with
  | zero=>intro u h; rw [Lib.nDigits_small (by simpa using h)]; omega
  | succ k ih=>
   intro u h
   by_cases h10:u<10
   ·rw [Lib.nDigits_small h10]; omega
   ·rw [Lib.nDigits_big h10]
    have:=ih (u / 10) (by rw [Wo] at h; omega)
    omega
 exact key 19 u h
theorem B0 {n:Int} (h:-9223372036854775808<=n/\n<=9223372036854775807):(my n).size<=21:=by
 show (Lib.itoa n).toArray.size<=21;rw [S1];unfold Lib.itoa
 split
 ·have:=C1 n.natAbs (by omega); simp; omega
 ·have:=C1 n.toNat (by omega); omega
theorem LG {e:Ev} (h:PA e):Gd (q6 e) (λs=>s.size<=1000):=by
 have h1:=B0 (n:=e.Time) (by have:=h.t; omega)
 have h2:=B0 (n:=e.Value) (by have:=h.v; omega)
 have z3:(⟨#[32]⟩:Qi).size=1:=rfl;have k1:=h.k; have k2:=h.n; have ht:=h.t; have hv:=h.v
 unfold q6;refine Gd.nd (by omega) (Gd.nd ?_ (Gd.nd ?_ (Gd.nd ?_ (Gd.nd ?_ (Gd.nd ?_ (Gd.nd (by omega) (Gd.nd ?_ (Gd.ret ?_))))))))
 all_goals simp only [Cz,z3,maxLen]; omega
theorem F5 (n:Int) (s:BA) (h:s.size<=1000):Gd (pK n s) (λ_=>True):=by
 have z:(⟨#[10]⟩:Qi).size=1:=rfl;unfold pK;refine Gd.nd (by rw [z]; simp only [maxLen]; omega) (Gd.nd (by rw [Cz,z]; simp only [maxLen]; omega) (Gd.dI (λ_ _ _=>True) (λi y ys s nx _ hn=>hn _ Qk) (λ_ _ _=>Gd.ret Qk) _ _ _ Qk))
theorem JN {r:Rm} (h:Inv r):∃ d,dH r=some d:=by
 suffices h:Gd (dH r) (λ_=>True) by
  obtain ⟨d,hd,_⟩:=h;exact ⟨d,hd⟩
 unfold dH mB;refine Gd.eQ (P:=λ_=>True) (Gd.dI (λ_ (ys:List Ev) _=>∀ y ∈ ys,dG y=some 0) (λi y ys s nx hI hn=>?_) (λ_ _ _=>Gd.ret Qk) _ _ _ h.lk) (λ_ _=>Gd.ret Qk);unfold nG;refine Gd.eQ (LG (Of (hI y (Qq ..)))) (λs hs=>Gd.eQ (F5 _ s hs) (λd _=>hn _ (λz hz=>hI z (Qw _ hz))))
def IZ (x:BA) (b:Bool) (e:Ev):Bool:=if e.Name=x/\e.Kind=CZ then true else if e.Name=x/\e.Kind=xy then false else b
def yL (l:List Ev) (x:BA):Bool:=l.foldl (IZ x) true
theorem BY (l m:List Ev) (x:BA):yL (l++m) x=m.foldl (IZ x) (yL l x):=List.foldl_append
def CX (r:Rm):Prop:=∀ x ∈ nm r.bY,x ∈ r.on↔yL r.log.gO x=true
theorem Dg (x:BA) {t:Int}:∀ {ev:List Ev}{names:List BA}{b:Bool},Own wJ t names ev->ev.foldl (IZ x) b=b
 | [],_,_,_=>rfl
 | e::ev,names,b,h=>by
  have hk:=(h.k e (Qq ..)).1;have h1:IZ x b e=b:=by
   unfold IZ;rw [Qs (λk=>by rw [hk] at k; exact absurd k.2 (by decide)),Qs (λk=>by rw [hk] at k; exact absurd k.2 (by decide))]
  rw [Um,h1];exact Dg x (names:=ev.map (·.Name)) ⟨rfl,λz hz=>h.k z (Qw _ hz),λz hz=>h.c z (Qw _ hz)⟩
theorem Fl (x:BA) {t:Int}:∀ {ev:List Ev}{names:List BA}{b:Bool},Own xy t names ev->ev.foldl (IZ x) b=(!decide (x ∈ names) && b)
 | [],names,b,h=>by
  obtain rfl:names=[]:=by have:=h.n; simpa using this.symm
  simp
 | e::ev,names,b,h=>by
  have hk:=(h.k e (Qq ..)).1;have hn:=h.n;rw [SR] at hn;have h1:IZ x b e=(!decide (e.Name=x) && b):=by
   unfold IZ;rw [Qs (λk=>by rw [hk] at k; exact absurd k.2 (by decide))]
   by_cases hx:e.Name=x
   ·rw [Qu ⟨hx,hk⟩]; simp [hx]
   ·rw [Qs (λk=>hx k.1)]; simp [hx]
  rw [Um,h1,Fl x (names:=ev.map (·.Name)) ⟨rfl,λz hz=>h.k z (Qw _ hz),λz hz=>h.c z (Qw _ hz)⟩,<- hn]
  by_cases hx:e.Name=x
  ·simp [hx]
  ·have hx':¬ x=e.Name:=λk=>hx k.symm
   simp [hx,hx']
theorem Gl {r r':Rm}{e:Ev} (h:CX r) (hd:N5 r e r'):CX r':=by
 intro x hx;rw [hd.ln] at hx;obtain ⟨on1,hon,st1,ov1,ex,_,_,hc⟩:=hd.x;have h1:x ∈ on1↔yL (r.log.gO++[e]) x=true:=by
  rw [BY,Um,List.foldl_nil];have hb:=h x hx;unfold IZ;rcases hon with ⟨hk,rfl⟩ | ⟨hk,hm,hno,rfl⟩
  ·rw [Qs (λk=>hk k.2),Qs (λk=>hd.k.1 k.2)]
   exact hb
  ·by_cases hx:e.Name=x
   ·rw [Qu ⟨hx,hk⟩]; simp [hx]
   ·rw [Qs (λk=>hx k.1),Qs (λk=>hx k.1),<- hb,QC]
    have hx':¬ x=e.Name:=λk=>hx k.symm;simp [hx']
 rcases hc with ⟨_,ho,_,_,hl⟩ | ⟨_,ho,_,_,ev,hev,hl⟩ | ⟨off,ev,hev,ho,_,_,_,hl⟩
 ·rw [ho,hl]; exact h1
 ·rw [ho,hl,h1,BY _ ev,Dg x hev]
 ·rw [ho,hl,Rn,h1,BY _ ev,Fl x hev,R6]
  unfold wB;exact And.comm
def Ja:Rm->List Ev->Rm->Prop
 | r,[],r'=>r'=r
 | r,e::es,r'=>∃ r1,gT r e=some (0,r1)/\Ja r1 es r'
theorem Ja.add:∀ {es:List Ev}{r0 r r':Rm}{e:Ev},Ja r0 es r->gT r e=some (0,r')->Ja r0 (es++[e]) r'
 | [],_,_,_,_,h,hs=>by
  obtain rfl:=h;exact ⟨_,hs,rfl⟩
 | _::_,_,_,_,_,⟨r1,h1,h⟩,hs=>⟨r1,h1,Ja.add h hs⟩
theorem Nz {r:Rm}{x:BA} (hx:x ∈ nm r.bY):x ∈ MM r↔x ∈ r.on:=by
 unfold MM;simp [hx]
theorem NA {r:Rm} (hV:pz r.bY):Bj r.bY (MM r):=
 ⟨(Fg hV).sublist List.filter_sublist,λx hx=>(Rn.1 hx).1⟩
theorem Mi {r:Rm} (h:Inv r):lI r.bY (MM r)=some (qW r.bY r.on,0):=by
 obtain ⟨ov,hs⟩:=h.st;rw [A0 hs.v ((NA hs.v).N0 hs.cn hs.v.l5),AK (λx hx=>Nz hx)]
theorem KO {r:Rm} (h:Inv r):pj r=some r.state:=by
 obtain ⟨ov,hs⟩:=h.st;have h1:=hs.al;have h2:=hs.fl;have h3:=hs.v.l3;rw [<- Gd.eq];unfold pj;exact Gd.nd (by omega) (Gd.nd (by omega) (Gd.ret rfl))
theorem Ma (l:List Ev):r8 l 0 ((min (l.length:Int) 8:Int).toNat)=l.take 8:=by
 have:((min (l.length:Int) 8:Int)).toNat=min l.length 8:=by omega
 rw [this];unfold r8;simp [List.take_eq_take_iff];omega
structure O7 (x:aV) (i:Nat) (r:Rm):Prop where
 inv:Inv r
 h:r.held=[x.Name]
 s:r.bY.aN[i]? = some x
theorem GG {σ ρ:Type}{s:aX} (hz:w7 s) {l:List Ev} (hl:∀ e ∈ l,zW e) {Q:ρ->Prop}{n1:aX->Option Rm×Int->Option ρ}{n2 n3:ρ}
  {body:Nat->Ev->σ->(σ->Option ρ)->Option ρ}{k:σ->Option ρ}{ini:Rm->σ} (I:List Ev->σ->Prop)
  (hno:∀ s' e,eX s=some s'->oc s'=some (none,e)->kD s'=some e->Gd (n1 s' (none,e)) Q)
  (h0:∀ s' r,w7 s'->eX s=some s'->oc s'=some (some r,0)->Inv r->MX s' r->I (l.take 8) (ini r))
  (hb:∀ i y ys v nx,zW y->I (y::ys) v->(∀ v',I ys v'->Gd (nx v') Q)->Gd (body i y v nx) Q) (hk:∀ v,I [] v->Gd (k v) Q):
  Gd ((eX s).bind λa=>(oc a).bind λb=>Am b.1 (if !decide (b.2=0) then n1 a b else some n2) (λsp=>if !decide (b.2=0) then some n3 else
   (cZ (0<=(min (l.length:Int) 8)/\(min (l.length:Int) 8)<=(l.length:Int)) (dI body k 0 (r8 l 0 ((min (l.length:Int) 8:Int).toNat)) (ini sp))))) Q:=by
 obtain ⟨s',hs',hz'⟩:=Nd hz;refine Gd.bind_eq hs' ?_;obtain ⟨q,hq,hc⟩:=Nx hz';refine Gd.bind_eq hq ?_;rcases hc with ⟨e,he,rfl,hck⟩ | ⟨r,rfl,hi,hn⟩
 ·exact Gd.opt (λ_=>Gd.ite (λ_=>hno s' e hs' hq hck) (λh=>by simp [he] at h)) (λ_ h=>by simp at h)
 ·refine Gd.opt (λh=>by simp at h) (λr' hr'=>?_)
  obtain rfl:=Qp hr';refine Gd.ite (λh=>by simp at h) (λ_=>Gd.nd (by omega) ?_)
  rw [Ma];exact Gd.dI (λ_ ys v=>(∀ y ∈ ys,zW y)/\I ys v) (λi y ys v nx h hn=>hb i y ys v nx (h.1 y (Qq ..)) h.2 (λv' h'=>hn v' ⟨λz hz=>h.1 z (Qw _ hz),h'⟩))
   (λ_ v h=>hk v h.2) _ _ _ ⟨λy hy=>hl y (SX hy),h0 s' r hz' hs' hq hi hn⟩
theorem Nf {r:Rm} (h:Inv r) (e:Ev) (got:Int):jF r e got=some true:=by
 obtain ⟨ov,hs⟩:=h.st;obtain ⟨p,hi,hv⟩:=hs.P2;rw [<- Gd.eq];unfold jF;exact Gd.ite (λ_=>Gd.ret rfl) (λ_=>Gd.bind_eq (Ko h) (Gd.bind_eq (Ht h) (Gd.bind_eq (Mi h) (Gd.bind_eq hi (Gd.ite (λ_=>Gd.ite (λ_=>Gd.bind_eq (KO h) (Gd.bind_eq hv (Gd.ret (by simp)))) (λk=>by simp at k)) (λk=>by simp at k))))))
theorem Bl (s:aX) (hz:w7 s) (l:List Ev) (hl:∀ e ∈ l,zW e):iF s l=some true:=by
 rw [<- Gd.eq];unfold iF;refine Gd.bind_eq vV (Gd.ite (λ_=>Gd.eQ (P:=λb=>b=true) ?_ (λb hb=>Gd.ret hb)) (λh=>by cases h))
 unfold eL;refine GG (n1:=λa b=>(kD a).bind λc=>some (decide (c=b.2))) hz hl (λ_ r=>Inv r) (λs' e _ _ hc=>Gd.bind_eq hc (Gd.ret (by simp))) (λ_ _ _ _ _ hi _=>hi) (λi y ys r nx hy hi hn=>?_) (λ_ _=>Gd.ret rfl)
 unfold fM;exact Gd.eQ (Ei hi hy) (λq hq=>Gd.bind_eq (Nf hq.1 _ _) (Gd.ite (λh=>by simp at h) (λ_=>hn _ hq.1)))
theorem M4 (x:aG) (i:Nat) (y:Ev) (b:Bool) (nx:Bool->Option Bool):gF x i y b nx=nx (IZ x.Name b y):=by
 unfold gF gH gG IZ
 by_cases h1:y.Name=x.Name
 ·by_cases h2:y.Kind=CZ
  ·simp [h1,h2]
  ·by_cases h3:y.Kind=xy
   ·simp [h1,h3]
   ·simp [h1,h2,h3]
 ·simp [h1]
theorem Ou {Q:Bool->Prop} (x:aG) {K:Bool->Option Bool} (log:List Ev) (hk:Gd (K (yL log x.Name)) Q):Gd (dI (λk y s n=>gF x k y s n) K 0 log true) Q:=by
 refine Gd.dI (λ_ ys s=>ys.foldl (IZ x.Name) s=yL log x.Name) (λi y ys s nx hI hn=>?_) (λi s hI=>?_) _ _ _ rfl
 ·rw [M4]
  exact hn _ hI
 ·rw [List.foldl_nil] at hI
  rw [hI]; exact hk
theorem Nv {r:Rm} (h:Inv r) (hl:CX r) (e:Ev) (got:Int):jG r e got=some true:=by
 obtain ⟨ov,hs⟩:=h.st;have h5:=hs.v.l5;have hlc:=h.lc;rw [<- Gd.eq];unfold jG;have hlog:na r=some r.log.gO:=by
  rw [<- Gd.eq];unfold na kM;exact Gd.eQ (P:=λx=>x=r.log.gO) (Gd.nd (by omega) (Gd.ret rfl)) (λ_ h=>Gd.ret h)
 have hon:MM r=(nm r.bY).filter (λx=>yL r.log.gO x):=by
  unfold MM;refine List.filter_congr (λx hx=>?_);have:=hl x hx
  by_cases hb:x ∈ r.on
  ·simp [hb,this.1 hb]
  ·have hf:yL r.log.gO x=false:=by
    cases e:yL r.log.gO x
    ·rfl
    ·exact absurd (this.2 e) hb
   simp [hb,hf]
 have hlen:∀ s t:List BA,s++t=(nm r.bY).filter (λx=>yL r.log.gO x)->s.length<=12:=λs t k=>by
  have:=Q6 List.length k;have h2:=VX (λx=>yL r.log.gO x) (nm r.bY);rw [QE] at this;rw [xL] at h2;omega
 refine Gd.bind_eq (Ht h) (Gd.bind_eq hlog (Gd.bind_eq (Ko h) ?_));refine Gd.dI (λ_ (ys:List aG) (s:List BA)=>s++(ys.map (·.Name)).filter (λx=>yL r.log.gO x)=(nm r.bY).filter (λx=>yL r.log.gO x)) (λi y ys s nx hI hn=>?_) (λi s hI=>?_) _ _ _ rfl
 ·unfold l8 gE
  rw [SR] at hI;refine Ou y r.log.gO (Gd.ite (λhb=>?_) (λhb=>?_))
  ·rw [List.filter_cons_of_pos (by simpa using hb)] at hI
   have:=hlen (s++[y.Name]) ((ys.map (·.Name)).filter (λx=>yL r.log.gO x)) (by rw [<- hI]; simp)
   rw [QE] at this;exact Gd.nd (by omega) (hn (s++[y.Name]) (by rw [<- hI]; simp))
  ·rw [List.filter_cons_of_neg (by simp [hb])] at hI
   exact hn _ hI
 ·rw [UA,List.filter_nil,Q5] at hI
  rw [hI,hon];exact Gd.bind_eq (seq_eq _) (Gd.ret rfl)
theorem Iu {s:aX}{r:Rm} (h:MX s r):CX r:=λx hx=>by
 rw [h.on,h.lo];rw [h.n] at hx;simp [hx,yL]
theorem Bn (s:aX) (hz:w7 s) (l:List Ev) (hl:∀ e ∈ l,zW e):iG s l=some true:=by
 rw [<- Gd.eq];unfold iG;refine Gd.bind_eq vV (Gd.ite (λ_=>Gd.eQ (P:=λb=>b=true) ?_ (λb hb=>Gd.ret hb)) (λh=>by cases h))
 unfold eM;refine GG (n1:=λa b=>(kD a).bind λc=>some (decide (c=b.2))) hz hl (λ_ r=>Inv r/\CX r) (λs' e _ _ hc=>Gd.bind_eq hc (Gd.ret (by simp))) (λ_ _ _ _ _ hi h=>⟨hi,Iu h⟩) (λi y ys r nx hy hi hn=>?_) (λ_ _=>Gd.ret rfl)
 unfold fN;refine Gd.eQ (Ei hi.1 hy) (λq hq=>?_);have hlo:CX q.2:=by
  by_cases h0:q.1=0
  ·exact Gl hi.2 (hq.2.2 h0)
  ·rw [hq.2.1 h0]; exact hi.2
 exact Gd.bind_eq (Nv hq.1 hlo _ _) (Gd.ite (λh=>by simp at h) (λ_=>hn _ ⟨hq.1,hlo⟩))
def Same (r:Rm) (d t:Int) (on:List BA):Prop:=dH r=some d/\t=r.time/\on=MM r
theorem KD {r:Rm} (h:Inv r) (e:Ev) (got:Int) (c:Bool) (d t:Int) (on:List BA) (ht:got=0->r.time=e.Time) (hs:got≠0->c=false->Same r d t on):
  Gd (g_ r e got c ⟨d⟩ t on) (λq=>q.1=true/\Same r q.2.2.1.n q.2.2.2.1 q.2.2.2.2):=by
 obtain ⟨d',hd⟩:=JN h;have fin:Gd ((dH r).bind λa=>(eR r).bind λb=>some (true,false,(⟨a⟩:Du),(bJ r),b)) (λq=>q.1=true/\Same r q.2.2.1.n q.2.2.2.1 q.2.2.2.2):=
  Gd.bind_eq hd (Gd.bind_eq (Ht h) (Gd.ret ⟨rfl,hd,rfl,rfl⟩))
 have fin2:Gd (if decide (got=0) then (if !decide ((bJ r)=e.Time) then (some (false,c,(⟨d⟩:Du),t,on)) else ((dH r).bind λa=>(eR r).bind λb=>some (true,false,(⟨a⟩:Du),(bJ r),b)))
   else ((dH r).bind λa=>(eR r).bind λb=>some (true,false,(⟨a⟩:Du),(bJ r),b))) (λq=>q.1=true/\Same r q.2.2.1.n q.2.2.2.1 q.2.2.2.2):=
  Gd.ite (λh0=>Gd.ite (λk=>by simp [bJ,ht (by simpa using h0)] at k) (λ_=>fin)) (λ_=>fin)
 unfold g_;refine Gd.ite (λ_=>fin2) (λh0=>Gd.ite (λ_=>fin2) (λhc=>?_));obtain ⟨h1,h2,h3⟩:=hs (by simpa using h0) hc
 refine Gd.bind_eq h1 (Gd.ite (λ_=>Gd.ite (λ_=>Gd.bind_eq (Ht h) ?_) (λk=>?_)) (λk=>?_))
 ·rw [h3]
  exact Gd.bind_eq (seq_eq _) (Gd.ite (λk=>by simp at k) (λ_=>by rw [<- h3]; exact fin2))
 ·simp [bJ,h2] at k
 ·simp at k
theorem z_ (s:aX) (hz:w7 s) (l:List Ev) (hl:∀ e ∈ l,zW e):gB s l=some true:=by
 rw [<- Gd.eq];unfold gB;refine Gd.bind_eq vV (Gd.ite (λ_=>Gd.eQ (P:=λb=>b.1=true) ?_ (λb hb=>Gd.ret hb)) (λh=>by cases h))
 unfold eH;refine GG (σ:=Rm×Bool×Int×Int×List BA) (n1:=λa b=>(kD a).bind λc=>some ((decide (c=b.2)),true,(⟨0⟩:Du),(0:Int),([]:List BA))) hz hl (λ_ v=>Inv v.1/\(v.2.1=false->Same v.1 v.2.2.1 v.2.2.2.1 v.2.2.2.2)) (λs' e _ _ hc=>Gd.bind_eq hc (Gd.ret (by simp)))
  (λ_ _ _ _ _ hi _=>⟨hi,λk=>by cases k⟩) (λi y ys v nx hy hi hn=>?_) (λ_ _=>Gd.ret rfl)
 unfold fC;refine Gd.eQ (Ei hi.1 hy) (λq hq=>?_);refine Gd.eQ (KD hq.1 _ _ _ _ _ _ (λh0=>(hq.2.2 h0).t') (λh0 hc=>by rw [hq.2.1 h0]; exact hi.2 hc)) (λp hp=>Gd.ite (λk=>by simp [hp.1] at k) (λ_=>hn _ ⟨hq.1,λ_=>hp.2⟩))
end Go.Sim
