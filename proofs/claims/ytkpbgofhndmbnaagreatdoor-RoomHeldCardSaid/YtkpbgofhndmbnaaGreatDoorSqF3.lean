/-
  The proof, part F3.
-/
import Derived.Test.YtkpbgofhndmbnaaGreatDoorSqF2
set_option linter.unusedVariables false
set_option linter.unusedSimpArgs false
set_option linter.unusedSectionVars false
set_option linter.unnecessarySimpa false
namespace Go.Sim
open Go
open _root_.Go.IntKind (i64 u64 u32 u8)
theorem Km (off:List BA) (x:BA):gU x off=some (!vG off x):=by
 unfold gU vG;rw [rU];simp
theorem Kn (off A:List BA) (hA:A.length<=1000):Gd (dI A off) (λr=>r=A.filter (vG off)):=
 B5 (λx=>gU x off) (vG off) (Km off) _ A (by omega)
theorem Kr (ex:List BA) (x:BA):jU x ex=some (!decide (x ∈ ex)):=by
 unfold jU;rw [rU];simp
theorem Ks (ex A:List BA) (hA:A.length<=1000):Gd (dQ A ex) (λr=>r=A.filter (λx=>decide (x ∈ ex))):=
 B5 (λx=>jU x ex) (λx=>decide (x ∈ ex)) (Kr ex) _ A (by omega)
structure A8 (n:Net) (on:List BA):Prop where
 nd:on.Nodup
 s:∀ x ∈ on,x ∈ nm n
theorem A8.len {n:Net}{on:List BA} (h:A8 n on):on.length<=n.aY.length:=by
 have:=DI on (nm n) h.nd h.s;rw [yQ] at this;exact this
theorem A8.MG {n:Net}{on:List BA} (h:A8 n on) (hc:bT n=some 0) (hl:n.aY.length<=12):dV n on=some 0:=
 Hj hc on (P0 h.len (by omega)) h.nd h.s
theorem A8.filter {n:Net}{on:List BA} (h:A8 n on) (p:BA->Bool):A8 n (on.filter p):=
 ⟨h.nd.sublist List.filter_sublist,λx hx=>h.s x ((P6.1 hx).1)⟩
theorem D1 {n:Net}{a b:List BA} (h:∀ x ∈ nm n,x ∈ a↔x ∈ b):qh n a=qh n b:=by
 unfold qh
 congr 1
 refine List.filter_congr (λx hx=>?_);unfold Dt;have:=h x.Name (PL.2 ⟨x,hx,rfl⟩);exact Ut.2 this
structure Own (k:BA) (t:Int) (names:List BA) (l:List Ev):Prop where
 n:l.map (·.Name)=names
 k:∀ e ∈ l,e.Kind=k/\e.Time=t
 c:∀ e ∈ l,dU e=some 0
theorem Own.add {k:BA}{t v:Int}{names:List BA}{l:List Ev} (h:Own k t names l) (s:BA) (hc:dU (aI.mk t k s v)=some 0):Own k t (names++[s]) (l++[aI.mk t k s v]):=
 ⟨by simp [h.n],λe he=>by
  rcases Pa.1 he with he | he
  ·exact h.k e he
  ·rw [PA.1 he]; exact ⟨rfl,rfl⟩,λe he=>by
  rcases Pa.1 he with he | he
  ·exact h.c e he
  ·rw [PA.1 he]; exact hc⟩
theorem Own.len {k:BA}{t:Int}{names:List BA}{l:List Ev} (h:Own k t names l):l.length=names.length:=by
 rw [<- h.n]; simp
theorem E4 {r:Rm} (hz:oL r.bX) (hV:oA r.bX) (hc:bT r.bX=some 0) (hl:r.bX.aY.length<=5) (hon:A8 r.bX r.on)
  (ht:0<=r.time/\r.time<=200000) (hlog:∀ x ∈ r.log.jL,x.Time<=r.time) (hll:r.log.jL.length<=200) {over:List BA} (ho:over.length<=24) (hov:∀ x ∈ over,∃ b ∈ r.bX.aG,b.Name=x):
  Gd (mG r over) (λr'=>
   (lJ r.bX r.on=some ([],8)/\∃ ev,Own wJ r.time over ev/\r'=aQ.mk r.bX r.rules r.on r.held r.watch r.state r.time (bD.mk (r.log.jL++ev)) over) \/
   ∃ off st ev,Own y8 r.time off ev/\K_ r.bX (r.on.filter (vG off)) st []/\(∀ x ∈ off,x ∈ r.on)/\off.length<=5 /\
    r'=aQ.mk r.bX r.rules (r.on.filter (vG off)) r.held r.watch st r.time (bD.mk (r.log.jL++ev)) r.over):=by
 have h5:=hV.l5;have hol:=hon.len;have hck:=hon.MG hc h5;have hnl:=yQ r.bX;obtain ⟨⟨off,e⟩,hre,hrs⟩:=Gf hz hV r.on hck (by omega) _ rfl
 unfold mG;refine Gd.bind_eq hre (Gd.ite (λh=>?_) (λh=>?_))
 ·rcases hrs with ⟨h0,_⟩ | ⟨h8,_⟩
  ·exact absurd h0 (by simpa using h)
  refine Gd.dR (λi (ys:List BA) (s:List Ev)=>i+ys.length=over.length/\over.drop i=ys/\∃ ev,Own wJ r.time (over.take i) ev/\s=r.log.jL++ev) ?_ ?_ over 0 r.log.jL ⟨by simp,rfl,[],⟨by simp,by simp,by simp⟩,by simp⟩
  ·rintro i y ys s nx ⟨hi,hd,ev,hev,rfl⟩ hnx
   simp only [O6] at hi;have hlt:i<over.length:=by omega
   have hd':=hd;rw [Px hlt] at hd';have hy:over[i]=y:=(TG hd').1;have hel:=hev.len;unfold po;obtain ⟨b,hb,hbn⟩:=hov y (hy▸Pt hlt);have hac:dU (aI.mk r.time wJ y 0)=some 0:=zT ht E1 (by rw [<- hbn]; exact (hV.vb b hb).1) (by omega)
   obtain ⟨k,hk⟩:=append_eq (l:=r.log.jL++ev) (e:=aI.mk r.time wJ y 0) (by simp only [Pg,hel,Pn]; omega) (by
    intro x hx;rcases Pa.1 hx with hx | hx
    ·exact hlog x hx
    ·exact Int.le_of_eq (hev.k x hx).2) hac
   refine Gd.bind_eq hk (hnx _ ⟨by omega,(TG hd').2,ev++[aI.mk r.time wJ y 0],?_,by simp⟩)
   rw [Po hlt,hy];exact hev.add y hac
  ·rintro i s ⟨hi,hd,ev,hev,rfl⟩
   rw [Pb (by simp at hi; omega)] at hev
   exact Gd.ret (.inl ⟨by rw [hre,h8],ev,hev,rfl⟩)
 ·have h0:e=0:=by simpa using h
  subst h0;rcases hrs with ⟨_,hsub,hacc,_⟩ | ⟨h8,_⟩
  ·simp only at hsub hacc
   have tG:∀ x ∈ off,x ∈ nm r.bX/\x ∈ r.on:=λx hx=>by
    have:=hsub.subset hx;rw [P6] at this;exact ⟨this.1,by simpa using this.2⟩
   have hofl:off.length<=5:=by
    refine P0 hsub.length_le (P0 (TP _ _) (by omega))
   refine Gd.dR (λi (ys:List BA) (s:List Ev)=>i+ys.length=off.length/\off.drop i=ys/\∃ ev,Own y8 r.time (off.take i) ev/\s=r.log.jL++ev) ?_ ?_ off 0 r.log.jL ⟨by simp,rfl,[],⟨by simp,by simp,by simp⟩,by simp⟩
   ·rintro i y ys s nx ⟨hi,hd,ev,hev,rfl⟩ hnx
    simp only [O6] at hi;have hlt:i<off.length:=by omega
    have hd':=hd;rw [Px hlt] at hd';have hy:off[i]=y:=(TG hd').1;have hel:=hev.len;unfold pq;obtain ⟨b,hb,hbn⟩:=PL.1 (tG y (hy▸Pt hlt)).1;refine Gd.eC (LU _ y) (λj hj=>?_);rcases hj with ⟨_,hno⟩ | ⟨j,hjl,rfl,hp,_⟩
    ·have:=hno b hb
     simp [hbn] at this
    have hld:=hV.vl _ (Pt hjl);have hdm:0<=r.bX.aY[j].cV/\r.bX.aY[j].cV<=100000:=by
     have:=hld.2.2;simp [aU,bE] at this;omega
    refine Gd.gA hjl ?_;have hac:dU (aI.mk r.time y8 y r.bX.aY[j].cV)=some 0:=zT ht G8 (by rw [<- hbn]; exact (hV.vl b hb).1) (by omega)
    obtain ⟨k,hk⟩:=append_eq (l:=r.log.jL++ev) (e:=aI.mk r.time y8 y r.bX.aY[j].cV) (by simp only [Pg,hel,Pn]; omega) (by
     intro x hx;rcases Pa.1 hx with hx | hx
     ·exact hlog x hx
     ·exact Int.le_of_eq (hev.k x hx).2) hac
    refine Gd.bind_eq hk (hnx _ ⟨by omega,(TG hd').2,ev++[aI.mk r.time y8 y r.bX.aY[j].cV],?_,by simp⟩)
    rw [Po hlt,hy];exact hev.add y hac
   ·rintro i s ⟨hi,hd,ev,hev,rfl⟩
    rw [Pb (by simp at hi; omega)] at hev
    refine Gd.eC (Kn off r.on (by omega)) (λon' hon'=>?_)
    subst hon';have hon2:=hon.filter (vG off);have hck2:=hon2.MG hc h5;obtain ⟨s,hs,hsg⟩:=zJ hz (r.on.filter (vG off));obtain ⟨q,hq⟩:=Fa (hz.qh (r.on.filter (vG off)));have hqs:=Hy hV hck2 hq;rw [hs] at hqs;have hqs:=OZ hqs;subst hqs;have hw:qh r.bX (((nm r.bX).filter (λx=>decide (x ∈ r.on))).filter (vG off))=qh r.bX (r.on.filter (vG off)):=D1 (λx hx=>by
     simp only [P6,hx,true_and,PF])
    have hord:AN r.bX (r.on.filter (vG off)):=by
     unfold Bb AN at hacc;rw [hw] at hacc;exact hacc
    obtain ⟨e0,e1⟩:=(GY hq).1 hord;have hst:=hsg.2 e0;rw [e1] at hst;exact Gd.bind_eq hs (Gd.ret (.inr ⟨off,s.1,ev,hev,hst,λx hx=>(tG x hx).2,hofl,rfl⟩))
  ·simp at h8
structure Inv (r:Rm):Prop where
 sz:oL r.bX
 ru:Ea r.rules
 on:A8 r.bX r.on
 ll:r.bX.aY.length<=5
 st:∃ ov,K_ r.bX r.on r.state ov
 w:vQ r.bX r.watch
 tm:0<=r.time/\r.time<=200000
 lt:∀ x ∈ r.log.jL,x.Time<=r.time
 lc:r.log.jL.length<=250
 ol:r.over.length<=24
 lk:∀ x ∈ r.log.jL,dU x=some 0
def yB (r:Rm) (e:Ev):Option bO:=
 if 1<=e.Time-r.time then (kX r.watch r.state.iW (e.Time-r.time)).map (·.2.2) else some r.watch
structure Mv (r:Rm) (e:Ev) (r':Rm):Prop where
  c:dU e=some 0
  t:r.time<=e.Time
  t':r'.time=e.Time
  ru:r'.rules=r.rules
  he:r'.held=r.held
  k:e.Kind≠y8/\e.Kind≠wJ
  sw:r'.bX.aH=r.bX.aH\/La r.held r.bX e r'.bX.aH
  hn:e.Kind=zW\/e.Kind=xC->e.Name ∉ r.held
  ln:nm r'.bX=nm r.bX
  wa:yB r e=some r'.watch
  x:∃ on1,(e.Kind≠Fx/\on1=r.on\/e.Kind=Fx/\e.Name ∈ nm r.bX/\e.Name ∉ r.on/\on1=r.on++[e.Name]) /\
    ∃ st1 ov1 ex,K_ r'.bX on1 st1 ov1/\jC r'.watch=some ex /\
    ((ov1.filter (λx=>decide (x ∈ ex))=[]/\r'.on=on1/\r'.state=st1/\r'.over=[]/\r'.log.jL=r.log.jL++[e]) \/
     (lJ r'.bX on1=some ([],8)/\r'.on=on1/\r'.state=st1/\r'.over=ov1.filter (λx=>decide (x ∈ ex))/\∃ ev,Own wJ e.Time r'.over ev/\r'.log.jL=r.log.jL++[e]++ev) \/
     (∃ off ev,Own y8 e.Time off ev/\r'.on=on1.filter (vG off)/\K_ r'.bX r'.on r'.state []/\(∀ x ∈ off,x ∈ on1)/\r'.over=[]/\r'.log.jL=r.log.jL++[e]++ev))
theorem vQ.Of {n m:Net}{w:bO} (h:vQ n w) (e:m.aG=n.aG):vQ m w:=⟨by rw [h.b,e],by rw [h.f,e],by rw [h.a,e],by rw [h.o,e]⟩
theorem Kw {r:Rm} (h:Inv r) {e:Ev} (hc:dU e=some 0) (ht:r.time<=e.Time) (ht2:0<=e.Time/\e.Time<=200000) (hl:r.log.jL.length<200)
  {c:cN} (hef:Ns r.held r.bX r.on e c) {st:cE}{ov:List BA} (hs:K_ c.n c.on st ov) {w:bO} (hw:vQ c.n w) (hwe:yB r e=some w):
  Gd (jD r e (0,c) (st,ov,0) w.kE w.lO w.rq w.over w.time) (λq=>q.1=0/\Inv q.2/\Mv r e q.2):=by
 have hll:c.n.aY.length=r.bX.aY.length:=by
  have:=P3 List.length hef.ln
  rwa [yQ,yQ] at this
 have h5:=h.ll;have hon:A8 c.n c.on:=by
  rcases hef.on with ⟨_,ho⟩ | ⟨_,hm,hno,ho⟩
  ·rw [ho]; exact ⟨h.on.nd,λx hx=>by rw [hef.ln]; exact h.on.s x hx⟩
  ·rw [ho]
   refine ⟨?_,λx hx=>?_⟩
   ·rw [PS]
    refine ⟨h.on.nd,by simp,λa ha b hb=>?_⟩
    rw [PA.1 hb];intro k; rw [k] at ha; exact hno ha
   ·rw [hef.ln]
    rcases Pa.1 hx with hx | hx
    ·exact h.on.s x hx
    ·rw [PA.1 hx]; exact hm
 have hlt:∀ x ∈ r.log.jL++[e],x.Time<=e.Time:=λx hx=>by
  rcases Pa.1 hx with hx | hx
  ·exact Int.le_trans (h.lt x hx) ht
  ·rw [PA.1 hx]; exact Rk _
 have hlk:∀ x ∈ r.log.jL++[e],dU x=some 0:=λx hx=>by
  rcases Pa.1 hx with hx | hx
  ·exact h.lk x hx
  ·rw [PA.1 hx]; exact hc
 unfold jD mE;obtain ⟨k,hk⟩:=append_eq (l:=r.log.jL) (e:=e) (by omega) (λx hx=>Int.le_trans (h.lt x hx) ht) hc
 refine Gd.bind_eq hk ?_;obtain ⟨ex,hex,hexl⟩:=D2 hw hs.v.l3;refine Gd.bind_eq hex (Gd.eC (Ks ex ov (P0 hs.ol (by omega))) (λov' ho'=>?_))
 subst ho';have hol:(ov.filter (λx=>decide (x ∈ ex))).length<=24:=P0 (TP _ _) hs.ol;refine Gd.ite (λhp=>?_) (λhp=>?_)
 ·refine Gd.eC (E4 (r:=aQ.mk c.n r.rules c.on r.held w st e.Time (bD.mk (r.log.jL++[e])) []) hef.sz hs.v hs.cn (by simp only; omega) hon ht2 hlt (by simp; omega) hol (λx hx=>hs.om x (P6.1 hx).1)) (λq hq=>Gd.ret ⟨rfl,?_⟩)
  rcases hq with ⟨hre,ev,hev,rfl⟩ | ⟨off,st',ev,hev,hst,hoff,hofl,rfl⟩
  ·have hel:ev.length<=24:=by rw [hev.len]; exact hol
   refine ⟨⟨hef.sz,h.ru,hon,by simp only; omega,⟨ov,hs⟩,hw,ht2,?_,?_,hol,?_⟩,⟨hc,ht,rfl,rfl,rfl,hef.ks,hef.sw,hef.hn,hef.ln,hwe,c.on,hef.on,st,ov,ex,hs,hex,.inr (.inl ⟨hre,rfl,rfl,rfl,ev,hev,rfl⟩)⟩⟩
   ·intro x hx
    rcases Pa.1 hx with hx | hx
    ·exact hlt x hx
    ·exact Int.le_of_eq (hev.k x hx).2
   ·simp only [Pg,O6,TQ]; omega
   ·intro x hx
    rcases Pa.1 hx with hx | hx
    ·exact hlk x hx
    ·exact hev.c x hx
  ·have hel:=hev.len
   refine ⟨⟨hef.sz,h.ru,hon.filter _,by simp only; omega,⟨[],hst⟩,hw,ht2,?_,?_,by simp,?_⟩,⟨hc,ht,rfl,rfl,rfl,hef.ks,hef.sw,hef.hn,hef.ln,hwe,c.on,hef.on,st,ov,ex,hs,hex,.inr (.inr ⟨off,ev,hev,rfl,hst,hoff,rfl,rfl⟩)⟩⟩
   ·intro x hx
    rcases Pa.1 hx with hx | hx
    ·exact hlt x hx
    ·exact Int.le_of_eq (hev.k x hx).2
   ·simp only [Pg,O6,TQ,hel]; omega
   ·intro x hx
    rcases Pa.1 hx with hx | hx
    ·exact hlk x hx
    ·exact hev.c x hx
 ·have h0:ov.filter (λx=>decide (x ∈ ex))=[]:=by
   simp only [Uv] at hp;exact List.length_eq_zero_iff.1 (Nat.le_zero.1 (Nat.not_lt.1 (λk=>hp (Int.ofNat_lt.2 k))))
  refine Gd.ret ⟨rfl,⟨hef.sz,h.ru,hon,by simp only; omega,⟨ov,hs⟩,hw,ht2,hlt,by simp; omega,by simp,hlk⟩,⟨hc,ht,rfl,rfl,rfl,hef.ks,hef.sw,hef.hn,hef.ln,hwe,c.on,hef.on,st,ov,ex,hs,hex,.inl ⟨h0,rfl,rfl,rfl,rfl⟩⟩⟩
theorem Kx {r:Rm} (h:Inv r) {e:Ev} (he:CV e):Gd (lL r e) (λq=>Inv q.2/\(q.1≠0->q.2=r)/\(q.1=0->Mv r e q.2)):=by
 obtain ⟨ov0,hs0⟩:=h.st;have hV:=hs0.v;have hol:=h.on.len;have h5:=h.ll;have no:∀ k:Int,k≠0->Gd (some (k,r)) (λq:Int×Rm=>Inv q.2/\(q.1≠0->q.2=r)/\(q.1=0->Mv r e q.2)):=λk hk=>Gd.ret ⟨h,λ_=>rfl,λk0=>absurd k0 hk⟩;unfold lL;obtain ⟨k,hk,hkt⟩:=Gm he;refine Gd.bind_eq hk (Gd.ite (λk0=>no k (by simpa using k0)) (λk0=>?_))
 have k0:k=0:=by simpa using k0
 subst k0;have ht2:=hkt rfl;refine Gd.ite (λ_=>no _ (by decide)) (λht=>?_)
 have ht:r.time<=e.Time:=by simpa using ht
 have htm:=h.tm;have hlc:=h.lc;refine Gd.eC (P:=λx=>x=r.log.jL) (by unfold ly; exact Gd.nd (by omega) (Gd.ret rfl)) (λal hal=>?_)
 subst hal;refine Gd.ite (λ_=>no _ (by decide)) (λhl=>Gd.bind_eq (copy_eq hV) (Gd.nd (by omega) (Gd.eC (GH h.sz hV h.ru (by omega) he) (λc hce=>?_))))
 have hl:r.log.jL.length<200:=by
  simp at hl; omega
 obtain ⟨f,c⟩:=c;refine Gd.ite (λk0=>no f (by simpa using k0)) (λk0=>?_)
 have k0:f=0:=by simpa using k0
 subst k0;have hef:=hce rfl;refine Gd.eC (zJ hef.sz c.on) (λs hs=>?_);obtain ⟨st,ov,g⟩:=s;refine Gd.ite (λk0=>no g (by simpa using k0)) (λk0=>?_)
 have k0:g=0:=by simpa using k0
 subst k0;have hst:=hs.2 rfl;have hw0:=h.w.Of hef.br;have hd:i64.wrap (e.Time-r.time)=e.Time-r.time:=bJ ⟨by omega,by omega⟩
 refine Gd.ite (λ_=>no _ (by decide)) (λ_=>?_)
 rw [hd];have fin:∀ w,vQ c.n w->yB r e=some w->Gd (jD r e (0,c) (st,ov,0) w.kE w.lO w.rq w.over w.time) (λq=>Inv q.2/\(q.1≠0->q.2=r)/\(q.1=0->Mv r e q.2)):=λw hw hwe=>
  (Kw h hk ht ht2 hl hef hst hw hwe).mono (λq hq=>⟨hq.2.1,λk=>absurd hq.1 k,λ_=>hq.2.2⟩)
 refine Gd.ite (λh1=>?_) (λh1=>?_)
 ·obtain ⟨q,hq,hqw⟩:=Jt h.w hV hs0.fl hs0.ff (e.Time-r.time)
  refine Gd.bind_eq hq (fin q.2.2 (hqw.Of hef.br) ?_);unfold yB;rw [O3 (O1 h1),hq]
  rfl
 ·refine fin r.watch hw0 ?_
  unfold yB;rw [O2 (O9 h1)]
structure Bn (s:cI):Prop where
 n:oL s.bZ
 r:∀ r ∈ s.oM,zI r
structure NC (s:cI) (r:Rm):Prop where
 n:r.bX=s.bZ
 on:r.on=nm s.bZ
 he:r.held=[]
 w:o9 s.bZ=some (some r.watch,0)
 ti:r.time=0
 lo:r.log.jL=[]
 ov:r.over=[]
theorem L1 {s:cI} (hz:Bn s):Gd (su s) (λq=>(∃ e,e≠0/\q=(none,e)/\qw s=some e)\/∃ r,q=(some r,0)/\Inv r/\NC s r):=by
 suffices h:Gd (qw s) (λe=>e=0->bT s.bZ=some 0/\xW s.oM/\s.bZ.aY.length<=5/\∃ st ov,dP s.bZ (nm s.bZ)=some (st,ov,0)/\K_ s.bZ (nm s.bZ) st ov) by
  obtain ⟨e,he,hok⟩:=h;unfold su;refine Gd.bind_eq he (Gd.ite (λh=>Gd.ret (.inl ⟨e,by simpa using h,rfl,he⟩)) (λh=>?_))
  have h0:e=0:=by simpa using h
  subst h0;obtain ⟨hc,hru,h5,st,ov,hst,hsg⟩:=hok rfl;have hV:=hsg.v;obtain ⟨w,hw,hwo⟩:=Kq hc hV;have hrl:=hru.1;refine Gd.bind_eq (copy_eq hV) (Gd.nd (by omega) (Gd.bind_eq (BF _ hV.l5) ?_))
  refine Gd.jN (λm i (l:List BQ)=>i+m=s.oM.length/\l=s.oM) ?_ ?_ ((s.oM.length:Int):Int).toNat 0 s.oM ⟨by omega,rfl⟩
  ·rintro m i l nx ⟨hi,rfl⟩ hnx
   have hlt:i<s.oM.length:=by omega
   unfold uK;refine Gd.gA hlt (Gd.nd ?_ (Gd.gA hlt (hnx _ ⟨by omega,?_⟩)))
   ·have hco:=(hru.2 _ (Pt hlt)).2
    obtain ⟨f,hf,hfk⟩:=vq s.oM[i].vU (hz.r _ (Pt hlt)).2;rw [hco] at hf;have:=(hfk (OZ hf).symm).len;omega
   ·exact S_ hlt
  ·rintro i l ⟨_,rfl⟩
   refine Gd.bind_eq hw (Gd.opt (λk=>by simp at k) (λw' hw'=>?_))
   obtain rfl:=OZ hw';refine Gd.bind_eq hst (Gd.ret (.inr ⟨_,rfl,⟨hz.n,⟨hru,hz.r⟩,⟨IS hV,λx hx=>hx⟩,h5,⟨ov,hsg⟩,hwo,by simp,by simp [kD],by simp [kD],by simp,by simp [kD]⟩,⟨rfl,rfl,rfl,hw,rfl,rfl,rfl⟩⟩))
 unfold qw;obtain ⟨e,he,hok⟩:=Tq s.bZ hz.n;refine Gd.bind_eq he (Gd.ite (λh=>Gd.ret (λk=>absurd k (by simpa using h))) (λh=>?_))
 have h0:e=0:=by simpa using h
 subst h0;have hV:=hok rfl;refine Gd.eC (Bw s.oM hz.r) (λf hf=>Gd.ite (λh=>Gd.ret (λk=>absurd k (by simpa using h))) (λh=>?_))
 have hru:=hf.1 (by simpa using h)
 refine Gd.ite (λ_=>Gd.ret (λh=>by simp at h)) (λh5=>Gd.bind_eq (BF _ hV.l5) (Gd.eC (P:=λq=>(q.2.2=0->K_ s.bZ (nm s.bZ) q.1 q.2.1)/\dP s.bZ (nm s.bZ)=some q) ?_ (λq hq=>Gd.ret (λh0=>⟨he,hru,by have:=O9 h5; omega,q.1,q.2.1,?_,hq.1 h0⟩))))
 ·obtain ⟨q,hq,_,hs⟩:=zJ hz.n (nm s.bZ)
  exact ⟨q,hq,hs,hq⟩
 ·rw [hq.2]
  obtain ⟨a,b,c⟩:=q;simp only at h0;rw [h0]
theorem LJ {s:cI} (hz:Bn s):∃ s',kP s=some s'/\Bn s':=by
 suffices h:Gd (kP s) Bn by
  obtain ⟨r,hr,h⟩:=h;exact ⟨r,hr,h⟩
 have hslc:∀ {α:Type} (l:List α) (k:Nat) (x:α),x ∈ rV l 0 k->x ∈ l:=λl k x hx=>by
  unfold rV at hx;exact Rd (by simpa using hx)
 unfold kP oD;refine Gd.eC (P:=λn=>oL n) (Gd.nd (by omega) (Gd.nd (by omega) (Gd.ret ⟨hz.n.nd,hz.n.sw,hz.n.br,λx hx=>hz.n.gn x (hslc _ _ x hx),λx hx=>hz.n.ld x (hslc _ _ x hx),hz.n.st⟩))) (λn hn=>Gd.nd (by omega) (Gd.ret ⟨?_,hz.r⟩))
 exact ⟨hn.nd,hn.sw,hn.br,hn.gn,λx hx=>hn.ld x (hslc _ _ x hx),hn.st⟩
theorem uR:gQ=some true:=by kernel_rfl
theorem LD (n low high:Int) (h:0<=low/\low<=high/\high<=1000000000):Gd (nh n low high) (λr=>low<=r/\r<=high):=by
 have w1:i64.wrap (high-low)=high-low:=bJ ⟨by omega,by omega⟩
 have w2:i64.wrap (high-low+1)=high-low+1:=bJ ⟨by omega,by omega⟩
 unfold nh;rw [w1,w2];have hm:-(high-low+1)<Int.tmod n (high-low+1)/\Int.tmod n (high-low+1)<high-low+1:=
  ⟨by have:=Int.lt_tmod_of_pos n (show 0<high-low+1 by omega); omega,Int.tmod_lt_of_pos n (by omega)⟩
 refine Gd.nd (by omega) (Gd.ite (λh1=>?_) (λh1=>?_))
 ·simp only [PF] at h1
  unfold jG;rw [bJ (n:=Int.tmod n (high-low+1)+(high-low+1)) ⟨by omega,by omega⟩,bJ ⟨by omega,by omega⟩]
  exact Gd.ret ⟨by omega,by omega⟩
 ·simp only [Uv] at h1
  unfold jG;rw [bJ ⟨by omega,by omega⟩]
  exact Gd.ret ⟨by omega,by omega⟩
theorem Kv (l:List Ev):rV l 0 ((min (l.length:Int) 8:Int).toNat)=l.take 8:=by
 have:((min (l.length:Int) 8:Int)).toNat=min l.length 8:=by omega
 rw [this];unfold rV;simp [List.take_eq_take_iff];omega
structure BM (x:aK) (i:Nat) (r:Rm):Prop where
 inv:Inv r
 h:r.held=[x.Name]
 s:r.bX.aH[i]? = some x
theorem GO {x:aK}{i:Nat}{r r':Rm} (h:BM x i r) {e:Ev} (hi:Inv r') (hd:Mv r e r'):BM x i r':=by
 refine ⟨hi,by rw [hd.he]; exact h.h,?_⟩
 rcases hd.sw with hs | hs
 ·rw [hs]; exact h.s
 ·obtain ⟨j,hj,hn,b,hb⟩:=hs.s
  have hne:j≠i:=λk=>by
   subst k;have:=h.s;rw [OU hj] at this;have:=OZ this;rw [this] at hn;refine hs.h ?_;rw [h.h,<- hn];simp
  rw [hb,Pj hne];exact h.s
theorem Ba (s:cI) (hz:Bn s) (l:List Ev) (hl:∀ e ∈ l,CV e) (k:Int):gP s l k=some true:=by
 rw [<- Gd.eq];unfold gP;obtain ⟨s',hs',hz'⟩:=LJ hz;refine Gd.bind_eq hs' (Gd.eC (L1 hz') (λq hq=>?_));rcases hq with ⟨e,he,rfl,_⟩ | ⟨r,rfl,hi,h0⟩
 ·refine Gd.opt (λ_=>Gd.bind_eq uR (Gd.ret ?_)) (λ_ h=>by simp at h)
  simp [he]
 refine Gd.opt (λh=>by simp at h) (λr' hr'=>?_)
 obtain rfl:=OZ hr';refine Gd.ite (λ_=>Gd.bind_eq uR (Gd.ret (by simp))) (λhne=>?_)
 have hpos:0<s'.bZ.aH.length:=by
  simp at hne;exact TR.2 hne
 obtain ⟨ov,hst⟩:=hi.st;have hV:=hst.v;have h2:=hV.l2;rw [h0.n] at h2;have hw:i64.wrap ((s'.bZ.aH.length:Int)-1)=((s'.bZ.aH.length-1:Nat):Int):=by
  rw [bJ ⟨by omega,by omega⟩]; omega
 rw [hw];refine Gd.eC (LD k 0 _ ⟨by omega,by omega,by omega⟩) (λc hc=>?_)
 obtain ⟨j,rfl⟩:∃ j:Nat,c=(j:Int):=⟨c.toNat,by omega⟩
 have hj:j<s'.bZ.aH.length:=by omega
 refine Gd.gA hj ?_;refine Gd.eC (P:=λq=>q.1=0/\BM s'.bZ.aH[j] j q.2) ?_ (λq hq=>?_)
 ·unfold qx
  refine Gd.ite (λh=>by simp at h) (λ_=>Gd.nd (by simp) (Gd.ret ⟨rfl,⟨hi.sz,hi.ru,hi.on,hi.ll,hi.st,hi.w,hi.tm,hi.lt,hi.lc,hi.ol,hi.lk⟩,rfl,?_⟩))
  simp only [h0.n];exact OU hj
 obtain ⟨f,r1⟩:=q;obtain ⟨rfl,hh⟩:=hq;refine Gd.ite (λh=>by simp at h) (λ_=>Gd.nd (by omega) ?_)
 rw [Kv];refine Gd.dR (λm (ys:List Ev) (r:Rm)=>(∀ y ∈ ys,CV y)/\BM s'.bZ.aH[j] j r) ?_ ?_ (l.take 8) 0 r1 ⟨λy hy=>hl y (Rd hy),hh⟩
 ·rintro m y ys r nx ⟨hys,hr⟩ hnx
  unfold mP;refine Gd.eC (Kx hr.inv (hys y (O0 ..))) (λq hq=>?_);have hys':∀ z ∈ ys,CV z:=λz hz=>hys z (O5 _ hz)
  by_cases h0:q.1=0
  ·have hd:=hq.2.2 h0
   refine Gd.ite (λh=>?_) (λ_=>hnx _ ⟨hys',GO hr hq.1 hd⟩);simp only [QB,Qu,PF] at h;refine absurd ?_ (hd.hn h.2);rw [hr.h,h.1.2];simp
  ·refine Gd.ite (λh=>?_) (λ_=>hnx _ ⟨hys',by rw [hq.2.1 h0]; exact hr⟩)
   simp [h0] at h
 ·rintro m r ⟨_,hr⟩
  obtain ⟨ov,hst⟩:=hr.inv.st;have hcp:kY r=some r.bX:=by
   unfold kY;rw [copy_eq hst.v]; rfl
  have hjs:=hr.s;obtain ⟨hjr,hje⟩:=OY.1 hjs;refine Gd.bind_eq hcp (Gd.eC (LQ _ _) (λi hi=>Gd.bind_eq uR (Gd.ite (λ_=>?_) (λh=>by simp at h))))
  rcases hi with ⟨_,hno⟩ | ⟨i,hil,rfl,hp,hfst⟩
  ·have:=hno _ (Pt hjr)
   rw [hje] at this;simp at this
  ·have hij:i=j:=by
    have hnd:=DW hst.v;have hp:r.bX.aH[i].Name=s'.bZ.aH[j].Name:=by simpa using hp
    have e:(r.bX.aH.map (·.Name))[i]'(by simpa using hil)=(r.bX.aH.map (·.Name))[j]'(by simpa using hjr):=by
     simp only [QR];rw [hp,hje]
    exact (List.getElem_inj hnd).1 e
   subst hij;refine Gd.ite (λ_=>Gd.bind_eq hcp (Gd.gA hil (Gd.ret ?_))) (λh=>?_)
   ·rw [hje]; simp
   ·simp at h
end Go.Sim
