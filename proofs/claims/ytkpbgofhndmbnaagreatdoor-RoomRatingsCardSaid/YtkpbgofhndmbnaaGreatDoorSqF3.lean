/-
  The proof, part F3.
-/
import Derived.Test.YtkpbgofhndmbnaaGreatDoorSqF2
set_option linter.unusedVariables false
set_option linter.unusedSimpArgs false
set_option linter.unusedSectionVars false
set_option linter.unnecessarySimpa false
namespace Go.Sim
abbrev Vn := @Go.Lib.decDigits_length
end Go.Sim
namespace Go.Sim
open Go
open _root_.Go.IntKind (i64 u64 u32 u8)
structure Inv (r:Rm):Prop where
 sz:pG r.bY
 ru:FH r.rules
 on:AW r.bY r.on
 ll:r.bY.bB.length<=5
 st:∃ ov,La r.bY r.on r.state ov
 w:xa r.bY r.watch
 tm:0<=r.time/\r.time<=200000
 lt:∀ x ∈ r.log.iH,x.Time<=r.time
 lc:r.log.iH.length<=250
 ol:r.over.length<=24
 lk:∀ x ∈ r.log.iH,dG x=some 0
def ya (r:Rm) (e:Ev):Option aW:=
 if 1<=e.Time-r.time then (iY r.watch r.state.eO (e.Time-r.time)).map (·.2.2) else some r.watch
structure MX (r:Rm) (e:Ev) (r':Rm):Prop where
  c:dG e=some 0
  t:r.time<=e.Time
  t':r'.time=e.Time
  ru:r'.rules=r.rules
  he:r'.held=r.held
  k:e.Kind≠yp/\e.Kind≠vJ
  sw:r'.bY.aL=r.bY.aL\/ME r.held r.bY e r'.bY.aL
  hn:e.Kind=Bf\/e.Kind=yG->e.Name ∉ r.held
  ln:nm r'.bY=nm r.bY
  wa:ya r e=some r'.watch
  x:∃ on1,(e.Kind≠GX/\on1=r.on\/e.Kind=GX/\e.Name ∈ nm r.bY/\e.Name ∉ r.on/\on1=r.on++[e.Name]) /\
    ∃ st1 ov1 ex,La r'.bY on1 st1 ov1/\iX r'.watch=some ex /\
    ((ov1.filter (λx=>decide (x ∈ ex))=[]/\r'.on=on1/\r'.state=st1/\r'.over=[]/\r'.log.iH=r.log.iH++[e]) \/
     (gS r'.bY on1=some ([],8)/\r'.on=on1/\r'.state=st1/\r'.over=ov1.filter (λx=>decide (x ∈ ex))/\∃ ev,Own vJ e.Time r'.over ev/\r'.log.iH=r.log.iH++[e]++ev) \/
     (∃ off ev,Own yp e.Time off ev/\r'.on=on1.filter (wZ off)/\La r'.bY r'.on r'.state []/\(∀ x ∈ off,x ∈ on1)/\r'.over=[]/\r'.log.iH=r.log.iH++[e]++ev))
theorem xa.PM {n m:Net}{w:aW} (h:xa n w) (e:m.aH=n.aH):xa m w:=⟨by rw [h.b,e],by rw [h.f,e],by rw [h.a,e],by rw [h.o,e]⟩
theorem Mf {r:Rm} (h:Inv r) {e:Ev} (hc:dG e=some 0) (ht:r.time<=e.Time) (ht2:0<=e.Time/\e.Time<=200000) (hl:r.log.iH.length<200)
  {c:cX} (I:O0 r.held r.bY r.on e c) {st:cG}{ov:List BA} (hs:La c.n c.on st ov) {w:aW} (hw:xa c.n w) (hwe:ya r e=some w):
  Gd (kI r e (0,c) (st,ov,0) w.fV w.gG w.mO w.over w.time) (λq=>q.1=0/\Inv q.2/\MX r e q.2):=by
 have hll:c.n.bB.length=r.bY.bB.length:=by
  have:=Q9 List.length I.ln
  rwa [yT,yT] at this
 have h5:=h.ll;have hon:AW c.n c.on:=by
  rcases I.on with ⟨_,ho⟩ | ⟨_,hm,hno,ho⟩
  ·rw [ho]; exact ⟨h.on.nd,λx J=>by rw [I.ln]; exact h.on.s x J⟩
  ·rw [ho]
   refine ⟨?_,λx J=>?_⟩
   ·rw [Rj]
    refine ⟨h.on.nd,by simp,λa ha b hb=>?_⟩
    rw [QY.1 hb];intro k; rw [k] at ha; exact hno ha
   ·rw [I.ln]
    rcases QG.1 J with J | J
    ·exact h.on.s x J
    ·rw [QY.1 J]; exact hm
 have Z:∀ x ∈ r.log.iH++[e],x.Time<=e.Time:=λx J=>by
  rcases QG.1 J with J | J
  ·exact Int.le_trans (h.lt x J) ht
  ·rw [QY.1 J]; exact S1 _
 have hlk:∀ x ∈ r.log.iH++[e],dG x=some 0:=λx J=>by
  rcases QG.1 J with J | J
  ·exact h.lk x J
  ·rw [QY.1 J]; exact hc
 unfold kI ny;obtain ⟨k,hk⟩:=append_eq (l:=r.log.iH) (e:=e) (by omega) (λx J=>Int.le_trans (h.lt x J) ht) hc
 refine Gd.bind_eq hk ?_;obtain ⟨ex,Y,hexl⟩:=Fy hw hs.v.l3;refine Gd.bind_eq Y (Gd.eM (Ma ex ov (Rp hs.ol (by omega))) (λov' ho'=>?_))
 subst ho';have hol:(ov.filter (λx=>decide (x ∈ ex))).length<=24:=Rp (VA _ _) hs.ol;refine Gd.ite (λhp=>?_) (λhp=>?_)
 ·refine Gd.eM (Gw (r:=aN.mk c.n r.rules c.on r.held w st e.Time (bJ.mk (r.log.iH++[e])) []) I.sz hs.v hs.cn (by simp only; omega) hon ht2 Z (by simp; omega) hol (λx J=>hs.om x (Ru.1 J).1)) (λq hq=>Gd.ret ⟨rfl,?_⟩)
  rcases hq with ⟨hre,ev,O,rfl⟩ | ⟨off,st',ev,O,hst,hoff,hofl,rfl⟩
  ·have hel:ev.length<=24:=by rw [O.len]; exact hol
   refine ⟨⟨I.sz,h.ru,hon,by simp only; omega,⟨ov,hs⟩,hw,ht2,?_,?_,hol,?_⟩,⟨hc,ht,rfl,rfl,rfl,I.ks,I.sw,I.hn,I.ln,hwe,c.on,I.on,st,ov,ex,hs,Y,.inr (.inl ⟨hre,rfl,rfl,rfl,ev,O,rfl⟩)⟩⟩
   ·intro x J
    rcases QG.1 J with J | J
    ·exact Z x J
    ·exact Int.le_of_eq (O.k x J).2
   ·simp only [QJ,QA,VB]; omega
   ·intro x J
    rcases QG.1 J with J | J
    ·exact hlk x J
    ·exact O.c x J
  ·have hel:=O.len
   refine ⟨⟨I.sz,h.ru,hon.filter _,by simp only; omega,⟨[],hst⟩,hw,ht2,?_,?_,by simp,?_⟩,⟨hc,ht,rfl,rfl,rfl,I.ks,I.sw,I.hn,I.ln,hwe,c.on,I.on,st,ov,ex,hs,Y,.inr (.inr ⟨off,ev,O,rfl,hst,hoff,rfl,rfl⟩)⟩⟩
   ·intro x J
    rcases QG.1 J with J | J
    ·exact Z x J
    ·exact Int.le_of_eq (O.k x J).2
   ·simp only [QJ,QA,VB,hel]; omega
   ·intro x J
    rcases QG.1 J with J | J
    ·exact hlk x J
    ·exact O.c x J
 ·have h0:ov.filter (λx=>decide (x ∈ ex))=[]:=by
   simp only [Wo] at hp;exact List.length_eq_zero_iff.1 (Nat.le_zero.1 (Nat.not_lt.1 (λk=>hp (Int.ofNat_lt.2 k))))
  refine Gd.ret ⟨rfl,⟨I.sz,h.ru,hon,by simp only; omega,⟨ov,hs⟩,hw,ht2,Z,by simp; omega,by simp,hlk⟩,⟨hc,ht,rfl,rfl,rfl,I.ks,I.sw,I.hn,I.ln,hwe,c.on,I.on,st,ov,ex,hs,Y,.inl ⟨h0,rfl,rfl,rfl,rfl⟩⟩⟩
theorem DW {r:Rm} (h:Inv r) {e:Ev} (he:yB e):Gd (gT r e) (λq=>Inv q.2/\(q.1≠0->q.2=r)/\(q.1=0->MX r e q.2)):=by
 obtain ⟨ov0,O⟩:=h.st;have hV:=O.v;have hol:=h.on.len;have h5:=h.ll;have no:∀ k:Int,k≠0->Gd (some (k,r)) (λq:Int×Rm=>Inv q.2/\(q.1≠0->q.2=r)/\(q.1=0->MX r e q.2)):=λk hk=>Gd.ret ⟨h,λ_=>rfl,λI=>absurd I hk⟩;unfold gT;obtain ⟨k,hk,hkt⟩:=HO he;refine Gd.bind_eq hk (Gd.ite (λI=>no k (by simpa using I)) (λI=>?_))
 have I:k=0:=by simpa using I
 subst I;have ht2:=hkt rfl;refine Gd.ite (λ_=>no _ (by decide)) (λht=>?_)
 have ht:r.time<=e.Time:=by simpa using ht
 have htm:=h.tm;have hlc:=h.lc;refine Gd.eM (P:=λx=>x=r.log.iH) (by unfold kP; exact Gd.nd (by omega) (Gd.ret rfl)) (λal hal=>?_)
 subst hal;refine Gd.ite (λ_=>no _ (by decide)) (λhl=>Gd.bind_eq (copy_eq hV) (Gd.nd (by omega) (Gd.eM (H_ h.sz hV h.ru (by omega) he) (λc hce=>?_))))
 have hl:r.log.iH.length<200:=by
  simp at hl; omega
 obtain ⟨f,c⟩:=c;refine Gd.ite (λI=>no f (by simpa using I)) (λI=>?_)
 have I:f=0:=by simpa using I
 subst I;have J:=hce rfl;refine Gd.eM (AZ J.sz c.on) (λs hs=>?_);obtain ⟨st,ov,g⟩:=s;refine Gd.ite (λI=>no g (by simpa using I)) (λI=>?_)
 have I:g=0:=by simpa using I
 subst I;have hst:=hs.2 rfl;have hw0:=h.w.PM J.br;have hd:i64.wrap (e.Time-r.time)=e.Time-r.time:=bT ⟨by omega,by omega⟩
 refine Gd.ite (λ_=>no _ (by decide)) (λ_=>?_)
 rw [hd];have Z:∀ w,xa c.n w->ya r e=some w->Gd (kI r e (0,c) (st,ov,0) w.fV w.gG w.mO w.over w.time) (λq=>Inv q.2/\(q.1≠0->q.2=r)/\(q.1=0->MX r e q.2)):=λw hw hwe=>
  (Mf h hk ht ht2 hl J hst hw hwe).mono (λq Y=>⟨Y.2.1,λk=>absurd Y.1 k,λ_=>Y.2.2⟩)
 refine Gd.ite (λh1=>?_) (λh1=>?_)
 ·obtain ⟨q,Y,hqw⟩:=K2 h.w hV O.fl O.ff (e.Time-r.time)
  refine Gd.bind_eq Y (Z q.2.2 (hqw.PM J.br) ?_);unfold ya;rw [Qx (Qv h1),Y]
  rfl
 ·refine Z r.watch hw0 ?_
  unfold ya;rw [Qw (QE h1)]
structure vX (s:aX):Prop where
 n:pG s.bK
 r:∀ r ∈ s.nL,AY r
structure N5 (s:aX) (r:Rm):Prop where
 n:r.bY=s.bK
 on:r.on=nm s.bK
 he:r.held=[]
 w:mz s.bK=some (some r.watch,0)
 ti:r.time=0
 lo:r.log.iH=[]
 ov:r.over=[]
theorem Km {s:aX} (hz:vX s):Gd (lf s) (λq=>(∃ e,e≠0/\q=(none,e)/\kE s=some e)\/∃ r,q=(some r,0)/\Inv r/\N5 s r):=by
 suffices h:Gd (kE s) (λe=>e=0->bV s.bK=some 0/\y7 s.nL/\s.bK.bB.length<=5/\∃ st ov,eA s.bK (nm s.bK)=some (st,ov,0)/\La s.bK (nm s.bK) st ov) by
  obtain ⟨e,he,Y⟩:=h;unfold lf;refine Gd.bind_eq he (Gd.ite (λh=>Gd.ret (.inl ⟨e,by simpa using h,rfl,he⟩)) (λh=>?_))
  have O:e=0:=by simpa using h
  subst O;obtain ⟨hc,J,h5,st,ov,hst,hsg⟩:=Y rfl;have Z:=hsg.v;obtain ⟨w,hw,hwo⟩:=Hx hc Z;have hrl:=J.1;refine Gd.bind_eq (copy_eq Z) (Gd.nd (by omega) (Gd.bind_eq (Aa _ Z.l5) ?_))
  refine Gd.kW (λm i (l:List C5)=>i+m=s.nL.length/\l=s.nL) ?_ ?_ ((s.nL.length:Int):Int).toNat 0 s.nL ⟨by omega,rfl⟩
  ·rintro m i l nx ⟨hi,rfl⟩ hnx
   have I:i<s.nL.length:=by omega
   unfold vP;refine Gd.iP I (Gd.nd ?_ (Gd.iP I (hnx _ ⟨by omega,?_⟩)))
   ·have hco:=(J.2 _ (Q3 I)).2
    obtain ⟨f,hf,hfk⟩:=wM s.nL[i].wK (hz.r _ (Q3 I)).2;rw [hco] at hf;have:=(hfk (Qs hf).symm).len;omega
   ·exact UO I
  ·rintro i l ⟨_,rfl⟩
   refine Gd.bind_eq hw (Gd.opt (λk=>by simp at k) (λw' hw'=>?_))
   obtain rfl:=Qs hw';refine Gd.bind_eq hst (Gd.ret (.inr ⟨_,rfl,⟨hz.n,⟨J,hz.r⟩,⟨E9 Z,λx hx=>hx⟩,h5,⟨ov,hsg⟩,hwo,by simp,by simp [lF],by simp [lF],by simp,by simp [lF]⟩,⟨rfl,rfl,rfl,hw,rfl,rfl,rfl⟩⟩))
 unfold kE;obtain ⟨e,he,Y⟩:=UI s.bK hz.n;refine Gd.bind_eq he (Gd.ite (λh=>Gd.ret (λk=>absurd k (by simpa using h))) (λh=>?_))
 have O:e=0:=by simpa using h
 subst O;have Z:=Y rfl;refine Gd.eM (CO s.nL hz.r) (λf hf=>Gd.ite (λh=>Gd.ret (λk=>absurd k (by simpa using h))) (λh=>?_))
 have J:=hf.1 (by simpa using h)
 refine Gd.ite (λ_=>Gd.ret (λh=>by simp at h)) (λh5=>Gd.bind_eq (Aa _ Z.l5) (Gd.eM (P:=λq=>(q.2.2=0->La s.bK (nm s.bK) q.1 q.2.1)/\eA s.bK (nm s.bK)=some q) ?_ (λq hq=>Gd.ret (λO=>⟨he,J,by have:=QE h5; omega,q.1,q.2.1,?_,hq.1 O⟩))))
 ·obtain ⟨q,hq,_,hs⟩:=AZ hz.n (nm s.bK)
  exact ⟨q,hq,hs,hq⟩
 ·rw [hq.2]
  obtain ⟨a,b,c⟩:=q;simp only at O;rw [O]
theorem JU {s:aX} (O:vX s):∃ s',cK s=some s'/\vX s':=by
 suffices h:Gd (cK s) vX by
  obtain ⟨r,Y,h⟩:=h;exact ⟨r,Y,h⟩
 have I:∀ {α:Type} (l:List α) (k:Nat) (x:α),x ∈ rJ l 0 k->x ∈ l:=λl k x J=>by
  unfold rJ at J;exact SQ (by simpa using J)
 unfold cK nj;refine Gd.eM (P:=λn=>pG n) (Gd.nd (by omega) (Gd.nd (by omega) (Gd.ret ⟨O.n.nd,O.n.sw,O.n.br,λx J=>O.n.gn x (I _ _ x J),λx J=>O.n.ld x (I _ _ x J),O.n.st⟩))) (λn hn=>Gd.nd (by omega) (Gd.ret ⟨?_,O.r⟩))
 exact ⟨hn.nd,hn.sw,hn.br,hn.gn,λx J=>hn.ld x (I _ _ x J),hn.st⟩
theorem tL:eL=some true:=by kernel_rfl
theorem Kk {r:Rm} (h:Inv r):lW r=some r.bY:=by
 obtain ⟨ov,hs⟩:=h.st;unfold lW;rw [copy_eq hs.v]; rfl
def IV (r:Rm):List BA:=(nm r.bY).filter (λx=>decide (x ∈ r.on))
theorem Nz (r:Rm) (x:BA):mq x r=some (!decide (x ∈ r.on)):=by
 unfold mq;rw [qz];simp
theorem Kt (r:Rm) (A:List BA) (hA:A.length<=1000):Gd (eE A r) (λq=>q=A.filter (λx=>decide (x ∈ r.on))):=
 zP (λx=>mq x r) (λx=>decide (x ∈ r.on)) (Nz r) ⟨#[]⟩ A (by omega)
theorem Ow {r:Rm} (h:Inv r):pM r=some (IV r):=by
 obtain ⟨ov,hs⟩:=h.st;have I:=hs.v.l5;rw [<- Gd.eq];unfold pM;refine Gd.bind_eq (Aa _ I) (Gd.eM (Kt r _ (by rw [yT]; omega)) (λq J=>Gd.ret ?_))
 rw [J]; rfl
theorem Io {s:BA} (h:gM s=some true):s.size<=8:=by
 by_cases hs:s.size<=maxLen
 ·have key:Gd (gM s) (λb=>b=true->s.size<=8):=by
   unfold gM;refine Gd.nd hs (Gd.dO (λ_ _ _=>True) (λi y ys s O _ hn=>?_) (λ_ _ _=>Gd.ret (λk=>?_)) _ _ _ Qo)
   ·unfold qJ
    exact Gd.ite (λ_=>Gd.ret (λk=>by cases k)) (λ_=>hn _ Qo)
   ·simp at k; omega
  obtain ⟨b,I,J⟩:=key;rw [h] at I;cases I;exact J rfl
 ·unfold gM cW at h
  rw [Qw hs] at h;cases h
theorem Iq {s:BA} (h:bL s=some true):s.size<=8:=by
 by_cases hs:s.size<=maxLen
 ·have key:Gd (bL s) (λb=>b=true->s.size<=8):=by
   unfold bL;refine Gd.nd hs (Gd.dO (λ_ _ _=>True) (λi y ys s O _ hn=>?_) (λ_ _ _=>Gd.ret (λk=>?_)) _ _ _ Qo)
   ·unfold oa
    exact Gd.ite (λ_=>Gd.ret (λk=>by cases k)) (λ_=>hn _ Qo)
   ·simp at k; omega
  obtain ⟨b,I,J⟩:=key;rw [h] at I;cases I;exact J rfl
 ·unfold bL cW at h
  rw [Qw hs] at h;cases h
structure PB (e:Ev):Prop where
 t:0<=e.Time/\e.Time<=200000
 v:-1000000<=e.Value/\e.Value<=1000000
 k:e.Kind.size<=8
 n:e.Name.size<=8
theorem Ob {e:Ev} (h:dG e=some 0):PB e:=by
 unfold dG at h
 split at h
 ·simp at h
 rename_i ht
 cases I:gM e.Kind with
 | none=>rw [I] at h; cases h
 | some b=>
  rw [I] at h;cases b with
  | false=>simp at h
  | true=>
   cases hn:bL e.Name with
   | none=>rw [hn] at h; simp at h
   | some c=>
    rw [hn] at h;cases c with
    | false=>simp at h
    | true=>
     simp at h ht;exact ⟨by omega,by omega,Io I,Iq hn⟩
theorem CF (u:Nat) (h:u<10 ^ 20):(Lib.decDigits u).length<=20:=by
 rw [Vn];have key:∀ (k u:Nat),u<10 ^ (k+1)->Lib.nDigits u<=k+1:=by
  intro k
  induction k with
  | zero=>intro u h; rw [Lib.nDigits_small (by simpa using h)]; omega
  | succ k ih=>
   intro u h
   by_cases I:u<10
   ·rw [Lib.nDigits_small I]; omega
   ·rw [Lib.nDigits_big I]
    have:=ih (u / 10) (by rw [VZ] at h; omega)
    omega
 exact key 19 u h
theorem BC {n:Int} (h:-9223372036854775808<=n/\n<=9223372036854775807):(mw n).size<=21:=by
 show (Lib.itoa n).toArray.size<=21;rw [SU];unfold Lib.itoa
 split
 ·have:=CF n.natAbs (by omega); simp; omega
 ·have:=CF n.toNat (by omega); omega
theorem LK {e:Ev} (h:PB e):Gd (qX e) (λs=>s.size<=1000):=by
 have J:=BC (n:=e.Time) (by have:=h.t; omega)
 have O:=BC (n:=e.Value) (by have:=h.v; omega)
 have I:(⟨#[32]⟩:Qm).size=1:=rfl;have Z:=h.k; have k2:=h.n; have ht:=h.t; have Y:=h.v
 unfold qX;refine Gd.nd (by omega) (Gd.nd ?_ (Gd.nd ?_ (Gd.nd ?_ (Gd.nd ?_ (Gd.nd ?_ (Gd.nd (by omega) (Gd.nd ?_ (Gd.ret ?_))))))))
 all_goals simp only [B8,I,maxLen]; omega
theorem F0 (n:Int) (s:BA) (h:s.size<=1000):Gd (pH n s) (λ_=>True):=by
 have z:(⟨#[10]⟩:Qm).size=1:=rfl;unfold pH;refine Gd.nd (by rw [z]; simp only [maxLen]; omega) (Gd.nd (by rw [B8,z]; simp only [maxLen]; omega) (Gd.dO (λ_ _ _=>True) (λi y ys s I _ hn=>hn _ Qo) (λ_ _ _=>Gd.ret Qo) _ _ _ Qo))
theorem JI {r:Rm} (h:Inv r):∃ d,gA r=some d:=by
 suffices h:Gd (gA r) (λ_=>True) by
  obtain ⟨d,J,_⟩:=h;exact ⟨d,J⟩
 unfold gA my;refine Gd.eM (P:=λ_=>True) (Gd.dO (λ_ (ys:List Ev) _=>∀ y ∈ ys,dG y=some 0) (λi y ys s Y I hn=>?_) (λ_ _ _=>Gd.ret Qo) _ _ _ h.lk) (λ_ _=>Gd.ret Qo);unfold nG;refine Gd.eM (LK (Ob (I y (Qu ..)))) (λs hs=>Gd.eM (F0 _ s hs) (λd _=>hn _ (λz O=>I z (Qy _ O))))
def yW (e:Ev):Bool:=!(decide (e.Kind=yp) || decide (e.Kind=vJ))
theorem Fe {k:BA} (I:k=yp\/k=vJ) {t:Int}{names:List BA}{ev:List Ev} (h:Own k t names ev):ev.filter yW=[]:=by
 rw [List.filter_eq_nil_iff];intro e he;have:=(h.k e he).1;unfold yW;rcases I with rfl | rfl <;> simp [this]
theorem LV {r r':Rm}{e:Ev} (J:MX r e r'):r'.log.iH.filter yW=r.log.iH.filter yW++[e]:=by
 have he:yW e=true:=by
  unfold yW;simp [J.k.1,J.k.2]
 obtain ⟨on1,_,st1,ov1,ex,_,_,O⟩:=J.x;rcases O with ⟨_,_,_,_,hl⟩ | ⟨_,_,_,_,ev,I,hl⟩ | ⟨off,ev,I,_,_,_,_,hl⟩
 ·rw [hl,R4]; simp [he]
 ·rw [hl,R4,R4,Fe (.inr rfl) I]; simp [he]
 ·rw [hl,R4,R4,Fe (.inl rfl) I]; simp [he]
def C4:Rm->List Ev->Rm->Prop
 | r,[],r'=>r'=r
 | r,e::es,r'=>∃ I,gT r e=some (0,I)/\C4 I es r'
theorem C4.add:∀ {es:List Ev}{r0 r r':Rm}{e:Ev},C4 r0 es r->gT r e=some (0,r')->C4 r0 (es++[e]) r'
 | [],_,_,_,_,h,hs=>by
  obtain rfl:=h;exact ⟨_,hs,rfl⟩
 | _::_,_,_,_,_,⟨r1,h1,h⟩,hs=>⟨r1,h1,C4.add h hs⟩
theorem Nx {r:Rm}{x:BA} (I:x ∈ nm r.bY):x ∈ IV r↔x ∈ r.on:=by
 unfold IV;simp [I]
theorem Ny {r:Rm} (I:px r.bY):AW r.bY (IV r):=
 ⟨(E9 I).sublist List.filter_sublist,λx J=>(Ru.1 J).1⟩
theorem Ft {r:Rm} (h:Inv r):mV r=some r.state:=by
 obtain ⟨ov,hs⟩:=h.st;have I:=hs.al;have J:=hs.fl;have O:=hs.v.l3;rw [<- Gd.eq];unfold mV;exact Gd.nd (by omega) (Gd.nd (by omega) (Gd.ret rfl))
theorem IC {r:Rm} (h:Inv r) (hre:gS r.bY r.on=some ([],8)):gS r.bY (IV r)=some ([],8):=by
 obtain ⟨ov,hs⟩:=h.st;have hol:=h.on.len;have h5:=h.ll;have O:=Ny (r:=r) hs.v;have hol2:=O.len;obtain ⟨q,I,hc⟩:=zH h.sz hs.v r.on hs.M7 (by omega) (IV r) rfl
 rw [hre] at I;have I:=Qs I;subst I;have hno:∀ s,s.Sublist (IV r)->¬ Ba r.bY (IV r) s:=by
  rcases hc with ⟨h0,_⟩ | ⟨_,Z⟩
  ·simp at h0
  ·exact Z
 obtain ⟨q,I,hc⟩:=zH h.sz hs.v (IV r) (O.M7 hs.cn hs.v.l5) (by omega) (IV r) (by
  show IV r=(nm r.bY).filter (λx=>decide (x ∈ IV r));refine List.filter_congr (λx hx=>?_);exact Wm.2 (Nx hx).symm)
 rw [I];rcases hc with ⟨_,Y,J,_⟩ | ⟨Z,_⟩
 ·exact absurd J (hno _ Y)
 ·rw [Z]
theorem yV {r:Rm} (h:Inv r) {st:cG}{on ov:List BA} (hs:La r.bY on st ov):ob r.bY st.eO=some (ov,0):=
 K_ hs.cn hs.fl hs.ff hs.oe
theorem Me (l:List Ev):rJ l 0 ((min (l.length:Int) 8:Int).toNat)=l.take 8:=by
 have:((min (l.length:Int) 8:Int)).toNat=min l.length 8:=by omega
 rw [this];unfold rJ;simp [List.take_eq_take_iff];omega
structure Pa (x:aS) (i:Nat) (r:Rm):Prop where
 inv:Inv r
 h:r.held=[x.Name]
 s:r.bY.aL[i]? = some x
theorem Gz {σ Y:Type}{s:aX} (hz:vX s) {l:List Ev} (hl:∀ e ∈ l,yB e) {Q:Y->Prop}{n1:aX->Option Rm×Int->Option Y}{n2 n3:Y}
  {J:Nat->Ev->σ->(σ->Option Y)->Option Y}{k:σ->Option Y}{ini:Rm->σ} (I:List Ev->σ->Prop)
  (hno:∀ s' e,cK s=some s'->lf s'=some (none,e)->kE s'=some e->Gd (n1 s' (none,e)) Q)
  (h0:∀ s' r,vX s'->cK s=some s'->lf s'=some (some r,0)->Inv r->N5 s' r->I (l.take 8) (ini r))
  (hb:∀ i y ys v nx,yB y->I (y::ys) v->(∀ v',I ys v'->Gd (nx v') Q)->Gd (J i y v nx) Q) (hk:∀ v,I [] v->Gd (k v) Q):
  Gd ((cK s).bind λa=>(lf a).bind λb=>yU b.1 (if !decide (b.2=0) then n1 a b else some n2) (λsp=>if !decide (b.2=0) then some n3 else
   (cW (0<=(min (l.length:Int) 8)/\(min (l.length:Int) 8)<=(l.length:Int)) (dO J k 0 (rJ l 0 ((min (l.length:Int) 8:Int).toNat)) (ini sp))))) Q:=by
 obtain ⟨s',O,Z⟩:=JU hz;refine Gd.bind_eq O ?_;obtain ⟨q,hq,hc⟩:=Km Z;refine Gd.bind_eq hq ?_;rcases hc with ⟨e,he,rfl,hck⟩ | ⟨r,rfl,hi,hn⟩
 ·exact Gd.opt (λ_=>Gd.ite (λ_=>hno s' e O hq hck) (λh=>by simp [he] at h)) (λ_ h=>by simp at h)
 ·refine Gd.opt (λh=>by simp at h) (λr' hr'=>?_)
  obtain rfl:=Qs hr';refine Gd.ite (λh=>by simp at h) (λ_=>Gd.nd (by omega) ?_)
  rw [Me];exact Gd.dO (λ_ ys v=>(∀ y ∈ ys,yB y)/\I ys v) (λi y ys v nx h hn=>hb i y ys v nx (h.1 y (Qu ..)) h.2 (λv' h'=>hn v' ⟨λz hz=>h.1 z (Qy _ hz),h'⟩))
   (λ_ v h=>hk v h.2) _ _ _ ⟨λy hy=>hl y (SQ hy),h0 s' r Z O hq hi hn⟩
theorem Hg {x:BA}{a b:List BA} (h:x ∈ b):decide (x ∈ a.filter (λy=>decide (y ∈ b)))=decide (x ∈ a):=by
 simp [h]
theorem Fh {r r':Rm} (hi:Inv r') {e:Ev} (hd:MX r e r'):
  Gd (eR r' e r'.watch.fV r'.watch.gG r'.watch.mO r'.watch.over r'.watch.time) (λq=>q=(true,e.Time,r'.watch,r'.state.eO)):=by
 obtain ⟨on1,hon,st1,ov1,ex,O,hex,hc⟩:=hd.x;obtain ⟨ov',hs'⟩:=hi.st;have hol:=hi.ol;have key:∃ ov,ob r'.bY r'.state.eO=some (ov,0)/\(∀ x ∈ ex,decide (x ∈ ov)=decide (x ∈ r'.over))/\(r'.over≠[]->gS r'.bY r'.on=some ([],8)):=by
  rcases hc with ⟨h0,ho,hs,I,_⟩ | ⟨hre,ho,hs,I,_⟩ | ⟨off,ev,_,ho,Y,_,I,_⟩
  ·refine ⟨ov1,by rw [hs]; exact yV hi O,λx Z=>?_,λk=>absurd I k⟩
   have:=Hg (a:=ov1) Z;rw [h0] at this;rw [I,<- this]
  ·exact ⟨ov1,by rw [hs]; exact yV hi O,λx Z=>by rw [I]; exact (Hg Z).symm,λ_=>by rw [ho]; exact hre⟩
  ·exact ⟨[],yV hi Y,λx Z=>by rw [I],λk=>absurd I k⟩
 obtain ⟨ov,hov,um,J⟩:=key;unfold eR;refine Gd.bind_eq (Ft hi) (Gd.bind_eq (Kk hi) (Gd.bind_eq hov (Gd.ite (λk=>by simp at k) (λ_=>?_))))
 have hro:pN r'=some r'.over:=by
  rw [<- Gd.eq];unfold pN;exact Gd.nd (by omega) (Gd.ret rfl)
 refine Gd.bind_eq hro (Gd.bind_eq hex ?_);refine Gd.dO (λ_ (ys:List BA) (_:Unit)=>∀ y ∈ ys,y ∈ ex) (λi y ys v nx hI hn=>?_) (λi v hI=>?_) _ _ _ (λ_ h=>h)
 ·unfold lI
  rw [qz,qz];refine Gd.bind_eq rfl (Gd.bind_eq rfl (Gd.ite (λk=>?_) (λ_=>hn _ (λz hz=>hI z (Qy _ hz)))));have:=um y (hI y (Qu ..));simp [this] at k
 ·refine Gd.ite (λ_=>Gd.ret rfl) (λk=>?_)
  have hne:r'.over≠[]:=λh=>by rw [h] at k; simp at k
  exact Gd.bind_eq (Kk hi) (Gd.bind_eq (Ow hi) (Gd.bind_eq (IC hi (J hne)) (Gd.ret rfl)))
theorem KB {r r':Rm} (h:Inv r) (hi:Inv r') {e:Ev}{J:Int} (O:J=0->MX r e r') (hs:J≠0->r'=r):
  Gd (g_ r' e J r.time r.watch r.state.eO) (λq=>q=(true,r'.time,r'.watch,r'.state.eO)):=by
 unfold g_;refine Gd.ite (λk=>Gd.ret ?_) (λk=>?_)
 ·rw [hs (by simpa using k)]
 have O:=O (by simpa using k)
 have htm:=h.tm;have Y:=hi.tm;rw [O.t'] at Y;have I:=O.wa;unfold ya at I;rw [O.t'];refine Gd.ite (λk=>?_) (λk=>?_)
 ·have k:r.time<e.Time:=by simpa using k
  rw [Qx (by omega)] at I
  rw [bT ⟨by omega,by omega⟩]
  cases Z:iY r.watch r.state.eO (e.Time-r.time) with
  | none=>rw [Z] at I; cases I
  | some q=>
   rw [Z] at I;have I:=Qs I;have I:q.2.2=r'.watch:=I;refine Gd.bind_eq rfl ?_;rw [I];exact Fh hi O
 ·have k:¬ r.time<e.Time:=by simpa using k
  rw [Qw (by omega)] at I
  rw [Qs I];exact Fh hi O
theorem IP {s:aX} (Y:vX s):∃ w e,mz s.bK=some (w,e)/\∀ x,w=some x->e=0:=by
 obtain ⟨e,he,I⟩:=UI s.bK Y.n
 by_cases J:e=0
 ·subst J
  obtain ⟨w,O,_⟩:=Hx he (I rfl);exact ⟨_,_,O,λ_ _=>rfl⟩
 ·refine ⟨none,e,?_,λ_ h=>by cases h⟩
  rw [<- Gd.eq];unfold mz;exact Gd.bind_eq he (Gd.ite (λ_=>Gd.ret rfl) (λk=>by simp [J] at k))
theorem B9 {α:Type} (l:List α) (k:Nat) {z:Int} (I:z=(k:Int)):rJ l 0 ((min (l.length:Int) z:Int).toNat)=l.take k:=by
 have:((min (l.length:Int) z:Int)).toNat=min l.length k:=by omega
 rw [this];unfold rJ;simp [List.take_eq_take_iff];omega
def Oc (s:aX):aX:=aX.mk (aE.mk s.bK.bD s.bK.aL s.bK.aH (s.bK.cR.take 4) (s.bK.bB.take 3) s.bK.bM) s.nL
theorem JT (s:aX):cK s=some (Oc s):=by
 rw [<- Gd.eq];unfold cK nj;refine Gd.eM (P:=λn=>n=aE.mk s.bK.bD s.bK.aL s.bK.aH (s.bK.cR.take 4) (s.bK.bB.take 4) s.bK.bM) (Gd.nd (by omega) (Gd.nd (by omega) (Gd.ret ?_))) (λn hn=>?_)
 ·rw [B9 _ 4 (z:=4) rfl,B9 _ 4 (z:=4) rfl]
 ·rw [hn]
  refine Gd.nd (by omega) (Gd.ret ?_)
  simp only;rw [B9 _ 3 (z:=3) rfl,TG]
  rfl
theorem G4 {s s':aX} (h:cK s=some s'):cK s'=some s':=by
 rw [JT] at h;rw [<- Qs h,JT];unfold Oc;simp [TG]
theorem zJ (s:aX) (hz:vX s) (l:List Ev) (hl:∀ e ∈ l,yB e):gC s l=some true:=by
 rw [<- Gd.eq];unfold gC;obtain ⟨s',O,Y⟩:=JU hz;refine Gd.bind_eq O ?_;obtain ⟨w0,e0,hw0,hw0'⟩:=IP Y;refine Gd.bind_eq hw0 (Gd.opt (λ_=>Gd.bind_eq tL (Gd.ret rfl)) (λw hw=>?_));refine Gd.ite (λk=>absurd (hw0' w hw) (by simpa using k)) (λ_=>?_)
 obtain ⟨q,J,hc⟩:=Km Y;refine Gd.bind_eq J ?_;rcases hc with ⟨e,he,rfl,_⟩ | ⟨r,rfl,hi,hn⟩
 ·exact Gd.opt (λ_=>Gd.bind_eq tL (Gd.ret rfl)) (λ_ h=>by simp at h)
 refine Gd.opt (λh=>by simp at h) (λr' hr'=>?_)
 obtain rfl:=Qs hr';refine Gd.ite (λk=>by simp at k) (λ_=>Gd.bind_eq (Ft hi) (Gd.bind_eq tL (Gd.ite (λ_=>Gd.eM (P:=λb=>b.1=true) ?_ (λb hb=>Gd.ret hb)) (λh=>by cases h))))
 have hww:w=r.watch:=by
  have:=hn.w;rw [hw0] at this;have:=Qs this;rw [SG] at this;exact Qs (hw.symm.trans this.1)
 unfold eG;refine Gz (s:=s') (σ:=Rm×Int×List aK×List aA×List Int×List Bool×Int×List BA) (n1:=λa b=>(kE a).bind λc=>some ((decide (c=b.2)),(0:Int),w,r.state.eO)) Y hl (λ_ v=>Inv v.1/\v.2=(v.1.time,v.1.watch.fV,v.1.watch.gG,v.1.watch.mO,v.1.watch.over,v.1.watch.time,v.1.state.eO)) ?_ ?_ (λi y ys v nx hy hi hn=>?_) (λ_ _=>Gd.ret rfl)
 ·intro s2 e Z I _
  rw [G4 O] at Z;rw [<- Qs Z,J] at I;simp at I
 ·intro s2 r2 _ Z I hi2 hn2
  rw [G4 O] at Z;rw [<- Qs Z,J] at I;have I:=(Prod.mk.inj (Qs I)).1;have I:=Qs I;subst I;rw [hww];exact ⟨hi,by rw [hn.ti]⟩
 ·obtain ⟨r1,v⟩:=v
  obtain ⟨hi,hv⟩:=hi;simp only at hi hv;subst hv;unfold fE;refine Gd.eM (DW hi hy) (λq J=>?_);refine Gd.eM (KB hi J.1 J.2.2 J.2.1) (λp hp=>?_);subst hp;exact Gd.ite (λk=>by simp at k) (λ_=>hn _ ⟨J.1,rfl⟩)
theorem Nu {r:Rm} (h:Inv r):nb r=some r.log.iH:=by
 have I:=h.lc;rw [<- Gd.eq];unfold nb kP;exact Gd.eM (P:=λx=>x=r.log.iH) (Gd.nd (by omega) (Gd.ret rfl)) (λ_ h=>Gd.ret h)
structure Pc (s:aX) (log:List Ev) (d:Int):Prop where
 l:log.length<=250
 x:log=[]\/∃ s' r0 r,cK s=some s'/\lf s'=some (some r0,0)/\C4 r0 (log.filter yW) r/\(log.filter yW).length<=8/\(∀ e ∈ log.filter yW,yB e)/\gA r=some d
structure Pe (s':aX) (r0:Rm) (ys:List Ev) (v:Rm×List Ev×Int):Prop where
 i:Inv v.1
 p:C4 r0 (v.1.log.iH.filter yW) v.1
 n:(v.1.log.iH.filter yW).length+ys.length<=8
 e:∀ e ∈ v.1.log.iH.filter yW,yB e
 l:v.2.1=v.1.log.iH
 d:v.2.1=[]\/gA v.1=some v.2.2
theorem KD (s:aX) (hz:vX s) (l:List Ev) (hl:∀ e ∈ l,yB e):
  Gd (dC s l [] ⟨0⟩) (λq=>q.1=true/\Pc s q.2.1 q.2.2.n):=by
 unfold dC;refine Gz (σ:=Rm×List Ev×Int) (n1:=λa b=>(kE a).bind λc=>some ((decide (c=b.2)),([]:List Ev),(⟨0⟩:CB))) hz hl
  (λys v=>∃ s' r0,cK s=some s'/\lf s'=some (some r0,0)/\Pe s' r0 ys v) (λs' e _ _ I=>Gd.bind_eq I (Gd.ret ⟨by simp,by simp,.inl rfl⟩)) (λs' r _ Y Z hi hn=>?_) (λi y ys v nx hy hi hn=>?_) (λv hi=>?_)
 ·refine ⟨s',r,Y,Z,hi,?_,?_,?_,hn.lo.symm,.inl rfl⟩ <;> simp only [hn.lo,List.filter_nil]
  ·rfl
  ·simp; omega
  ·simp
 ·obtain ⟨s',r0,Y,Z,hi⟩:=hi
  unfold fF;obtain ⟨q,hq,I⟩:=DW hi.i hy;refine Gd.bind_eq hq ?_;obtain ⟨d,hd⟩:=JI I.1;have he:hO q.2 y q.1 v.2.1 ⟨v.2.2⟩=some (true,q.2.log.iH,⟨d⟩):=by
   rw [<- Gd.eq];unfold hO;exact Gd.bind_eq (Nu I.1) (Gd.bind_eq hd (Gd.ret rfl))
  refine Gd.bind_eq he (Gd.ite (λk=>by simp at k) (λ_=>hn _ ⟨s',r0,Y,Z,?_⟩))
  have J:=hi.n;rw [QA] at J
  by_cases h0:q.1=0
  ·have hdd:=I.2.2 h0
   obtain ⟨q1,q2⟩:=q;simp only at h0;subst h0;have O:=LV hdd;refine ⟨I.1,?_,?_,?_,rfl,.inr hd⟩
   ·simp only
    rw [O];exact hi.p.add hq
   ·simp only
    rw [O,QJ]; simp only [QA,VB]; omega
   ·simp only
    rw [O];intro e he;rcases QG.1 he with he | he
    ·exact hi.e e he
    ·rw [QY.1 he]; exact hy
  ·have hr:=I.2.1 h0
   refine ⟨I.1,?_,?_,?_,rfl,.inr hd⟩ <;> simp only [hr]
   ·exact hi.p
   ·omega
   ·exact hi.e
 ·obtain ⟨s',r0,Y,Z,hi⟩:=hi
  refine Gd.ret ⟨rfl,by simp only [hi.l]; exact hi.i.lc,?_⟩
  have J:=hi.n;rcases hi.d with h | h
  ·exact .inl h
  ·refine .inr ⟨s',r0,v.1,Y,Z,?_⟩
   simp only [hi.l];exact ⟨hi.p,by simpa using J,hi.e,h⟩
theorem Lt (A:List Ev) (hA:A.length<=1000):Gd (cL A) (λr=>r=A.filter yW):=
 zP (λx=>some (eD x)) yW (λx=>by unfold eD yW; simp) (aB.mk 0 ⟨#[]⟩ ⟨#[]⟩ 0) A (by omega)
theorem KE {s s':aX} (hz:vX s) {I:List Ev}{r0 r:Rm}{d:Int} (h1:cK s=some s') (h2:lf s'=some (some r0,0)) (O:C4 r0 I r) (h8:I.length<=8)
  (he:∀ e ∈ I,yB e) (hd:gA r=some d):Gd (dD s I 0 I ⟨d⟩) (λq=>q.1=true):=by
 unfold dD;refine Gz (σ:=Rm×Int) (n1:=λa b=>(kE a).bind λc=>some ((decide (c=b.2)),(0:Int))) hz he
  (λys v=>Inv v.1/\C4 v.1 ys r/\∃ m:Nat,v.2=(m:Int)/\m+ys.length=I.length) (λs' e _ _ Z=>Gd.bind_eq Z (Gd.ret (by simp))) (λs2 r2 _ k1 J hi _=>?_) (λi y ys v nx hy hi hn=>?_) (λ_ _=>Gd.ret rfl)
 ·rw [h1] at k1
  rw [<- Qs k1,h2] at J;have J:=(Prod.mk.inj (Qs J)).1;have J:=Qs J;subst J;rw [QH h8];exact ⟨hi,O,0,rfl,by simp⟩
 ·obtain ⟨hi,⟨r1,hs,O⟩,m,hm,hml⟩:=hi
  obtain ⟨q,Y,Z⟩:=DW hi hy;unfold fG;rw [hs] at Y;have Y:=Qs Y;subst Y;rw [QA] at hml;have hw:i64.wrap (v.2+1)=((m+1:Nat):Int):=by
   rw [hm,bT ⟨by omega,by omega⟩]; rfl
  refine Gd.bind_eq hs (Gd.eM (P:=λp=>p=(true,((m+1:Nat):Int))) ?_ (λp hp'=>?_))
  ·unfold kM
   rw [hw];refine Gd.ite (λ_=>Gd.ite (λ_=>Gd.ret rfl) (λk=>?_)) (λk=>by simp at k)
   have hy0:ys=[]:=by
    simp at k;exact List.length_eq_zero_iff.1 (by omega)
   subst hy0;obtain rfl:=O;exact Gd.bind_eq hd (Gd.ret (by simp))
  ·subst hp'
   exact Gd.ite (λk=>by simp at k) (λ_=>hn _ ⟨Z.1,O,m+1,rfl,by omega⟩)
theorem zL (s:aX) (Y:vX s) (l:List Ev) (hl:∀ e ∈ l,yB e):gE s l=some true:=by
 rw [<- Gd.eq];unfold gE;refine Gd.bind_eq tL (Gd.ite (λ_=>Gd.eM (KD s Y l hl) (λq O=>Gd.ite (λk=>by simp [O.1] at k) (λ_=>?_))) (λh=>by cases h))
 obtain ⟨h1,I⟩:=O.2;refine Gd.nd (by omega) (Gd.eM (Lt _ (by omega)) (λown J=>Gd.ite (λ_=>Gd.ret rfl) (λk=>?_)))
 rcases I with I | ⟨s',r0,r,a1,Z,a3,a4,a5,a6⟩
 ·rw [J,I] at k
  simp at k
 ·subst J
  refine Gd.eM (P:=λb=>b.1=true) (KE Y a1 Z a3 a4 a5 ?_) (λb hb=>Gd.ret hb);exact a6
end Go.Sim
