/-
  The proof, part F3.
-/
import Derived.Lib.AtoiTie
import Derived.Test.YtcebojaeckebiaaGreatDoorSqF2
set_option linter.unusedVariables false
set_option linter.unusedSimpArgs false
set_option linter.unusedSectionVars false
set_option linter.unnecessarySimpa false
namespace Go.Sim
abbrev VZ := @Go.Lib.decDigits_length
abbrev V1 := @Go.Lib.nDigits_small
end Go.Sim
namespace Go.Sim
open Go
open _root_.Go.IntKind (i64 u64 u32 u8)
structure EP (s:cM):Prop where
 n:qp s.bX
 r:∀ r ∈ s.pG,Bw r
structure PS (s:cM) (r:Rm):Prop where
 n:r.cH=s.bX
 on:r.on=nm s.bX
 he:r.held=[]
 w:pZ s.bX=some (some r.watch,0)
 ti:r.time=0
 lo:r.log.jL=[]
 ov:r.over=[]
theorem Of {s:cM} (hz:EP s):Gd (rm s) (λq=>(∃ e,e≠0/\q=(none,e)/\rE s=some e)\/∃ r,q=(some r,0)/\Inv r/\PS s r):=by
 suffices h:Gd (rE s) (λe=>e=0->bZ s.bX=some 0/\zx s.pG/\s.bX.bF.length<=5/\∃ st ov,dV s.bX (nm s.bX)=some (st,ov,0)/\Ns s.bX (nm s.bX) st ov) by
  obtain ⟨e,he,Y⟩:=h;unfold rm;refine Gd.bind_eq he (Gd.ite (λh=>Gd.ret (.inl ⟨e,by simpa using h,rfl,he⟩)) (λh=>?_))
  have O:e=0:=by simpa using h
  subst O;obtain ⟨hc,J,h5,st,ov,hst,hsg⟩:=Y rfl;have Z:=hsg.v;obtain ⟨w,hw,hwo⟩:=MG hc Z;have hrl:=J.1;refine Gd.bind_eq (copy_eq Z) (Gd.nd (by omega) (Gd.bind_eq (AK _ Z.l5) ?_))
  refine Gd.jW (λm i (l:List DH)=>i+m=s.pG.length/\l=s.pG) ?_ ?_ ((s.pG.length:Int):Int).toNat 0 s.pG ⟨by omega,rfl⟩
  ·rintro m i l nx ⟨hi,rfl⟩ hnx
   have I:i<s.pG.length:=by omega
   unfold wx;refine Gd.gK I (Gd.nd ?_ (Gd.gK I (hnx _ ⟨by omega,?_⟩)))
   ·have hco:=(J.2 _ (RI I)).2
    obtain ⟨f,hf,hfk⟩:=xc s.pG[i].xF (hz.r _ (RI I)).2;rw [hco] at hf;have:=(hfk (Q8 hf).symm).len;omega
   ·exact Vt I
  ·rintro i l ⟨_,rfl⟩
   refine Gd.bind_eq hw (Gd.opt (λk=>by simp at k) (λw' hw'=>?_))
   obtain rfl:=Q8 hw';refine Gd.bind_eq hst (Gd.ret (.inr ⟨_,rfl,⟨hz.n,⟨J,hz.r⟩,⟨KP Z,λx hx=>hx⟩,h5,⟨ov,hsg⟩,hwo,by simp,by simp [kU],by simp [kU],by simp,by simp [kU]⟩,⟨rfl,rfl,rfl,hw,rfl,rfl,rfl⟩⟩))
 unfold rE;obtain ⟨e,he,Y⟩:=VL s.bX hz.n;refine Gd.bind_eq he (Gd.ite (λh=>Gd.ret (λk=>absurd k (by simpa using h))) (λh=>?_))
 have O:e=0:=by simpa using h
 subst O;have Z:=Y rfl;refine Gd.eN (Dn s.pG hz.r) (λf hf=>Gd.ite (λh=>Gd.ret (λk=>absurd k (by simpa using h))) (λh=>?_))
 have J:=hf.1 (by simpa using h)
 refine Gd.ite (λ_=>Gd.ret (λh=>by simp at h)) (λh5=>Gd.bind_eq (AK _ Z.l5) (Gd.eN (P:=λq=>(q.2.2=0->Ns s.bX (nm s.bX) q.1 q.2.1)/\dV s.bX (nm s.bX)=some q) ?_ (λq hq=>Gd.ret (λO=>⟨he,J,by have:=Rf h5; omega,q.1,q.2.1,?_,hq.1 O⟩))))
 ·obtain ⟨q,hq,_,hs⟩:=Bx hz.n (nm s.bX)
  exact ⟨q,hq,hs,hq⟩
 ·rw [hq.2]
  obtain ⟨a,b,c⟩:=q;simp only at O;rw [O]
def QI (r:Rm):List BA:=(nm r.cH).filter (λx=>decide (x ∈ r.on))
theorem Oh (r:Rm) (x:BA):me x r=some (!decide (x ∈ r.on)):=by
 unfold me;rw [r9];simp
theorem KU (r:Rm) (A:List BA) (hA:A.length<=1000):Gd (dZ A r) (λq=>q=A.filter (λx=>decide (x ∈ r.on))):=
 BV (λx=>me x r) (λx=>decide (x ∈ r.on)) (Oh r) ⟨#[]⟩ A (by omega)
theorem NF {r:Rm} (h:Inv r):pB r=some (QI r):=by
 obtain ⟨ov,hs⟩:=h.st;have I:=hs.v.l5;rw [<- Gd.eq];unfold pB;refine Gd.bind_eq (AK _ I) (Gd.eN (KU r _ (by rw [zn]; omega)) (λq J=>Gd.ret ?_))
 rw [J]; rfl
theorem IU {s:BA} (h:fY s=some true):s.size<=8:=by
 by_cases hs:s.size<=maxLen
 ·have key:Gd (fY s) (λb=>b=true->s.size<=8):=by
   unfold fY;refine Gd.nd hs (Gd.dM (λ_ _ _=>True) (λi y ys s O _ hn=>?_) (λ_ _ _=>Gd.ret (λk=>?_)) _ _ _ Q3)
   ·unfold qM
    exact Gd.ite (λ_=>Gd.ret (λk=>by cases k)) (λ_=>hn _ Q3)
   ·simp at k; omega
  obtain ⟨b,I,J⟩:=key;rw [h] at I;cases I;exact J rfl
 ·unfold fY cK at h
  rw [Ra hs] at h;cases h
theorem IW {s:BA} (h:bC s=some true):s.size<=8:=by
 by_cases hs:s.size<=maxLen
 ·have key:Gd (bC s) (λb=>b=true->s.size<=8):=by
   unfold bC;refine Gd.nd hs (Gd.dM (λ_ _ _=>True) (λi y ys s O _ hn=>?_) (λ_ _ _=>Gd.ret (λk=>?_)) _ _ _ Q3)
   ·unfold l_
    exact Gd.ite (λ_=>Gd.ret (λk=>by cases k)) (λ_=>hn _ Q3)
   ·simp at k; omega
  obtain ⟨b,I,J⟩:=key;rw [h] at I;cases I;exact J rfl
 ·unfold bC cK at h
  rw [Ra hs] at h;cases h
structure Qh (e:Ev):Prop where
 t:0<=e.Time/\e.Time<=200000
 v:-1000000<=e.Value/\e.Value<=1000000
 k:e.Kind.size<=8
 n:e.Name.size<=8
theorem OX {e:Ev} (h:dD e=some 0):Qh e:=by
 unfold dD at h
 split at h
 ·simp at h
 rename_i ht
 cases I:fY e.Kind with
 | none=>rw [I] at h; cases h
 | some b=>
  rw [I] at h;cases b with
  | false=>simp at h
  | true=>
   cases hn:bC e.Name with
   | none=>rw [hn] at h; simp at h
   | some c=>
    rw [hn] at h;cases c with
    | false=>simp at h
    | true=>
     simp at h ht;exact ⟨by omega,by omega,IU I,IW hn⟩
theorem Dh (u:Nat) (h:u<10 ^ 20):(Lib.decDigits u).length<=20:=by
 rw [VZ];have key:∀ (k u:Nat),u<10 ^ (k+1)->Lib.nDigits u<=k+1:=by
  intro k
  induction k with
  | zero=>intro u h; rw [V1 (by simpa using h)]; omega
  | succ k ih=>
   intro u h
   by_cases I:u<10
   ·rw [V1 I]; omega
   ·rw [Lib.nDigits_big I]
    have:=ih (u / 10) (by rw [WH] at h; omega)
    omega
 exact key 19 u h
theorem Ca {n:Int} (h:-9223372036854775808<=n/\n<=9223372036854775807):(gV n).size<=21:=by
 show (Lib.itoa n).toArray.size<=21;rw [TC];unfold Lib.itoa
 split
 ·have:=Dh n.natAbs (by omega); simp; omega
 ·have:=Dh n.toNat (by omega); omega
theorem Mh {e:Ev} (h:Qh e):Gd (q_ e) (λs=>s.size<=1000):=by
 have J:=Ca (n:=e.Time) (by have:=h.t; omega)
 have O:=Ca (n:=e.Value) (by have:=h.v; omega)
 have I:(⟨#[32]⟩:Q1).size=1:=rfl;have Z:=h.k; have k2:=h.n; have ht:=h.t; have Y:=h.v
 unfold q_;refine Gd.nd (by omega) (Gd.nd ?_ (Gd.nd ?_ (Gd.nd ?_ (Gd.nd ?_ (Gd.nd ?_ (Gd.nd (by omega) (Gd.nd ?_ (Gd.ret ?_))))))))
 all_goals simp only [uk,I,maxLen]; omega
theorem Gk (n:Int) (s:BA) (h:s.size<=1000):Gd (pq n s) (λ_=>True):=by
 have z:(⟨#[10]⟩:Q1).size=1:=rfl;unfold pq;refine Gd.nd (by rw [z]; simp only [maxLen]; omega) (Gd.nd (by rw [uk,z]; simp only [maxLen]; omega) (Gd.dM (λ_ _ _=>True) (λi y ys s I _ hn=>hn _ Q3) (λ_ _ _=>Gd.ret Q3) _ _ _ Q3))
theorem J8 {r:Rm} (h:Inv r):∃ d,kE r=some d:=by
 suffices h:Gd (kE r) (λ_=>True) by
  obtain ⟨d,J,_⟩:=h;exact ⟨d,J⟩
 unfold kE mi;refine Gd.eN (P:=λ_=>True) (Gd.dM (λ_ (ys:List Ev) _=>∀ y ∈ ys,dD y=some 0) (λi y ys s Y I hn=>?_) (λ_ _ _=>Gd.ret Q3) _ _ _ h.lk) (λ_ _=>Gd.ret Q3);unfold nt;refine Gd.eN (Mh (OX (I y (Q9 ..)))) (λs hs=>Gd.eN (Gk _ s hs) (λd _=>hn _ (λz O=>I z (Rc _ O))))
def Jv:Rm->List Ev->Rm->Prop
 | r,[],r'=>r'=r
 | r,e::es,r'=>∃ I,gB r e=some (0,I)/\Jv I es r'
theorem Jv.add:∀ {es:List Ev}{r0 r r':Rm}{e:Ev},Jv r0 es r->gB r e=some (0,r')->Jv r0 (es++[e]) r'
 | [],_,_,_,_,h,hs=>by
  obtain rfl:=h;exact ⟨_,hs,rfl⟩
 | _::_,_,_,_,_,⟨r1,h1,h⟩,hs=>⟨r1,h1,Jv.add h hs⟩

theorem Jd (s:Q1) (c:UInt8):oC s (ba [c])=some (Lib.indexByte (bl s) c):=by
 unfold oC;rw [B6]; rfl
theorem count_eq (s:Q1) (c:UInt8):qD s (ba [c])=some (((bl s).count c:Nat):Int):=by
 unfold qD;rw [Ra (by simp [eA]),Rb (by simp [eA]),BQ]
 simp [idx,NW,Lib.countByte]
def rV (c:UInt8):List UInt8->List (List UInt8)
 | []=>[[]]
 | b::l=>if b=c then []::rV c l else match rV c l with
  | []=>[[b]]
  | h::t=>(b::h)::t
theorem pN {c:UInt8}:∀ {l:List UInt8},c ∉ l->rV c l=[l]
 | [],_=>rfl
 | b::l,h=>by
  have I:b≠c:=λe=>h (by rw [e]; exact Q9 ..)
  rw [rV,Ra I,pN (l:=l) (λhm=>h (Rc _ hm))]
theorem pM {c:UInt8}{r:List UInt8}:∀ {a:List UInt8},c ∉ a->rV c (a++c::r)=a::rV c r
 | [],_=>by rw [SJ,rV,Rb rfl]
 | b::a,h=>by
  have I:b≠c:=λe=>h (by rw [e]; exact Q9 ..)
  rw [S5,rV,Ra I,pM (a:=a) (λhm=>h (Rc _ hm))]
theorem CP (c:UInt8) (l:List UInt8):(rV c l).length=l.count c+1:=by
 have key:∀ (n:Nat) (l:List UInt8),l.length<=n->(rV c l).length=l.count c+1:=by
  intro n
  induction n with
  | zero=>intro l h; have:l=[]:=RA (by omega); subst this; rfl
  | succ n ih=>
   intro l h;rcases qx c l with ⟨I,_⟩ | ⟨a,b,rfl,J,_⟩
   ·rw [pN I,Uu.2 I]; rfl
   ·rw [pM J,Rd,ih b (by simp at h; omega),List.count_append,Uu.2 J,List.count_cons_self]; omega
 exact key _ l (Rq _)
def Cc (c:UInt8):List (List UInt8)->List UInt8
 | []=>[]
 | [w]=>w
 | w::v::r=>w++c::Cc c (v::r)
theorem Gq {s:Q1}{a b:List UInt8}{c:UInt8} (h:bl s=a++c::b):s.extract 0 a.length=ba a/\s.extract (a.length+1) s.size=ba b:=by
 have I:s.size=a.length+1+b.length:=by rw [<- xb,h]; simp; omega
 constructor
 ·refine xa ?_
  rw [u_,h,ub]; simp
 ·refine xa ?_
  rw [u_,h,ub,I,Ri (by simp; omega)]
  rw [show a++c::b=(a++[c])++b by simp,Tr (by simp),V4 (by simp)]; simp
theorem FN (s:Q1) (c:UInt8) (hs:s.size<=1000000):oD s (ba [c])=some ((rV c (bl s)).map ba):=by
 unfold oD qk;have hcnt:(bl s).count c<=s.size:=by rw [<- xb]; exact List.count_le_length
 rw [Ra (by decide),Ra (by simp only [RS]; intro h; have:=Rn ByteArray.size h; rw [eA] at this; exact Nat.noConfusion this),Rb (by decide),count_eq]
 simp only [S8];generalize hc:(bl s).count c=I at hcnt;have w1:i64.wrap ((I:Int)+1)=(I:Int)+1:=bJ ⟨by omega,by omega⟩
 have w2:i64.wrap ((s.size:Int)+1)=(s.size:Int)+1:=bJ ⟨by omega,by omega⟩
 have hmin:min ((I:Int)+1) ((s.size:Int)+1)=(I:Int)+1:=by omega
 have w3:i64.wrap ((I:Int)+1-1)=(I:Int):=by rw [bJ ⟨by omega,by omega⟩]; omega
 unfold lU;rw [w1,w2,hmin]
 suffices h:Gd (cK (0<=((I:Int)+1)/\((I:Int)+1)*16<=140737488355328) (fX (λO n=>oa s (ba [c]) 0 ((I:Int)+1) O.1 O.2.1 O.2.2 n) eY (s,(List.replicate ((I:Int)+1).toNat ((⟨#[]⟩):Q1)),0)))
   (λr=>r=(rV c (bl s)).map ba) by
  obtain ⟨r,hr,rfl⟩:=h;rw [hr]; rfl
 refine Gd.nd ⟨by omega,by omega⟩ (Gd.fX (λ(z:Q1×List Q1×Int)=>∃ (k:Nat) (Y:List (List UInt8)),z.2.2=k/\k<=I/\Y.length=k/\z.2.1=Y.map ba++List.replicate (I+1-k) (⟨#[]⟩:Q1)/\rV c (bl s)=Y++rV c (bl z.1)/\z.1.size<=s.size)
  (λz=>(I+1-z.2.2.toNat)) ?_ eY _ ⟨0,[],rfl,by omega,rfl,by simp,by simp,Rq _⟩ (by simp only [eY]; omega))
 rintro ⟨s',l,i⟩ nx ⟨k,Y,rfl,hk,J,rfl,hsp,hsz⟩ hnx;simp only at hsp hsz hnx ⊢;have hcount:(bl s').count c=I-k:=by
  have h1:=CP c (bl s);rw [hsp,Ro,CP,J,hc] at h1;omega
 unfold oa;rw [w2,hmin,w3];refine Gd.ite (λh1=>?_) (λh1=>?_)
 ·have h1:k<I:=by simpa using h1
  refine Gd.bind_eq (Jd s' c) ?_;rcases qx c (bl s') with ⟨hno,_⟩ | ⟨a,b,Z,ha,hi⟩
  ·rw [Uu.2 hno] at hcount; omega
  ·have hsl:a.length+1<=s'.size:=by rw [<- xb,Z]; simp
   rw [hi];have w4:i64.wrap ((a.length:Int)+0)=(a.length:Int):=by rw [Int.add_zero]; exact bJ ⟨by omega,by omega⟩
   have w5:i64.wrap ((a.length:Int)+((ba [c]).size:Int))=(a.length:Int)+1:=by rw [eA]; exact bJ ⟨by simp; omega,by simp; omega⟩
   have w6:i64.wrap ((k:Int)+1)=((k+1:Nat):Int):=by rw [bJ ⟨by omega,by omega⟩]; omega
   rw [w4,w5,w6];obtain ⟨x1,x2⟩:=Gq Z;refine Gd.ite (λh=>by simp at h; omega) (λ_=>Gd.nd ⟨by omega,by omega⟩ (Gd.gK (by simp; omega) (Gd.nd ⟨by omega,by omega⟩ (hnx _ ⟨k+1,Y++[a],rfl,by omega,by simp [J],?_,?_,?_⟩ (by simp; omega)))))
   ·simp only [Q5]
    rw [x1,Wh _ _ (by simp [J]),show k-(Y.map ba).length=0 by simp [J],show I+1-k=(I+1-(k+1))+1 by omega,Ta,Wj]
    simp
   ·simp only
    rw [show ((a.length:Int)+1).toNat=a.length+1 by omega,x2,ub,hsp,Z,pM ha]
    simp
   ·simp only
    rw [show ((a.length:Int)+1).toNat=a.length+1 by omega,x2,eA]
    have:s'.size=a.length+1+b.length:=by rw [<- xb,Z]; simp; omega
    omega
 ·have h1:k=I:=by
   have:¬ k<I:=by simpa using h1
   omega
  subst h1;have hno:c ∉ bl s':=Uu.1 (by omega)
  have w6:i64.wrap ((k:Int)+1)=((k+1:Nat):Int):=by rw [bJ ⟨by omega,by omega⟩]; omega
  unfold lT;rw [w6];have hset:(Y.map ba++List.replicate (k+1-k) (⟨#[]⟩:Q1)).set ((k:Int)).toNat s'=Y.map ba++[s']:=by
   rw [Q5,Wh _ _ (by simp [J]),show k-(Y.map ba).length=0 by simp [J],show k+1-k=0+1 by omega,Ta,Wj]
   rfl
  refine Gd.gK (by simp [J]) ?_
  rw [hset];refine Gd.nd ⟨by omega,by simp [J]⟩ (Gd.ret ?_)
  rw [hsp,pN hno];simp [sJ];exact Ri (by simp [J])
theorem AT:∀ (l:List UInt8) (acc n:Nat) (b:UInt8) (d:Nat),Lib.decFrom acc l=some n->Lib.digitVal b=some d->Lib.decFrom acc (l++[b])=some (n*10+d)
 | [],acc,n,b,d,h,hb=>by simp [Lib.decFrom] at h; subst h; simp [Lib.decFrom,hb]
 | x::l,acc,n,b,d,h,hb=>by
  rw [Lib.decFrom] at h;rw [S5,Lib.decFrom];cases I:Lib.digitVal x with
  | none=>rw [I] at h; cases h
  | some q=>rw [I] at h; exact AT l _ n b d h hb
theorem Fb {u:Nat} (h:u<10):Lib.digitVal (UInt8.ofNat (48+u))=some u:=by
 have:(UInt8.ofNat (48+u)).toNat=48+u:=by rw [UInt8.toNat_ofNat']; omega
 unfold Lib.digitVal;rw [this,Rb (by omega)]
 congr 1; omega
theorem xd (u:Nat):Lib.decFrom 0 (Lib.decDigits u)=some u/\Lib.decDigits u≠[]/\∀ b ∈ Lib.decDigits u,48<=b.toNat/\b.toNat<=57:=by
 induction u using Nat.strongRecOn with
 | _ u ih=>
  have J:∀ v,v<10->48<=(UInt8.ofNat (48+v)).toNat/\(UInt8.ofNat (48+v)).toNat<=57:=λv hv=>by
   rw [UInt8.toNat_ofNat']; omega
  by_cases h:u<10
  ·rw [V0 h]
   refine ⟨by rw [Lib.decFrom,Fb h]; simp [Lib.decFrom],by simp,λb I=>?_⟩
   rw [Rz] at I; subst I; exact J u h
  ·obtain ⟨O,Z,Y⟩:=ih (u / 10) (by omega)
   have e:Lib.decDigits u=Lib.decDigits (u / 10)++[UInt8.ofNat (48+u%10)]:=by rw [Lib.decDigits,dif_neg h]
   rw [e];refine ⟨?_,by simp,λb I=>?_⟩
   ·rw [AT _ _ _ _ _ O (Fb (by omega))]
    congr 1; omega
   ·rcases Rh.1 I with I | I
    ·exact Y b I
    ·rw [Rz] at I; subst I; exact J _ (by omega)
theorem Hq (u:Nat) (h:u<10 ^ 8):(Lib.decDigits u).length<=8:=by
 rw [VZ];have key:∀ (k u:Nat),u<10 ^ (k+1)->Lib.nDigits u<=k+1:=by
  intro k
  induction k with
  | zero=>intro u h; rw [V1 (by simpa using h)]; omega
  | succ k ih=>
   intro u h
   by_cases I:u<10
   ·rw [V1 I]; omega
   ·rw [Lib.nDigits_big I]
    have:=ih (u / 10) (by rw [WH] at h; omega)
    omega
 exact key 7 u h
theorem B9 (n:Int):∀ b ∈ Lib.itoa n,b.toNat=45\/48<=b.toNat/\b.toNat<=57:=by
 intro b I;unfold Lib.itoa at I
 split at I
 ·rcases RU.1 I with rfl | I
  ·exact .inl rfl
  ·exact .inr ((xd _).2.2 b I)
 ·exact .inr ((xd _).2.2 b I)
theorem zL {n:Int} (h:-100000000<n/\n<100000000):(Lib.itoa n).length<=9:=by
 unfold Lib.itoa
 split
 ·have:=Hq n.natAbs (by omega); simp; omega
 ·have:=Hq n.toNat (by omega); omega
theorem Il {n:Int} (h:-100000000<n/\n<100000000):xB (gV n)=(n,false):=by
 have I:=zL h;have key:Lib.atoi (Lib.itoa n)=some n:=by
  unfold Lib.itoa
  split
  ·rename_i hn
   obtain ⟨O,J,_⟩:=xd n.natAbs;have:Lib.decNat (Lib.decDigits n.natAbs)=some n.natAbs:=by
    unfold Lib.decNat;rw [Ra (by simpa using J)]; exact O
   rw [Lib.atoi,Rb (by rfl),this]
   simp; omega
  ·rename_i hn
   obtain ⟨O,J,h3⟩:=xd n.toNat;cases Y:Lib.decDigits n.toNat with
   | nil=>exact absurd Y J
   | cons b r=>
    have Z:=h3 b (by rw [Y]; exact Q9 ..)
    have e1:(b == 45)=false:=by simp; rintro rfl; simp at Z
    have e2:(b == 43)=false:=by simp; rintro rfl; simp at Z
    rw [Lib.atoi,e1,e2,<- Y];have:Lib.decNat (Lib.decDigits n.toNat)=some n.toNat:=by
     unfold Lib.decNat;rw [Ra (by simpa using J)]; exact O
    rw [this];simp; omega
 unfold xB gV;simp only;rw [Lib.atoiAll_short _ (by simpa using Sb I (by omega)),key]
 rfl
theorem Kw (n:Int):gV n=ba (Lib.itoa n):=rfl
abbrev zt:=aV
abbrev Form:=bB
abbrev Pc:zt:=aV.mk (⟨#[]⟩) (⟨#[]⟩) 0
structure F2 (f:Form):Prop where
 sp:(32:UInt8) ∉ bl f.verb
 nl:(10:UInt8) ∉ bl f.verb
 s0:1<=f.verb.size
 s1:f.verb.size<=5
 lo:-100000<=f.fG
 hi:f.dK<=100000
def Kk (f:Form):Bool:=!(bl f.verb).contains 32 && (!(bl f.verb).contains 10 && (decide (1<=f.verb.size) && (decide (f.verb.size<=5) && (decide (-100000<=f.fG) && decide (f.dK<=100000)))))
theorem L3 {f:Form} (h:Kk f=true):F2 f:=by
 simp only [Kk,SK,Vk,RS] at h;obtain ⟨I,J,O,Y,Z,h6⟩:=h;refine ⟨λhm=>?_,λhm=>?_,O,Y,Z,h6⟩
 ·rw [TO.2 hm] at I; cases I
 ·rw [TO.2 hm] at J; cases J
theorem LZ (v:Q1):Gd (kY v) (λr=>r.2=true->F2 r.1/\r.1.verb=v):=by
 unfold kY;refine Gd.jW (λm i _=>m+i=8) (λm i s J I hn=>?_) (λi s _=>Gd.ret (λh=>by cases h)) _ _ _ (by rfl)
 unfold sP;refine Gd.gK (show i<8 by omega) (Gd.ite (λh=>Gd.ret (λ_=>⟨L3 ?_,by simpa using h⟩)) (λ_=>hn _ (by omega)))
 exact (Sj (p:=Kk)).1 (by kernel_rfl) _ (RI _)
def DF (s:Q1):Prop:=s.size<=8/\∀ c ∈ bl s,48<=c.toNat
theorem DF.not {s:Q1} (h:DF s) {c:UInt8} (I:c.toNat<48):c ∉ bl s:=λhm=>by have:=h.2 c hm; omega
theorem Mo (s:Q1) (h:s.size<=maxLen):Gd (bC s) (λb=>b=true->DF s):=by
 unfold bC;refine Gd.nd h (Gd.dM (λ_ l _=>∃ a b:List UInt8,bl s=a++b/\l=b.map (λc=>(⟨c.toNat⟩:U8))/\∀ c ∈ a,48<=c.toNat) (λi y ys z n hI hn=>?_) (λi z hI=>?_) _ _ _ ⟨[],bl s,rfl,rfl,by simp⟩)
 ·obtain ⟨a,b,Y,J,Z⟩:=hI
  unfold l_;refine Gd.ite (λ_=>Gd.ret (λh=>by cases h)) (λO=>hn _ ?_)
  cases b with
  | nil=>cases J
  | cons c b=>
   simp only [Te,List.cons.injEq] at J;obtain ⟨rfl,rfl⟩:=J;refine ⟨a++[c],b,by rw [Y]; simp,rfl,λx I=>?_⟩
   rcases Rh.1 I with I | I
   ·exact Z x I
   ·rw [Rz] at I; subst I
    simp at O;omega
 ·obtain ⟨a,b,Y,J,Z⟩:=hI
  have hb:b=[]:=by cases b with
   | nil=>rfl
   | cons _ _=>cases J
  subst hb;refine Gd.ret (λh=>?_);simp only [SK,RS] at h;refine ⟨by omega,λc O=>Z c (by rw [Y] at O; simpa using O)⟩
structure tV (c:zt) (f:Form):Prop where
 find:kY c.iB=some (f,true)
 form:F2 f
 verb:f.verb=c.iB
 check:kB c=some 0
 nm:f.name=true->DF c.Name
 nn:f.name=false->c.Name=⟨#[]⟩
 nz:f.n=false->c.N=0
 nr:f.n=true->f.fG<=c.N/\c.N<=f.dK
theorem Ir (c:zt) (h:c.Name.size<=maxLen):Gd (kB c) (λk=>k=0->∃ f,tV c f):=by
 obtain ⟨⟨f,b⟩,hf,Y⟩:=LZ c.iB;obtain ⟨nb,hn,hno⟩:=Mo c.Name h;have key:Gd (kB c) (λk=>k=0->b=true/\(f.name=true->nb=true)/\(f.name=false->c.Name=⟨#[]⟩)/\(f.n=false->c.N=0)/\(f.n=true->f.fG<=c.N/\c.N<=f.dK)):=by
  unfold kB;refine Gd.bind_eq hf (Gd.ite (λ_=>Gd.ret (λh=>by omega)) (λZ=>?_))
  simp only [VR] at Z;refine Gd.ite (λO=>?_) (λO=>?_)
  ·simp only at O
   refine Gd.bind_eq hn (Gd.ite (λ_=>Gd.ret (λh=>by omega)) (λh3=>Gd.ite (λ_=>Gd.ret (λh=>by omega)) (λJ=>Gd.ite (λ_=>Gd.ret (λh=>by omega)) (λI=>Gd.ret (λ_=>⟨Z,λ_=>by simpa using h3,(λh=>by rw [O] at h; cases h),λh=>?_,λh=>?_⟩)))))
   ·simp only at J; rw [h] at J; simpa using J
   ·simp only at I; rw [h] at I; simp at I; exact I
  ·simp only at O
   refine Gd.ite (λ_=>Gd.ret (λh=>by omega)) (λJ=>Gd.ite (λ_=>Gd.ret (λh=>by omega)) (λI=>Gd.ret (λ_=>⟨Z,(λh=>by rw [O] at h; cases h),λ_=>?_,λh=>?_,λh=>?_⟩)))
   ·simp only [VS] at J; simpa using J.1
   ·simp only [VS] at J; have:=J.2; rw [h] at this; simpa using this
   ·simp only at I; rw [h] at I; simp at I; exact I
 obtain ⟨k,hk,hq⟩:=key;refine ⟨k,hk,λh0=>?_⟩;subst h0;obtain ⟨q1,q2,q3,q4,q5⟩:=hq rfl;subst q1;exact ⟨f,hf,(Y rfl).1,(Y rfl).2,hk,λh=>hno (q2 h),q3,q4,q5⟩
def tU (c:zt) (f:Form):List (List UInt8):=bl c.iB::((if f.name=true then [bl c.Name] else [])++(if f.n=true then [Lib.itoa c.N] else []))
def uB (c:zt) (f:Form):List UInt8:=bl c.iB++((if f.name=true then 32::bl c.Name else [])++(if f.n=true then 32::Lib.itoa c.N else []))
theorem tV.range {c:zt}{f:Form} (h:tV c f):-100000000<c.N/\c.N<100000000:=by
 have I:=h.form.lo; have J:=h.form.hi
 cases hn:f.n with
 | false=>have:=h.nz hn; omega
 | true=>have:=h.nr hn; omega
theorem tV.ND {c:zt}{f:Form} (h:tV c f):c.Name.size<=8:=by
 cases hn:f.name with
 | false=>rw [h.nn hn]; show 0<=8; omega
 | true=>exact (h.nm hn).1
theorem tV.NO {c:zt}{f:Form} (h:tV c f):c.iB.size<=5:=by rw [<- h.verb]; exact h.form.s1
theorem zp {c:zt}{f:Form} (h:tV c f):(uB c f).length<=24:=by
 have I:=h.NO; have J:=h.ND; have O:=zL h.range
 unfold uB;cases f.name <;> cases f.n <;> simp <;> omega
theorem EB {c:zt}{f:Form} (h:tV c f):rV 32 (uB c f)=tU c f:=by
 have I:(32:UInt8) ∉ bl c.iB:=by rw [<- h.verb]; exact h.form.sp
 have hi:(32:UInt8) ∉ Lib.itoa c.N:=λhm=>by have:=B9 _ _ hm; simp at this
 unfold uB tU;cases hn:f.name with
 | false=>
  cases f.n with
  | false=>simp [pN I]
  | true=>simp [pM I,pN hi]
 | true=>
  have hm:(32:UInt8) ∉ bl c.Name:=(h.nm hn).not (by decide)
  cases f.n with
  | false=>simp [pM I,pN hm]
  | true=>simp [pM I,pM hm,pN hi]
theorem FE {c:zt}{f:Form}{b:Bool} (J:-100000000<c.N/\c.N<100000000) (s:Q1) (hs:s.size<=100):
  Gd (lX c (f,b) s) (λr=>r.2=0/\bl r.1=bl s++(if f.n=true then 32::Lib.itoa c.N else [])):=by
 have hl:=zL J;have I:(gV c.N).size=(Lib.itoa c.N).length:=(xb _).symm;unfold lX;refine Gd.ite (λh=>Gd.nd ⟨by omega,by omega⟩ (Gd.nd ?_ (Gd.nd ?_ (Gd.ret ⟨rfl,?_⟩)))) (λh=>Gd.ret ⟨rfl,?_⟩)
 ·rw [I,show (⟨#[32]⟩:Q1).size=1 from rfl]; simp only [maxLen]; omega
 ·rw [uk,I,show (⟨#[32]⟩:Q1).size=1 from rfl]; simp only [maxLen]; omega
 ·simp only at h
  rw [Ap,Ap,h]; rfl
 ·simp only at h
  rw [h]; simp
theorem K0 (c:zt) (h1:c.iB.size<=maxLen) (Z:c.Name.size<=maxLen):
  Gd (qA c) (λr=>kB c=some r.2/\(r.2=0->∃ f,tV c f/\r.1=ba (uB c f))):=by
 obtain ⟨k,Y,hq⟩:=Ir c Z;unfold qA;refine Gd.bind_eq Y (Gd.ite (λh=>Gd.ret ⟨Y,λO=>by simp at h; exact absurd O h⟩) (λh=>?_))
 have O:k=0:=by simpa using h
 obtain ⟨f,I⟩:=hq O;subst O;have n8:=I.ND; have v5:=I.NO
 refine Gd.bind_eq I.find (Gd.ite (λJ=>Gd.nd ?_ (Gd.nd ?_ ?_)) (λJ=>?_))
 ·rw [show (⟨#[32]⟩:Q1).size=1 from rfl]; simp only [maxLen]; omega
 ·rw [uk,show (⟨#[32]⟩:Q1).size=1 from rfl]; simp only [maxLen]; omega
 ·refine (FE I.range _ (by rw [uk,uk,show (⟨#[32]⟩:Q1).size=1 from rfl]; omega)).mono ?_
  rintro ⟨t,k'⟩ ⟨rfl,ht⟩;refine ⟨Y,λ_=>⟨f,I,xa ?_⟩⟩;simp only at J;rw [ht,Ap,Ap,ub,uB,J]; simp [bl]
 ·refine (FE I.range _ (by omega)).mono ?_
  rintro ⟨t,k'⟩ ⟨rfl,ht⟩;refine ⟨Y,λ_=>⟨f,I,xa ?_⟩⟩;simp only at J;rw [ht,ub,uB,J]; simp
theorem AZ {c:zt}{f:Form} (h:tV c f):lV c.iB c.Name c.N=some (c,0):=by
 unfold lV;rw [show (aV.mk c.iB c.Name c.N)=c from rfl,h.check]
 rfl
theorem v_ {c:zt}{f:Form} (h:tV c f) {L:List Q1}{z:Nat}{i:Int}{b:Bool}{n:Q1} (hi:i=(z:Int)+1) (O:z<5) (hn:n=c.Name) (hL:f.n=true->L[z]? = some (gV c.N)):
  Gd (lW L (f,b) i c.iB n) (λr=>r=(c,0)):=by
 subst hi; subst hn
 have hl:=zL h.range;have J:=h.range;unfold lW;rw [show i64.wrap ((z:Int)+1-1)=(z:Int) by rw [bJ ⟨by omega,by omega⟩]; omega]
 refine Gd.ite (λhm=>?_) (λhm=>?_)
 ·have I:=hL hm
  refine Gd.ix (y:=gV c.N) (by omega) (by simpa using I) (Gd.nd (by rw [Kw,eA]; omega) ?_)
  rw [Il J];refine Gd.ite (λh=>by cases h) (λ_=>Gd.nd ⟨by simp only; omega,by simp only; omega⟩ (Gd.ix (y:=gV c.N) (by omega) (by simpa using I) (Gd.ite (λh=>by simp at h) (λ_=>Gd.eq.2 (AZ h)))))
 ·have:=h.nz hm
  refine Gd.eq.2 ?_;have:=AZ h;rw [h.nz hm] at this; exact this
theorem KW {c:zt}{f:Form} (h:tV c f):qz (ba (uB c f))=some (c,0):=by
 have hl:=zp h;refine Gd.eq.1 ?_;unfold qz;refine Gd.ite (λh=>by simp [eA] at h; omega) (λ_=>?_)
 refine Gd.bind_eq (FN _ 32 (by rw [eA]; omega)) ?_
 rw [ub,EB h];have O:i64.wrap (1+1)=2:=by decide
 have Z:i64.wrap (2+1)=3:=by decide
 have J:ba (bl c.iB)=c.iB:=E3 _;have I:ba (bl c.Name)=c.Name:=E3 _;have hi:ba (Lib.itoa c.N)=gV c.N:=rfl;have step:∀ (L:List Q1) (n:Int) (q:Option (zt×Int)),(L.length:Int)=n->Gd q (λr=>r=(c,0))->Gd (if ((!true) || (!decide ((L.length:Int)=n)))=true then some (Pc,5) else q) (λr=>r=(c,0)):=λL n q hq hk=>
  Gd.ite (λh=>by simp at h; exact absurd hq h) (λ_=>hk)
 cases hn:f.name with
 | true=>
  cases hm:f.n with
  | true=>
   have e:(tU c f).map ba=[c.iB,c.Name,gV c.N]:=by unfold tU; rw [hn,hm]; simp [J,I,hi]
   rw [e];refine Gd.ix (y:=c.iB) (by omega) rfl (Gd.bind_eq h.find (Gd.ite (λ_=>?_) (λh=>by simp only at h; rw [hn] at h; cases h)))
   unfold jA;rw [O,Z];refine Gd.ite (λ_=>?_) (λh=>by simp only at h; rw [hm] at h; cases h)
   unfold i_;refine step _ 3 _ rfl (Gd.ix (y:=c.iB) (by omega) rfl (Gd.ite (λ_=>Gd.ix (y:=c.Name) (by omega) rfl (v_ h (z:=2) rfl (by omega) rfl (λ_=>rfl))) (λh=>by simp only at h; rw [hn] at h; cases h)))
  | false=>
   have e:(tU c f).map ba=[c.iB,c.Name]:=by unfold tU; rw [hn,hm]; simp [J,I,hi]
   rw [e];refine Gd.ix (y:=c.iB) (by omega) rfl (Gd.bind_eq h.find (Gd.ite (λ_=>?_) (λh=>by simp only at h; rw [hn] at h; cases h)))
   unfold jA;rw [O,Z];refine Gd.ite (λh=>by simp only at h; rw [hm] at h; cases h) (λ_=>?_)
   unfold i_;refine step _ 2 _ rfl (Gd.ix (y:=c.iB) (by omega) rfl (Gd.ite (λ_=>Gd.ix (y:=c.Name) (by omega) rfl (v_ h (z:=1) rfl (by omega) rfl (λh=>by rw [hm] at h; cases h))) (λh=>by simp only at h; rw [hn] at h; cases h)))
 | false=>
  have Y:=h.nn hn;cases hm:f.n with
  | true=>
   have e:(tU c f).map ba=[c.iB,gV c.N]:=by unfold tU; rw [hn,hm]; simp [J,I,hi]
   rw [e];refine Gd.ix (y:=c.iB) (by omega) rfl (Gd.bind_eq h.find (Gd.ite (λh=>by simp only at h; rw [hn] at h; cases h) (λ_=>?_)))
   unfold jA;rw [O];refine Gd.ite (λ_=>?_) (λh=>by simp only at h; rw [hm] at h; cases h)
   unfold i_;refine step _ 2 _ rfl (Gd.ix (y:=c.iB) (by omega) rfl (Gd.ite (λh=>by simp only at h; rw [hn] at h; cases h) (λ_=>v_ h (z:=1) rfl (by omega) Y.symm (λ_=>rfl))))
  | false=>
   have e:(tU c f).map ba=[c.iB]:=by unfold tU; rw [hn,hm]; simp [J,I,hi]
   rw [e];refine Gd.ix (y:=c.iB) (by omega) rfl (Gd.bind_eq h.find (Gd.ite (λh=>by simp only at h; rw [hn] at h; cases h) (λ_=>?_)))
   unfold jA;refine Gd.ite (λh=>by simp only at h; rw [hm] at h; cases h) (λ_=>?_)
   unfold i_;refine step _ 1 _ rfl (Gd.ix (y:=c.iB) (by omega) rfl (Gd.ite (λh=>by simp only at h; rw [hn] at h; cases h) (λ_=>v_ h (z:=0) rfl (by omega) Y.symm (λh=>by rw [hm] at h; cases h))))
theorem IJ:kY (⟨#[119,97,105,116]⟩)=some (⟨⟨#[119,97,105,116]⟩,false,true,0,3600⟩,true):=by kernel_rfl
theorem CQ {c:UInt8}:∀ {ws:List (List UInt8)},ws≠[]->(∀ w ∈ ws,c ∉ w)->rV c (Cc c ws)=ws
 | [],h,_=>absurd rfl h
 | [w],_,h=>pN (h w (by simp))
 | w::v::r,_,h=>by
  rw [Cc,pM (h w (by simp)),CQ (ws:=v::r) (by simp) (λx I=>h x (Rc _ I))]
def sO (ls:List (List UInt8)):List UInt8:=ls.flatMap λl=>l++[10]
theorem GB (a:List (List UInt8)) (l:List UInt8):sO (a++[l])=sO a++(l++[10]):=by simp [sO]
theorem AW:∀ {ls:List (List UInt8)},ls≠[]->sO ls=Cc 10 ls++[10]
 | [],h=>absurd rfl h
 | [w],_=>by simp [sO,Cc]
 | w::v::r,_=>by
  have:=AW (ls:=v::r) (by simp)
  rw [show sO (w::v::r)=(w++[10])++sO (v::r) from rfl,this,Cc];simp
theorem DA (l:List UInt8) (c d:UInt8) (hl:l.length<1000000):eK (ba (l++[c])) (ba [d])=some (decide (c=d)):=by
 unfold eK;have I:(ba (l++[c])).size=l.length+1:=by rw [eA]; simp
 have J:(ba [d]).size=1:=rfl;have w:i64.wrap (((ba (l++[c])).size:Int)-((ba [d]).size:Int))=(l.length:Int):=by
  rw [I,J,bJ ⟨by omega,by omega⟩]; omega
 rw [Rb (by rw [I,J]; simp; omega),w]
 unfold cK;rw [Rb ⟨by omega,by rw [I]; omega⟩]
 have:(ba (l++[c])).extract (l.length:Int).toNat (ba (l++[c])).size=ba [c]:=by
  refine xa ?_;rw [u_,I,ub,ub,Ri (by simp)]
  simp
 rw [this]
 congr 1
 by_cases e:c=d
 ·subst e; simp
 ·rw [WY e,WY]
  intro h;have:=Rn bl h;rw [ub,ub] at this;exact e (by simpa using this)
theorem M7 (l:List UInt8) (hl:l.length<1000000):my (ba (l++[10])) (ba [10])=some (ba l):=by
 unfold my hO;rw [DA _ _ _ hl];have I:(ba (l++[10])).size=l.length+1:=by rw [eA]; simp
 have w:i64.wrap (((ba (l++[10])).size:Int)-((ba [10]).size:Int))=(l.length:Int):=by
  rw [I,show (ba [10]).size=1 from rfl,bJ ⟨by omega,by omega⟩]; omega
 simp only [S8,decide_true,UM];rw [w];unfold cK;rw [Rb ⟨by omega,by rw [I]; omega⟩]
 simp only [S8,Rp];refine xa ?_;rw [u_,ub,ub];simp
theorem has_eq (l:List UInt8) (c:UInt8) (hl:l.length<1000000):np (ba (l++[c])) (ba [10])=some (decide (c=10)):=by
 unfold np;rw [DA _ _ _ hl]; rfl
def r_ (z:Int×List Ev) (c:zt):Int×List Ev:=
 if c.iB=⟨#[119,97,105,116]⟩ then (z.1+c.N,z.2) else if c.iB=⟨#[116,101,108,108]⟩ then z else (z.1,z.2++[⟨z.1,c.iB,c.Name,c.N⟩])
def tc (z:Int×List Ev) (cs:List (zt×Form)):Int×List Ev:=cs.foldl (λz p=>r_ z p.1) z
theorem Ad (z:Int×List Ev) (cs:List (zt×Form)) (p:zt×Form):tc z (cs++[p])=r_ (tc z cs) p.1:=by simp [tc,List.foldl_append]
def Bn (cs:List (zt×Form)):Prop:=∀ p ∈ cs,tV p.1 p.2
theorem xz {c:zt}{f:Form} (h:tV c f) (O:c.iB=⟨#[119,97,105,116]⟩):0<=c.N/\c.N<=3600:=by
 have I:=h.find;rw [O,IJ] at I;have J:f=⟨⟨#[119,97,105,116]⟩,false,true,0,3600⟩:=by cases I; rfl
 have:=h.nr (by rw [J])
 rw [J] at this; exact this
theorem zo:∀ (cs:List (zt×Form)) (z:Int×List Ev),Bn cs->z.1<=(tc z cs).1/\(tc z cs).1<=z.1+3600*cs.length/\(tc z cs).2.length<=z.2.length+cs.length
 | [],z,_=>⟨Tu _,by simp [tc],by simp [tc]⟩
 | p::cs,z,h=>by
  obtain ⟨Y,Z,h3⟩:=zo cs (r_ z p.1) (λx O=>h x (Rc _ O));have J:=h p (by simp)
  have hs:z.1<=(r_ z p.1).1/\(r_ z p.1).1<=z.1+3600/\(r_ z p.1).2.length<=z.2.length+1:=by
   unfold r_
   by_cases I:p.1.iB=⟨#[119,97,105,116]⟩
   ·rw [Rb I]
    have:=xz J I;exact ⟨by simp only; omega,by simp only; omega,by simp⟩
   ·rw [Ra I]
    split
    ·exact ⟨by omega,by omega,by omega⟩
    ·exact ⟨by simp only; omega,by simp only; omega,by simp⟩
  rw [show tc z (p::cs)=tc (r_ z p.1) cs from rfl];simp only [Rd];exact ⟨by omega,by omega,by omega⟩
def tA (p:zt×Form):List UInt8:=uB p.1 p.2
theorem Oc {c:zt}{f:Form} (h:tV c f):(10:UInt8) ∉ uB c f:=by
 have I:(10:UInt8) ∉ bl c.iB:=by rw [<- h.verb]; exact h.form.nl
 have hi:(10:UInt8) ∉ Lib.itoa c.N:=λhm=>by have:=B9 _ _ hm; simp at this
 unfold uB;cases hn:f.name with
 | false=>cases f.n <;> simp [I,hi]
 | true=>
  have hm:(10:UInt8) ∉ bl c.Name:=(h.nm hn).not (by decide)
  cases f.n <;> simp [I,hi,hm]
theorem Av:∀ {cs:List (zt×Form)},Bn cs->(sO (cs.map tA)).length<=25*cs.length
 | [],_=>by simp [sO]
 | p::cs,h=>by
  have J:=Av (cs:=cs) (λx I=>h x (Rc _ I));have O:=zp (h p (by simp))
  rw [Te,show sO (tA p::cs.map tA)=(tA p++[10])++sO (cs.map tA) from rfl];unfold tA at *
  simp only [Ro,Rd,Wc];omega
theorem Mi {cs:List (zt×Form)} (h:Bn cs):∀ w ∈ cs.map tA,(10:UInt8) ∉ w:=λw J=>by
 obtain ⟨p,I,rfl⟩:=RY.1 J;exact Oc (h p I)
theorem I9 {t:Int}{cs:List (zt×Form)} (ht:0<=t/\t<=1000) (h:Bn cs) (hl:cs.length<=10):
  pw (ba (sO (cs.map tA))) t=some ((tc (t,[]) cs).2,0,0):=by
 have hlen:=Av h;refine Gd.eq.1 ?_;unfold pw;refine Gd.ite (λhb=>by simp [eA] at hb; omega) (λ_=>Gd.ite (λhb=>by simp at hb; omega) (λ_=>?_))
 by_cases hne:cs=[]
 ·subst hne
  exact Gd.ite (λ_=>Gd.ret rfl) (λh=>by cases h)
 have Z:cs.map tA≠[]:=λe=>hne (by simpa using e)
 have ej:=AW Z;have hjl:(Cc 10 (cs.map tA)).length<1000000:=by have:=Rn List.length ej; simp at this; omega
 refine Gd.ite (λhb=>?_) (λ_=>?_)
 ·have:=Rn ByteArray.size (Q_ hb)
  rw [eA,ej] at this;simp at this;exact absurd this (by show ¬ _=0; omega)
 rw [ej];refine Gd.bind_eq (M7 _ hjl) (Gd.bind_eq (FN _ 10 (by rw [eA]; omega)) (Gd.bind_eq (has_eq _ _ hjl) (Gd.ite (λh=>by simp at h) (λ_=>?_))))
 rw [ub,CQ Z (Mi h)];refine Gd.dM (λk rest z=>∃ O I,cs=O++I/\rest=(I.map tA).map ba/\z=tc (t,[]) O) (λk y ys z nx hI hn=>?_) (λk z hI=>?_) _ _ _ ⟨[],cs,rfl,rfl,rfl⟩
 ·obtain ⟨O,I,e1,e2,rfl⟩:=hI
  cases I with
  | nil=>cases e2
  | cons p I=>
   simp only [Te,List.cons.injEq] at e2;obtain ⟨rfl,rfl⟩:=e2;have hp:tV p.1 p.2:=h p (by rw [e1]; simp)
   have hdn:Bn O:=λx hx=>h x (by rw [e1]; simp [hx])
   have hdl:O.length+1<=10:=by have:=Rn List.length e1; simp at this; omega
   obtain ⟨b1,b2,b3⟩:=zo O (t,[]) hdn;simp only at b1 b2 b3;have next:∀ z',z'=r_ (tc (t,[]) O) p.1->Gd (nx z') (λr=>r=((tc (t,[]) cs).2,0,0)):=λz' hz=>
    hn _ ⟨O++[p],I,by rw [e1]; simp,rfl,by rw [hz,Ad]⟩
   unfold rI lx;refine Gd.bind_eq (KW hp) (Gd.ite (λh=>by simp at h) (λ_=>Gd.ite (λY=>?_) (λY=>Gd.ite (λJ=>Gd.ite (λh3=>?_) (λh3=>?_)) (λJ=>Gd.nd ?_ ?_))))
   ·have Y:p.1.iB=⟨#[116,101,108,108]⟩:=Q_ Y
    refine next _ ?_;unfold r_;rw [Ra (by rw [Y]; decide),Rb Y]
   ·have J:p.1.iB=⟨#[119,97,105,116]⟩:=Q_ J
    have hr:=xz hp J;rw [bJ ⟨by simp only; omega,by simp only; omega⟩] at h3
    simp at h3; omega
   ·have J:p.1.iB=⟨#[119,97,105,116]⟩:=Q_ J
    have hr:=xz hp J;rw [bJ ⟨by simp only; omega,by simp only; omega⟩]
    refine next _ ?_;unfold r_;rw [Rb J]
   ·simp; simp at b3; omega
   ·have Y:¬ p.1.iB=⟨#[116,101,108,108]⟩:=Rf Y
    have J:¬ p.1.iB=⟨#[119,97,105,116]⟩:=Rf J;refine next _ ?_;unfold r_;rw [Ra J,Ra Y]
 ·obtain ⟨O,I,e1,e2,rfl⟩:=hI
  have:I=[]:=by cases I with
   | nil=>rfl
   | cons _ _=>cases e2
  subst this;rw [RR] at e1;subst e1;exact Gd.ret rfl
theorem EA {α:Type}{l:List α}{k:Nat}{x:α} (h:x ∈ sJ l 0 k):x ∈ l:=by
 unfold sJ at h;exact TU (by simpa using h)
theorem y8:eP=some true:=by kernel_rfl
theorem LX {s:cM} (I:EP s):Gd (nR s) EP:=by
 unfold nR;exact Gd.nd (by omega) (Gd.nd (by omega) (Gd.ret ⟨⟨I.n.nd,I.n.sw,I.n.br,λx J=>I.n.gn x (EA J),λx J=>I.n.ld x (EA J),I.n.st⟩,I.r⟩))
def E0:Rm->List Ev->Rm->Prop
 | r,[],r'=>r'=r
 | r,e::es,r'=>∃ q,gB r e=some q/\E0 q.2 es r'
theorem E0.add:∀ {es:List Ev}{r0 r:Rm}{e:Ev}{q:Int×Rm},E0 r0 es r->gB r e=some q->E0 r0 (es++[e]) q.2
 | [],_,_,_,_,h,hs=>by
  obtain rfl:=h;exact ⟨_,hs,rfl⟩
 | _::_,_,_,_,_,⟨q1,h1,h⟩,hs=>⟨q1,h1,E0.add h hs⟩
structure PU (r0:Rm) (k:Nat) (v:Q1×Int×Rm):Prop where
 i:Inv v.2.2
 c:∃ cs,Bn cs/\cs.length<=k/\v.1=ba (sO (cs.map tA))/\v.2.1=(tc (0,[]) cs).1/\E0 r0 (tc (0,[]) cs).2 v.2.2/\∀ e ∈ (tc (0,[]) cs).2,EM e
theorem Ki {r0:Rm}{Q:Bool->Prop}{k:Nat} (hk:k<=6) {c:zt} (hv:c.iB.size<=maxLen) (hnm:c.Name.size<=maxLen) {v:Q1×Int×Rm} (h:PU r0 k v) {nx:Q1×Int×Rm->Option Bool}
  (hn:∀ v',PU r0 (k+1) v'->Gd (nx v') Q):Gd (jC k c v.1 v.2.1 v.2.2 nx) Q:=by
 obtain ⟨tx0,now,a⟩:=v;obtain ⟨hi,cs,hcs,hcl,J,I,hw,hsz⟩:=h;simp only at hi J I hw;obtain ⟨⟨tx,e⟩,hp,hke,hq⟩:=K0 c hv hnm;show Gd (jC k c tx0 now a nx) Q;unfold jC e_;refine Gd.bind_eq hp (Gd.ite (λ_=>hn _ ⟨hi,cs,hcs,by omega,J,I,hw,hsz⟩) (λh0=>?_))
 have h0:e=0:=by simpa using h0
 obtain ⟨f,hf,htx⟩:=hq h0;simp only at htx;have htl:=zp hf;have hll:=Av hcs;obtain ⟨b1,b2,b3⟩:=zo cs (0,[]) hcs;simp only at b1 b2 b3;have hcs':Bn (cs++[(c,f)]):=λx O=>by
  rcases Rh.1 O with O | O
  ·exact hcs x O
  ·rw [Rz] at O; subst O; exact hf
 have htx1:tx0++(tx++⟨#[10]⟩)=ba (sO ((cs++[(c,f)]).map tA)):=by
  rw [J,htx,show (⟨#[10]⟩:Q1)=ba [10] from rfl,BM,BM,Ss,Te,U6,GB]
  rfl
 have hcl':(cs++[(c,f)]).length<=k+1:=by simp; omega
 have next:∀ (n':Int) (r':Rm),Inv r'->n'=(r_ (tc (0,[]) cs) c).1->E0 r0 (r_ (tc (0,[]) cs) c).2 r'->(∀ e ∈ (r_ (tc (0,[]) cs) c).2,EM e)->Gd (nx (tx0++(tx++⟨#[10]⟩),n',r')) Q:=λn' r' hi' hn' hw' hs'=>
  hn _ ⟨hi',cs++[(c,f)],hcs',hcl',htx1,by rw [Ad]; exact hn',by rw [Ad]; exact hw',by rw [Ad]; exact hs'⟩
 have htz:tx.size=(uB c f).length:=by rw [htx,eA]
 refine Gd.nd ?_ (Gd.nd ?_ (Gd.ite (λh2=>?_) (λh2=>Gd.ite (λZ=>?_) (λZ=>?_))))
 ·have Z:(⟨#[10]⟩:Q1).size=1:=rfl
  simp only [Z,htz,maxLen]; omega
 ·have Z:(⟨#[10]⟩:Q1).size=1:=rfl
  simp only [J,uk,eA,Z,htz,maxLen]; omega
 ·have h2:c.iB=⟨#[119,97,105,116]⟩:=Q_ h2
  have hr:=xz hf h2;have Y:r_ (tc (0,[]) cs) c=((tc (0,[]) cs).1+c.N,(tc (0,[]) cs).2):=by unfold r_; rw [Rb h2]
  rw [bJ ⟨by omega,by omega⟩]
  exact next _ _ hi (by rw [Y,I]) (by rw [Y]; exact hw) (by rw [Y]; exact hsz)
 ·have Z:c.iB=⟨#[116,101,108,108]⟩:=Q_ Z
  have h2:¬ c.iB=⟨#[119,97,105,116]⟩:=Rf h2;have Y:r_ (tc (0,[]) cs) c=tc (0,[]) cs:=by unfold r_; rw [Ra h2,Rb Z]
  exact next _ _ hi (by rw [Y]; exact I) (by rw [Y]; exact hw) (by rw [Y]; exact hsz)
 ·have Z:¬ c.iB=⟨#[116,101,108,108]⟩:=Rf Z
  have h2:¬ c.iB=⟨#[119,97,105,116]⟩:=Rf h2;have hez:EM (aE.mk now c.iB c.Name c.N):=⟨hv,hnm⟩;obtain ⟨q,hq,hqi,_⟩:=HZ hi hez;have Y:r_ (tc (0,[]) cs) c=((tc (0,[]) cs).1,(tc (0,[]) cs).2++[aE.mk now c.iB c.Name c.N]):=by unfold r_; rw [Ra h2,Ra Z,I]
  refine Gd.bind_eq hq (next _ _ hqi (by rw [Y]; exact I) (by rw [Y]; exact hw.add hq) (by
   rw [Y];intro x O;rcases Rh.1 O with O | O
   ·exact hsz x O
   ·rw [Rz] at O; subst O; exact hez))
theorem Bz (s:cM) (hz:EP s) (l:List zt) (hl:∀ c ∈ l,c.iB.size<=maxLen/\c.Name.size<=maxLen):iU s l=some true:=by
 rw [<- Gd.eq];unfold iU;refine Gd.eN (LX hz) (λs' hz'=>?_);obtain ⟨q,Y,hc⟩:=Of hz';refine Gd.bind_eq Y ?_;rcases hc with ⟨e,he,rfl,_⟩ | ⟨r,rfl,hi,h0⟩
 ·refine Gd.opt (λ_=>Gd.bind_eq Y (Gd.opt (λ_=>Gd.bind_eq y8 (Gd.bind_eq y8 (Gd.ret (by simp)))) (λ_ h=>by simp at h))) (λ_ h=>by simp at h)
 refine Gd.opt (λh=>by simp at h) (λr1 hr1=>?_)
 obtain rfl:=Q8 hr1;refine Gd.bind_eq Y (Gd.opt (λh=>by simp at h) (λr2 hr2=>?_))
 obtain rfl:=Q8 hr2;refine Gd.bind_eq y8 (Gd.ite (λk=>by simp at k) (λ_=>Gd.nd (by omega) ?_))
 have hsl:(sJ l 0 ((min (l.length:Int) 7:Int).toNat)).length<=7:=by simp [sJ]; omega
 have hsm:∀ c ∈ sJ l 0 ((min (l.length:Int) 7:Int).toNat),c.iB.size<=maxLen/\c.Name.size<=maxLen:=λc hc=>hl c (EA hc);generalize sJ l 0 ((min (l.length:Int) 7:Int).toNat)=L at hsl hsm;refine Gd.dM (Q:=λx=>x=true) (λk ys v=>k+ys.length<=7/\(∀ c ∈ ys,c.iB.size<=maxLen/\c.Name.size<=maxLen)/\PU r k v) (λk c ys v nx I hn=>?_) (λk v I=>?_) _ _ _ ⟨by omega,hsm,hi,[],(by intro p hp; cases hp),Rq _,rfl,rfl,rfl,by simp [tc]⟩
 ·obtain ⟨hk,hr,I⟩:=I
  simp only [Rd] at hk;obtain ⟨hv,hnm⟩:=hr c (Q9 ..);exact Ki (by omega) hv hnm I (λv' h'=>hn v' ⟨by omega,λx hx=>hr x (Rc _ hx),h'⟩)
 ·obtain ⟨tx0,now,a⟩:=v
  obtain ⟨hk,_,J,cs,hcs,hcl,htx,hnow,hw,hsz⟩:=I;simp only [Wc] at hk;simp only at J htx hnow hw;subst htx;refine Gd.bind_eq (I9 (t:=0) (by omega) hcs (by omega)) (Gd.ite (λk=>by simp at k) (λ_=>?_))
  refine Gd.dM (Q:=λx=>x=true) (λ_ ys b=>Inv b/\E0 b ys a/\∀ e ∈ ys,EM e) (λi e ys b nx I hn=>?_) (λi b I=>?_) _ _ _ ⟨hi,hw,hsz⟩
  ·obtain ⟨Z,⟨q,Y,O⟩,hsb⟩:=I
   obtain ⟨q',hq',hqi,_⟩:=HZ Z (hsb e (Q9 ..));rw [Y] at hq';obtain rfl:=Q8 hq';unfold nQ;exact Gd.bind_eq Y (hn _ ⟨hqi,O,λx hx=>hsb x (Rc _ hx)⟩)
  ·obtain ⟨Z,O,_⟩:=I
   have hab:a=b:=O;subst hab;obtain ⟨d,hd⟩:=J8 J;exact Gd.bind_eq hd (Gd.bind_eq hd (Gd.ite (λ_=>Gd.bind_eq (NF J) (Gd.bind_eq (NF J) (Gd.bind_eq (seq_eq _) (Gd.ret rfl)))) (λk=>by simp at k)))
end Go.Sim
