/-
  The proof, part F3.
-/
import Derived.Lib.AtoiTie
import Derived.Lib.AtoiAllCases
import Derived.Test.YtmdikieloiajeaaGreatDoorSqF2
set_option linter.unusedVariables false
set_option linter.unusedSimpArgs false
set_option linter.unusedSectionVars false
set_option linter.unnecessarySimpa false
namespace Go.Sim
abbrev WN := @Go.Lib.decDigits_length
abbrev WQ := @Go.Lib.nDigits_small
abbrev WS := @List.append_cancel_left
abbrev W7 := @List.pairwise_append
end Go.Sim
namespace Go.Sim
open Go
open _root_.Go.IntKind (i64 u64 u32 u8)
structure E6 (s:cK):Prop where
 n:qL s.bU
 r:∀ r ∈ s.pL,BG r
structure Qm (s:cK) (r:Rm):Prop where
 n:r.cG=s.bU
 on:r.on=nm s.bU
 he:r.held=[]
 w:qy s.bU=some (some r.watch,0)
 ti:r.time=0
 lo:r.log.eV=[]
 ov:r.over=[]
 ru:r.rules=s.pL
theorem ON {s:cK} (hz:E6 s):Gd (sP s) (λq=>(∃ e,e≠0/\q=(none,e)/\qD s=some e)\/∃ r,q=(some r,0)/\Inv r/\Qm s r):=by
 suffices h:Gd (qD s) (λe=>e=0->bX s.bU=some 0/\zM s.pL/\s.bU.bE.length<=5/\∃ st ov,dW s.bU (nm s.bU)=some (st,ov,0)/\NX s.bU (nm s.bU) st ov) by
  obtain ⟨e,he,Z⟩:=h;unfold sP;refine Gd.bind_eq he (Gd.ite (λh=>Gd.ret (.inl ⟨e,by simpa using h,rfl,he⟩)) (λh=>?_))
  have Y:e=0:=by simpa using h
  subst Y;obtain ⟨hc,J,h5,st,ov,hst,hsg⟩:=Z rfl;have hV:=hsg.v;obtain ⟨w,hw,hwo⟩:=M9 hc hV;have hrl:=J.1;refine Gd.bind_eq (copy_eq hV) (Gd.nd (by omega) (Gd.bind_eq (AS _ hV.l5) ?_))
  refine Gd.kz (λm i (l:List DU)=>i+m=s.pL.length/\l=s.pL) ?_ ?_ ((s.pL.length:Int):Int).toNat 0 s.pL ⟨by omega,rfl⟩
  ·rintro m i l nx ⟨hi,rfl⟩ hnx
   have I:i<s.pL.length:=by omega
   unfold wO;refine Gd.gA I (Gd.nd ?_ (Gd.gA I (hnx _ ⟨by omega,?_⟩)))
   ·have hco:=(J.2 _ (Sk I)).2
    obtain ⟨f,hf,hfk⟩:=xr s.pL[i].xT (hz.r _ (Sk I)).2;rw [hco] at hf;have:=(hfk (RQ hf).symm).len;omega
   ·exact V_ I
  ·rintro i l ⟨_,rfl⟩
   refine Gd.bind_eq hw (Gd.opt (λk=>by simp at k) (λw' hw'=>?_))
   obtain rfl:=RQ hw';refine Gd.bind_eq hst (Gd.ret (.inr ⟨_,rfl,⟨hz.n,⟨J,hz.r⟩,⟨La hV,λx hx=>hx⟩,h5,⟨ov,hsg⟩,hwo,by simp,by simp [fR],by simp [fR],by simp,by simp [fR]⟩,⟨rfl,rfl,rfl,hw,rfl,rfl,rfl,rfl⟩⟩))
 unfold qD;obtain ⟨e,he,Z⟩:=Wx s.bU hz.n;refine Gd.bind_eq he (Gd.ite (λh=>Gd.ret (λk=>absurd k (by simpa using h))) (λh=>?_))
 have Y:e=0:=by simpa using h
 subst Y;have hV:=Z rfl;refine Gd.eN (Dx s.pL hz.r) (λf hf=>Gd.ite (λh=>Gd.ret (λk=>absurd k (by simpa using h))) (λh=>?_))
 have J:=hf.1 (by simpa using h)
 refine Gd.ite (λ_=>Gd.ret (λh=>by simp at h)) (λh5=>Gd.bind_eq (AS _ hV.l5) (Gd.eN (P:=λq=>(q.2.2=0->NX s.bU (nm s.bU) q.1 q.2.1)/\dW s.bU (nm s.bU)=some q) ?_ (λq hq=>Gd.ret (λY=>⟨he,J,by have:=R2 h5; omega,q.1,q.2.1,?_,hq.1 Y⟩))))
 ·obtain ⟨q,hq,_,hs⟩:=BH hz.n (nm s.bU)
  exact ⟨q,hq,hs,hq⟩
 ·rw [hq.2]
  obtain ⟨a,b,c⟩:=q;simp only at Y;rw [Y]
def Rd (r:Rm):List BA:=(nm r.cG).filter (λx=>decide (x ∈ r.on))
theorem OP (r:Rm) (x:BA):mn x r=some (!decide (x ∈ r.on)):=by
 unfold mn;rw [ss];simp
theorem Lf (r:Rm) (A:List BA) (hA:A.length<=1000):Gd (eC A r) (λq=>q=A.filter (λx=>decide (x ∈ r.on))):=
 B4 (λx=>mn x r) (λx=>decide (x ∈ r.on)) (OP r) ⟨#[]⟩ A (by omega)
theorem N7 {r:Rm} (h:Inv r):pT r=some (Rd r):=by
 obtain ⟨ov,hs⟩:=h.st;have I:=hs.v.l5;rw [<- Gd.eq];unfold pT;refine Gd.bind_eq (AS _ I) (Gd.eN (Lf r _ (by rw [zE]; omega)) (λq J=>Gd.ret ?_))
 rw [J]; rfl
theorem Ji {s:BA} (h:dU s=some true):s.size<=8:=by
 by_cases hs:s.size<=maxLen
 ·have key:Gd (dU s) (λb=>b=true->s.size<=8):=by
   unfold dU;refine Gd.nd hs (Gd.dE (λ_ _ _=>True) (λi y ys s Y _ hn=>?_) (λ_ _ _=>Gd.ret (λk=>?_)) _ _ _ RM)
   ·unfold mM
    exact Gd.ite (λ_=>Gd.ret (λk=>by cases k)) (λ_=>hn _ RM)
   ·simp at k; omega
  obtain ⟨b,I,J⟩:=key;rw [h] at I;cases I;exact J rfl
 ·unfold dU cE at h
  rw [RS hs] at h;cases h
theorem Jl {s:BA} (h:bB s=some true):s.size<=8:=by
 by_cases hs:s.size<=maxLen
 ·have key:Gd (bB s) (λb=>b=true->s.size<=8):=by
   unfold bB;refine Gd.nd hs (Gd.dE (λ_ _ _=>True) (λi y ys s Y _ hn=>?_) (λ_ _ _=>Gd.ret (λk=>?_)) _ _ _ RM)
   ·unfold mi
    exact Gd.ite (λ_=>Gd.ret (λk=>by cases k)) (λ_=>hn _ RM)
   ·simp at k; omega
  obtain ⟨b,I,J⟩:=key;rw [h] at I;cases I;exact J rfl
 ·unfold bB cE at h
  rw [RS hs] at h;cases h
structure QX (e:Ev):Prop where
 t:0<=e.Time/\e.Time<=200000
 v:-1000000<=e.Value/\e.Value<=1000000
 k:e.Kind.size<=8
 n:e.Name.size<=8
theorem Py {e:Ev} (h:cL e=some 0):QX e:=by
 unfold cL at h
 split at h
 ·simp at h
 rename_i ht
 cases I:dU e.Kind with
 | none=>rw [I] at h; cases h
 | some b=>
  rw [I] at h;cases b with
  | false=>simp at h
  | true=>
   cases hn:bB e.Name with
   | none=>rw [hn] at h; simp at h
   | some c=>
    rw [hn] at h;cases c with
    | false=>simp at h
    | true=>
     simp at h ht;exact ⟨by omega,by omega,Ji I,Jl hn⟩
theorem Dp (u:Nat) (h:u<10 ^ 20):(Lib.decDigits u).length<=20:=by
 rw [WN];have key:∀ (k u:Nat),u<10 ^ (k+1)->Lib.nDigits u<=k+1:=by
  intro k
  induction k with
  | zero=>intro u h; rw [WQ (by simpa using h)]; omega
  | succ k ih=>
   intro u h
   by_cases I:u<10
   ·rw [WQ I]; omega
   ·rw [Lib.nDigits_big I]
    have:=ih (u / 10) (by rw [Xr] at h; omega)
    omega
 exact key 19 u h
def CN (e:Ev):Bool:=!(decide (e.Kind=xP) || decide (e.Kind=uM))
theorem FZ {k:BA} (I:k=xP\/k=uM) {t:Int}{names:List BA}{ev:List Ev} (h:Own k t names ev):ev.filter CN=[]:=by
 rw [List.filter_eq_nil_iff];intro e he;have:=(h.k e he).1;unfold CN;rcases I with rfl | rfl <;> simp [this]
theorem MR {r r':Rm}{e:Ev} (J:Pe r e r'):r'.log.eV.filter CN=r.log.eV.filter CN++[e]:=by
 have he:CN e=true:=by
  unfold CN;simp [J.k.1,J.k.2]
 obtain ⟨on1,_,st1,ov1,ex,_,_,Y⟩:=J.x;rcases Y with ⟨_,_,_,_,hl⟩ | ⟨_,_,_,_,ev,I,hl⟩ | ⟨off,ev,I,_,_,_,_,hl⟩
 ·rw [hl,Ts]; simp [he]
 ·rw [hl,Ts,Ts,FZ (.inr rfl) I]; simp [he]
 ·rw [hl,Ts,Ts,FZ (.inl rfl) I]; simp [he]
def Gr:Rm->List Ev->Rm->Prop
 | r,[],r'=>r'=r
 | r,e::es,r'=>∃ I,jQ r e=some (0,I)/\Gr I es r'
theorem Gr.add:∀ {es:List Ev}{I r r':Rm}{e:Ev},Gr I es r->jQ r e=some (0,r')->Gr I (es++[e]) r'
 | [],_,_,_,_,h,hs=>by
  obtain rfl:=h;exact ⟨_,hs,rfl⟩
 | _::_,_,_,_,_,⟨r1,h1,h⟩,hs=>⟨r1,h1,Gr.add h hs⟩
theorem Aq {r:Rm} (h:Inv r):gJ r=some r.state:=by
 obtain ⟨ov,hs⟩:=h.st;have I:=hs.al;have J:=hs.fl;have Y:=hs.v.l3;rw [<- Gd.eq];unfold gJ;exact Gd.nd (by omega) (Gd.nd (by omega) (Gd.ret rfl))
theorem Jj (s:RI) (h:s.size<=maxLen):Gd (dU s) (λ_=>True):=by
 unfold dU;refine Gd.nd h (Gd.dE (λ_ _ _=>True) (λi y ys s n _ hn=>?_) (λi s _=>Gd.ret RM) _ _ _ RM);unfold mM;exact Gd.ite (λ_=>Gd.ret RM) (λ_=>hn _ RM)
structure u6 (e:Ev):Prop where
 t0:0<=e.Time
 t1:e.Time<=200000
 kind:dU e.Kind=some true
 name:bB e.Name=some true
 v0:-1000000<=e.Value
 v1:e.Value<=1000000
theorem Dm {e:Ev} (h:DP e):Gd (cL e) (λr=>r=0↔u6 e):=by
 unfold cL;refine Gd.ite (λJ=>Gd.ret ⟨λh=>by omega,λI=>?_⟩) (λJ=>?_)
 ·have:=I.t0; have:=I.t1; simp at J; omega
 simp only [WG,XK] at J;obtain ⟨b,hb,_⟩:=Jj e.Kind h.1;obtain ⟨c,hc,_⟩:=xh e.Name h.2;refine Gd.bind_eq hb (Gd.ite (λY=>Gd.bind_eq hc (Gd.ite (λZ=>Gd.ret ⟨λh=>by omega,λI=>?_⟩) (λZ=>Gd.ite (λh4=>Gd.ret ⟨λh=>by omega,λI=>?_⟩) (λh4=>Gd.ret ⟨λ_=>?_,λ_=>rfl⟩)))) (λY=>Gd.ret ⟨λh=>by omega,λI=>?_⟩))
 ·have:=I.name; rw [hc] at this; cases this; simp at Z
 ·have:=I.v0; have:=I.v1; simp at h4; omega
 ·simp only [WG,XK] at h4
  subst Y;have:c=true:=by simpa using Z
  subst this;exact ⟨by omega,by omega,hb,hc,by omega,by omega⟩
 ·have:=I.kind; rw [hb] at this; cases this; cases Y
structure EX (l:List Ev):Prop where
 len:l.length<=300
 ok:∀ e ∈ l,u6 e
 up:l.Pairwise λa b=>a.Time<=b.Time
def Fits (l:List Ev) (e:Ev):Prop:=u6 e/\l.length<300/\∀ x ∈ l,x.Time<=e.Time
theorem EX.nil:EX []:=⟨by simp,by simp,by simp⟩
theorem EX.add {l:List Ev}{e:Ev} (h:EX l) (J:Fits l e):EX (l++[e]):=by
 refine ⟨by have:=J.2.1; simp; omega,λx I=>?_,?_⟩
 ·rcases RZ.1 I with I | I
  ·exact h.ok x I
  ·rw [R_] at I; subst I; exact J.1
 ·rw [W7]
  refine ⟨h.up,by simp,λa Z b Y=>?_⟩
  rw [R_] at Y; subst Y; exact J.2.2 a Z
theorem IL {l:List Ev}{e:Ev} (h:EX l) (hz:DP e):
  Gd (cZ ⟨l⟩ e) (λr=>Fits l e/\r=((l.length:Int)+1,0,⟨l++[e]⟩)\/¬ Fits l e/\r.2.1≠0/\r.1=0/\r.2.2=⟨l⟩):=by
 unfold cZ;obtain ⟨c,hc,Y⟩:=Dm hz;have h300:=h.len;refine Gd.bind_eq hc (Gd.ite (λh1=>Gd.ret (.inr ⟨λZ=>?_,by simpa using h1,rfl,rfl⟩)) (λh1=>?_))
 ·have:=Y.2 Z.1; simp [this] at h1
 have hok:u6 e:=Y.1 (by simpa using h1)
 have J:(∀ x ∈ l,x.Time<=e.Time)->Gd (if decide ((l.length:Int)=300) then (some ((0:Int),(9:Int),aL.mk l)) else (cE ((l.length+([e]).length)*48<=140737488355328) (some ((i64.wrap ((l.length:Int)+1)),0,(aL.mk (l++([e])))))))
   (λr=>Fits l e/\r=((l.length:Int)+1,0,⟨l++[e]⟩)\/¬ Fits l e/\r.2.1≠0/\r.1=0/\r.2.2=⟨l⟩):=λhx=>by
  refine Gd.ite (λI=>Gd.ret (.inr ⟨λZ=>?_,by simp,rfl,rfl⟩)) (λI=>Gd.nd (by simp; omega) (Gd.ret (.inl ⟨⟨hok,?_,hx⟩,?_⟩)))
  ·have:=Z.2.1; simp at I; omega
  ·simp at I; omega
  ·rw [bG ⟨by omega,by omega⟩]
 refine Gd.ite (λI=>?_) (λI=>?_)
 ·simp only [Sy] at I
  have hw:i64.wrap ((l.length:Int)-1)=(l.length:Int)-1:=bG ⟨by omega,by omega⟩
  obtain ⟨y,hy⟩:=vF (l:=l) (i:=((l.length:Int)-1).toNat) (by omega)
  have hym:=RY hy;rw [hw];refine Gd.ix (by omega) hy (Gd.ite (λh3=>Gd.ret (.inr ⟨λZ=>?_,by simp,rfl,rfl⟩)) (λh3=>J λx hx=>?_))
  ·have:=Z.2.2 y hym; simp at h3; omega
  ·simp only [XK] at h3
   obtain ⟨i,hi,rfl⟩:=S3.1 hx;have hp:=Ut.1 h.up;obtain ⟨hj,hj2⟩:=RP.1 hy
   by_cases e1:i=((l.length:Int)-1).toNat
   ·subst e1; rw [hj2]; omega
   ·have:=hp i _ hi hj (by omega); rw [hj2] at this; omega
 ·simp only [XK] at I
  have:l=[]:=Sg (by omega)
  exact J (by rw [this]; simp)
theorem Dy (s:RI) (c:UInt8):nc s (ba [c])=some (Lib.indexByte (bl s) c):=by
 unfold nc dM eL
 by_cases e:ba [c]=s
 ·subst e
  rw [RU (by simp)]
  simp [Lib.indexByte]
 ·rw [RS (by simp [dA,e]),RU (by simp [dA]),zq]
  simp [idx,Mu]
theorem count_eq (s:RI) (c:UInt8):qT s (ba [c])=some (((bl s).count c:Nat):Int):=by
 unfold qT;rw [RS (by simp [dA]),RU (by simp [dA]),zq]
 simp [idx,Ou,Lib.countByte]
def og (c:UInt8):List UInt8->List (List UInt8)
 | []=>[[]]
 | b::l=>if b=c then []::og c l else match og c l with
  | []=>[[b]]
  | h::t=>(b::h)::t
theorem uG {c:UInt8}:∀ {l:List UInt8},c ∉ l->og c l=[l]
 | [],_=>rfl
 | b::l,h=>by
  have I:b≠c:=λe=>h (by rw [e]; exact RR ..)
  rw [og,RS I,uG (l:=l) (λO=>h (RV _ O))]
theorem lT {c:UInt8}{r:List UInt8}:∀ {a:List UInt8},c ∉ a->og c (a++c::r)=a::og c r
 | [],_=>by rw [Tn,og,RU rfl]
 | b::a,h=>by
  have I:b≠c:=λe=>h (by rw [e]; exact RR ..)
  rw [TD,og,RS I,lT (a:=a) (λO=>h (RV _ O))]
theorem zF (c:UInt8) (l:List UInt8):(og c l).length=l.count c+1:=by
 have key:∀ (n:Nat) (l:List UInt8),l.length<=n->(og c l).length=l.count c+1:=by
  intro n
  induction n with
  | zero=>intro l h; have:l=[]:=Sg (by omega); subst this; rfl
  | succ n ih=>
   intro l h;rcases kI c l with ⟨I,_⟩ | ⟨a,b,rfl,J,_⟩
   ·rw [uG I,U_.2 I]; rfl
   ·rw [lT J,RW,ih b (by simp at h; omega),List.count_append,U_.2 J,List.count_cons_self]; omega
 exact key _ l (R9 _)
def DA (c:UInt8):List (List UInt8)->List UInt8
 | []=>[]
 | [w]=>w
 | w::v::r=>w++c::DA c (v::r)
theorem GZ (c:UInt8) (l:List UInt8):DA c (og c l)=l:=by
 have key:∀ (n:Nat) (l:List UInt8),l.length<=n->DA c (og c l)=l:=by
  intro n
  induction n with
  | zero=>intro l h; have:l=[]:=Sg (by omega); subst this; rfl
  | succ n ih=>
   intro l h;rcases kI c l with ⟨J,_⟩ | ⟨a,b,rfl,Y,_⟩
   ·rw [uG J]; rfl
   ·have Z:=ih b (by simp at h; omega)
    have I:og c b≠[]:=λe=>by have:=zF c b; rw [e] at this; simp at this
    rw [lT Y];cases hs:og c b with
    | nil=>exact absurd hs I
    | cons v r=>rw [DA,<- hs,Z]
 exact key _ l (R9 _)
theorem Cb {s:RI}{a b:List UInt8}{c:UInt8} (h:bl s=a++c::b):s.extract 0 a.length=ba a/\s.extract (a.length+1) s.size=ba b:=by
 have I:s.size=a.length+1+b.length:=by rw [<- ry,h]; simp; omega
 constructor
 ·refine vC ?_
  rw [xq,h,q7]; simp
 ·refine vC ?_
  rw [xq,h,q7,I,R3 (by simp; omega)]
  rw [show a++c::b=(a++[c])++b by simp,T8 (by simp),WU (by simp)]; simp
theorem F_ (s:RI) (c:UInt8) (hs:s.size<=1000000):qU s (ba [c])=some ((og c (bl s)).map ba):=by
 unfold qU qI;have hcnt:(bl s).count c<=s.size:=by rw [<- ry]; exact List.count_le_length
 rw [RS (by decide),RS (by simp only [Sy]; intro h; have:=R7 ByteArray.size h; rw [dA] at this; exact Nat.noConfusion this),RU (by decide),count_eq]
 simp only [T9];generalize hc:(bl s).count c=I at hcnt;have w1:i64.wrap ((I:Int)+1)=(I:Int)+1:=bG ⟨by omega,by omega⟩
 have w2:i64.wrap ((s.size:Int)+1)=(s.size:Int)+1:=bG ⟨by omega,by omega⟩
 have hmin:min ((I:Int)+1) ((s.size:Int)+1)=(I:Int)+1:=by omega
 have w3:i64.wrap ((I:Int)+1-1)=(I:Int):=by rw [bG ⟨by omega,by omega⟩]; omega
 unfold l_;rw [w1,w2,hmin]
 suffices h:Gd (cE (0<=((I:Int)+1)/\((I:Int)+1)*16<=140737488355328) (fG (λY n=>oy s (ba [c]) 0 ((I:Int)+1) Y.1 Y.2.1 Y.2.2 n) eI (s,(List.replicate ((I:Int)+1).toNat ((⟨#[]⟩):RI)),0)))
   (λr=>r=(og c (bl s)).map ba) by
  obtain ⟨r,hr,rfl⟩:=h;rw [hr]; rfl
 refine Gd.nd ⟨by omega,by omega⟩ (Gd.fG (λ(z:RI×List RI×Int)=>∃ (k:Nat) (Z:List (List UInt8)),z.2.2=k/\k<=I/\Z.length=k/\z.2.1=Z.map ba++List.replicate (I+1-k) (⟨#[]⟩:RI)/\og c (bl s)=Z++og c (bl z.1)/\z.1.size<=s.size)
  (λz=>(I+1-z.2.2.toNat)) ?_ eI _ ⟨0,[],rfl,by omega,rfl,by simp,by simp,R9 _⟩ (by simp only [eI]; omega))
 rintro ⟨s',l,i⟩ nx ⟨k,Z,rfl,hk,J,rfl,hsp,hsz⟩ hnx;simp only at hsp hsz hnx ⊢;have hcount:(bl s').count c=I-k:=by
  have h1:=zF c (bl s);rw [hsp,R5,zF,J,hc] at h1;omega
 unfold oy;rw [w2,hmin,w3];refine Gd.ite (λh1=>?_) (λh1=>?_)
 ·have h1:k<I:=by simpa using h1
  refine Gd.bind_eq (Dy s' c) ?_;rcases kI c (bl s') with ⟨hno,_⟩ | ⟨a,b,hab,ha,hi⟩
  ·rw [U_.2 hno] at hcount; omega
  ·have hsl:a.length+1<=s'.size:=by rw [<- ry,hab]; simp
   rw [hi];have w4:i64.wrap ((a.length:Int)+0)=(a.length:Int):=by rw [Int.add_zero]; exact bG ⟨by omega,by omega⟩
   have w5:i64.wrap ((a.length:Int)+((ba [c]).size:Int))=(a.length:Int)+1:=by rw [dA]; exact bG ⟨by simp; omega,by simp; omega⟩
   have w6:i64.wrap ((k:Int)+1)=((k+1:Nat):Int):=by rw [bG ⟨by omega,by omega⟩]; omega
   rw [w4,w5,w6];obtain ⟨x1,x2⟩:=Cb hab;refine Gd.ite (λh=>by simp at h; omega) (λ_=>Gd.nd ⟨by omega,by omega⟩ (Gd.gA (by simp; omega) (Gd.nd ⟨by omega,by omega⟩ (hnx _ ⟨k+1,Z++[a],rfl,by omega,by simp [J],?_,?_,?_⟩ (by simp; omega)))))
   ·simp only [RN]
    rw [x1,W8 _ _ (by simp [J]),show k-(Z.map ba).length=0 by simp [J],show I+1-k=(I+1-(k+1))+1 by omega,Tv,W9]
    simp
   ·simp only
    rw [show ((a.length:Int)+1).toNat=a.length+1 by omega,x2,q7,hsp,hab,lT ha]
    simp
   ·simp only
    rw [show ((a.length:Int)+1).toNat=a.length+1 by omega,x2,dA]
    have:s'.size=a.length+1+b.length:=by rw [<- ry,hab]; simp; omega
    omega
 ·have h1:k=I:=by have:¬ k<I:=(by simpa using h1); omega
  subst h1;have hno:c ∉ bl s':=U_.1 (by omega)
  have w6:i64.wrap ((k:Int)+1)=((k+1:Nat):Int):=by rw [bG ⟨by omega,by omega⟩]; omega
  unfold l9;rw [w6];have hset:(Z.map ba++List.replicate (k+1-k) (⟨#[]⟩:RI)).set ((k:Int)).toNat s'=Z.map ba++[s']:=by
   rw [RN,W8 _ _ (by simp [J]),show k-(Z.map ba).length=0 by simp [J],show k+1-k=0+1 by omega,Tv,W9]
   rfl
  refine Gd.gA (by simp [J]) ?_
  rw [hset];refine Gd.nd ⟨by omega,by simp [J]⟩ (Gd.ret ?_)
  rw [hsp,uG hno];simp [tG];exact R3 (by simp [J])
theorem A2:∀ (l:List UInt8) (acc n:Nat) (b:UInt8) (d:Nat),Lib.decFrom acc l=some n->Lib.digitVal b=some d->Lib.decFrom acc (l++[b])=some (n*10+d)
 | [],acc,n,b,d,h,hb=>by simp [Lib.decFrom] at h; subst h; simp [Lib.decFrom,hb]
 | x::l,acc,n,b,d,h,hb=>by
  rw [Lib.decFrom] at h;rw [TD,Lib.decFrom];cases I:Lib.digitVal x with
  | none=>rw [I] at h; cases h
  | some q=>rw [I] at h; exact A2 l _ n b d h hb
theorem Fv {u:Nat} (h:u<10):Lib.digitVal (UInt8.ofNat (48+u))=some u:=by
 have:(UInt8.ofNat (48+u)).toNat=48+u:=by rw [XG]; omega
 unfold Lib.digitVal;rw [this,RU (by omega)]
 congr 1; omega
theorem xt (u:Nat):Lib.decFrom 0 (Lib.decDigits u)=some u/\Lib.decDigits u≠[]/\∀ b ∈ Lib.decDigits u,48<=b.toNat/\b.toNat<=57:=by
 induction u using Nat.strongRecOn with
 | _ u ih=>
  have J:∀ v,v<10->48<=(UInt8.ofNat (48+v)).toNat/\(UInt8.ofNat (48+v)).toNat<=57:=λv hv=>by
   rw [XG]; omega
  by_cases h:u<10
  ·rw [WO h]
   refine ⟨by rw [Lib.decFrom,Fv h]; simp [Lib.decFrom],by simp,λb I=>?_⟩
   rw [R_] at I; subst I; exact J u h
  ·obtain ⟨Y,h2,Z⟩:=ih (u / 10) (by omega)
   have e:Lib.decDigits u=Lib.decDigits (u / 10)++[UInt8.ofNat (48+u%10)]:=by rw [Lib.decDigits,dif_neg h]
   rw [e];refine ⟨?_,by simp,λb I=>?_⟩
   ·rw [A2 _ _ _ _ _ Y (Fv (by omega))]
    congr 1; omega
   ·rcases RZ.1 I with I | I
    ·exact Z b I
    ·rw [R_] at I; subst I; exact J _ (by omega)
theorem HQ (u:Nat) (h:u<10 ^ 8):(Lib.decDigits u).length<=8:=by
 rw [WN];have key:∀ (k u:Nat),u<10 ^ (k+1)->Lib.nDigits u<=k+1:=by
  intro k
  induction k with
  | zero=>intro u h; rw [WQ (by simpa using h)]; omega
  | succ k ih=>
   intro u h
   by_cases I:u<10
   ·rw [WQ I]; omega
   ·rw [Lib.nDigits_big I]
    have:=ih (u / 10) (by rw [Xr] at h; omega)
    omega
 exact key 7 u h
theorem GY (n:Int):∀ b ∈ Lib.itoa n,b.toNat=45\/48<=b.toNat/\b.toNat<=57:=by
 intro b I;unfold Lib.itoa at I
 split at I
 ·rcases SA.1 I with rfl | I
  ·exact .inl rfl
  ·exact .inr ((xt _).2.2 b I)
 ·exact .inr ((xt _).2.2 b I)
theorem KS {n:Int} (h:-100000000<n/\n<100000000):(Lib.itoa n).length<=9:=by
 unfold Lib.itoa
 split
 ·have:=HQ n.natAbs (by omega); simp; omega
 ·have:=HQ n.toNat (by omega); omega
theorem yK {n:Int} (h:-100000000<n/\n<100000000):lO (jV n)=(n,false):=by
 have I:=KS h;have key:Lib.atoi (Lib.itoa n)=some n:=by
  unfold Lib.itoa
  split
  ·rename_i hn
   obtain ⟨Y,J,_⟩:=xt n.natAbs;have:Lib.decNat (Lib.decDigits n.natAbs)=some n.natAbs:=by
    unfold Lib.decNat;rw [RS (by simpa using J)]; exact Y
   rw [Lib.atoi,RU (by rfl),this]
   simp; omega
  ·rename_i hn
   obtain ⟨Y,J,h3⟩:=xt n.toNat;cases Z:Lib.decDigits n.toNat with
   | nil=>exact absurd Z J
   | cons b r=>
    have hb:=h3 b (by rw [Z]; exact RR ..)
    have e1:(b == 45)=false:=by simp; rintro rfl; simp at hb
    have e2:(b == 43)=false:=by simp; rintro rfl; simp at hb
    rw [Lib.atoi,e1,e2,<- Z];have:Lib.decNat (Lib.decDigits n.toNat)=some n.toNat:=by
     unfold Lib.decNat;rw [RS (by simpa using J)]; exact Y
    rw [this];simp; omega
 unfold lO jV;simp only;rw [Lib.atoiAll_short _ (by simpa using SK I (by omega)),key]
 rfl
theorem FH (n:Int):jV n=ba (Lib.itoa n):=rfl
theorem wv {n:Int} (h:-9223372036854775808<=n/\n<=9223372036854775807):(Lib.itoa n).length<=21:=by
 unfold Lib.itoa
 split
 ·have:=Dp n.natAbs (by omega); simp; omega
 ·have:=Dp n.toNat (by omega); omega
def oz (e:Ev):List UInt8:=Lib.itoa e.Time++32::(bl e.Kind++32::(bl e.Name++32::Lib.itoa e.Value))
structure DS (e:Ev):Prop where
 t:-9223372036854775808<=e.Time/\e.Time<=9223372036854775807
 v:-9223372036854775808<=e.Value/\e.Value<=9223372036854775807
 k:e.Kind.size<=100000
 n:e.Name.size<=100000
theorem yO {e:Ev} (h:DS e):(oz e).length<=45+e.Kind.size+e.Name.size:=by
 have I:=wv h.t; have J:=wv h.v
 have Y:=ry e.Kind; have Z:=ry e.Name
 unfold oz;simp only [R5,RW];omega
theorem EA {e:Ev} (h:DS e):mz e=some (ba (oz e)):=by
 have Z:=wv h.t; have h2:=wv h.v
 have I:(jV e.Time).size=(Lib.itoa e.Time).length:=(ry _).symm;have Y:(jV e.Value).size=(Lib.itoa e.Value).length:=(ry _).symm;have J:(⟨#[32]⟩:RI).size=1:=rfl;have k1:=h.k; have k2:=h.n
 refine Gd.eq.1 ?_;unfold mz;refine Gd.nd h.t (Gd.nd ?_ (Gd.nd ?_ (Gd.nd ?_ (Gd.nd ?_ (Gd.nd ?_ (Gd.nd h.v (Gd.nd ?_ (Gd.ret ?_))))))))
 ·rw [I,J]; simp only [maxLen]; omega
 ·simp only [rJ,I,J,maxLen]; omega
 ·simp only [rJ,I,J,maxLen]; omega
 ·simp only [rJ,I,J,maxLen]; omega
 ·simp only [rJ,I,J,maxLen]; omega
 ·simp only [rJ,I,Y,J,maxLen]; omega
 ·refine vC ?_
  rw [sF,sF,sF,sF,sF,sF,q7,oz];show Lib.itoa e.Time++[32]++bl e.Kind++[32]++bl e.Name++[32]++Lib.itoa e.Value=_;simp
def Od (n:Int) (y:Int):Int:=u64.wrap ((u64.wrap ((BitVec.ofInt (u64).bits n ^^^ BitVec.ofInt (u64).bits (u64.wrap y)).toNat))*1099511628211)
def wY (n:Int) (l:List UInt8):Int:=(l++[10]).foldl (λn (c:UInt8)=>Od n (c.toNat:Int)) n
theorem ND (n:Int):0<=u64.wrap n/\u64.wrap n<18446744073709551616:=by
 rw [show u64.wrap n=n%18446744073709551616 by simp [IntKind.wrap,IntKind.bits,IntKind.signed]]
 omega
theorem B7 (n:Int) (l:List UInt8):0<=wY n l/\wY n l<18446744073709551616:=by
 unfold wY;rw [List.foldl_append];exact ND _
theorem Du {α I:Type} (f:α->I->α):∀ (l:List I) (i:Nat) (s:α),dE (λ(_:Nat) y s (n:α->Option α)=>n (f s y)) (λs=>some s) i l s=some (l.foldl f s)
 | [],_,_=>rfl
 | y::l,i,s=>Du f l (i+1) (f s y)
theorem AE (n:Int) (s:RI) (h:s.size<=1000000):mb n s=some (wY n (bl s)):=by
 have z:(⟨#[10]⟩:RI).size=1:=rfl;refine Gd.eq.1 ?_;unfold mb;refine Gd.nd (by rw [z]; simp only [maxLen]; omega) (Gd.nd (by rw [rJ,z]; simp only [maxLen]; omega) (Gd.eq.2 ?_))
 have:=Du (λ(n:Int) (y:U8)=>Od n y.n) (fQ (s++⟨#[10]⟩)) 0 n;have e:fQ (s++⟨#[10]⟩)=(bl s++[10]).map (λb:UInt8=>(⟨b.toNat⟩:U8)):=by
  show ((s++⟨#[10]⟩:RI).data.toList).map _=_;rw [show (s++⟨#[10]⟩:RI).data.toList=bl s++[10] from sF _ _]
 rw [e,List.foldl_map] at this;rw [e];exact this
def L7 (l:List U8):Prop:=∀ y ∈ l,48<=y.n/\y.n<=122
def Ee:List U8:=fQ (⟨#[48,49,50,51,52,53,54,55,56,57,97,98,99,100,101,102,103,104,105,106,107,108,109,110,111,112,113,114,115,116,117,118,119,120,121,122]⟩)
theorem Bo:Ee.length=36/\L7 Ee:=by
 refine ⟨by decide,λy I=>?_⟩
 have:Ee.all (λy=>decide (48<=y.n) && decide (y.n<=122))=true:=by decide
 have:=S2.1 this y I;simpa using this
def DQ (s:RI):Prop:=s.size<=65/\∀ c ∈ bl s,48<=c.toNat
theorem DQ.not {s:RI} (h:DQ s) {c:UInt8} (I:c.toNat<48):c ∉ bl s:=λO=>by have:=h.2 c O; omega
theorem Kh {l:List U8} (h:L7 l) (hl:l.length<=65):DQ (xV l):=by
 refine ⟨by rw [<- ry]; show (l.map _).length<=65; simpa using hl,λc I=>?_⟩
 have I:c ∈ l.map λy=>UInt8.ofNat y.n.toNat:=by simpa [xV,bl] using I
 obtain ⟨y,J,rfl⟩:=SC.1 I;have:=h y J;rw [XG];omega
theorem KH {n:Int}{i:Nat}{l:List U8} (Z:0<=n) (h1:n<16) (hi:1<=i) (hl:l.length=65) (hi2:i<=65) (hx:L7 (l.drop i)):
  Gd (fB false false n (i:Int) l) (λr=>DQ r.2):=by
 unfold fB;have hw:i64.wrap ((i:Int)-1)=((i-1:Nat):Int):=by rw [bG ⟨by omega,by omega⟩]; omega
 rw [hw];have Y:n.toNat<Ee.length:=by rw [Bo.1]; omega
 refine Gd.ix (l:=Ee) Z (RK Y) (Gd.gA (show i-1<l.length by omega) ?_)
 have I:=Bo.2 _ (Sk Y);generalize Ee[n.toNat]=y at I;unfold fM fL;refine Gd.ite (λh=>by cases h) (λ_=>Gd.ite (λh=>by cases h) (λ_=>Gd.nd ⟨by omega,by omega⟩ (Gd.ret ?_)))
 simp only [RN];have e:(l.set (i-1) y).drop (i-1)=y::l.drop i:=by
  rw [Si (by simp; omega)]
  rw [Vn,show i-1+1=i by omega,TP (by omega)]
 rw [e];refine Kh (λz J=>?_) (by simp; omega)
 rcases SA.1 J with rfl | J
 ·exact I
 ·exact hx z J
theorem Pw (n:Int):0<=u64.wrap ((BitVec.ofInt (u64).bits n &&& BitVec.ofInt (u64).bits (u64.wrap ((u64.wrap 16)-1))).toNat)/\u64.wrap ((BitVec.ofInt (u64).bits n &&& BitVec.ofInt (u64).bits (u64.wrap ((u64.wrap 16)-1))).toNat)<16:=by
 have I:(BitVec.ofInt (u64).bits (u64.wrap ((u64.wrap 16)-1))).toNat=15:=by decide
 have J:(BitVec.ofInt (u64).bits n &&& BitVec.ofInt (u64).bits (u64.wrap ((u64.wrap 16)-1))).toNat<=15:=by
  rw [BitVec.toNat_and,I]; exact Nat.and_le_right
 rw [show ∀ n,u64.wrap n=n%18446744073709551616 by intro n; simp [IntKind.wrap,IntKind.bits,IntKind.signed]]
 omega
theorem QI:lX (u64.wrap 16)=some 4:=by decide
theorem OA {n:Int} (h:0<=n/\n<18446744073709551616):Gd (gV n 16) DQ:=by
 unfold gV jX;refine Gd.eN (P:=DQ) (Gd.ite (λh=>by simp at h) (λ_=>Gd.eN (P:=λr=>DQ r.2) ?_ (λr hr=>Gd.ret hr))) (λr hr=>Gd.ret hr)
 unfold jY fC;refine Gd.ite (λh=>by simp at h) (λ_=>Gd.ite (λh=>by cases h) (λ_=>Gd.ite (λ_=>Gd.bind_eq QI ?_) (λh=>absurd h (by decide))))
 refine Gd.fG (λ(z:Int×Int×List U8)=>∃ k:Nat,1<=k/\k<=16/\0<=z.1/\z.1<(16 ^ k:Nat)/\z.2.1=((49+k:Nat):Int)/\z.2.2.length=65/\L7 (z.2.2.drop (49+k))) (λz=>z.2.1.toNat) ?_ eI _ ⟨16,by omega,by omega,h.1,by simpa using h.2,rfl,by simp,by intro y hy; simp at hy⟩ (by simp only [eI]; decide)
 rintro ⟨u,i,l⟩ nx ⟨k,k1,k2,u0,u1,rfl,hl,hx⟩ hnx;simp only at u0 u1 hl hx hnx ⊢;unfold lg;have J:u64.wrap 16=16:=by decide
 refine Gd.ite (λI=>?_) (λZ=>KH u0 (by rw [J] at Z; simp at Z; omega) (by omega) hl (by omega) hx)
 have I:(16:Int)<=u:=by rw [J] at I; simpa using I
 have hk:2<=k:=by
  rcases TF k 2 with h | h
  ·have:k=1:=by omega
   subst this; simp at u1; omega
  ·exact h
 obtain ⟨k,rfl⟩:∃ q,k=q+1:=⟨k-1,by omega⟩
 obtain ⟨a0,a1⟩:=Pw u;have hw:i64.wrap (((49+(k+1):Nat):Int)-1)=((49+k:Nat):Int):=by rw [bG ⟨by omega,by omega⟩]; omega
 rw [hw];generalize u64.wrap ((BitVec.ofInt (u64).bits u &&& BitVec.ofInt (u64).bits (u64.wrap ((u64.wrap 16)-1))).toNat)=j at a0 a1;have hd:j.toNat<Ee.length:=by rw [Bo.1]; omega
 refine Gd.ix (l:=Ee) a0 (RK hd) (Gd.gA (show 49+k<l.length by omega) (Gd.nd (by decide) ?_))
 have Y:=Bo.2 _ (Sk hd);generalize Ee[j.toNat]=y at Y;have hsh:mG .u64 u (u64.wrap 4)=u / 16:=by
  unfold mG;rw [show (min (u64.wrap 4).toNat u64.bits)=4 by decide,T0 _ (by decide)]
  rfl
 rw [hsh];refine hnx _ ⟨k,by omega,by omega,by simp only; omega,?_,rfl,by simp [hl],?_⟩ (by simp only [RN]; omega)
 ·simp only
  rw [Xr] at u1;omega
 ·simp only [RN]
  rw [Si (by simp; omega),Vn,TP (by omega)]
  intro z hz;rcases SA.1 hz with rfl | hz
  ·exact Y
  ·exact hx z hz
def fmt (n:Int):RI:=(gV n 16).getD ⟨#[]⟩
theorem GQ {n:Int} (h:0<=n/\n<18446744073709551616):gV n 16=some (fmt n)/\DQ (fmt n):=by
 obtain ⟨r,I,J⟩:=OA h;have:fmt n=r:=by unfold fmt; rw [I]; rfl
 rw [this]; exact ⟨I,J⟩
theorem tR {s:RI} (h:dU s=some true):s.size<=8/\∀ c ∈ bl s,48<=c.toNat:=by
 by_cases hs:s.size<=maxLen
 ·have key:Gd (dU s) (λb=>b=true->s.size<=8/\∀ c ∈ bl s,48<=c.toNat):=by
   unfold dU;refine Gd.nd hs (Gd.dE (λ_ l _=>∃ a b:List UInt8,bl s=a++b/\l=b.map (λc=>(⟨c.toNat⟩:U8))/\∀ c ∈ a,48<=c.toNat) (λi y ys z n hI hn=>?_) (λi z hI=>?_) _ _ _ ⟨[],bl s,rfl,rfl,by simp⟩)
   ·obtain ⟨a,b,h1,J,h3⟩:=hI
    unfold mM;refine Gd.ite (λ_=>Gd.ret (λh=>by cases h)) (λZ=>hn _ ?_)
    cases b with
    | nil=>cases J
    | cons c b=>
     simp only [TT,VD] at J;obtain ⟨rfl,rfl⟩:=J;refine ⟨a++[c],b,by rw [h1]; simp,rfl,λx I=>?_⟩
     rcases RZ.1 I with I | I
     ·exact h3 x I
     ·rw [R_] at I; subst I
      simp at Z;omega
   ·obtain ⟨a,b,h1,J,h3⟩:=hI
    have Y:b=[]:=by cases b with
     | nil=>rfl
     | cons _ _=>cases J
    subst Y;refine Gd.ret (λh=>?_);simp only [Tp,Sy] at h;refine ⟨by omega,λc Z=>h3 c (by rw [h1] at Z; simpa using Z)⟩
  obtain ⟨b,Y,hq⟩:=key;rw [h] at Y; cases Y
  exact hq rfl
 ·unfold dU cE at h
  rw [RS hs] at h; cases h
theorem uf {s:RI} (h:bB s=some true):s.size<=8/\∀ c ∈ bl s,48<=c.toNat:=by
 by_cases hs:s.size<=maxLen
 ·have key:Gd (bB s) (λb=>b=true->s.size<=8/\∀ c ∈ bl s,48<=c.toNat):=by
   unfold bB;refine Gd.nd hs (Gd.dE (λ_ l _=>∃ a b:List UInt8,bl s=a++b/\l=b.map (λc=>(⟨c.toNat⟩:U8))/\∀ c ∈ a,48<=c.toNat) (λi y ys z n hI hn=>?_) (λi z hI=>?_) _ _ _ ⟨[],bl s,rfl,rfl,by simp⟩)
   ·obtain ⟨a,b,h1,J,h3⟩:=hI
    unfold mi;refine Gd.ite (λ_=>Gd.ret (λh=>by cases h)) (λZ=>hn _ ?_)
    cases b with
    | nil=>cases J
    | cons c b=>
     simp only [TT,VD] at J;obtain ⟨rfl,rfl⟩:=J;refine ⟨a++[c],b,by rw [h1]; simp,rfl,λx I=>?_⟩
     rcases RZ.1 I with I | I
     ·exact h3 x I
     ·rw [R_] at I; subst I
      simp at Z;omega
   ·obtain ⟨a,b,h1,J,h3⟩:=hI
    have Y:b=[]:=by cases b with
     | nil=>rfl
     | cons _ _=>cases J
    subst Y;refine Gd.ret (λh=>?_);simp only [Tp,Sy] at h;refine ⟨by omega,λc Z=>h3 c (by rw [h1] at Z; simpa using Z)⟩
  obtain ⟨b,Y,hq⟩:=key;rw [h] at Y; cases Y
  exact hq rfl
 ·unfold bB cE at h
  rw [RS hs] at h; cases h
theorem u6.line {e:Ev} (h:u6 e):DS e:=by
 have I:=h.t0; have J:=h.t1; have Y:=h.v0; have Z:=h.v1
 have k:=(tR h.kind).1; have n:=(uf h.name).1
 exact ⟨by omega,by omega,by omega,by omega⟩
theorem u6.tr {e:Ev} (h:u6 e):-100000000<e.Time/\e.Time<100000000:=by have:=h.t0; have:=h.t1; omega
theorem u6.vr {e:Ev} (h:u6 e):-100000000<e.Value/\e.Value<100000000:=by have:=h.v0; have:=h.v1; omega
theorem zY {n:Int}{c:UInt8} (I:c.toNat<45):c ∉ Lib.itoa n:=λO=>by have:=GY _ _ O; omega
def wT (n:Int) (e:Ev):List UInt8:=oz e++32::bl (fmt (wY n (oz e)))
def pW:Int->List Ev->List UInt8
 | _,[]=>[]
 | n,e::l=>wT n e++10::pW (wY n (oz e)) l
def Fu (n:Int) (l:List Ev):Int:=l.foldl (λn e=>wY n (oz e)) n
theorem yR:∀ (a:List Ev) (n:Int) (b:List Ev),pW n (a++b)=pW n a++pW (Fu n a) b
 | [],n,b=>rfl
 | e::a,n,b=>by
  rw [TD,pW,pW,yR a];simp [Fu]
theorem Eb (n:Int) (a:List Ev) (e:Ev):Fu n (a++[e])=wY (Fu n a) (oz e):=by simp [Fu]
theorem zG (n:Int) (a:List Ev) (e:Ev):pW n (a++[e])=pW n a++(wT (Fu n a) e++[10]):=by
 rw [yR]; rfl
theorem Eo (n:Int) (e:Ev):DQ (fmt (wY n (oz e))):=(GQ (B7 _ _)).2
theorem Na (n:Int) {e:Ev} (h:u6 e):(wT n e).length<=127:=by
 have I:=yO h.line;have k:=(tR h.kind).1; have m:=(uf h.name).1
 have Y:=(Eo n e).1;have J:=ry (fmt (wY n (oz e)));unfold wT;simp only [R5,RW];omega
theorem AV:∀ (l:List Ev) (n:Int),(∀ e ∈ l,u6 e)->(pW n l).length<=128*l.length
 | [],_,_=>by simp [pW]
 | e::l,n,h=>by
  have J:=Na n (h e (by simp))
  have Y:=AV l (wY n (oz e)) (λx I=>h x (RV _ I));simp only [pW,R5,RW];omega
theorem AT (n:Int) {e:Ev} (h:u6 e):og 32 (wT n e)=[Lib.itoa e.Time,bl e.Kind,bl e.Name,Lib.itoa e.Value,bl (fmt (wY n (oz e)))]:=by
 have k:(32:UInt8) ∉ bl e.Kind:=λO=>by have:=(tR h.kind).2 _ O; simp at this
 have m:(32:UInt8) ∉ bl e.Name:=λO=>by have:=(uf h.name).2 _ O; simp at this
 have x:(32:UInt8) ∉ bl (fmt (wY n (oz e))):=(Eo n e).not (by decide)
 generalize I:fmt (wY n (oz e))=f at x;unfold wT;rw [I];unfold oz;rw [show (Lib.itoa e.Time++32::(bl e.Kind++32::(bl e.Name++32::Lib.itoa e.Value)))++32::bl f=Lib.itoa e.Time++32::(bl e.Kind++32::(bl e.Name++32::(Lib.itoa e.Value++32::bl f))) by simp]
 rw [lT (zY (by decide)),lT k,lT m,lT (zY (by decide)),uG x]
theorem Lr (n:Int) {e:Ev} (h:u6 e):(10:UInt8) ∉ wT n e:=by
 have k:(10:UInt8) ∉ bl e.Kind:=λO=>by have:=(tR h.kind).2 _ O; simp at this
 have m:(10:UInt8) ∉ bl e.Name:=λO=>by have:=(uf h.name).2 _ O; simp at this
 have x:(10:UInt8) ∉ bl (fmt (wY n (oz e))):=(Eo n e).not (by decide)
 have J:(10:UInt8) ∉ Lib.itoa e.Time:=zY (by decide)
 have Y:(10:UInt8) ∉ Lib.itoa e.Value:=zY (by decide)
 generalize I:fmt (wY n (oz e))=f at x;unfold wT;rw [I];unfold oz;simp only [RZ,SA,not_or];exact ⟨⟨J,by decide,k,by decide,m,by decide,Y⟩,by decide,x⟩
theorem Dz {a b:Int} (Y:-100000000<a/\a<100000000) (Z:-100000000<b/\b<100000000) (h:Lib.itoa a=Lib.itoa b):a=b:=by
 have I:=yK Y; have J:=yK Z
 have:jV a=jV b:=by rw [FH,FH,h]
 rw [this,J] at I;exact (Prod.mk.inj I).1.symm
theorem M_ {n m:Int}{a b:Ev} (I:u6 a) (J:u6 b) (h:wT n a=wT m b):a=b:=by
 have:=AT n I;rw [h,AT m J] at this;simp only [VD] at this;obtain ⟨h1,h2,h3,h4,_⟩:=this;have e1:=Dz J.tr I.tr h1;have Z:=Dz J.vr I.vr h4;have e2:=vC h2; have Y:=vC h3
 cases a; cases b
 simp only at e1 e2 Y Z;subst e1; subst e2; subst Y; subst Z; rfl
theorem Fz {a b c d:List UInt8} (J:(10:UInt8) ∉ a) (Y:(10:UInt8) ∉ c) (h:a++10::b=c++10::d):a=c/\b=d:=by
 have I:=lT (c:=10) (r:=b) J;rw [h,lT Y] at I;have e:=(WT I).1;subst e;have:=WS h;exact ⟨rfl,(WT this).2⟩
abbrev BD:Int:=14695981039346656037
theorem Nk {l:List Ev} (h:∀ e ∈ l,u6 e) (hl:l.length<=300):jO ⟨l⟩=some (ba (pW BD l)):=by
 refine Gd.eq.1 ?_;unfold jO;refine Gd.dE (λk ys (z:RI×Int)=>∃ I,l=I++ys/\z=(ba (pW BD I),Fu BD I)) (λk e ys z nx Y hn=>?_) (λk z Y=>?_) _ _ _ ⟨[],rfl,rfl⟩
 ·obtain ⟨I,e1,rfl⟩:=Y
  have he:u6 e:=h e (by rw [e1]; simp)
  have Z:∀ x ∈ I,u6 x:=λx hx=>h x (by rw [e1]; simp [hx])
  have hlen:=AV I BD Z;have hdl:I.length+1<=300:=by have:=R7 List.length e1; simp at this; omega
  have hll:=yO he.line;have k8:=(tR he.kind).1; have n8:=(uf he.name).1
  have hf:=GQ (B7 (Fu BD I) (oz e));have hfs:=hf.2.1;have J:(⟨#[32]⟩:RI).size=1:=rfl;have z2:(⟨#[10]⟩:RI).size=1:=rfl;unfold oD;refine Gd.bind_eq (EA he.line) (Gd.bind_eq (AE _ _ (by rw [dA]; omega)) (Gd.nd ?_ (Gd.bind_eq (by rw [q7]; exact hf.1) (Gd.nd ?_ (Gd.nd ?_ (Gd.nd ?_ (hn _ ⟨I++[e],by rw [e1]; simp,?_⟩)))))))
  ·rw [dA,J]; simp only [maxLen]; omega
  ·simp only [rJ,dA,J,maxLen]; omega
  ·simp only [rJ,dA,J,z2,maxLen]; omega
  ·simp only [rJ,dA,J,z2,maxLen]; omega
  ·rw [Eb,zG,q7]
   refine Prod.ext (vC ?_) rfl;rw [sF,sF,sF,sF,q7,q7,q7,wT];show _++(((oz e++[32])++_)++[10])=_;simp
 ·obtain ⟨I,e1,rfl⟩:=Y
  rw [Ss] at e1; subst e1
  exact Gd.ret rfl
theorem Ec {l:List Ev} (h:∀ e ∈ l,u6 e):eU ⟨l⟩=some (Fu BD l):=by
 refine Gd.eq.1 ?_;unfold eU;refine Gd.dE (λk ys (z:Int)=>∃ I,l=I++ys/\z=Fu BD I) (λk e ys z nx J hn=>?_) (λk z J=>?_) _ _ _ ⟨[],rfl,rfl⟩
 ·obtain ⟨I,e1,rfl⟩:=J
  have he:u6 e:=h e (by rw [e1]; simp)
  have Y:=yO he.line;have Z:=(tR he.kind).1; have n8:=(uf he.name).1
  unfold nF;refine Gd.bind_eq (EA he.line) (Gd.bind_eq (AE _ _ (by rw [dA]; omega)) (hn _ ⟨I++[e],by rw [e1]; simp,by rw [Eb,q7]⟩))
 ·obtain ⟨I,e1,rfl⟩:=J
  rw [Ss] at e1; subst e1
  exact Gd.ret rfl
theorem DK (s:RI) (c:UInt8):dM s (ba [c])=some (Lib.indexByte (bl s) c):=by
 have h:=Dy s c;unfold nc at h;cases I:dM s (ba [c]) with
 | none=>rw [I] at h; cases h
 | some v=>rw [I] at h; exact h
theorem I3 {s:RI}{c:UInt8} (h:c ∉ bl s):iH s (ba [c])=some (s,⟨#[]⟩,false):=by
 refine Gd.eq.1 ?_;unfold iH e_;rcases kI c (bl s) with ⟨_,hi⟩ | ⟨a,b,I,_,_⟩
 ·have J:=DK s c
  rw [hi] at J;rw [J];exact Gd.ret rfl
 ·rw [I] at h; exact absurd (by simp) h
theorem I4 {s:RI}{c:UInt8}{a b:List UInt8} (h:bl s=a++c::b) (ha:c ∉ a) (hs:s.size<=1000000):iH s (ba [c])=some (ba a,ba b,true):=by
 refine Gd.eq.1 ?_;have hz:s.size=a.length+1+b.length:=by rw [<- ry,h]; simp; omega
 have hi:Lib.indexByte (bl s) c=(a.length:Int):=by
  rcases kI c (bl s) with ⟨Y,_⟩ | ⟨a',b',hab,Z,hi⟩
  ·rw [h] at Y; exact absurd (by simp) Y
  ·have J:=lT (c:=c) (r:=b) ha
   rw [<- h,hab,lT Z] at J;rw [hi,(WT J).1]
 have J:=DK s c;rw [hi] at J;unfold iH e_;rw [J];have w:i64.wrap ((a.length:Int)+((ba [c]).size:Int))=(a.length:Int)+1:=by rw [dA]; exact bG ⟨by simp; omega,by simp; omega⟩
 obtain ⟨x1,x2⟩:=Cb h;have I:(if decide (0<=(a.length:Int))=true then (cE (0<=(a.length:Int)/\(a.length:Int)<=(s.size:Int)) (cE (0<=(i64.wrap ((a.length:Int)+((ba [c]).size:Int)))/\(i64.wrap ((a.length:Int)+((ba [c]).size:Int)))<=(s.size:Int)) (some ((s.extract 0 (((a.length:Int):Int).toNat)),(s.extract ((i64.wrap ((a.length:Int)+((ba [c]).size:Int)):Int).toNat) s.size),true)))) else (some (s,(⟨#[]⟩),false)))=some (ba a,ba b,true):=by
  rw [w];refine Gd.eq.1 (Gd.ite (λ_=>Gd.nd ⟨by omega,by omega⟩ (Gd.nd ⟨by omega,by omega⟩ (Gd.ret ?_))) (λh=>by simp at h))
  rw [RN,x1,show ((a.length:Int)+1).toNat=a.length+1 by omega,x2]
 exact Gd.bind_eq (a:=(ba a,ba b,true)) I (Gd.ret rfl)
theorem Dl (s:RI):-9223372036854775808<=(lO s).1/\(lO s).1<=9223372036854775807:=by
 unfold lO;cases h:Lib.atoiAll s.data.toList with
 | ok v=>exact Lib.atoiAll_bounds h
 | range=>
  simp only;unfold Lib.atoiSat
  split <;> exact ⟨by decide,by decide⟩
 | _=>exact ⟨by show (-9223372036854775808:Int)<=0; omega,by show (0:Int)<=9223372036854775807; omega⟩
theorem Qy {α:Type}{l:List α} (h:l.length=5):∃ a b c d e,l=[a,b,c,d,e]:=by
 match l,h with
 | [a,b,c,d,e],_=>exact ⟨a,b,c,d,e,rfl⟩
theorem JJ {s x:List UInt8} (h:x ∈ og 32 s):x.length<=s.length:=by
 have:∀ (ws:List (List UInt8)),x ∈ ws->x.length<=(DA 32 ws).length:=by
  intro ws
  induction ws with
  | nil=>intro h; cases h
  | cons a r ih=>
   intro h;cases r with
   | nil=>rw [R_] at h; subst h; exact R9 _
   | cons b r=>
    rw [DA,R5,RW];rcases SA.1 h with rfl | h
    ·omega
    ·have:=ih h; omega
 have:=this _ h
 rwa [GZ] at this
def Next (N:Int) (l:List Ev) (rest:List UInt8) (e:Ev) (r':List UInt8):Prop:=rest=wT N e++10::r'/\Fits l e
theorem LB {s:RI}{l:List Ev}{N:Int}{rest p:List UInt8}{at_:Int}{nx:Int×Int×List Ev->Option ((Option aL)×Int×Int)}{Q:(Option aL)×Int×Int->Prop}
  (hs:s.size<=65536) (hl:EX l) (hS:bl s=p++rest) (hat:at_=(p.length:Int))
  (I:(∀ e r',¬ Next N l rest e r')->Q (some ⟨l⟩,at_,0))
  (hnx:∀ e r',Next N l rest e r'->Gd (nx (at_+((wT N e).length+1:Nat),wY N (oz e),l++[e])) Q):
  Gd (oP s at_ N l nx) Q:=by
 subst hat;have hz:s.size=p.length+rest.length:=by rw [<- ry,hS]; simp
 have hex:s.extract ((p.length:Int).toNat) s.size=ba rest:=by
  refine vC ?_;rw [xq,RN,hS,R3 (by simp; omega),q7]
  simp
 unfold oP;rw [hex];refine Gd.nd ⟨by omega,by omega⟩ ?_
 have hrs:(ba rest).size<=65536:=by rw [dA]; omega
 rcases kI 10 rest with ⟨hno,_⟩ | ⟨a,b,hab,ha,_⟩
 ·have hno':(10:UInt8) ∉ bl (ba rest):=by rw [q7]; exact hno
  refine Gd.bind_eq (I3 hno') (Gd.bind_eq (F_ (ba rest) 32 (by omega)) (Gd.ite (λ_=>Gd.ret (I λe r' h=>?_)) (λh=>by simp at h)))
  rw [h.1] at hno;exact hno (by simp)
 have hsa:(ba a).size<=65536:=by rw [dA]; have:=R7 List.length hab; simp at this; omega
 refine Gd.bind_eq (I4 (s:=ba rest) (by rw [q7]; exact hab) ha (by omega)) ?_
 have hal:a.length<=65536:=by rw [dA] at hsa; exact hsa
 have hsp:=F_ (ba a) 32 (by omega)
 rw [q7] at hsp;have hev:∀ e r',Next N l rest e r'->a=wT N e/\u6 e:=λe r' h=>⟨(Fz ha (Lr N h.2.1) (hab.symm.trans h.1)).1,h.2.1⟩;have Z:∀ w ∈ (og 32 a).map ba,w.size<=65536:=λw hw=>by
  obtain ⟨x,hx,rfl⟩:=SC.1 hw;have:=JJ hx;rw [dA] at hsa ⊢;omega
 have hwl:∀ e r',Next N l rest e r'->(og 32 a).map ba=[jV e.Time,e.Kind,e.Name,jV e.Value,fmt (wY N (oz e))]:=λe r' h=>by
  obtain ⟨h1,h2⟩:=hev e r' h;rw [h1,AT N h2];simp only [TT,VK,HL]
  rfl
 generalize hL:(og 32 a).map ba=L at hsp Z hwl;refine Gd.bind_eq hsp ?_;refine Gd.ite (λh=>Gd.ret (I λe r' hn=>?_)) (λh=>?_)
 ·rw [hwl e r' hn] at h
  simp at h
 have h5:L.length=5:=by
  simp only [Bool.not_true,V5,WE,Sy] at h;omega
 obtain ⟨w0,w1,w2,w3,w4,rfl⟩:=Qy h5;have r0:=Dl w0; have r3:=Dl w3
 have s0:=Z w0 (by simp); have s1:=Z w1 (by simp); have s2:=Z w2 (by simp); have s3:=Z w3 (by simp)
 refine Gd.ix (y:=w0) (by omega) rfl (Gd.nd (by omega) (Gd.ix (y:=w3) (by omega) rfl (Gd.nd (by omega) (Gd.ix (y:=w1) (by omega) rfl (Gd.ix (y:=w2) (by omega) rfl ?_)))))
 have Y:DS (aE.mk ((lO w0).1) w1 w2 ((lO w3).1)):=⟨r0,r3,by simp only; omega,by simp only; omega⟩
 have hww:∀ e r',Next N l rest e r'->aE.mk ((lO w0).1) w1 w2 ((lO w3).1)=e/\(lO w0).2=false/\(lO w3).2=false:=λe r' h=>by
  have hw:=hwl e r' h;have he:=(hev e r' h).2;simp only [VD] at hw;obtain ⟨q0,q1,q2,q3,_⟩:=hw;rw [q0,q1,q2,q3,yK he.tr,yK he.vr];exact ⟨rfl,rfl,rfl⟩
 have c0:∀ b,(lO w0).2=b->b=true->∀ e r',¬ Next N l rest e r':=λb hb ht e r' h=>by
  have:=(hww e r' h).2.1; rw [hb,ht] at this; cases this
 have c3:∀ b,(lO w3).2=b->b=true->∀ e r',¬ Next N l rest e r':=λb hb ht e r' h=>by
  have:=(hww e r' h).2.2; rw [hb,ht] at this; cases this
 have hwe:∀ e r',Next N l rest e r'->aE.mk ((lO w0).1) w1 w2 ((lO w3).1)=e:=λe r' h=>(hww e r' h).1;have hll:=yO Y;have k1:=Y.k; have k2:=Y.n
 have q1:w1.size<=65536:=s1;have q2:w2.size<=65536:=s2;have hlen:(oz (aE.mk ((lO w0).1) w1 w2 ((lO w3).1))).length<=200000:=by simp only at hll; omega
 have J:=EA Y;generalize aE.mk ((lO w0).1) w1 w2 ((lO w3).1)=e at J hlen hwe Y;have hdig:=AE N (ba (oz e)) (by rw [dA]; omega)
 rw [q7] at hdig;obtain ⟨hfm,hfx⟩:=GQ (B7 N (oz e));have hf65:=hfx.1;have z1:(⟨#[32]⟩:RI).size=1:=rfl;refine Gd.bind_eq J (Gd.bind_eq hdig (Gd.ite (λh=>Gd.ret (I (c0 _ rfl h))) (λ_=>Gd.ite (λh=>Gd.ret (I (c3 _ rfl h))) (λ_=>Gd.bind_eq J (Gd.nd ?_ (Gd.bind_eq hfm (Gd.nd ?_ ?_)))))))
 ·rw [dA,z1]; simp only [maxLen]; omega
 ·simp only [rJ,dA,z1,maxLen]; omega
 have hrow:(ba (oz e)++⟨#[32]⟩)++fmt (wY N (oz e))=ba (wT N e):=by
  refine vC ?_;rw [sF,sF,q7,q7,wT];show (oz e++[32])++_=_;simp
 rw [hrow];refine Gd.ite (λh=>Gd.ret (I λe' r' hn=>?_)) (λh=>?_)
 ·have:=(hev e' r' hn).1
  rw [hwe e' r' hn,<- this] at h;simp at h
 have hra:wT N e=a:=by
  have:ba (wT N e)=ba a:=by simpa using h
  have:=R7 bl this
  rwa [q7,q7] at this
 have k1':=Y.k; have k2':=Y.n
 refine Gd.eN (IL hl ⟨by simp only [maxLen]; omega,by simp only [maxLen]; omega⟩) ?_
 rintro r (⟨hf,rfl⟩ | ⟨hf,h1,h2,h3⟩)
 ·refine Gd.ite (λh=>by simp at h) (λ_=>?_)
  have:=hnx e b ⟨by rw [hra]; exact hab,hf⟩
  have hrl:(wT N e).length<=65536:=by rw [hra]; exact hal
  rw [dA,<- hra];rw [bG (n:=((wT N e).length:Int)+1) ⟨by omega,by omega⟩,bG ⟨by omega,by omega⟩]
  exact this
 ·refine Gd.ite (λh=>Gd.ret ?_) (λh=>by simp at h; exact absurd h h1)
  rw [h3];refine I λe' r' hn=>hf ?_;rw [hwe e' r' hn]; exact hn.2
theorem EX.part {l:List Ev}{e:Ev}{r:List Ev} (h:EX (l++e::r)):Fits l e:=by
 have J:=h.len;have I:=h.up;rw [W7] at I;exact ⟨h.ok e (by simp),by simp at J; omega,λx Y=>I.2.2 x Y e (by simp)⟩
theorem EX.left {l r:List Ev} (h:EX (l++r)):EX l:=by
 have J:=h.len;have I:=h.up;rw [W7] at I;exact ⟨by simp at J; omega,λx Y=>h.ok x (by simp [Y]),I.1⟩
theorem Hg {s:RI}{J:List Ev}{rest:List UInt8} (hs:s.size<=65536) (hl:EX J) (Y:bl s=pW BD J++rest):
  Gd (mL s) (λr=>∃ l1,EX (J++l1)/\r=(some ⟨J++l1⟩,((pW BD (J++l1)).length:Int),0)/\(∃ r',bl s=pW BD (J++l1)++r')/\((10:UInt8) ∉ rest->l1=[])):=by
 unfold mL fR;refine Gd.ite (λh=>by simp at h; omega) (λ_=>?_)
 refine Gd.fG (λ(z:Int×Int×List Ev)=>∃ r',EX z.2.2/\z.1=((pW BD z.2.2).length:Int)/\z.2.1=Fu BD z.2.2/\bl s=pW BD z.2.2++r'/\((∃ e l2,J=z.2.2++e::l2)\/∃ l1,z.2.2=J++l1/\((10:UInt8) ∉ rest->l1=[]))) (λz=>s.size+1-z.1.toNat) ?_ eI _ ?_ (by simp only [eI]; omega)
 ·rintro ⟨a,n,l⟩ nx ⟨r',hA,h1,h2,I,h4⟩ hnx
  simp only at hA h1 h2 I h4 hnx ⊢;subst h2;have hsz:s.size=(pW BD l).length+r'.length:=by rw [<- ry,I]; simp
  refine LB hs hA I h1 (λhno=>?_) (λe r2 hN=>?_)
  ·rcases h4 with ⟨e,l2,rfl⟩ | ⟨l1,rfl,hq⟩
   ·exfalso
    rw [yR] at Y;rw [I,Sc] at Y;have Z:=WS Y;rw [pW,Sc] at Z;exact hno e _ ⟨Z,hl.part⟩
   ·exact ⟨l1,hA,by rw [h1],⟨r',I⟩,hq⟩
  ·refine hnx _ ⟨r2,hA.add hN.2,?_,by rw [Eb],?_,?_⟩ ?_
   ·simp only
    rw [zG,h1]; simp
   ·simp only
    rw [zG,I,hN.1]; simp
   ·rcases h4 with ⟨e0,l2,rfl⟩ | ⟨l1,rfl,hq⟩
    ·have Z:r'=wT (Fu BD l) e0++10::(pW (wY (Fu BD l) (oz e0)) l2++rest):=by
      rw [yR] at Y;rw [I,Sc] at Y;have Z:=WS Y;rw [pW,Sc] at Z;exact Z
     rw [hN.1] at Z;have he0:u6 e0:=hl.part.1;have:=(Fz (Lr _ hN.2.1) (Lr _ he0) Z).1;have:=M_ hN.2.1 he0 this;subst this;cases l2 with
     | nil=>exact .inr ⟨[],by simp,λ_=>rfl⟩
     | cons e1 l3=>exact .inl ⟨e1,l3,by simp⟩
    ·refine .inr ⟨l1++[e],by simp,λh10=>?_⟩
     have:=hq h10;subst this;rw [Ss] at I;rw [I] at Y;have:=WS Y;rw [<- this,hN.1] at h10;exact absurd (by simp) h10
   ·rw [hN.1] at hsz
    simp only [R5,RW] at hsz;rw [h1];omega
 ·refine ⟨bl s,EX.nil,by simp [pW],by simp [Fu],by simp [pW],?_⟩
  cases J with
  | nil=>exact .inr ⟨[],rfl,λ_=>rfl⟩
  | cons e l=>exact .inl ⟨e,l,rfl⟩
theorem HR {e:Ev} (h:cL e=some 0):u6 e:=by
 have I:=Py h;obtain ⟨r,J,Y⟩:=Dm (e:=e) ⟨SK I.k (by decide),SK I.n (by decide)⟩
 rw [h] at J;exact Y.1 (RQ J).symm
def AZ (l:List Ev):Prop:=l.Pairwise λa b=>a.Time<=b.Time
theorem up_add {l m:List Ev}{t:Int} (h:AZ l) (hl:∀ x ∈ l,x.Time<=t) (O:∀ x ∈ m,x.Time=t):AZ (l++m):=by
 unfold AZ at *
 rw [W7];refine ⟨h,?_,λa J b Y=>by rw [O b Y]; exact hl a J⟩
 rw [List.pairwise_iff_forall_sublist];intro a b I;have:=I.subset;rw [O a (this (by simp)),O b (this (by simp))]
 exact Ub _
theorem NF {r r':Rm}{e:Ev} (hi:Inv r) (h:AZ r.log.eV) (Z:Pe r e r'):AZ r'.log.eV:=by
 have Y:∀ x ∈ r.log.eV,x.Time<=e.Time:=λx I=>Int.le_trans (hi.lt x I) Z.t;obtain ⟨on1,_,st1,ov1,ex,_,_,hc⟩:=Z.x;rcases hc with ⟨_,_,_,_,hl⟩ | ⟨_,_,_,_,ev,J,hl⟩ | ⟨off,ev,J,_,_,_,_,hl⟩
 ·rw [hl]; exact up_add h Y (λx I=>by rw [R_.1 I])
 ·rw [hl,Sc]
  refine up_add h Y (λx I=>?_);rcases RZ.1 I with I | I
  ·rw [R_.1 I]
  ·exact (J.k x I).2
 ·rw [hl,Sc]
  refine up_add h Y (λx I=>?_);rcases RZ.1 I with I | I
  ·rw [R_.1 I]
  ·exact (J.k x I).2
theorem Om {r:Rm} (hi:Inv r) (h:AZ r.log.eV):EX r.log.eV:=⟨by have:=hi.lc; omega,λe he=>HR (hi.lk e he),h⟩
theorem HG {r:Rm} (h:Inv r):fX r.log=some r.log.eV:=by
 have I:=h.lc;rw [<- Gd.eq];unfold fX;exact Gd.nd (by omega) (Gd.ret rfl)
theorem MI {r:Rm} (h:Inv r):oN r=some r.log.eV:=by
 rw [<- Gd.eq];unfold oN;exact Gd.bind_eq (HG h) (Gd.ret rfl)
theorem Mo {r:Rm} (h:Inv r):eU r.log=some (Fu BD r.log.eV)/\kM r=some (Fu BD r.log.eV):=by
 have I:eU r.log=some (Fu BD r.log.eV):=Ec (l:=r.log.eV) (λe he=>HR (h.lk e he));refine ⟨I,?_⟩;rw [<- Gd.eq];unfold kM;exact Gd.bind_eq I (Gd.ret rfl)
theorem LU (l:List RI):eY l l=some true:=by
 rw [<- Gd.eq];unfold eY;refine Gd.ite (λh=>by simp at h) (λ_=>?_)
 refine Gd.kz (Q:=λx=>x=true) (λm i (_:Unit)=>i+m=l.length) ?_ (λ_ _ _=>Gd.ret rfl) ((l.length:Int)).toNat 0 () (by omega)
 intro m i _ J hi I;unfold lq;exact Gd.gA (by omega) (Gd.gA (by omega) (Gd.ite (λh=>by simp at h) (λ_=>I () (by omega))))
theorem M8 {a:List Ev} (h:EX a) (hn:a.length<=250):mL (ba (pW BD a))=some (some ⟨a⟩,((pW BD a).length:Int),0):=by
 have hl:=AV a BD h.ok;obtain ⟨r,I,l1,_,rfl,_,J⟩:=Hg (s:=ba (pW BD a)) (rest:=[]) (by rw [dA]; omega) h (by rw [q7]; simp)
 have:=J (by simp)
 subst this;rw [Ss] at I;exact I
theorem CV {α:Type}{l:List α}{k:Nat}{x:α} (h:x ∈ tG l 0 k):x ∈ l:=by
 unfold tG at h;exact Uv (by simpa using h)
theorem zt:jS=some true:=by kernel_rfl
theorem Mn {s:cK} (I:E6 s):Gd (nZ s) E6:=by
 unfold nZ;exact Gd.nd (by omega) (Gd.nd (by omega) (Gd.ret ⟨⟨I.n.nd,I.n.sw,I.n.br,λx J=>I.n.gn x (CV J),λx J=>I.n.ld x (CV J),I.n.st⟩,I.r⟩))
theorem BJ (s:cK) (hz:E6 s) (l:List Ev) (hl:∀ e ∈ l,DP e):iZ s l=some true:=by
 rw [<- Gd.eq];unfold iZ;obtain ⟨s',hs',hz'⟩:=Mn hz;obtain ⟨q,hq,hc⟩:=ON hz';refine Gd.bind_eq hs' (Gd.bind_eq hq ?_);rcases hc with ⟨e,he,rfl,Y⟩ | ⟨r0,rfl,hi0,hn0⟩
 ·exact Gd.opt (λ_=>Gd.bind_eq zt (Gd.bind_eq zt (Gd.ite (λ_=>Gd.bind_eq Y (Gd.ret (by simp))) (λk=>by simp at k)))) (λ_ h=>by simp at h)
 refine Gd.opt (λh=>by simp at h) (λr' hr'=>?_)
 obtain rfl:=RQ hr';refine Gd.bind_eq zt (Gd.ite (λk=>by simp at k) (λ_=>Gd.nd (by omega) ?_))
 refine Gd.dE (λ_ ys r=>(∀ y ∈ ys,DP y)/\Inv r/\AZ r.log.eV/\Gr r0 (r.log.eV.filter CN) r) (λi y ys r nx J hn=>?_) (λi r J=>?_) _ _ _ ⟨λy hy=>hl y (CV hy),hi0,by rw [hn0.lo]; exact List.Pairwise.nil,by rw [hn0.lo]; rfl⟩
 ·obtain ⟨hys,hi,hu,hp⟩:=J
  unfold nW;obtain ⟨⟨f,r2⟩,hst,hd⟩:=Ni hi (hys y (RR ..));refine Gd.bind_eq hst (hn _ ⟨λz hz=>hys z (RV _ hz),hd.1,?_⟩)
  by_cases h0:f=0
  ·subst h0
   have hdd:=hd.2.2 rfl;refine ⟨NF hi hu hdd,?_⟩;rw [MR hdd];exact hp.add hst
  ·have:=hd.2.1 h0
   simp only at this;subst this;exact ⟨hu,hp⟩
 obtain ⟨_,hi,hu,hp⟩:=J;have hA:=Om hi hu;have hlc:=hi.lc;refine Gd.bind_eq (MI hi) ?_;refine Gd.dE (λ_ ys a=>∃ pre,r.log.eV=pre++ys/\a=pre) (λi y ys a nx J hn=>?_) (λi a J=>?_) _ _ _ ⟨[],rfl,rfl⟩
 ·obtain ⟨pre,I,rfl⟩:=J
  have hmem:∀ x ∈ a,x.Time<=y.Time:=by
   have:=hu;unfold AZ at this;rw [I,W7] at this;exact λx hx=>this.2.2 x hx y (RR ..)
  have Y:cL y=some 0:=hi.lk y (by rw [I]; simp)
  have hlen:a.length<300:=by
   have:=R7 List.length I;rw [R5,RW] at this;omega
  obtain ⟨k,hk⟩:=append_eq hlen hmem Y;unfold nX;exact Gd.bind_eq hk (Gd.ite (λh=>by simp at h) (λ_=>hn _ ⟨a++[y],by simp [I],rfl⟩))
 obtain ⟨pre,I,rfl⟩:=J;rw [Ss] at I;rw [<- I];have htx:=Nk hA.ok hA.len;obtain ⟨hd1,Z⟩:=Mo hi;refine Gd.bind_eq htx (Gd.bind_eq (M8 hA hlc) (Gd.opt (λh=>by simp at h) (λsp hsp=>?_)))
 obtain rfl:=RQ hsp;refine Gd.ite (λ_=>Gd.bind_eq htx (Gd.ite (λ_=>Gd.bind_eq hd1 (Gd.bind_eq Z (Gd.ite (λk=>by simp at k) (λ_=>Gd.bind_eq hq (Gd.opt (λh=>by simp at h) (λq0 hq0=>?_)))))) (λk=>by rw [dA] at k; simp at k))) (λk=>by simp at k)
 obtain rfl:=RQ hq0;refine Gd.ite (λk=>by simp at k) (λ_=>Gd.bind_eq (HG hi) ?_)
 refine Gd.dE (λ_ ys x=>Gr x (ys.filter CN) r) (λi y ys x nx J hn=>?_) (λi x J=>?_) _ _ _ hp
 ·unfold nY
  refine Gd.ite (λk=>hn _ ?_) (λk1=>Gd.ite (λk=>hn _ ?_) (λk2=>?_))
  ·rw [List.filter_cons_of_neg (by unfold CN; have k:y.Kind=xP:=RT k; simp [k])] at J
   exact J
  ·rw [List.filter_cons_of_neg (by unfold CN; have k:y.Kind=uM:=RT k; simp [k])] at J
   exact J
  ·have k1:¬ y.Kind=xP:=R2 k1
   have k2:¬ y.Kind=uM:=R2 k2;rw [List.filter_cons_of_pos (by unfold CN; simp [k1,k2])] at J
   obtain ⟨x1,hx1,J⟩:=J;exact Gd.bind_eq hx1 (Gd.ite (λh=>by simp at h) (λ_=>hn _ J))
 have hxr:x=r:=Eq.symm J;subst hxr;refine Gd.bind_eq Z (Gd.bind_eq Z (Gd.ite (λ_=>Gd.bind_eq (N7 hi) (Gd.bind_eq (N7 hi) (Gd.bind_eq (seq_eq _) (Gd.ite (λ_=>?_) (λk=>by cases k))))) (λk=>by simp at k)))
 refine Gd.bind_eq (Aq hi) (Gd.bind_eq (Aq hi) (Gd.bind_eq (LU _) (Gd.ite (λ_=>?_) (λk=>by cases k))))
 exact Gd.bind_eq (Aq hi) (Gd.bind_eq (Aq hi) (Gd.bind_eq (LU _) (Gd.ret rfl)))
end Go.Sim
