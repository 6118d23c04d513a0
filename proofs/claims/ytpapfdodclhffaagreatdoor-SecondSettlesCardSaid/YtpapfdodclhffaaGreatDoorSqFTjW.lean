/-
  The proof, part F of TjW.
-/
import Derived.Test.YtpapfdodclhffaaGreatDoorSqF3
import Derived.Test.YtpapfdodclhffaaGreatDoorSqATjW
set_option linter.unusedVariables false
set_option linter.unusedSimpArgs false
set_option linter.unusedSectionVars false
set_option linter.unnecessarySimpa false
namespace Go.Sim
abbrev XJ := @Go.Lib.decDigits_length
abbrev XW := @List.length_eq_zero_iff
end Go.Sim
namespace Go.Sim
open Go
open _root_.Go.IntKind (i64 u64 u32 u8)
theorem HH {s:aN} (Y:wc s):∃ Z,kC s=some Z/\wc Z:=by
 suffices h:Gd (kC s) wc by
  obtain ⟨r,hr,h⟩:=h;exact ⟨r,hr,h⟩
 have I:∀ {α:Type} (l:List α) (k:Nat) (x:α),x ∈ pM l 0 k->x ∈ l:=λl k x J=>by
  unfold pM at J;exact Uu (by simpa using J)
 unfold kC qG;refine Gd.fH (P:=λn=>pU n) (Gd.nd (by omega) (Gd.nd (by omega) (Gd.ret ⟨Y.n.nd,Y.n.sw,Y.n.br,λx J=>Y.n.gn x (I _ _ x J),λx J=>Y.n.ld x (I _ _ x J),Y.n.st⟩))) (λn hn=>Gd.nd (by omega) (Gd.ret ⟨?_,Y.r⟩))
 exact ⟨hn.nd,hn.sw,hn.br,hn.gn,λx J=>hn.ld x (I _ _ x J),hn.st⟩
theorem J0 {s:BA} (h:iL s=some true):s.size<=8:=by
 by_cases hs:s.size<=maxLen
 ·have key:Gd (iL s) (λb=>b=true->s.size<=8):=by
   unfold iL;refine Gd.nd hs (Gd.eL (λ_ _ _=>True) (λi y ys s Y _ hn=>?_) (λ_ _ _=>Gd.ret (λk=>?_)) _ _ _ RW)
   ·unfold rT
    exact Gd.ite (λ_=>Gd.ret (λk=>by cases k)) (λ_=>hn _ RW)
   ·simp at k; omega
  obtain ⟨b,I,J⟩:=key;rw [h] at I;cases I;exact J rfl
 ·unfold iL cZ at h
  rw [R8 hs] at h;cases h
theorem J2 {s:BA} (h:bX s=some true):s.size<=8:=by
 by_cases hs:s.size<=maxLen
 ·have key:Gd (bX s) (λb=>b=true->s.size<=8):=by
   unfold bX;refine Gd.nd hs (Gd.eL (λ_ _ _=>True) (λi y ys s Y _ hn=>?_) (λ_ _ _=>Gd.ret (λk=>?_)) _ _ _ RW)
   ·unfold py
    exact Gd.ite (λ_=>Gd.ret (λk=>by cases k)) (λ_=>hn _ RW)
   ·simp at k; omega
  obtain ⟨b,I,J⟩:=key;rw [h] at I;cases I;exact J rfl
 ·unfold bX cZ at h
  rw [R8 hs] at h;cases h
theorem PV {e:Ev} (h:eP e=some 0):Q8 e:=by
 unfold eP at h
 split at h
 ·simp at h
 rename_i ht
 cases I:iL e.Kind with
 | none=>rw [I] at h; cases h
 | some b=>
  rw [I] at h;cases b with
  | false=>simp at h
  | true=>
   cases hn:bX e.Name with
   | none=>rw [hn] at h; simp at h
   | some c=>
    rw [hn] at h;cases c with
    | false=>simp at h
    | true=>
     simp at h ht;exact ⟨by omega,by omega,J0 I,J2 hn⟩
theorem Em (u:Nat) (h:u<10 ^ 20):(Lib.decDigits u).length<=20:=by
 rw [XJ];have key:∀ (k u:Nat),u<10 ^ (k+1)->Lib.nDigits u<=k+1:=by
  intro k
  induction k with
  | zero=>intro u h; rw [Lib.nDigits_small (by simpa using h)]; omega
  | succ k ih=>
   intro u h
   by_cases I:u<10
   ·rw [Lib.nDigits_small I]; omega
   ·rw [Lib.nDigits_big I]
    have:=ih (u / 10) (by rw [Yo] at h; omega)
    omega
 exact key 19 u h
theorem Dj {n:Int} (h:-9223372036854775808<=n/\n<=9223372036854775807):(ny n).size<=21:=by
 show (Lib.itoa n).toArray.size<=21;rw [UF];unfold Lib.itoa
 split
 ·have:=Em n.natAbs (by omega); simp; omega
 ·have:=Em n.toNat (by omega); omega
theorem Ns {e:Ev} (h:Q8 e):Gd (si e) (λs=>s.size<=1000):=by
 have h1:=Dj (n:=e.Time) (by have:=h.t; omega)
 have h2:=Dj (n:=e.Value) (by have:=h.v; omega)
 have I:(⟨#[32]⟩:RU).size=1:=rfl;have Y:=h.k; have Z:=h.n; have ht:=h.t; have J:=h.v
 unfold si;refine Gd.nd (by omega) (Gd.nd ?_ (Gd.nd ?_ (Gd.nd ?_ (Gd.nd ?_ (Gd.nd ?_ (Gd.nd (by omega) (Gd.nd ?_ (Gd.ret ?_))))))))
 all_goals simp only [DV,I,maxLen]; omega
theorem HB (n:Int) (s:BA) (h:s.size<=1000):Gd (qL n s) (λ_=>True):=by
 have z:(⟨#[10]⟩:RU).size=1:=rfl;unfold qL;refine Gd.nd (by rw [z]; simp only [maxLen]; omega) (Gd.nd (by rw [DV,z]; simp only [maxLen]; omega) (Gd.eL (λ_ _ _=>True) (λi y ys s I _ hn=>hn _ RW) (λ_ _ _=>Gd.ret RW) _ _ _ RW))
theorem Gr {r:Rm} (h:Inv r):∃ d,jL r=some d:=by
 suffices h:Gd (jL r) (λ_=>True) by
  obtain ⟨d,J,_⟩:=h;exact ⟨d,J⟩
 unfold jL nB;refine Gd.fH (P:=λ_=>True) (Gd.eL (λ_ (ys:List Ev) _=>∀ y ∈ ys,eP y=some 0) (λi y ys s Z I hn=>?_) (λ_ _ _=>Gd.ret RW) _ _ _ h.lk) (λ_ _=>Gd.ret RW);unfold oM;refine Gd.fH (Ns (PV (I y (R6 ..)))) (λs hs=>Gd.fH (HB _ s hs) (λd _=>hn _ (λz Y=>I z (Sa _ Y))))
theorem Kc {s:aN}{r0:Rm}{K:Nat}{p:Pr} (h:PI s r0 K p) (k:Int):Gd (jC p k) (λq=>PI s r0 K q.2/\Ext p q.2/\q.2.term=p.term):=by
 unfold jC;refine Gd.ite (λ_=>Gd.ret ⟨h,Ext.same rfl (X4 _),rfl⟩) (λJ=>?_);have h2:0<=k/\k<(p.fM.length:Int):=by simpa using J
 obtain ⟨i,rfl⟩:∃ i:Nat,k=(i:Int):=⟨k.toNat,by omega⟩
 have hi:i<p.fM.length:=by omega
 refine Gd.iT hi (Gd.fH (Cz h (l:=[p.fM[i]]) (by simp) (λm O=>?_)) (λq Y=>Gd.ret ?_))
 ·rw [Sy] at O
  subst O;exact h.wm _ (Sz hi)
 ·rcases Y with ⟨rfl,_⟩ | ⟨_,rfl,I⟩
  ·exact ⟨h,Ext.same rfl (X4 _),rfl⟩
  ·exact ⟨I,Ext.same rfl (X4 _),rfl⟩
def L9 {R:Type} (l:List Ev) (p:Pr) (k:Nat) (r n:Int) (c:Bool) (f:Pr->Option R):Option R:=
 if c then (if decide (0<(l.length:Int)) then (cZ ((l.length:Int)≠0) (idx l (Int.tmod (k:Int) (l.length:Int)) λy=>(gF p y).bind λr=>f r.2.2)) else f p)
 else (if decide ((Int.tmod r 10)=3) then ((hO p n).bind λr=>f r.2) else (if decide ((Int.tmod r 10)=4) then ((jC p n).bind λr=>f r.2) else (if decide ((Int.tmod r 10)=5) then ((gE p).bind λr=>f r.2)
  else (if decide ((Int.tmod r 10)=6) then (if decide (r<30) then ((fZ p).bind λr=>f r.2) else f p) else ((fC p n).bind λr=>f r.2)))))
def QH {R:Type} (l:List Ev) (p:Pr) (k:Nat) (r n:Int) (f:Pr->Option R):Option R:=
 if decide ((Int.tmod r 10)=0) then L9 l p k r n (decide ((Int.tmod r 10)=0)) f else (if decide ((Int.tmod r 10)=1) then L9 l p k r n (decide ((Int.tmod r 10)=1)) f else L9 l p k r n (decide ((Int.tmod r 10)=2)) f)
def P9 {R:Type} (l:List Ev) (p:Pr) (k:Nat) (y:Int) (f:Pr->Option R):Option R:=
 (jI y 0 79).bind λr=>(fV p).bind λw=>if decide (0<(w.length:Int)) then (cZ ((w.length:Int)≠0) (QH l p k r (Int.tmod (i64.wrap (Int.tdiv r 10)) (w.length:Int)) f)) else (QH l p k r (i64.wrap (Int.tdiv r 10)) f)
theorem CD {p:Pr} (h:p.fM.length<=40):fV p=some p.fM:=by
 rw [<- Gd.eq];unfold fV;exact Gd.nd (by omega) (Gd.ret rfl)
section
variable {R:Type}{Q:R->Prop}{s:aN}{r0:Rm}{K:Nat}{p:Pr}{f:Pr->Option R}
theorem FA (hn:nk s=some (some r0,0)) (hi:Inv r0) (h:PI s r0 K p) (Z:K<=1000) {l:List Ev} (hl:∀ e ∈ l,xv e) (k:Nat) (r n:Int) (c:Bool) (J:∀ p',PI s r0 (K+1) p'->Ext p p'->Gd (f p') Q):Gd (L9 l p k r n c f) Q:=by
 have same:Gd (f p) Q:=J p (h.mono (by omega)) (Ext.same rfl (X4 _))
 unfold L9;refine Gd.ite (λ_=>Gd.ite (λY=>I8 hl k Y (λe he=>Gd.fH (EL h he) (λq I=>J _ I.1 I.2.1))) (λ_=>same)) (λ_=>?_);refine Gd.ite (λ_=>Gd.fH (Fb h n) (λq I=>J _ (I.1.mono (by omega)) I.2.1)) (λ_=>?_)
 refine Gd.ite (λ_=>Gd.fH (Kc h n) (λq I=>J _ (I.1.mono (by omega)) I.2.1)) (λ_=>?_)
 refine Gd.ite (λ_=>Gd.fH (BK h) (λq I=>J _ (I.1.mono (by omega)) I.2.1)) (λ_=>?_)
 refine Gd.ite (λ_=>Gd.ite (λ_=>Gd.fH (B0 hn hi h Z) (λq I=>J _ I.1 I.2.1)) (λ_=>same)) (λ_=>?_);exact Gd.fH (Am h n) (λq I=>J _ (I.1.mono (by omega)) I.2.1)
theorem HZ (hn:nk s=some (some r0,0)) (hi:Inv r0) (h:PI s r0 K p) (I:K<=1000) {l:List Ev} (hl:∀ e ∈ l,xv e) (k:Nat) (y:Int) (J:∀ p',PI s r0 (K+1) p'->Ext p p'->Gd (f p') Q):Gd (P9 l p k y f) Q:=by
 have key:∀ r n,Gd (QH l p k r n f) Q:=λr n=>by
  unfold QH;exact Gd.ite (λ_=>FA hn hi h I hl k r n _ J) (λ_=>Gd.ite (λ_=>FA hn hi h I hl k r n _ J) (λ_=>FA hn hi h I hl k r n _ J))
 have Z:=h.wl;unfold P9;refine Gd.fH (Oy y 79 (by omega) (by omega)) (λr _=>Gd.bind_eq (CD Z) (Gd.ite (λY=>Gd.nd ?_ (key _ _)) (λ_=>key _ _)))
 have:=R7 Y;omega
end
theorem Fa {s:aN}{r0:Rm}{K:Nat}{p:Pr} (h:PI s r0 K p):∃ a b,gP p=some (a,b)/\jL p.kQ.a0=some a/\(p.events.a0.length<=p.events.a1.length->a=b):=by
 obtain ⟨a,I⟩:=Gr h.i0;obtain ⟨b,J⟩:=Gr h.i1;refine ⟨a,b,?_,I,λhl=>?_⟩
 ·rw [<- Gd.eq]
  unfold gP;exact Gd.bind_eq I (Gd.bind_eq J (Gd.ret rfl))
 ·have he:p.events.a1=p.events.a0:=h.pre.eq_of_length_le hl
  have Y:=h.p1;rw [he] at Y;rw [<- h.p0.rE Y,I] at J;exact RX J
theorem pT:c_=some true:=by kernel_rfl
theorem Ii (l:List Ev) (k:Nat) (y:Int) (p:Pr) (I:Pr->Option (Bool×Pr)):
  fT l k y p I=P9 l p k y (λq=>bB I q):=rfl
theorem Ms {s:aN}{r0:Rm}{K:Nat}{p p':Pr}{j:Nat}{L A w:List Iv}{m:Iv} (hP':PI s r0 K p') (Y:PN p j L A) (hw:p.fM=m::w) (hd:OE p m w p'):
  ∃ j' L' A',PN p' j' L' A'/\2*L'.length+A'.length+1=2*L.length+A.length:=by
 have hpl:=hP'.pre.length_le;have hdl:=hP'.dl;have Z:=Y.w;rw [hw] at Z;cases L with
 | cons m0 L=>
  rw [Ur] at Z;obtain ⟨rfl,rfl⟩:=XN Z;obtain ⟨h1,h2,h3,h4⟩:=Y.m.2 0 m rfl;have J:=Y.m.1;rw [R_] at J;rw [Tt] at h2;cases hd with
  | vf h _=>omega
  | QD _ a _=>rw [h3] at a; cases a
  | msg _ _ l1 r1 z g1 g2 e=>
   subst e;simp only at hpl hdl;have hc:=Y.c;have hl1:j+1<=l1.length:=by
    by_cases hk:m.Number=(p.events.a1.length:Int)+1
    ·rw [g1 hk,Sg]; simp only [R_,XY]; omega
    ·rw [g2 hk]; omega
   refine ⟨j+1,L,A++[⟨p.term,(l1.length:Int),true,z⟩],⟨by simp only [Sr],⟨by simp only; omega,λi x I=>?_⟩,λx I=>?_,hl1,λhj=>.inl ⟨⟨p.term,(l1.length:Int),true,z⟩,by simp,?_⟩⟩,?_⟩
   ·obtain ⟨a,b,c,d⟩:=Y.m.2 (i+1) x (by simpa using I)
    have hij:j+1+i=j+(i+1):=by omega
    rw [hij];exact ⟨a,b,c,d⟩
   ·rcases Sf.1 I with I | I
    ·exact Y.a x I
    ·rw [Sy.1 I]; exact ⟨rfl,rfl⟩
   ·simp only at hj ⊢; omega
   ·simp only [Sg,R_,XY]; omega
 | nil=>
  rw [TG] at Z;subst Z;have J:=Y.m.1;simp only [XY,Sp] at J;obtain ⟨ht,ha⟩:=Y.a m (R6 ..);cases hd with
  | vf h _=>omega
  | msg _ a=>rw [ha] at a; cases a
  | QD _ _ e=>
   subst e;simp only at hpl hdl;refine ⟨j,[],w,⟨rfl,⟨by simpa using J,λi x I=>by simp at I⟩,λx I=>Y.a x (Sa _ I),Y.c,λhj=>?_⟩,by simp only [R_,XY]; omega⟩
   rcases Y.e hj with ⟨x,I,hn⟩ | hn
   ·rcases SQ.1 I with rfl | I
    ·right; simp only; omega
    ·exact .inl ⟨x,I,hn⟩
   ·right; simp only; omega
theorem G1 {s:aN}{r0:Rm}{K:Nat}{p:Pr} (hP:PI s r0 K p) {j:Nat} (hS:PN p j [] []):
  Gd ((gP p).bind λY=>(fR p).bind λI=>(c_).bind λr314=>if r314 then ((fV p).bind λr317=>if decide ((r317.length:Int)=0) then (if decide (Y.1=Y.2) then (if decide ((cG p)=(I.length:Int)) then (if decide ((eE p)=(I.length:Int)) then (some (decide ((aZ p)=(I.length:Int)))) else (some false)) else (some false)) else (some false)) else (some false)) else (some false)) (λx=>x=true):=by
 have J:=hS.m.1;simp only [XY,Sp] at J;have hc:=hS.c;have hpl:=hP.pre.length_le;have hw:p.fM=[]:=hS.w;have hdn:p.done=(p.events.a0.length:Int):=by
  rcases hS.e J with ⟨x,hx,_⟩ | h
  ·cases hx
  ·exact h
 have hb:=hP.bl;obtain ⟨a,b,hd,_,Z⟩:=Fa hP;have Z:=Z (by omega)
 refine Gd.bind_eq hd (Gd.bind_eq (vY hP.l0) (Gd.bind_eq pT (Gd.ite (λ_=>Gd.bind_eq (CD hP.wl) ?_) (λk=>by cases k))))
 refine Gd.ite (λ_=>Gd.ite (λ_=>Gd.ite (λ_=>Gd.ite (λ_=>Gd.ret ?_) (λk=>?_)) (λk=>?_)) (λk=>?_)) (λk=>?_)
 ·unfold aZ; simp only [SO]; omega
 ·have:=Sc k; unfold eE at this; omega
 ·have:=Sc k; unfold cG at this; omega
 ·exact absurd Z (Sc k)
 ·rw [hw] at k; simp at k
theorem FM {s:aN}{r0:Rm}{p:Pr} (Y:Od s r0 p) {l:List Ev} (hl:∀ e ∈ l,xv e) {calls:List Int} (Z:calls.length<=12):
  Gd (dV p l calls) (λq=>PI s r0 13 q.2):=by
 unfold dV;refine Gd.nd (by omega) (Gd.eL (Q:=λ(q:Bool×Pr)=>PI s r0 13 q.2) (λi ys (v:Pr)=>i+ys.length<=12/\PI s r0 (i+1) v) (λi y ys v nx I hn=>?_) (λi v I=>Gd.ret (I.2.mono (K':=13) (by have:=I.1; omega))) _ _ _ ⟨?_,Y.q⟩)
 rotate_left
 ·rw [yg]; omega
 obtain ⟨hi,hP⟩:=I;rw [R_] at hi;rw [Ii];refine HZ Y.n Y.i hP (by omega) hl i y (λp' J hx=>?_)
 unfold bB iF;exact Gd.ite (λk=>by simp at k) (λ_=>hn _ ⟨by omega,J⟩)
theorem Ad (s:aN) (hz:wc s) (l:List Ev) (hl:∀ e ∈ l,xv e) (calls:List Int):gR s l calls=some true:=by
 rw [<- Gd.eq];unfold gR;obtain ⟨s',hs',hz'⟩:=HH hz;refine Gd.bind_eq hs' (Gd.fH (Cw hz') (λq hq=>?_));rcases hq with ⟨e,he,rfl,_⟩ | ⟨r0,p,rfl,hf⟩
 ·exact Gd.opt (λ_=>Gd.bind_eq pT (Gd.ret rfl)) (λ_ h=>by simp at h)
 refine Gd.opt (λh=>by simp at h) (λp' hp'=>?_)
 obtain rfl:=RX hp';refine Gd.ite (λk=>by simp at k) (λ_=>Gd.nd (by omega) (Gd.fH (FM hf hl (calls:=pM calls 0 ((min (calls.length:Int) 12:Int).toNat)) (by rw [yg]; omega)) (λq hq=>?_)))
 refine Gd.iV (λv=>PI s' r0 13 v) (λv=>v.fM.length) (λv nx hP hnx=>?_) gO _ hq (by have:=hq.wl; simp only [gO]; omega)
 unfold mq;refine Gd.bind_eq (CD hP.wl) (Gd.ite (λI=>?_) (λI=>?_))
 ·have I:=R7 I
  refine Gd.fH (Fb hP 0) (λr J=>?_);obtain ⟨h1,h2⟩:=J.2.2.2 ⟨T_ _,I⟩;exact Gd.ite (λk=>by simp [h1] at k) (λ_=>hnx _ J.1 (by omega))
 have I:v.fM=[]:=by
  have:=Sc I;exact XW.1 (by omega)
 unfold kM;refine Gd.fH (BK hP) (λr J=>?_);obtain ⟨hP2,_,_,d,L,hd,O,hq2⟩:=J;have hlk:=hP.lk;have hm1:=O.1;have J:=hq2 (by rw [I]; simp only [XY]; omega)
 subst J;refine Gd.ite (λk=>by simp at k) (λ_=>?_)
 have Y:PN { v with fM:=v.fM++L } d L []:=by
  have hdl:=hP.dl;refine ⟨by simp [I],O,by simp,by simp only; omega,λhj=>.inr ?_⟩
  simp only at hj ⊢;omega
 refine Gd.lH (λm _ v=>PI s' r0 13 v/\∃ j L A,PN v j L A/\2*L.length+A.length<=m) (λm i v nx hI hn=>?_) (λi v hI=>?_) (100:Int).toNat 0 _ ⟨hP2,d,L,[],Y,?_⟩
 ·obtain ⟨hP,j,L,A,Y,hle⟩:=hI
  unfold mo;refine Gd.bind_eq (CD hP.wl) (Gd.ite (λI=>?_) (λI=>?_))
  ·have I:=R7 I
   cases Z:v.fM with
   | nil=>rw [Z] at I; simp at I
   | cons m0 w=>
    refine Gd.fH (Am hP 0) (λr J=>?_);obtain ⟨h1,h2⟩:=J.2.2.2 0 rfl m0 (by rw [Z]; rfl)
    rw [Z] at h2;obtain ⟨j',L',A',hS',hl'⟩:=Ms J.1 Y Z (by simpa using h2)
    exact Gd.ite (λk=>by simp [h1] at k) (λ_=>hn _ ⟨J.1,j',L',A',hS',by omega⟩)
  ·have I:v.fM=[]:=by
    have:=Sc I;exact XW.1 (by omega)
   have Z:=Y.w;rw [I] at Z;obtain ⟨rfl,rfl⟩:=List.append_eq_nil_iff.1 Z.symm;exact hn _ ⟨hP,j,[],[],Y,by simp⟩
 ·obtain ⟨hP,j,L,A,Y,hle⟩:=hI
  obtain rfl:L=[]:=XW.1 (by omega)
  obtain rfl:A=[]:=XW.1 (by omega)
  exact G1 hP Y
 ·have:(100:Int).toNat=100:=rfl
  simp only [XY];omega
end Go.Sim
