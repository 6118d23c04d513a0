/-
  The proof, part F of TjU.
-/
import Derived.Test.YtpapfdodclhffaaGreatDoorSqF3
import Derived.Test.YtpapfdodclhffaaGreatDoorSqATjU
set_option linter.unusedVariables false
set_option linter.unusedSimpArgs false
set_option linter.unusedSectionVars false
set_option linter.unnecessarySimpa false
namespace Go.Sim
open Go
open _root_.Go.IntKind (i64 u64 u32 u8)
theorem HH {s:aN} (Y:wc s):∃ Z,kC s=some Z/\wc Z:=by
 suffices h:Gd (kC s) wc by
  obtain ⟨r,hr,h⟩:=h;exact ⟨r,hr,h⟩
 have I:∀ {α:Type} (l:List α) (k:Nat) (x:α),x ∈ pM l 0 k->x ∈ l:=λl k x J=>by
  unfold pM at J;exact Uu (by simpa using J)
 unfold kC qG;refine Gd.fH (P:=λn=>pU n) (Gd.nd (by omega) (Gd.nd (by omega) (Gd.ret ⟨Y.n.nd,Y.n.sw,Y.n.br,λx J=>Y.n.gn x (I _ _ x J),λx J=>Y.n.ld x (I _ _ x J),Y.n.st⟩))) (λn hn=>Gd.nd (by omega) (Gd.ret ⟨?_,Y.r⟩))
 exact ⟨hn.nd,hn.sw,hn.br,hn.gn,λx J=>hn.ld x (I _ _ x J),hn.st⟩
theorem Kc {s:aN}{r0:Rm}{K:Nat}{p:Pr} (h:PI s r0 K p) (k:Int):Gd (jC p k) (λq=>PI s r0 K q.2/\Ext p q.2/\q.2.term=p.term):=by
 unfold jC;refine Gd.ite (λ_=>Gd.ret ⟨h,Ext.same rfl (X4 _),rfl⟩) (λJ=>?_);have h2:0<=k/\k<(p.fM.length:Int):=by simpa using J
 obtain ⟨i,rfl⟩:∃ i:Nat,k=(i:Int):=⟨k.toNat,by omega⟩
 have hi:i<p.fM.length:=by omega
 refine Gd.iT hi (Gd.fH (Cz h (l:=[p.fM[i]]) (by simp) (λm O=>?_)) (λq Y=>Gd.ret ?_))
 ·rw [Sy] at O
  subst O;exact h.wm _ (Sz hi)
 ·rcases Y with ⟨rfl,_⟩ | ⟨_,rfl,I⟩
  ·exact ⟨h,Ext.same rfl (X4 _),rfl⟩
  ·exact ⟨I,Ext.same rfl (X4 _),rfl⟩
def L9 {R:Type} (l:List Ev) (p:Pr) (k:Nat) (r n:Int) (c:Bool) (f:Pr->Option R):Option R:=
 if c then (if decide (0<(l.length:Int)) then (cZ ((l.length:Int)≠0) (idx l (Int.tmod (k:Int) (l.length:Int)) λy=>(gF p y).bind λr=>f r.2.2)) else f p)
 else (if decide ((Int.tmod r 10)=3) then ((hO p n).bind λr=>f r.2) else (if decide ((Int.tmod r 10)=4) then ((jC p n).bind λr=>f r.2) else (if decide ((Int.tmod r 10)=5) then ((gE p).bind λr=>f r.2)
  else (if decide ((Int.tmod r 10)=6) then (if decide (r<30) then ((fZ p).bind λr=>f r.2) else f p) else ((fC p n).bind λr=>f r.2)))))
def QH {R:Type} (l:List Ev) (p:Pr) (k:Nat) (r n:Int) (f:Pr->Option R):Option R:=
 if decide ((Int.tmod r 10)=0) then L9 l p k r n (decide ((Int.tmod r 10)=0)) f else (if decide ((Int.tmod r 10)=1) then L9 l p k r n (decide ((Int.tmod r 10)=1)) f else L9 l p k r n (decide ((Int.tmod r 10)=2)) f)
def P9 {R:Type} (l:List Ev) (p:Pr) (k:Nat) (y:Int) (f:Pr->Option R):Option R:=
 (jI y 0 79).bind λr=>(fV p).bind λw=>if decide (0<(w.length:Int)) then (cZ ((w.length:Int)≠0) (QH l p k r (Int.tmod (i64.wrap (Int.tdiv r 10)) (w.length:Int)) f)) else (QH l p k r (i64.wrap (Int.tdiv r 10)) f)
theorem CD {p:Pr} (h:p.fM.length<=40):fV p=some p.fM:=by
 rw [<- Gd.eq];unfold fV;exact Gd.nd (by omega) (Gd.ret rfl)
section
variable {R:Type}{Q:R->Prop}{s:aN}{r0:Rm}{K:Nat}{p:Pr}{f:Pr->Option R}
theorem FA (hn:nk s=some (some r0,0)) (hi:Inv r0) (h:PI s r0 K p) (Z:K<=1000) {l:List Ev} (hl:∀ e ∈ l,xv e) (k:Nat) (r n:Int) (c:Bool) (J:∀ p',PI s r0 (K+1) p'->Ext p p'->Gd (f p') Q):Gd (L9 l p k r n c f) Q:=by
 have same:Gd (f p) Q:=J p (h.mono (by omega)) (Ext.same rfl (X4 _))
 unfold L9;refine Gd.ite (λ_=>Gd.ite (λY=>I8 hl k Y (λe he=>Gd.fH (EL h he) (λq I=>J _ I.1 I.2.1))) (λ_=>same)) (λ_=>?_);refine Gd.ite (λ_=>Gd.fH (Fb h n) (λq I=>J _ (I.1.mono (by omega)) I.2.1)) (λ_=>?_)
 refine Gd.ite (λ_=>Gd.fH (Kc h n) (λq I=>J _ (I.1.mono (by omega)) I.2.1)) (λ_=>?_)
 refine Gd.ite (λ_=>Gd.fH (BK h) (λq I=>J _ (I.1.mono (by omega)) I.2.1)) (λ_=>?_)
 refine Gd.ite (λ_=>Gd.ite (λ_=>Gd.fH (B0 hn hi h Z) (λq I=>J _ I.1 I.2.1)) (λ_=>same)) (λ_=>?_);exact Gd.fH (Am h n) (λq I=>J _ (I.1.mono (by omega)) I.2.1)
theorem HZ (hn:nk s=some (some r0,0)) (hi:Inv r0) (h:PI s r0 K p) (I:K<=1000) {l:List Ev} (hl:∀ e ∈ l,xv e) (k:Nat) (y:Int) (J:∀ p',PI s r0 (K+1) p'->Ext p p'->Gd (f p') Q):Gd (P9 l p k y f) Q:=by
 have key:∀ r n,Gd (QH l p k r n f) Q:=λr n=>by
  unfold QH;exact Gd.ite (λ_=>FA hn hi h I hl k r n _ J) (λ_=>Gd.ite (λ_=>FA hn hi h I hl k r n _ J) (λ_=>FA hn hi h I hl k r n _ J))
 have Z:=h.wl;unfold P9;refine Gd.fH (Oy y 79 (by omega) (by omega)) (λr _=>Gd.bind_eq (CD Z) (Gd.ite (λY=>Gd.nd ?_ (key _ _)) (λ_=>key _ _)))
 have:=R7 Y;omega
end
theorem zE {α:Type}{l:List α}{k:Nat}:pM l 0 k=l.take k:=by unfold pM; simp
theorem JQ (a b:List Ev):Gd (eU a b) (λr=>r=true↔a=b):=by
 unfold eU;refine Gd.ite (λh=>Gd.ret ⟨λh=>by simp at h,λe=>?_⟩) (λh=>?_)
 ·subst e; simp at h
 have Z:a.length=b.length:=by simp at h; omega
 refine Gd.lH (λm i _=>i+m=a.length/\a.take i=b.take i) ?_ ?_ _ 0 () ⟨by simp,by simp⟩
 ·intro m i _ nx ⟨hi,I⟩ hnx
  unfold lC;have J:i<a.length:=by omega
  have Y:i<b.length:=by omega
  refine Gd.iT J (Gd.iT Y (Gd.ite (λh=>Gd.ret ⟨λh=>by simp at h,λe=>?_⟩) (λh=>hnx () ⟨by omega,?_⟩)))
  ·subst e; simp at h
  ·have he:a[i]=b[i]:=by
    cases hx:a[i] with
    | mk t1 k1 n1 v1=>cases hy:b[i] with
     | mk t2 k2 n2 v2=>rw [hx,hy] at h; simp at h; simp [h]
   rw [Su J,Su Y,I,he]
 ·rintro i _ ⟨hi,I⟩
  rw [Sh (by omega),Sh (by omega)] at I
  exact Gd.ret ⟨λ_=>I,λ_=>rfl⟩
theorem BW {a b:List Ev} (h:a=b):eU a b=some true:=by
 obtain ⟨r,J,I⟩:=JQ a b;rw [J,I.2 h]
theorem pT:c_=some true:=by kernel_rfl
theorem LK (l:List Ev) (k:Nat) (y:Int) (p:Pr) (I:List Ev) (J:Pr×List Ev->Option (Bool×Pr×List Ev)):
  fY l k y p I J=P9 l p k y (λq=>bF I J q):=rfl
def KE (p:Pr) (I:List Ev):Prop:=(I.length:Int)<=p.mT/\I <+: p.events.a0.take p.mT.toNat
theorem O0 {s:aN}{r0:Rm}{K:Nat}{p p':Pr}{I:List Ev} (h:PI s r0 K p') (hx:Ext p p') (Z:KE p I):∃ J,jA p' I=some (true,J)/\KE p' J:=by
 have Y:=h.l0;have hb:=h.bl;have hd:=h.dl;have hpl:=h.pre.length_le;have h1:(I.length:Int)<=p'.mT:=Int.le_trans Z.1 hx.1;have hp:I <+: p'.events.a0:=Z.2.trans hx.2;refine ⟨p'.events.a0.take p'.mT.toNat,?_,?_,X4 _⟩
 ·rw [<- Gd.eq]
  unfold jA;refine Gd.bind_eq (vY Y) ?_;refine Gd.ite (λk=>?_) (λ_=>Gd.ite (λk=>?_) (λ_=>Gd.ite (λk=>?_) (λ_=>Gd.ite (λk=>?_) (λ_=>?_))))
  ·have:=R7 k; unfold aZ at this; omega
  ·have:=R7 k; unfold aZ at this; omega
  ·have:=R7 k; unfold aZ eE at this; omega
  ·have:=R7 k; unfold cG at this; omega
  have hle:=hp.length_le;have he:pM p'.events.a0 0 ((I.length:Int):Int).toNat=I:=by
   rw [zE];exact (List.prefix_iff_eq_take.1 hp).symm
  refine Gd.nd (by omega) (Gd.bind_eq (BW he) (Gd.ite (λk=>by simp at k) (λ_=>Gd.nd ?_ (Gd.nd ?_ (Gd.ret ?_)))))
  ·unfold aZ; omega
  ·rw [yg]; omega
  ·rw [zE]; rfl
 ·rw [Ss]; omega
theorem Bk (s:aN) (hz:wc s) (l:List Ev) (hl:∀ e ∈ l,xv e) (calls:List Int):iD s l calls=some true:=by
 rw [<- Gd.eq];unfold iD;obtain ⟨s',hs',hz'⟩:=HH hz;refine Gd.bind_eq hs' (Gd.fH (Cw hz') (λq hq=>?_));rcases hq with ⟨e,he,rfl,_⟩ | ⟨r0,p,rfl,J⟩
 ·exact Gd.opt (λ_=>Gd.bind_eq pT (Gd.ret rfl)) (λ_ h=>by simp at h)
 refine Gd.opt (λh=>by simp at h) (λp' hp'=>?_)
 obtain rfl:=RX hp';refine Gd.ite (λk=>by simp at k) (λ_=>Gd.bind_eq pT (Gd.ite (λ_=>Gd.fH (P:=λq=>q.1=true) ?_ (λq hq=>Gd.ret hq)) (λk=>by cases k)))
 unfold fF;refine Gd.nd (by omega) (Gd.eL (Q:=λ(q:Bool×Pr×List Ev)=>q.1=true) (λi ys (v:Pr×List Ev)=>i+ys.length<=20/\PI s' r0 (i+1) v.1/\KE v.1 v.2) (λi y ys v nx hI hn=>?_) (λ_ _ _=>Gd.ret rfl) _ _ _ ⟨?_,J.q,?_⟩)
 ·obtain ⟨hi,hP,hk⟩:=hI
  rw [R_] at hi;rw [LK];refine HZ J.n J.i hP (by omega) hl i y (λp' I hx=>?_)
  unfold bF;obtain ⟨kn',Z,Y⟩:=O0 I hx hk;exact Gd.bind_eq Z (Gd.ite (λk=>by simp at k) (λ_=>hn _ ⟨by omega,I,Y⟩))
 ·rw [yg]; omega
 ·have:=J.q.bl; have:=J.q.dl
  exact ⟨by simp only [XY]; omega,List.nil_prefix⟩
end Go.Sim
