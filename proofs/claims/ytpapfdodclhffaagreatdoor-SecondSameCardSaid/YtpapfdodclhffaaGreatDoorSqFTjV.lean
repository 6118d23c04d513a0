/-
  The proof, part F of TjV.
-/
import Derived.Test.YtpapfdodclhffaaGreatDoorSqF3
import Derived.Test.YtpapfdodclhffaaGreatDoorSqATjV
set_option linter.unusedVariables false
set_option linter.unusedSimpArgs false
set_option linter.unusedSectionVars false
set_option linter.unnecessarySimpa false
namespace Go.Sim
abbrev XJ := @Go.Lib.decDigits_length
end Go.Sim
namespace Go.Sim
open Go
open _root_.Go.IntKind (i64 u64 u32 u8)
theorem HH {s:aN} (Y:wc s):∃ Z,kC s=some Z/\wc Z:=by
 suffices h:Gd (kC s) wc by
  obtain ⟨r,hr,h⟩:=h;exact ⟨r,hr,h⟩
 have I:∀ {α:Type} (l:List α) (k:Nat) (x:α),x ∈ pM l 0 k->x ∈ l:=λl k x J=>by
  unfold pM at J;exact Uu (by simpa using J)
 unfold kC qG;refine Gd.fH (P:=λn=>pU n) (Gd.nd (by omega) (Gd.nd (by omega) (Gd.ret ⟨Y.n.nd,Y.n.sw,Y.n.br,λx J=>Y.n.gn x (I _ _ x J),λx J=>Y.n.ld x (I _ _ x J),Y.n.st⟩))) (λn hn=>Gd.nd (by omega) (Gd.ret ⟨?_,Y.r⟩))
 exact ⟨hn.nd,hn.sw,hn.br,hn.gn,λx J=>hn.ld x (I _ _ x J),hn.st⟩
theorem J0 {s:BA} (h:iL s=some true):s.size<=8:=by
 by_cases hs:s.size<=maxLen
 ·have key:Gd (iL s) (λb=>b=true->s.size<=8):=by
   unfold iL;refine Gd.nd hs (Gd.eL (λ_ _ _=>True) (λi y ys s Y _ hn=>?_) (λ_ _ _=>Gd.ret (λk=>?_)) _ _ _ RW)
   ·unfold rT
    exact Gd.ite (λ_=>Gd.ret (λk=>by cases k)) (λ_=>hn _ RW)
   ·simp at k; omega
  obtain ⟨b,I,J⟩:=key;rw [h] at I;cases I;exact J rfl
 ·unfold iL cZ at h
  rw [R8 hs] at h;cases h
theorem J2 {s:BA} (h:bX s=some true):s.size<=8:=by
 by_cases hs:s.size<=maxLen
 ·have key:Gd (bX s) (λb=>b=true->s.size<=8):=by
   unfold bX;refine Gd.nd hs (Gd.eL (λ_ _ _=>True) (λi y ys s Y _ hn=>?_) (λ_ _ _=>Gd.ret (λk=>?_)) _ _ _ RW)
   ·unfold py
    exact Gd.ite (λ_=>Gd.ret (λk=>by cases k)) (λ_=>hn _ RW)
   ·simp at k; omega
  obtain ⟨b,I,J⟩:=key;rw [h] at I;cases I;exact J rfl
 ·unfold bX cZ at h
  rw [R8 hs] at h;cases h
theorem PV {e:Ev} (h:eP e=some 0):Q8 e:=by
 unfold eP at h
 split at h
 ·simp at h
 rename_i ht
 cases I:iL e.Kind with
 | none=>rw [I] at h; cases h
 | some b=>
  rw [I] at h;cases b with
  | false=>simp at h
  | true=>
   cases hn:bX e.Name with
   | none=>rw [hn] at h; simp at h
   | some c=>
    rw [hn] at h;cases c with
    | false=>simp at h
    | true=>
     simp at h ht;exact ⟨by omega,by omega,J0 I,J2 hn⟩
theorem Em (u:Nat) (h:u<10 ^ 20):(Lib.decDigits u).length<=20:=by
 rw [XJ];have key:∀ (k u:Nat),u<10 ^ (k+1)->Lib.nDigits u<=k+1:=by
  intro k
  induction k with
  | zero=>intro u h; rw [Lib.nDigits_small (by simpa using h)]; omega
  | succ k ih=>
   intro u h
   by_cases I:u<10
   ·rw [Lib.nDigits_small I]; omega
   ·rw [Lib.nDigits_big I]
    have:=ih (u / 10) (by rw [Yo] at h; omega)
    omega
 exact key 19 u h
theorem Dj {n:Int} (h:-9223372036854775808<=n/\n<=9223372036854775807):(ny n).size<=21:=by
 show (Lib.itoa n).toArray.size<=21;rw [UF];unfold Lib.itoa
 split
 ·have:=Em n.natAbs (by omega); simp; omega
 ·have:=Em n.toNat (by omega); omega
theorem Ns {e:Ev} (h:Q8 e):Gd (si e) (λs=>s.size<=1000):=by
 have h1:=Dj (n:=e.Time) (by have:=h.t; omega)
 have h2:=Dj (n:=e.Value) (by have:=h.v; omega)
 have I:(⟨#[32]⟩:RU).size=1:=rfl;have Y:=h.k; have Z:=h.n; have ht:=h.t; have J:=h.v
 unfold si;refine Gd.nd (by omega) (Gd.nd ?_ (Gd.nd ?_ (Gd.nd ?_ (Gd.nd ?_ (Gd.nd ?_ (Gd.nd (by omega) (Gd.nd ?_ (Gd.ret ?_))))))))
 all_goals simp only [DV,I,maxLen]; omega
theorem HB (n:Int) (s:BA) (h:s.size<=1000):Gd (qL n s) (λ_=>True):=by
 have z:(⟨#[10]⟩:RU).size=1:=rfl;unfold qL;refine Gd.nd (by rw [z]; simp only [maxLen]; omega) (Gd.nd (by rw [DV,z]; simp only [maxLen]; omega) (Gd.eL (λ_ _ _=>True) (λi y ys s I _ hn=>hn _ RW) (λ_ _ _=>Gd.ret RW) _ _ _ RW))
theorem Gr {r:Rm} (h:Inv r):∃ d,jL r=some d:=by
 suffices h:Gd (jL r) (λ_=>True) by
  obtain ⟨d,J,_⟩:=h;exact ⟨d,J⟩
 unfold jL nB;refine Gd.fH (P:=λ_=>True) (Gd.eL (λ_ (ys:List Ev) _=>∀ y ∈ ys,eP y=some 0) (λi y ys s Z I hn=>?_) (λ_ _ _=>Gd.ret RW) _ _ _ h.lk) (λ_ _=>Gd.ret RW);unfold oM;refine Gd.fH (Ns (PV (I y (R6 ..)))) (λs hs=>Gd.fH (HB _ s hs) (λd _=>hn _ (λz Y=>I z (Sa _ Y))))
theorem Kc {s:aN}{r0:Rm}{K:Nat}{p:Pr} (h:PI s r0 K p) (k:Int):Gd (jC p k) (λq=>PI s r0 K q.2/\Ext p q.2/\q.2.term=p.term):=by
 unfold jC;refine Gd.ite (λ_=>Gd.ret ⟨h,Ext.same rfl (X4 _),rfl⟩) (λJ=>?_);have h2:0<=k/\k<(p.fM.length:Int):=by simpa using J
 obtain ⟨i,rfl⟩:∃ i:Nat,k=(i:Int):=⟨k.toNat,by omega⟩
 have hi:i<p.fM.length:=by omega
 refine Gd.iT hi (Gd.fH (Cz h (l:=[p.fM[i]]) (by simp) (λm O=>?_)) (λq Y=>Gd.ret ?_))
 ·rw [Sy] at O
  subst O;exact h.wm _ (Sz hi)
 ·rcases Y with ⟨rfl,_⟩ | ⟨_,rfl,I⟩
  ·exact ⟨h,Ext.same rfl (X4 _),rfl⟩
  ·exact ⟨I,Ext.same rfl (X4 _),rfl⟩
def L9 {R:Type} (l:List Ev) (p:Pr) (k:Nat) (r n:Int) (c:Bool) (f:Pr->Option R):Option R:=
 if c then (if decide (0<(l.length:Int)) then (cZ ((l.length:Int)≠0) (idx l (Int.tmod (k:Int) (l.length:Int)) λy=>(gF p y).bind λr=>f r.2.2)) else f p)
 else (if decide ((Int.tmod r 10)=3) then ((hO p n).bind λr=>f r.2) else (if decide ((Int.tmod r 10)=4) then ((jC p n).bind λr=>f r.2) else (if decide ((Int.tmod r 10)=5) then ((gE p).bind λr=>f r.2)
  else (if decide ((Int.tmod r 10)=6) then (if decide (r<30) then ((fZ p).bind λr=>f r.2) else f p) else ((fC p n).bind λr=>f r.2)))))
def QH {R:Type} (l:List Ev) (p:Pr) (k:Nat) (r n:Int) (f:Pr->Option R):Option R:=
 if decide ((Int.tmod r 10)=0) then L9 l p k r n (decide ((Int.tmod r 10)=0)) f else (if decide ((Int.tmod r 10)=1) then L9 l p k r n (decide ((Int.tmod r 10)=1)) f else L9 l p k r n (decide ((Int.tmod r 10)=2)) f)
def P9 {R:Type} (l:List Ev) (p:Pr) (k:Nat) (y:Int) (f:Pr->Option R):Option R:=
 (jI y 0 79).bind λr=>(fV p).bind λw=>if decide (0<(w.length:Int)) then (cZ ((w.length:Int)≠0) (QH l p k r (Int.tmod (i64.wrap (Int.tdiv r 10)) (w.length:Int)) f)) else (QH l p k r (i64.wrap (Int.tdiv r 10)) f)
theorem CD {p:Pr} (h:p.fM.length<=40):fV p=some p.fM:=by
 rw [<- Gd.eq];unfold fV;exact Gd.nd (by omega) (Gd.ret rfl)
section
variable {R:Type}{Q:R->Prop}{s:aN}{r0:Rm}{K:Nat}{p:Pr}{f:Pr->Option R}
theorem FA (hn:nk s=some (some r0,0)) (hi:Inv r0) (h:PI s r0 K p) (Z:K<=1000) {l:List Ev} (hl:∀ e ∈ l,xv e) (k:Nat) (r n:Int) (c:Bool) (J:∀ p',PI s r0 (K+1) p'->Ext p p'->Gd (f p') Q):Gd (L9 l p k r n c f) Q:=by
 have same:Gd (f p) Q:=J p (h.mono (by omega)) (Ext.same rfl (X4 _))
 unfold L9;refine Gd.ite (λ_=>Gd.ite (λY=>I8 hl k Y (λe he=>Gd.fH (EL h he) (λq I=>J _ I.1 I.2.1))) (λ_=>same)) (λ_=>?_);refine Gd.ite (λ_=>Gd.fH (Fb h n) (λq I=>J _ (I.1.mono (by omega)) I.2.1)) (λ_=>?_)
 refine Gd.ite (λ_=>Gd.fH (Kc h n) (λq I=>J _ (I.1.mono (by omega)) I.2.1)) (λ_=>?_)
 refine Gd.ite (λ_=>Gd.fH (BK h) (λq I=>J _ (I.1.mono (by omega)) I.2.1)) (λ_=>?_)
 refine Gd.ite (λ_=>Gd.ite (λ_=>Gd.fH (B0 hn hi h Z) (λq I=>J _ I.1 I.2.1)) (λ_=>same)) (λ_=>?_);exact Gd.fH (Am h n) (λq I=>J _ (I.1.mono (by omega)) I.2.1)
theorem HZ (hn:nk s=some (some r0,0)) (hi:Inv r0) (h:PI s r0 K p) (I:K<=1000) {l:List Ev} (hl:∀ e ∈ l,xv e) (k:Nat) (y:Int) (J:∀ p',PI s r0 (K+1) p'->Ext p p'->Gd (f p') Q):Gd (P9 l p k y f) Q:=by
 have key:∀ r n,Gd (QH l p k r n f) Q:=λr n=>by
  unfold QH;exact Gd.ite (λ_=>FA hn hi h I hl k r n _ J) (λ_=>Gd.ite (λ_=>FA hn hi h I hl k r n _ J) (λ_=>FA hn hi h I hl k r n _ J))
 have Z:=h.wl;unfold P9;refine Gd.fH (Oy y 79 (by omega) (by omega)) (λr _=>Gd.bind_eq (CD Z) (Gd.ite (λY=>Gd.nd ?_ (key _ _)) (λ_=>key _ _)))
 have:=R7 Y;omega
end
theorem Fa {s:aN}{r0:Rm}{K:Nat}{p:Pr} (h:PI s r0 K p):∃ a b,gP p=some (a,b)/\jL p.kQ.a0=some a/\(p.events.a0.length<=p.events.a1.length->a=b):=by
 obtain ⟨a,I⟩:=Gr h.i0;obtain ⟨b,J⟩:=Gr h.i1;refine ⟨a,b,?_,I,λhl=>?_⟩
 ·rw [<- Gd.eq]
  unfold gP;exact Gd.bind_eq I (Gd.bind_eq J (Gd.ret rfl))
 ·have he:p.events.a1=p.events.a0:=h.pre.eq_of_length_le hl
  have Y:=h.p1;rw [he] at Y;rw [<- h.p0.rE Y,I] at J;exact RX J
theorem pT:c_=some true:=by kernel_rfl
theorem NQ (l:List Ev) (k:Nat) (y:Int) (p:Pr) (I:Pr->Option (Bool×Pr)):
  gG l k y p I=P9 l p k y (λq=>bG I q):=rfl
theorem B5 (s:aN) (hz:wc s) (l:List Ev) (hl:∀ e ∈ l,xv e) (calls:List Int):iN s l calls=some true:=by
 rw [<- Gd.eq];unfold iN;obtain ⟨s',hs',hz'⟩:=HH hz;refine Gd.bind_eq hs' (Gd.fH (Cw hz') (λq hq=>?_));rcases hq with ⟨e,he,rfl,_⟩ | ⟨r0,p,rfl,Y⟩
 ·exact Gd.opt (λ_=>Gd.bind_eq pT (Gd.ret rfl)) (λ_ h=>by simp at h)
 refine Gd.opt (λh=>by simp at h) (λp' Z=>?_)
 obtain rfl:=RX Z;refine Gd.ite (λk=>by simp at k) (λ_=>Gd.bind_eq pT (Gd.ite (λ_=>Gd.fH (P:=λq=>q.1=true) ?_ (λq hq=>Gd.ret hq)) (λk=>by cases k)))
 unfold fI;refine Gd.nd (by omega) (Gd.eL (Q:=λ(q:Bool×Pr)=>q.1=true) (λi ys (v:Pr)=>i+ys.length<=20/\PI s' r0 (i+1) v) (λi y ys v nx hI hn=>?_) (λ_ _ _=>Gd.ret rfl) _ _ _ ⟨?_,Y.q⟩)
 rotate_left
 ·rw [yg]; omega
 obtain ⟨hi,hP⟩:=hI;rw [R_] at hi;rw [NQ];refine HZ Y.n Y.i hP (by omega) hl i y (λp' I hx=>?_)
 unfold bG;have h1:jS p'=some true:=by
  rw [<- Gd.eq];unfold jS;obtain ⟨a,b,hd,_,J⟩:=Fa I;refine Gd.bind_eq hd (Gd.bind_eq (vY I.l0) (Gd.ite (λ_=>Gd.ret rfl) (λk=>Gd.ret ?_)));have:=Sc k;unfold cG at this;simp only [SO];exact J (by omega)
 exact Gd.bind_eq h1 (Gd.ite (λk=>by simp at k) (λ_=>hn _ ⟨by omega,I⟩))
end Go.Sim
