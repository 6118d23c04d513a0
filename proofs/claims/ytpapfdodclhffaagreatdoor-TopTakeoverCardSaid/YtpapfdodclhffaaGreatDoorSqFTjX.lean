/-
  The proof, part F of TjX.
-/
import Derived.Test.YtpapfdodclhffaaGreatDoorSqF3
import Derived.Test.YtpapfdodclhffaaGreatDoorSqATjX
set_option linter.unusedVariables false
set_option linter.unusedSimpArgs false
set_option linter.unusedSectionVars false
set_option linter.unnecessarySimpa false
namespace Go.Sim
abbrev XJ := @Go.Lib.decDigits_length
end Go.Sim
namespace Go.Sim
open Go
open _root_.Go.IntKind (i64 u64 u32 u8)
theorem J0 {s:BA} (h:iL s=some true):s.size<=8:=by
 by_cases hs:s.size<=maxLen
 ·have key:Gd (iL s) (λb=>b=true->s.size<=8):=by
   unfold iL;refine Gd.nd hs (Gd.eL (λ_ _ _=>True) (λi y ys s Y _ hn=>?_) (λ_ _ _=>Gd.ret (λk=>?_)) _ _ _ RW)
   ·unfold rT
    exact Gd.ite (λ_=>Gd.ret (λk=>by cases k)) (λ_=>hn _ RW)
   ·simp at k; omega
  obtain ⟨b,I,J⟩:=key;rw [h] at I;cases I;exact J rfl
 ·unfold iL cZ at h
  rw [R8 hs] at h;cases h
theorem J2 {s:BA} (h:bX s=some true):s.size<=8:=by
 by_cases hs:s.size<=maxLen
 ·have key:Gd (bX s) (λb=>b=true->s.size<=8):=by
   unfold bX;refine Gd.nd hs (Gd.eL (λ_ _ _=>True) (λi y ys s Y _ hn=>?_) (λ_ _ _=>Gd.ret (λk=>?_)) _ _ _ RW)
   ·unfold py
    exact Gd.ite (λ_=>Gd.ret (λk=>by cases k)) (λ_=>hn _ RW)
   ·simp at k; omega
  obtain ⟨b,I,J⟩:=key;rw [h] at I;cases I;exact J rfl
 ·unfold bX cZ at h
  rw [R8 hs] at h;cases h
theorem PV {e:Ev} (h:eP e=some 0):Q8 e:=by
 unfold eP at h
 split at h
 ·simp at h
 rename_i ht
 cases I:iL e.Kind with
 | none=>rw [I] at h; cases h
 | some b=>
  rw [I] at h;cases b with
  | false=>simp at h
  | true=>
   cases hn:bX e.Name with
   | none=>rw [hn] at h; simp at h
   | some c=>
    rw [hn] at h;cases c with
    | false=>simp at h
    | true=>
     simp at h ht;exact ⟨by omega,by omega,J0 I,J2 hn⟩
theorem Em (u:Nat) (h:u<10 ^ 20):(Lib.decDigits u).length<=20:=by
 rw [XJ];have key:∀ (k u:Nat),u<10 ^ (k+1)->Lib.nDigits u<=k+1:=by
  intro k
  induction k with
  | zero=>intro u h; rw [Lib.nDigits_small (by simpa using h)]; omega
  | succ k ih=>
   intro u h
   by_cases I:u<10
   ·rw [Lib.nDigits_small I]; omega
   ·rw [Lib.nDigits_big I]
    have:=ih (u / 10) (by rw [Yo] at h; omega)
    omega
 exact key 19 u h
theorem Dj {n:Int} (h:-9223372036854775808<=n/\n<=9223372036854775807):(ny n).size<=21:=by
 show (Lib.itoa n).toArray.size<=21;rw [UF];unfold Lib.itoa
 split
 ·have:=Em n.natAbs (by omega); simp; omega
 ·have:=Em n.toNat (by omega); omega
theorem Ns {e:Ev} (h:Q8 e):Gd (si e) (λs=>s.size<=1000):=by
 have h1:=Dj (n:=e.Time) (by have:=h.t; omega)
 have h2:=Dj (n:=e.Value) (by have:=h.v; omega)
 have I:(⟨#[32]⟩:RU).size=1:=rfl;have Y:=h.k; have Z:=h.n; have ht:=h.t; have J:=h.v
 unfold si;refine Gd.nd (by omega) (Gd.nd ?_ (Gd.nd ?_ (Gd.nd ?_ (Gd.nd ?_ (Gd.nd ?_ (Gd.nd (by omega) (Gd.nd ?_ (Gd.ret ?_))))))))
 all_goals simp only [DV,I,maxLen]; omega
theorem HB (n:Int) (s:BA) (h:s.size<=1000):Gd (qL n s) (λ_=>True):=by
 have z:(⟨#[10]⟩:RU).size=1:=rfl;unfold qL;refine Gd.nd (by rw [z]; simp only [maxLen]; omega) (Gd.nd (by rw [DV,z]; simp only [maxLen]; omega) (Gd.eL (λ_ _ _=>True) (λi y ys s I _ hn=>hn _ RW) (λ_ _ _=>Gd.ret RW) _ _ _ RW))
theorem Gr {r:Rm} (h:Inv r):∃ d,jL r=some d:=by
 suffices h:Gd (jL r) (λ_=>True) by
  obtain ⟨d,J,_⟩:=h;exact ⟨d,J⟩
 unfold jL nB;refine Gd.fH (P:=λ_=>True) (Gd.eL (λ_ (ys:List Ev) _=>∀ y ∈ ys,eP y=some 0) (λi y ys s Z I hn=>?_) (λ_ _ _=>Gd.ret RW) _ _ _ h.lk) (λ_ _=>Gd.ret RW);unfold oM;refine Gd.fH (Ns (PV (I y (R6 ..)))) (λs hs=>Gd.fH (HB _ s hs) (λd _=>hn _ (λz Y=>I z (Sa _ Y))))
section
variable {R:Type}{Q:R->Prop}{s:aN}{r0:Rm}{K:Nat}{p:Pr}{f:Pr->Option R}
end
theorem G5 {α:Type}{l:List α}{k:Nat}{x:α} (h:x ∈ pM l 0 k):x ∈ l:=by
 unfold pM at h;exact Uu (by simpa using h)
theorem zE {α:Type}{l:List α}{k:Nat}:pM l 0 k=l.take k:=by unfold pM; simp
theorem JQ (a b:List Ev):Gd (eU a b) (λr=>r=true↔a=b):=by
 unfold eU;refine Gd.ite (λh=>Gd.ret ⟨λh=>by simp at h,λe=>?_⟩) (λh=>?_)
 ·subst e; simp at h
 have Z:a.length=b.length:=by simp at h; omega
 refine Gd.lH (λm i _=>i+m=a.length/\a.take i=b.take i) ?_ ?_ _ 0 () ⟨by simp,by simp⟩
 ·intro m i _ nx ⟨hi,I⟩ hnx
  unfold lC;have J:i<a.length:=by omega
  have Y:i<b.length:=by omega
  refine Gd.iT J (Gd.iT Y (Gd.ite (λh=>Gd.ret ⟨λh=>by simp at h,λe=>?_⟩) (λh=>hnx () ⟨by omega,?_⟩)))
  ·subst e; simp at h
  ·have he:a[i]=b[i]:=by
    cases hx:a[i] with
    | mk t1 k1 n1 v1=>cases hy:b[i] with
     | mk t2 k2 n2 v2=>rw [hx,hy] at h; simp at h; simp [h]
   rw [Su J,Su Y,I,he]
 ·rintro i _ ⟨hi,I⟩
  rw [Sh (by omega),Sh (by omega)] at I
  exact Gd.ret ⟨λ_=>I,λ_=>rfl⟩
theorem BW {a b:List Ev} (h:a=b):eU a b=some true:=by
 obtain ⟨r,J,I⟩:=JQ a b;rw [J,I.2 h]
theorem Fa {s:aN}{r0:Rm}{K:Nat}{p:Pr} (h:PI s r0 K p):∃ a b,gP p=some (a,b)/\jL p.kQ.a0=some a/\(p.events.a0.length<=p.events.a1.length->a=b):=by
 obtain ⟨a,I⟩:=Gr h.i0;obtain ⟨b,J⟩:=Gr h.i1;refine ⟨a,b,?_,I,λhl=>?_⟩
 ·rw [<- Gd.eq]
  unfold gP;exact Gd.bind_eq I (Gd.bind_eq J (Gd.ret rfl))
 ·have he:p.events.a1=p.events.a0:=h.pre.eq_of_length_le hl
  have Y:=h.p1;rw [he] at Y;rw [<- h.p0.rE Y,I] at J;exact RX J
theorem Al:lI=some true:=by kernel_rfl
theorem M9 {s:aN} (I:wc s):Gd (pq s) wc:=by
 unfold pq;exact Gd.nd (by omega) (Gd.nd (by omega) (Gd.ret ⟨⟨I.n.nd,I.n.sw,I.n.br,λx J=>I.n.gn x (G5 J),λx J=>I.n.ld x (G5 J),I.n.st⟩,I.r⟩))
theorem Io {s:aN}{r0:Rm}{K:Nat}{p:Pr} (h:PI s r0 K p) (ht:p.term=1) {l:List Ev} (hl:∀ e ∈ l,xv e) (k:Nat) (y:Int) {Q:Bool->Prop}{Y:Pr->Option Bool}
  (hn:∀ p',PI s r0 (K+1) p'->p'.term=1->Gd (Y p') Q):Gd (lV l k y p Y) Q:=by
 unfold lV fU;refine Gd.fH (Oy y 9 (by omega) (by omega)) (λr _=>Gd.ite (λJ=>?_) (λ_=>?_))
 ·rw [TL] at J
  exact I8 hl k J.2 (λe he=>Gd.fH (EL h he) (λq I=>hn _ I.1 (by rw [I.2.2,ht])))
 refine Gd.ite (λ_=>Gd.fH (Fb h 0) (λq I=>hn _ (I.1.mono (by omega)) (by rw [I.2.2.1,ht]))) (λ_=>?_)
 refine Gd.ite (λ_=>Gd.fH (BK h) (λq I=>hn _ (I.1.mono (by omega)) (by rw [I.2.2.1,ht]))) (λ_=>?_)
 exact Gd.fH (Am h 0) (λq I=>hn _ (I.1.mono (by omega)) (by rw [I.2.2.1,ht]))
theorem Bm (s:aN) (hz:wc s) (l:List Ev) (hl:∀ e ∈ l,xv e) (calls:List Int):jG s l calls=some true:=by
 rw [<- Gd.eq];unfold jG;obtain ⟨s',hs',hz'⟩:=M9 hz;refine Gd.bind_eq hs' (Gd.fH (Cw hz') (λq hq=>?_));rcases hq with ⟨e,he,rfl,hck⟩ | ⟨r0,p,rfl,hf⟩
 ·exact Gd.opt (λ_=>Gd.bind_eq Al (Gd.bind_eq Al (Gd.ite (λ_=>Gd.bind_eq hck (Gd.ret (by simp))) (λk=>by simp at k)))) (λ_ h=>by simp at h)
 refine Gd.opt (λh=>by simp at h) (λp' hp'=>?_)
 obtain rfl:=RX hp';refine Gd.bind_eq Al (Gd.ite (λk=>by simp at k) (λ_=>Gd.nd (by omega) ?_))
 refine Gd.eL (λi ys (v:Pr)=>i+ys.length<=15/\PI s' r0 (i+1) v/\v.term=1) (λi y ys v nx I hn=>?_) (λi p I=>?_) _ _ _ ⟨?_,hf.q,hf.t⟩
 rotate_left 2
 ·rw [yg]; omega
 ·obtain ⟨hi,hP,ht⟩:=I
  rw [R_] at hi;exact Io hP ht hl i y (λp' hP' ht'=>hn _ ⟨by omega,hP',ht'⟩)
 obtain ⟨hi,hP,ht⟩:=I;have hb:=hP.bl;have hd:=hP.dl;have hbd:=hP.tb ht;have hpl:=hP.pre.length_le;have hmin:(min (aZ p) (p.events.a0.length:Int)).toNat=p.mT.toNat:=by unfold aZ; omega
 have hsl:pM p.events.a0 0 ((min (aZ p) (p.events.a0.length:Int):Int).toNat)=p.events.a0.take p.mT.toNat:=by rw [zE,hmin]
 have J:(((p.events.a0.take p.mT.toNat).length:Nat):Int)=p.mT:=by rw [Ss]; omega
 have htk:p.events.a1.take p.mT.toNat=p.events.a0.take p.mT.toNat:=by
  obtain ⟨rest,hr⟩:=hP.pre;rw [<- hr,U9 (by omega)]
 refine Gd.bind_eq (vY hP.l0) (Gd.bind_eq (vY hP.l0) (Gd.nd (by unfold aZ; omega) ?_))
 rw [hsl];obtain ⟨q,hq,hP2,_,Z⟩:=B0 hf.n hf.i hP (by omega)
 have Z:=Z (by omega)
 subst Z;refine Gd.bind_eq hq (Gd.ite (λ_=>Gd.ite (λk=>?_) (λ_=>?_)) (λk=>by simp at k))
 ·rw [J] at k
  simp [aZ] at k
 refine Gd.bind_eq (vY hP2.l0) (Gd.bind_eq hf.n (Gd.opt (λh=>by simp at h) (λx0 hx0=>?_)))
 obtain rfl:=RX hx0;refine Gd.ite (λ_=>Gd.ite (λk=>?_) (λ_=>?_)) (λk=>by simp at k)
 ·have:=R7 k
  simp only at this;omega
 have he:pM p.events.a1 0 (((p.events.a0.take p.mT.toNat).length:Int):Int).toNat=p.events.a0.take p.mT.toNat:=by
  rw [zE,J,htk]
 refine Gd.nd (by simp only; omega) (Gd.bind_eq (BW he) (Gd.ite (λk=>by simp at k) (λ_=>?_)))
 refine Gd.eL (λ_ ys x=>zH x ys p.kQ.a1) (λi y ys x nx I hn=>?_) (λi x I=>?_) _ _ _ hP.p1
 ·obtain ⟨x1,hx1,I⟩:=I
  unfold n6;exact Gd.bind_eq hx1 (Gd.ite (λk=>by simp at k) (λ_=>hn _ I))
 have hx:p.kQ.a1=x:=I;obtain ⟨a,b,hd,Y,_⟩:=Fa hP2;simp only at Y;rw [hx] at Y;exact Gd.bind_eq hd (Gd.bind_eq Y (Gd.ret (by simp)))
end Go.Sim
