/-
  The proof, part F2.
-/
import Derived.Test.YthomhaphclgbcaaGreatDoorSqF1
set_option linter.unusedVariables false
set_option linter.unusedSimpArgs false
set_option linter.unusedSectionVars false
set_option linter.unnecessarySimpa false
namespace Go.Sim
abbrev TI := @Int.natCast_nonneg
abbrev TL := @List.cons.inj
abbrev TO := @List.eq_of_mem_replicate
abbrev TP := @List.filter_cons
abbrev TQ := @List.filter_sublist
abbrev TR := @List.getElem_set
abbrev TV := @List.length_filter_le
abbrev T0 := @List.set_append_right
abbrev Ur := @Rat.intCast_le_intCast
end Go.Sim
namespace Go.Sim
open Go
open _root_.Go.IntKind (i64 u64 u32 u8)
def D5 (n i:Nat):List Nat:=(List.range i).map (·+1)++List.replicate (n-i) 0
theorem Af (n:Nat):D5 n 0=List.replicate n 0:=by simp [D5]
theorem Ae (n:Nat):D5 n n=xy n:=by simp [D5,xy]
theorem Ei {n i:Nat} (hi:i<n):(D5 n i)[i]? = some 0:=by
 unfold D5;rw [PB (by simp),Rh,O8 (by simp; omega)]
theorem zy {n i:Nat} (hi:i<n):(D5 n i).set i (i+1)=D5 n (i+1):=by
 unfold D5;rw [T0 _ _ (by simp)]
 have e:n-i=(n-(i+1))+1:=by omega
 rw [e,Rl,Sh];simp
theorem JS {n i:Nat} (hi:i<n):(D5 n (i+1))[i]? = some (i+1):=by
 rw [<- zy hi,Pu (by simp [D5]; omega)]
theorem A6 {n:Nat}{rows:List (List LR)} (h:rows.length=n):qL (xy n) ([]::rows)=rows:=by
 apply QE;intro i;unfold qL;rw [Pw]
 by_cases hi:i<n
 ·rw [CK hi,Qp,FP,OZ (by omega)]; rfl
 ·rw [P1 (by rw [vP]; omega),P1 (by omega)]; rfl
theorem JX {rows:List (List LR)}{n:Nat} (hl:rows.length=n) (hn:n<=1000) (Y:∀ y ∈ rows,y.length<=1000):Gd (ua rows) (λr=>r=(xy n,[]::rows)):=by
 unfold ua;rw [hl];refine Gd.nd (by omega) ?_
 rw [O2];refine Gd.dR (λi l s=>∃ pre,rows=pre++l/\pre.length=i/\s=(D5 n i,[]::pre)) ?_ ?_ rows 0 _ ⟨[],rfl,rfl,by rw [Af]⟩
 ·rintro i y ys _ nx ⟨pre,J,I,rfl⟩ O
  have hi:i<n:=by rw [<- hl,J,Pj,Pa]; omega
  have Z:=Y y (by rw [J]; simp)
  unfold uM;refine Gd.nd (by simp; omega) (Gd.ix (by omega) (by rw [O2]; exact Ei hi) (O _ ⟨pre++[y],by rw [J]; simp,by simp [I],?_⟩))
  rw [O2,Pa,I,zy hi];simp
 ·rintro i _ ⟨pre,J,I,rfl⟩
  rw [PH] at J;subst J;refine Gd.ret ?_;rw [<- I,hl,Ae]
theorem tF.short {rows:List (List LR)}{n w W:Nat}{m:Mt} (h:tF rows n w W m) (Y:w<=1000):∀ y ∈ rows,y.length<=1000:=by
 intro y J;obtain ⟨i,hi,he⟩:=Qc.1 J;obtain ⟨l,I,O,_⟩:=h.row i (by rw [<- h.len]; exact hi)
 rw [OZ hi] at I;have:=O4 I;rw [<- he,this]; omega
theorem G2 {rows:List (List LR)}{n W:Nat}{A m0:Mt} (hn:n<=400) (hW:W<=100000) (hp:Pd n A) (h0:Gj n A 0 m0) (hM:tF rows n (2*n) W m0)
  (hB:∀ k m,k<=n->Gj n A k m->∀ i c,i<n->c<2*n->RB (m i c) W):
  Gd (qx rows (n:Int)) (λr=>∃ I m,r.1=(xy n,[]::I)/\r.2.length=n/\Gj n A n m/\tF I n (2*n) W m):=by
 unfold qx;refine Gd.eE (JX hM.len (by omega) (hM.short (by omega))) (λr hr=>?_)
 subst hr;refine Gd.gG (λs=>∃ (k:Nat) (l:List Int) (I:List (List LR)) (m:Mt),s=(l,(k:Int),xy n,[]::I)/\l.length=k/\k<=n/\Gj n A k m/\tF I n (2*n) W m) (λs=>((n:Int)-s.2.1).toNat) ?_ fA _
  ⟨0,[],rows,m0,rfl,rfl,by omega,h0,hM⟩ (by simp only [fA]; omega)
 rintro _ nx ⟨k,l,I,m,rfl,hl,hk,Y,Z⟩ O;show Gd (l9 (n:Int) l (k:Int) (xy n) ([]::I) nx) _
 by_cases h:k<n
 ·have hd:=Y.Lu hp h
  refine G1 hl h (by omega) (by omega) (by omega) (by omega) hW hd Z (λc hc=>?_) (λi c hi hc=>hB (k+1) _ (by omega) (Y.step h hd) i c hi hc) (λJ hM''=>?_)
  ·rw [Y.left k c h (by omega) hc,pA (by omega)]
  ·exact O _ ⟨k+1,_,J,_,rfl,by simp [hl],by omega,Y.step h hd,hM''⟩ (by simp only; omega)
 ·obtain rfl:k=n:=by omega
  unfold l9;refine Gd.ite (λh=>absurd h (by simp)) (λ_=>Gd.ret ⟨I,m,rfl,hl,Y,Z⟩)
theorem yH {n:Nat} (hn:n<=1000):Gd (mK (n:Int)) (λr=>∃ z,r=List.replicate n z/\oc z/\RL z 2/\rv z=0):=by
 unfold mK;refine Gd.eE (um (n:=0) (by omega)) (λz I=>Gd.nd (by simp; omega) (Gd.ret ⟨z,wX _ _,I.1,I.2.1,by rw [I.2.2]; rfl⟩))
theorem tF.snoc {rows:List (List LR)}{n w W:Nat}{m:Mt} (h:tF rows n w W m) {l:List LR} (I:l.length=w) (J:∀ c,c<w->∃ y,l[c]? = some y/\oc y/\RL y W/\rv y=m n c):tF (rows++[l]) (n+1) w W m:=by
 refine ⟨by simp [h.len],λi hi=>?_⟩
 by_cases e:i<n
 ·obtain ⟨l',a,b,c⟩:=h.row i e
  exact ⟨l',by rw [Qb (by rw [h.len]; exact e)]; exact a,b,c⟩
 ·obtain rfl:i=n:=by omega
  exact ⟨l,by rw [PB (by rw [h.len]; omega),h.len,Qg]; rfl,I,J⟩
def Cb (n:Nat) (A:Mt):Mt:=λi c=>if c<n then A i c else dl i (c-n)
theorem Io (n:Nat) (A:Mt):Gj n A 0 (Cb n A):=by
 have e:∀ i j,Cb n A i (n+j)=dl i j:=λi j=>by unfold Cb; rw [O7 (by omega)]; congr 1; omega
 refine ⟨λi c hi O=>?_,λi j _ _ _=>e i j,λi c _ _ h=>by omega⟩
 have J:sm n (λj=>Cb n A i (n+j)*A j c)=Cb n A i (n+i)*A i c:=A3 (p:=i) hi (λj Y I=>by rw [e,pA (λx=>I x.symm)]; grind)
 rw [J,e,qp];unfold Cb;rw [if_pos O]; grind
theorem J4 {n k W:Nat}{y:List LR}{z one:LR}{A:Mt} (hk:k<n) (hy:y.length=n) (O:∀ c,c<n->∃ v,y[c]? = some v/\oc v/\RL v W/\rv v=A k c) (Y:oc z/\RL z 2/\rv z=0) (J:oc one/\RL one 2/\rv one=1) (Z:2<=W):
  ((([]++y)++List.replicate n z).set (n+k) one).length=2*n/\∀ c,c<2*n->∃ v,((([]++y)++List.replicate n z).set (n+k) one)[c]? = some v/\oc v/\RL v W/\rv v=Cb n A k c:=by
 refine ⟨by simp [hy]; omega,λc hc=>?_⟩
 rw [Qz];unfold Cb
 by_cases I:c<n
 ·obtain ⟨v,a,b,d,e⟩:=O c I
  refine ⟨v,?_,b,d,by rw [O8 I]; exact e⟩
  rw [Pq (by omega),Qb (by omega)]; exact a
 ·by_cases h2:c=n+k
  ·subst h2
   refine ⟨one,by rw [Pu (by simp [hy]; omega)],J.1,J.2.1.mono Z,?_⟩
   rw [O7 I,J.2.2,Q2,qp]
  ·refine ⟨z,?_,Y.1,Y.2.1.mono Z,?_⟩
   ·rw [Pq (by omega),PB (by omega),Rh,O8 (by omega)]
   ·rw [O7 I,Y.2.2,pA (by omega)]
theorem EK {rows:List (List LR)}{n W:Nat}{A:Mt} (hn:n<=400) (hW:W<=100000) (hW2:2<=W) (hp:Pd n A) (hM:tF rows n n W A)
  (hB:∀ k m,k<=n->Gj n A k m->∀ i c,i<n->c<2*n->RB (m i c) W):
  Gd (pJ rows) (λr=>r.2=true/\∃ m,Gj n A n m/\tF r.1 n n W (λi c=>m i (n+c))):=by
 unfold pJ;rw [hM.len];refine Gd.nd (by omega) ?_
 rw [O2];refine Gd.jQ (λM i s=>i+M=n/\∃ pre:List (List LR),s=(D5 n i,[]::pre)/\tF pre i (2*n) W (Cb n A)) ?_ ?_ n 0 _ ⟨by omega,[],by rw [Af],⟨rfl,λi hi=>by omega⟩⟩
 ·rintro M i _ nx ⟨hiM,pre,rfl,I⟩ hnx
  have hi:i<n:=by omega
  obtain ⟨y,y1,y2,y3⟩:=hM.row i hi;unfold sy;rw [hM.len];refine Gd.ix (y:=y) (by omega) (by rw [O2]; exact y1) (Gd.nd (by simp; omega) (Gd.eE (yH (by omega)) ?_))
  rintro _ ⟨z,rfl,hz⟩;refine Gd.nd (by simp; omega) (Gd.ix (by omega) (by rw [O2]; exact Ei hi) ?_)
  have hlen:([]::pre:List (List LR)).length=i+1:=by simp [I.len]
  rw [hlen,O2,zy hi];refine Gd.ix (by omega) (by rw [O2]; exact JS hi) (Gd.eE (um (n:=1) (by omega)) (λone ho=>?_))
  have ho2:oc one/\RL one 2/\rv one=1:=⟨ho.1,ho.2.1,by rw [ho.2.2]; rfl⟩
  have Z:=J4 hi y2 y3 hz ho2 hW2;have hat:((([]::pre++[([]++y)++List.replicate n z]:List (List LR))[i+1]?).getD [])=([]++y)++List.replicate n z:=by
   rw [Q9,List.getElem?_cons_succ,PB (by rw [I.len]; omega),I.len,Qg]; rfl
  rw [hat];have hwr:i64.wrap ((n:Int)+(i:Int))=((n+i:Nat):Int):=by rw [bQ ⟨by omega,by omega⟩]; omega
  rw [hwr];refine Gd.ix (y:=z) (by omega) ?_ (hnx _ ⟨by omega,pre++[(([]++y)++List.replicate n z).set (n+i) one],?_,I.snoc Z.1 Z.2⟩)
  ·rw [O2,Qz,PB (by omega),Rh,O8 (by omega)]
  ·rw [O2,Q9,List.set_cons_succ,T0 _ _ (by rw [I.len]; omega),I.len,Qg]
   rfl
 ·rintro i _ ⟨hi,pre,rfl,I⟩
  obtain rfl:i=n:=by omega
  show Gd ((qx (qL (D5 i i) ([]::pre)) (i:Int)).bind _) _;rw [Ae,A6 I.len];refine Gd.eE (G2 hn hW hp (Io i A) I hB) ?_;rintro ⟨⟨sg,ls⟩,pv⟩ ⟨J,m,he,hpl,hG,hM'⟩;obtain ⟨rfl,rfl⟩:=Prod.mk.inj he;simp only at hpl ⊢;rw [hpl];refine Gd.ite (λh=>absurd (O6 h) (by omega)) (λ_=>?_)
  rw [vP];refine Gd.nd (by omega) ?_
  rw [O2];refine Gd.jQ (λM k s=>k+M=i/\∃ rs:List (List LR),s=(xy i,[]::rs)/\rs.length=i/\∀ q,q<i->rs[q]? = if q<k then (J[q]?).map (·.drop i) else J[q]?) ?_ ?_ i 0 _
   ⟨by omega,J,rfl,hM'.len,λq _=>by rw [O7 (by omega)]⟩
  ·rintro M k _ nx ⟨hkM,rs,rfl,O,Y⟩ hnx
   have hk:k<i:=by omega
   obtain ⟨l,l1,l2,l3⟩:=hM'.row k hk;have hat:rs[k]? = some l:=by rw [Y k hk,O7 (by omega),l1]
   unfold sA;rw [hM.len];refine oI hk ?_;rw [FP,hat,QV];refine Gd.nd (by omega) (oI hk (Gd.nd ?_ ?_))
   ·rw [O2]
    refine Kf (λj hj=>?_);have hjn:j<i:=by
     have:=(O3.1 hj).1
     rwa [vP] at this
    rw [CK hjn] at hj;have:=O4 hj;omega
   ·rw [O2,O2,zF hk,L6]
    refine hnx _ ⟨by omega,_,rfl,by rw [Qh]; exact O,λq hq=>?_⟩
    by_cases e:k=q
    ·subst e
     rw [Pu (by omega),O8 (by omega),l1]; rfl
    ·rw [Pq e,Y q hq]
     by_cases e2:q<k
     ·rw [O8 e2,O8 (by omega)]
     ·rw [O7 e2,O7 (by omega)]
  ·rintro k _ ⟨hk,rs,rfl,O,Y⟩
   refine Gd.ret ⟨rfl,m,hG,?_⟩;show tF (qL (xy i) ([]::rs)) i i W _;rw [A6 O];refine ⟨O,λq hq=>?_⟩;obtain ⟨l,l1,l2,l3⟩:=hM'.row q hq;refine ⟨l.drop i,by rw [Y q hq,O8 (by omega),l1]; rfl,by rw [Qv]; omega,λc hc=>?_⟩
   obtain ⟨v,a,b,d,e⟩:=l3 (i+c) (by omega)
   exact ⟨v,by rw [PJ]; exact a,b,d,e⟩
def wq (k:Nat):Rat:=(((WB ^ k:Nat):Int):Rat)
theorem uU (a b:Nat):wq a*wq b=wq (a+b):=by unfold wq; rw [Ue,PT,Us]
theorem uV (a:Nat):1<=wq a:=by
 unfold wq;have h:(1:Nat)<=WB ^ a:=Nat.one_le_pow _ _ (by decide)
 have I:(1:Int)<=((WB ^ a:Nat):Int):=by omega
 have:=Ur.2 I
 rwa [Rat.intCast_one] at this
theorem xg {a b:Nat} (h:a<=b):wq a<=wq b:=by
 unfold wq;have h:WB ^ a<=WB ^ b:=Ug (by decide) h
 exact Ur.2 (by omega)
theorem z_ {x y a b:Rat} (O:-a<=x) (Y:x<=a) (Z:-b<=y) (h4:y<=b):-(a*b)<=x*y/\x*y<=a*b:=by
 have e1:=Rat.mul_nonneg (show 0<=a-x by grind) (show 0<=b+y by grind)
 have e2:=Rat.mul_nonneg (show 0<=a+x by grind) (show 0<=b-y by grind)
 have I:=Rat.mul_nonneg (show 0<=a-x by grind) (show 0<=b-y by grind)
 have J:=Rat.mul_nonneg (show 0<=a+x by grind) (show 0<=b+y by grind)
 constructor <;> grind
theorem IT {z:Int}{k:Nat} (I:-wq k<=(z:Rat)) (J:(z:Rat)<=wq k):z.natAbs<WB ^ (k+1):=by
 unfold wq at I J;rw [<- Ut] at I;have a1:=Ur.1 I;have O:=Ur.1 J;have Y:WB ^ k<WB ^ (k+1):=Nat.pow_lt_pow_right (by decide) (by omega)
 omega
theorem yB {p q:Rat}{k:Nat} (I:tB p) (J:tB q) (p1:-wq k<=p) (p2:p<=wq k) (Y:-wq k<=q) (q2:q<=wq k) (O:q≠0) (Z:k<=186):RB (p / q) (k+1):=by
 obtain ⟨a,rfl⟩:=I;obtain ⟨b,rfl⟩:=J;exact RB.ratio (IT p1 p2) (IT Y q2) (λe=>O (by rw [e]; rfl)) (by omega)
theorem RB.zero:RB 0 1:=by
 have:=RB.small (m:=0) (by decide)
 simpa using this
theorem RB.one:RB 1 1:=by
 have:=RB.small (m:=1) (by decide)
 simpa using this
theorem RB.dl (i j:Nat):RB (dl i j) 1:=by
 rcases vT i j with h | h <;> rw [h]
 ·exact RB.zero
 ·exact RB.one
theorem RB.sm {f:Nat->Rat}{a:Nat}:∀ {n:Nat},n*(a+1)+1<=700000->(∀ j,j<n->RB (f j) a)->RB (sm n f) (n*(a+1)+1)
 | 0,_,_=>RB.zero.mono (by omega)
 | n+1,hn,h=>by
  have e:(n+1)*(a+1)=n*(a+1)+(a+1):=Nat.succ_mul _ _;have I:=RB.sm (n:=n) (by omega) (λj J=>h j (by omega))
  exact (I.add (h n (by omega)) (by omega)).mono (by omega)
structure Nb (n:Nat) (A:Mt) (L:Nat->Rat) (B:Mt) (R:Nat->Rat):Prop where
 s:Hw n A L B R
 hP:pr n R<=wq 60
 hL:∀ i,i<n->L i<=wq 18
theorem Nb.R {n:Nat}{A B:Mt}{L R:Nat->Rat} (h:Nb n A L B R) {i:Nat} (hi:i<n):R i<=wq 60:=by
 have key:∀ {m:Nat},(∀ j,j<m->1<=R j)->i<m->R i<=pr m R:=by
  intro m
  induction m with
  | zero=>intro _ h; omega
  | succ m ih=>
   intro I hi;have p1:1<=pr m R:=CE (λj J=>I j (by omega))
   show R i<=pr m R*R m
   by_cases e:i=m
   ·subst e
    have:=Rat.mul_le_mul_of_nonneg_right p1 (show 0<=R i by have:=I i hi; grind)
    grind
   ·have a:=ih (λj J=>I j (by omega)) (by omega)
    have:=Rat.mul_le_mul_of_nonneg_left (I m (by omega)) (show 0<=pr m R by grind)
    grind
 exact Uv (key (λj J=>h.s.R1 J) hi) h.hP
theorem Nb.L0 {n:Nat}{A B:Mt}{L R:Nat->Rat} (h:Nb n A L B R) {i:Nat} (hi:i<n):L i≠0:=λe=>by
 have:=h.s.l1 i hi; rw [e] at this; exact absurd this (by decide)
theorem Nb.ab {n:Nat}{A B:Mt}{L R:Nat->Rat} (h:Nb n A L B R) {i c:Nat} (hi:i<n) (I:c<n):-wq 60<=L i*A i c/\L i*A i c<=wq 60:=by
 have J:=h.s.ab i c hi I;have O:=Lz (f:=B i) (h.s.b0 i) I;have Y:=h.s.rs i hi;have Z:=h.R hi;constructor <;> grind
theorem Nb.A {n:Nat}{A B:Mt}{L R:Nat->Rat} (h:Nb n A L B R) {i c:Nat} (hi:i<n) (I:c<n):RB (A i c) 61:=by
 have e:A i c=(L i*A i c) / L i:=by
  rw [Uq];have:=Ux (L i) (h.L0 hi)
  grind
 rw [e];have l1:=h.s.l1 i hi;have l2:=h.hL i hi;have l3:=xg (show 18<=60 by omega)
 have w:=uV 60;exact yB (h.s.ai i c hi I) (h.s.li i hi) (h.ab hi I).1 (h.ab hi I).2 (by grind) (by grind) (h.L0 hi) (by omega)
def Dk (A:Mt) (L:Nat->Rat) (k:Nat):Rat:=p_ k (λr c=>L r*A r c)
theorem Nb.D0 {n:Nat}{A B:Mt}{L R:Nat->Rat} (h:Nb n A L B R) (Z:Pd n A):∀ {k:Nat},k<=n->Dk A L k≠0/\∃ m,Gj n A k m
 | 0,_=>⟨by show (1:Rat)≠0; decide,_,Io n A⟩
 | k+1,hk=>by
  obtain ⟨d,m,O⟩:=h.D0 Z (k:=k) (by omega)
  have Y:=O.Lu Z (by omega)
  refine ⟨?_,_,O.step (by omega) Y⟩
  have e:=O.p_ (k:=k) (by omega) (L:=L) (λi hi=>h.L0 hi)
  show Sim.p_ (k+1) (λr c=>L r*A r c)≠0;rw [e];intro h0;rcases Uw.1 h0 with I | I
  ·rcases Uw.1 I with J | J
   ·exact h.L0 (by omega) J
   ·exact Y J
  ·exact d I
theorem Nb.Db {n:Nat}{A B:Mt}{L R:Nat->Rat} (h:Nb n A L B R) {k:Nat} (I:k<=n):tB (Dk A L k)/\-wq 60<=Dk A L k/\Dk A L k<=wq 60:=by
 obtain ⟨a,b,c⟩:=h.s.p_ I;have:=h.hP;refine ⟨a,?_,?_⟩ <;> unfold Dk <;> grind
theorem Nb.num {n:Nat}{A B m:Mt}{L R:Nat->Rat} (h:Nb n A L B R) (hp:Pd n A) {k:Nat} (hG:Gj n A k m) (O:k<=n) {i p:Nat} (hi:i<n) (Y:p<k):RB (m i (n+p)) 140:=by
 obtain ⟨N,n1,n2,n3,e⟩:=hG.num h.s O hi Y;obtain ⟨d1,d2,d3⟩:=h.Db O;have d0:=(h.D0 hp O).1;have hP:=h.hP;have p1:1<=pr n R:=CE (λj hj=>h.s.R1 hj);have r1:=h.s.R1 hi;have r2:=h.R hi;have hNb:pr n R*R i<=wq 120:=by
  rw [<- uU 60 60];exact pN hP r2 (by grind) (by grind)
 have lp:=h.s.l1 p (by omega)
 have Z:=h.hL p (by omega)
 have t:=z_ (x:=N) (y:=L p) (a:=wq 120) (b:=wq 18) (by grind) (by grind) (by have:=uV 18; grind) Z
 rw [uU] at t;have s0:(if k<=i then L i else 1)≠0:=by
  split
  ·exact h.L0 hi
  ·decide
 have s1:tB (if k<=i then L i else 1):=by
  split
  ·exact h.s.li i hi
  ·exact ⟨1,rfl⟩
 have s2:1<=(if k<=i then L i else 1)/\(if k<=i then L i else 1)<=wq 18:=by
  split
  ·exact ⟨h.s.l1 i hi,h.hL i hi⟩
  ·exact ⟨Uu,uV 18⟩
 generalize (if k<=i then L i else 1)=s at e s0 s1 s2
 have u:=z_ (x:=s) (y:=Dk A L k) (a:=wq 18) (b:=wq 60) (by have:=uV 18; grind) s2.2 d2 d3
 rw [uU] at u;have e2:m i (n+p)=(N*L p) / (s*Dk A L k):=by
  have e3:s*m i (n+p)*Dk A L k=N*L p:=e;rw [<- e3,Uq];have h3:s*Dk A L k≠0:=λJ=>by
   rcases Uw.1 J with I | I
   ·exact s0 I
   ·exact d0 I
  have:=Ux _ h3
  grind
 rw [e2];have w1:=xg (show 18+60<=139 by omega)
 have w2:=xg (show 120+18<=139 by omega)
 refine yB (rG n1 (h.s.li p (by omega))) (rG s1 d1) (by grind) (by grind) (by grind) (by grind) ?_ (by omega)
 intro J;rcases Uw.1 J with I | I
 ·exact s0 I
 ·exact d0 I
theorem Nb.rb {n:Nat}{A B:Mt}{L R:Nat->Rat} (h:Nb n A L B R) (hp:Pd n A) (hn:n<=24) (k:Nat) (m:Mt) (Y:k<=n) (J:Gj n A k m) (i c:Nat) (hi:i<n) (hc:c<2*n):RB (m i c) 6000:=by
 have right:∀ p,p<n->RB (m i (n+p)) 140:=λp O=>by
  by_cases e:p<k
  ·exact h.num hp J Y hi e
  ·rw [J.right i p hi O (by omega)]
   exact (RB.dl i p).mono (by omega)
 by_cases I:c<n
 ·rw [J.LL Y hi I]
  have Z:RB (sm k (λj=>m i (n+j)*A j c)) (k*202+1):=RB.sm (a:=201) (by omega) (λj hj=>(right j (by omega)).mul (h.A (by omega) I) (by omega))
  have h2:RB (if k<=i then A i c else 0) 61:=by
   split
   ·exact h.A hi I
   ·exact RB.zero.mono (by omega)
  exact (Z.add h2 (by omega)).mono (by omega)
 ·have e:c=n+(c-n):=by omega
  rw [e];exact (right (c-n) (by omega)).mono (by omega)
theorem GO (l:List Int) (p:Int):Gd (kM l p) (λr=>(r = -1/\p ∉ l)\/∃ (k:Nat) (h:k<l.length),r=k/\l[k]=p):=by
 unfold kM;refine Gd.jQ (λm i _=>i+m=l.length/\p ∉ l.take i) ?_ ?_ (l.length:Int).toNat 0 () ⟨by omega,by simp⟩
 ·intro m i _ J ⟨hi,hno⟩ hnx
  unfold nE;refine Gd.gS (by omega) (Gd.ite (λh=>Gd.ret (.inr ⟨i,by omega,rfl,?_⟩)) (λh=>hnx () ⟨by omega,?_⟩))
  ·have:p=l[i]:=by simpa using h
   exact this.symm
  ·rw [Ps (by omega),Pe,PE]
   rintro (I | I)
   ·exact hno I
   ·simp [I] at h
 ·intro i _ ⟨hi,hno⟩
  rw [Pg (by omega)] at hno
  exact Gd.ret (.inl ⟨rfl,hno⟩)
structure Ht (M:aV) (n N:Nat) (F:Nat->Nat) (l:List (Rat×Nat×Nat)) (t:Rat):Prop where
 hn:n<=23
 free:M.pY=(List.range n).map (λi=>(F i:Int))
 inj:∀ i j,i<n->j<n->F i=F j->i=j
 lt:∀ i,i<n->F i<N
 hN:N<=24
 ll:l.length<=24
 el:∀ e ∈ l,e.2.1<N/\e.2.2<N
 fr:M.oN=l.map (λe=>(e.2.1:Int))
 to:M.To=l.map (λe=>(e.2.2:Int))
 bl:M.B_.length=l.length
 b:∀ (k:Nat) (y:LR),M.B_[k]? = some y->∃ e,l[k]? = some e/\oc y/\RL y 2/\rv y=t / e.1
def Kq:Option Nat->Int
 | none=>-1
 | some i=>(i:Int)
def eo (o:Option Nat) (r:Nat):Rat:=if o=some r then 1 else 0
theorem tz (i r:Nat):eo (some i) r=dl i r:=by
 unfold eo dl
 by_cases e:i=r
 ·subst e; rw [O8 rfl,O8 rfl]
 ·rw [O7 (λh=>e (O4 h)),O7 e]
theorem tx (r:Nat):eo none r=0:=O7 (by simp)
theorem DN {M:aV}{n N:Nat}{F:Nat->Nat}{l:List (Rat×Nat×Nat)}{t:Rat} (h:Ht M n N F l t) (u:Nat):
  Gd (lC M (u:Int)) (λr=>∃ o:Option Nat,r=Kq o/\(∀ i,o=some i->i<n/\F i=u)/\∀ r,r<n->eo o r=dl (F r) u):=by
 unfold lC;refine Gd.eE (GO _ _) (λr I=>Gd.ret ?_);rw [h.free] at I;rcases I with ⟨rfl,Y⟩ | ⟨k,Z,rfl,e⟩
 ·refine ⟨none,rfl,λi hi=>by simp at hi,λr I=>?_⟩
  rw [tx,pA];intro e;exact Y (PO.2 ⟨r,PV.2 I,by rw [e]⟩)
 ·have J:k<n:=by simpa using Z
  have e2:F k=u:=by simp at e; omega
  refine ⟨some k,rfl,λi hi=>by obtain rfl:=O4 hi; exact ⟨J,e2⟩,λr I=>?_⟩
  rw [tz]
  by_cases O:k=r
  ·subst O; rw [qp,e2,qp]
  ·rw [pA O,pA]
   intro e4;exact O (h.inj k r J I (by omega))
theorem tF.CT {rows:List (List LR)}{n w W:Nat}{m:Mt} (h:tF rows n w W m) {p q:Nat} (J:p<n) (O:q<w) {e:LR}{d:Rat} (he:oc e) (I:RL e W) (Y:rv e=m p q+d):
  tF (rows.set p (((rows[p]?).getD []).set q e)) n w W (λr c=>m r c+d*(dl p r*dl q c)):=by
 refine (h.set J O he I).congr (λr c _ _=>?_)
 by_cases e1:r=p/\c=q
 ·obtain ⟨rfl,rfl⟩:=e1
  rw [if_pos ⟨rfl,rfl⟩,qp,qp,Y]; grind
 ·rw [O7 e1]
  by_cases e2:p=r
  ·rw [pA (i:=q) (λe=>e1 ⟨e2.symm,e.symm⟩)]; grind
  ·rw [pA e2]; grind
abbrev Hs:=List (List LR)->Option aV
theorem Lr {n W:Nat}{nx:Hs}{b:LR}{oi oj:Option Nat}{rows:List (List LR)}{m:Mt}{Q:aV->Prop} (Y:tF rows n n W m) (hW:W<=1000) (hb:oc b) (Z:RL b 2)
  (hi:∀ i,oi=some i->i<n) (J:∀ j,oj=some j->j<n) (hne:∀ i,oi=some i->oj≠some i)
  (O:∀ I,tF I n n (W+3) (λr c=>m r c-rv b*(eo oi r*eo oj c)-rv b*(eo oj r*eo oi c))->Gd (nx ([]::I)) Q):
  Gd (iE (xy n) nx b (Kq oi) (Kq oj) ([]::rows)) Q:=by
 unfold iE fN;cases oi with
 | none=>
  refine Gd.ite (λh=>absurd h (by simp [Kq])) (λ_=>O rows ((Y.mono (by omega)).congr (λr c _ _=>?_)))
  rw [tx,tx]; grind
 | some i=>
  cases oj with
  | none=>
   refine Gd.ite (λh=>absurd h (by simp [Kq])) (λ_=>O rows ((Y.mono (by omega)).congr (λr c _ _=>?_)))
   rw [tx,tx]; grind
  | some j=>
   have hi:=hi i rfl;have J:=J j rfl;have hij:i≠j:=λe=>hne i rfl (by rw [e])
   show Gd (if ((decide (0<=(i:Int)) && decide (0<=(j:Int)))=true) then _ else _) Q
   refine Gd.ite (λ_=>?_) (λh=>absurd h (by simp))
   show Gd (idx (xy n) (i:Int) _) Q;refine oI hi (oI J (oI hi (r8 Y hi J (λy1 a1 a2 a3=>Gd.eE (xf a1 hb a2 Z (by omega)) (λr1 b1=>?_)))))
   show Gd (idx (xy n) (j:Int) _) Q;refine oI J (r8 Y J hi (λy2 c1 c2 c3=>Gd.eE (xf c1 hb c2 Z (by omega)) (λr2 d1=>?_)))
   show Gd (idx ((([]::rows:List (List LR))[i+1]?).getD []) (j:Int) _) Q;refine r8 Y hi J (λ_ _ _ _=>?_);have h2:=(Y.mono (show W<=W+3 by omega)).CT hi J (d:=-rv b) b1.1 (b1.2.1.mono (by omega)) (by rw [b1.2.2,a3]; grind)
   show Gd (idx ((([]::(rows.set i (((rows[i]?).getD []).set j r1)):List (List LR))[j+1]?).getD []) (i:Int) _) Q;refine r8 h2 J hi (λ_ _ _ _=>?_);have h3:=h2.CT J hi (d:=-rv b) d1.1 (d1.2.1.mono (by omega)) (by
    rw [d1.2.2,c3,pA hij]; grind)
   refine O _ (h3.congr (λr c _ _=>?_));rw [tz,tz,tz,tz]; grind
theorem Ls {n W:Nat}{nx:Hs}{b:LR}{oi oj:Option Nat}{rows:List (List LR)}{m:Mt}{Q:aV->Prop} (hM:tF rows n n W m) (hW:W<=900) (hb:oc b) (O:RL b 2)
  (hi:∀ i,oi=some i->i<n) (hj:∀ j,oj=some j->j<n) (Y:∀ i,oi=some i->oj≠some i)
  (Z:∀ I,tF I n n (W+6) (λr c=>m r c+rv b*(eo oj r*eo oj c)-rv b*(eo oi r*eo oj c)-rv b*(eo oj r*eo oi c))->Gd (nx ([]::I)) Q):
  Gd (iF (xy n) nx b (Kq oi) (Kq oj) ([]::rows)) Q:=by
 unfold iF;cases oj with
 | none=>
  refine Gd.ite (λh=>absurd h (by simp [Kq])) (λ_=>Lr (oj:=none) (hM.mono (show W<=W+3 by omega)) (by omega) hb O hi hj Y (λI h'=>Z I (h'.congr (λr c _ _=>?_))))
  rw [tx,tx]; grind
 | some j=>
  have J:=hj j rfl;show Gd (if (decide (0<=(j:Int))=true) then _ else _) Q
  refine Gd.ite (λ_=>?_) (λh=>absurd h (by simp))
  show Gd (idx (xy n) (j:Int) _) Q;refine oI J (oI J (r8 hM J J (λy1 a1 a2 a3=>Gd.eE (vM a1 hb a2 O (by omega)) (λr1 b1=>r8 hM J J (λ_ _ _ _=>?_)))))
  have h2:=(hM.mono (show W<=W+3 by omega)).CT J J (d:=rv b) b1.1 (b1.2.1.mono (by omega)) (by rw [b1.2.2,a3])
  refine Lr (oj:=some j) h2 (by omega) hb O hi hj Y (λI h'=>Z I (h'.congr (λr c _ _=>?_)))
  rw [tz,tz]
theorem EM (l:List (Rat×(Nat->Rat))) (e:Rat×(Nat->Rat)) (r c:Nat):gC (l++[e]) r c=gC l r c+e.1*e.2 r*e.2 c:=by
 induction l with
 | nil=>show e.1*e.2 r*e.2 c+0=0+_; grind
 | cons a l ih=>show a.1*a.2 r*a.2 c+gC (l++[e]) r c=a.1*a.2 r*a.2 c+gC l r c+_; rw [ih]; grind
theorem B1 {α:Type}{l:List α}{k:Nat}{e:α} (f:α->Int) (h:l[k]? = some e):(l.map f)[k]? = some (f e):=by rw [Pw,h]; rfl
theorem MS {M:aV}{n N:Nat}{F:Nat->Nat}{l:List (Rat×Nat×Nat)}{t:Rat} (h:Ht M n N F l t) {k W:Nat}{e:Rat×Nat×Nat} (he:l[k]? = some e) {b:LR} (hb:oc b) (J:RL b 2) (hbv:rv b=t / e.1)
  {nx:Hs}{rows:List (List LR)}{pre:List (Rat×Nat×Nat)}{Q:aV->Prop} (hW:W<=800) (hM:tF rows n n W (gC ((pre.map (xr t)).map (mG F))))
  (hnx:∀ I,tF I n n (W+9) (gC (((pre++[e]).map (xr t)).map (mG F)))->Gd (nx ([]::I)) Q):
  Gd (jV M (xy n) k b ([]::rows) nx) Q:=by
 obtain ⟨q,u,v⟩:=e;unfold jV;rw [h.fr,h.to];have f1:=B1 (λe:Rat×Nat×Nat=>(e.2.1:Int)) he;have f2:=B1 (λe:Rat×Nat×Nat=>(e.2.2:Int)) he;have new:∀ r c,gC (((pre++[(q,u,v)]).map (xr t)).map (mG F)) r c=gC ((pre.map (xr t)).map (mG F)) r c+rv b*(dl (F r) u-dl (F r) v)*(dl (F c) u-dl (F c) v):=λr c=>by
  rw [Qk,Qk];show gC (_++[_]) r c=_;rw [EM,hbv]; rfl
 refine Gd.ix (by omega) (by rw [O2]; exact f1) ?_
 refine Gd.eE (DN h u) ?_;rintro _ ⟨oi,rfl,i1,i2⟩;refine Gd.ix (by omega) (by rw [O2]; exact f2) ?_
 refine Gd.eE (DN h v) ?_;rintro _ ⟨oj,rfl,j1,j2⟩;refine Gd.ix (by omega) (by rw [O2]; exact f1) (Gd.ix (by omega) (by rw [O2]; exact f2) ?_)
 refine Gd.ite (λO=>?_) (λO=>?_)
 ·have e1:u=v:=by have:=O6 O; simp only at this; omega
  subst e1;unfold fN;refine hnx rows ((hM.mono (by omega)).congr (λr c _ _=>?_))
  rw [new]; grind
 ·have e1:u≠v:=λe=>by subst e; simp at O
  have hne:∀ i,oi=some i->oj≠some i:=λi hi hj=>by
   have:=(i1 i hi).2;have:=(j1 i hj).2;omega
  have Y:∀ I,tF I n n (W+9) (λr c=>gC ((pre.map (xr t)).map (mG F)) r c+rv b*(eo oi r*eo oi c)+rv b*(eo oj r*eo oj c)-rv b*(eo oi r*eo oj c)-rv b*(eo oj r*eo oi c))->Gd (nx ([]::I)) Q:=λI Z=>
   hnx I (Z.congr (λr c hr hc=>by rw [new,i2 r hr,i2 c hc,j2 r hr,j2 c hc]; grind))
  cases oi with
  | none=>
   refine Gd.ite (λh=>absurd h (by simp [Kq])) (λ_=>Ls (oi:=none) (hM.mono (show W<=W+3 by omega)) (by omega) hb J (λi hi=>(i1 i hi).1) (λj hj=>(j1 j hj).1) hne (λI Z=>Y I ((Z.mono (by omega)).congr (λr c _ _=>?_))))
   rw [tx,tx]; grind
  | some i=>
   have hi:=(i1 i rfl).1;show Gd (if (decide (0<=(i:Int))=true) then _ else _) Q
   refine Gd.ite (λ_=>?_) (λh=>absurd h (by simp))
   show Gd (idx (xy n) (i:Int) _) Q;refine oI hi (oI hi (r8 hM hi hi (λy1 a1 a2 a3=>Gd.eE (vM a1 hb a2 J (by omega)) (λr1 b1=>r8 hM hi hi (λ_ _ _ _=>?_)))))
   have h2:=(hM.mono (show W<=W+3 by omega)).CT hi hi (d:=rv b) b1.1 (b1.2.1.mono (by omega)) (by rw [b1.2.2,a3])
   refine Ls (oi:=some i) h2 (by omega) hb J (λi hi=>(i1 i hi).1) (λj hj=>(j1 j hj).1) hne (λI Z=>Y I ((Z.mono (by omega)).congr (λr c _ _=>?_)))
   rw [tz,tz]
structure Ld (rows:List (List LR)) (n:Nat) (A:Mt):Prop where
 ex:∃ m,Gj n A n m/\tF rows n n 6000 (λi c=>m i (n+c))
theorem GQ {M:aV}{n N:Nat}{F:Nat->Nat}{l:List (Rat×Nat×Nat)}{t:Rat} (h:Ht M n N F l t) {B:Mt}{L R:Nat->Rat} (hp:Pd n (gC ((l.map (xr t)).map (mG F)))) (hB:Nb n (gC ((l.map (xr t)).map (mG F))) L B R):
  Gd (mq M) (λM'=>∃ rows,M'={ M with qu:=rows }/\Ld rows n (gC ((l.map (xr t)).map (mG F)))):=by
 have hn:=h.hn;have hfl:M.pY.length=n:=by rw [h.free]; simp
 unfold mq;rw [hfl,O2,Qe];refine Gd.nd (by omega) (Gd.nd (by omega) ?_)
 rw [O2];refine Gd.jQ (λm i s=>i+m=n/\∃ pre:List (List LR),s=(D5 n i,[]::pre)/\tF pre i n 2 (λ_ _=>0)) ?_ ?_ n 0 _ ⟨by omega,[],by rw [Af],⟨rfl,λi hi=>by omega⟩⟩
 ·rintro m i _ nx ⟨him,pre,rfl,I⟩ Z
  have hi:i<n:=by omega
  unfold oT;rw [hfl];refine Gd.eE (yH (by omega)) ?_
  rintro _ ⟨z,rfl,hz⟩;refine Gd.ix (by omega) (by rw [O2]; exact Ei hi) (Z _ ⟨by omega,pre++[List.replicate n z],?_,I.snoc (by simp) (λc hc=>⟨z,by rw [Rh,O8 hc],hz.1,hz.2.1,hz.2.2⟩)⟩)
  rw [O2,Pa,I.len,zy hi]; rfl
 ·rintro i _ ⟨hi,pre,rfl,I⟩
  obtain rfl:i=n:=by omega
  show Gd (dR (λk y s1523 n=>jV M (D5 i i) k y s1523 n) _ 0 M.B_ ([]::pre)) _;rw [Ae];refine Gd.dR (λk ys s=>∃ (bs:List LR) (rows:List (List LR)),M.B_=bs++ys/\bs.length=k/\s=[]::rows/\tF rows i i (2+9*k) (gC (((l.take k).map (xr t)).map (mG F)))) ?_ ?_ M.B_ 0 _ ⟨[],pre,rfl,rfl,rfl,by rw [SY]; exact I⟩
  ·rintro k y ys _ nx ⟨bs,rows,J,O,rfl,hM⟩ Z
   have hy:M.B_[k]? = some y:=by rw [J,PB (by omega),O,Qg]; rfl
   obtain ⟨e,he,y1,y2,y3⟩:=h.b k y hy;have Y:=(O3.1 he).1;have hll:=h.ll;have e2:l.take (k+1)=l.take k++[e]:=by
    rw [Ps Y,(O3.1 he).2]
   refine MS h he y1 y2 y3 (by omega) hM (λrows' h'=>Z _ ⟨bs++[y],rows',by rw [J]; simp,by simp [O],rfl,?_⟩)
   rw [e2];exact h'.mono (by omega)
  ·rintro k _ ⟨bs,rows,J,O,rfl,hM⟩
   have hll:=h.ll;have hbl:=h.bl;rw [PH] at J;have Y:k=l.length:=by rw [<- hbl,J,O]
   rw [Y,QJ] at hM;show Gd ((pJ (qL (xy i) ([]::rows))).bind _) _;rw [A6 hM.len];refine Gd.eE (EK (by omega) (by omega) (by omega) hp (hM.mono (by omega)) (hB.rb hp (by omega))) (λr hr=>Gd.ret ⟨r.1,rfl,⟨hr.2⟩⟩)
abbrev Net:=aD
theorem Gd.forAll {R α Y:Type}{Q:R->Prop}{I:Nat->α->Y->(Y->Option R)->Option R}{k:Y->Option R}{l:List α} (P:α->Prop) (J:Y->Prop)
  (hb:∀ i y s n,y ∈ l->J s->(P y->∀ Z,J Z->Gd (n Z) Q)->Gd (I i y s n) Q) (hk:(∀ x ∈ l,P x)->∀ s,J s->Gd (k s) Q) (s:Y) (hs:J s):Gd (Sim.dR I k 0 l s) Q:=by
 have key:∀ (ys pre:List α) (i:Nat) (s:Y),l=pre++ys->(∀ x ∈ pre,P x)->J s->Gd (Sim.dR I k i ys s) Q:=by
  intro ys
  induction ys with
  | nil=>intro pre i s hl hp hs; exact hk (by rw [hl,PH]; exact hp) s hs
  | cons y ys ih=>
   intro pre i s hl hp hs;refine hb i y s _ (by rw [hl]; exact P5 _ (O5 ..)) hs (λhP Z hs'=>?_)
   exact ih (pre++[y]) (i+1) Z (by rw [hl]; simp) (λx O=>by
    rcases Pe.1 O with O | O
    ·exact hp x O
    ·simp at O; subst O; exact hP) hs'
 exact key l [] 0 s rfl (by simp) hs
theorem DH (s:OX) (h:s.size<=maxLen):Gd (bP s) (λ_=>True):=by
 unfold bP;refine Gd.nd h (Gd.dR (λ_ _ _=>True) (λi y ys s n _ hn=>?_) (λi s _=>Gd.ret O0) _ _ _ O0);unfold oX;exact Gd.ite (λ_=>Gd.ret O0) (λ_=>hn _ O0)
theorem BC (l:List OX) (p:OX):Gd (a_ l p) (λr=>(r = -1/\p ∉ l)\/∃ (k:Nat) (h:k<l.length),r=k/\l[k]=p):=by
 unfold a_;refine Gd.jQ (λm i _=>i+m=l.length/\p ∉ l.take i) ?_ ?_ (l.length:Int).toNat 0 () ⟨by omega,by simp⟩
 ·intro m i _ J ⟨hi,hno⟩ hnx
  unfold lg;refine Gd.gS (by omega) (Gd.ite (λh=>Gd.ret (.inr ⟨i,by omega,rfl,?_⟩)) (λh=>hnx () ⟨by omega,?_⟩))
  ·have:p=l[i]:=by simpa using h
   exact this.symm
  ·rw [Ps (by omega),Pe,PE]
   rintro (I | I)
   ·exact hno I
   ·simp [I] at h
 ·intro i _ ⟨hi,hno⟩
  rw [Pg (by omega)] at hno
  exact Gd.ret (.inl ⟨rfl,hno⟩)
theorem xT {l:List OX}{p:OX} (h:p ∈ l):∃ k:Nat,a_ l p=some (k:Int)/\∃ J:k<l.length,l[k]=p:=by
 obtain ⟨r,Y,O⟩:=BC l p;rcases O with ⟨_,I⟩ | ⟨k,J,rfl,e⟩
 ·exact absurd h I
 ·exact ⟨k,Y,J,e⟩
theorem tD (l:List OX) (p:OX):Gd (bG l p) (λb=>b=true↔p ∈ l):=by
 unfold bG;refine Gd.eE (BC l p) (λr J=>Gd.ret ?_);rcases J with ⟨rfl,I⟩ | ⟨k,O,rfl,e⟩
 ·simp [I]
 ·have:p ∈ l:=e▸PC _
  simp [this]
theorem tI (c:aQ) (name:OX) (nodes:List OX) (h:name.size<=maxLen):
  Gd (cB c name nodes) (λr=>r.1=0->∀ x ∈ nodes,x ∈ c.nodes):=by
 unfold cB;refine Gd.eE (DH name h) (λa _=>Gd.ite (λ_=>Gd.ret (λh=>by simp at h)) (λ_=>Gd.ite (λ_=>Gd.ret (λh=>by simp at h)) (λ_=>?_)))
 refine Gd.forAll (λx=>x ∈ c.nodes) (λ_=>True) ?_ ?_ () O0
 ·intro i y s n Y _ hn
  unfold gK;refine Gd.eE (tD c.nodes y) (λb J=>Gd.ite (λ_=>Gd.ret (λh=>by simp at h)) (λh=>hn (J.1 (by simpa using h)) _ O0))
 ·intro I s _
  refine Gd.ite (λh=>?_) (λ_=>Gd.ret (λ_=>I));have O:nodes.length=2:=by
   have:((nodes.length:Nat):Int)=2:=by simpa using h
   omega
  have e1:(0:Int)=((0:Nat):Int):=rfl;have e2:(1:Int)=((1:Nat):Int):=rfl;rw [e1,e2];exact Gd.gS (by omega) (Gd.gS (by omega) (Gd.ite (λ_=>Gd.ret (λh=>by simp at h)) (λ_=>Gd.ret (λ_=>I))))
structure px (n:Net):Prop where
 nd:∀ x ∈ n.bC,x.size<=maxLen
 sw:∀ x ∈ n.aM,x.Name.size<=maxLen
 br:∀ x ∈ n.aG,x.Name.size<=maxLen
 gn:∀ x ∈ n.dL,x.Name.size<=maxLen
 ld:∀ x ∈ n.bA,x.Name.size<=maxLen
 st:∀ x ∈ n.bT,x.Name.size<=maxLen
structure oG (n:Net):Prop where
 l1:n.bC.length<=24
 l2:n.aM.length<=32
 l3:n.aG.length<=24
 l4:n.dL.length<=10
 l5:n.bA.length<=12
 sw:∀ x ∈ n.aM,x.A ∈ n.bC/\x.B_ ∈ n.bC
 br:∀ x ∈ n.aG,x.oN ∈ n.bC/\x.To ∈ n.bC
 gn:∀ x ∈ n.dL,x.Node ∈ n.bC/\0<=x.iJ/\x.iJ<=x.qa/\x.qa<=100000
 ld:∀ x ∈ n.bA,x.Node ∈ n.bC/\0<=x.cW/\x.cW<=100000
theorem J1 (c:aQ) (n:Net) (Z:px n):
  Gd (fO c n) (λr=>r.1=0->(∀ x ∈ n.dL,x.Node ∈ c.nodes/\0<=x.iJ/\x.iJ<=x.qa/\x.qa<=100000)/\(∀ x ∈ n.bA,x.Node ∈ c.nodes/\0<=x.cW/\x.cW<=100000)):=by
 unfold fO;refine Gd.forAll (λx=>x.Node ∈ c.nodes/\0<=x.iJ/\x.iJ<=x.qa/\x.qa<=100000) (λ_=>True) ?_ ?_ _ O0
 ·intro i y s nx J _ hn
  unfold iN;refine Gd.eE (tI _ _ _ (Z.gn y J)) (λr O=>Gd.ite (λh=>Gd.ret (λI=>absurd I (by simpa using h))) (λh=>Gd.ite (λ_=>Gd.ret (λI=>by simp at I)) (λI=>hn ?_ _ O0)))
  have Y:r.1=0:=by simpa using h
  have:=O Y y.Node (by simp)
  simp [aT,bF] at I;exact ⟨this,by omega,by omega,by omega⟩
 ·intro hg s _
  refine Gd.forAll (λx=>x.Node ∈ c.nodes/\0<=x.cW/\x.cW<=100000) (λ_=>True) ?_ ?_ _ O0
  ·intro i y s nx J _ hn
   unfold iP;refine Gd.eE (tI _ _ _ (Z.ld y J)) (λr O=>Gd.ite (λh=>Gd.ret (λI=>absurd I (by simpa using h))) (λh=>Gd.ite (λ_=>Gd.ret (λI=>by simp at I)) (λI=>hn ?_ _ O0)))
   have Y:r.1=0:=by simpa using h
   have:=O Y y.Node (by simp)
   simp [aT,bF] at I;exact ⟨this,by omega,by omega⟩
  ·intro hl s _
   refine Gd.forAll (λ_=>True) (λ_=>True) ?_ ?_ _ O0
   ·intro i y s nx J _ hn
    unfold iQ;refine Gd.eE (tI _ _ _ (Z.st y J)) (λr O=>Gd.ite (λh=>Gd.ret (λI=>absurd I (by simpa using h))) (λh=>Gd.ite (λ_=>Gd.ret (λI=>by simp at I)) (λ_=>hn O0 _ O0)))
   ·intro _ s _
    exact Gd.ret λ_=>⟨hg,hl⟩
theorem HV (n:Net) (Z:px n):Gd (bV n) (λe=>e=0->oG n):=by
 unfold bV;refine Gd.ite (λ_=>Gd.ret (λh=>by simp at h)) (λhl=>?_)
 simp only [TC,UB,Int.not_lt] at hl;refine Gd.forAll (λ_=>True) (λ_=>True) ?_ ?_ _ O0
 ·intro i y s nx Y _ hn
  unfold mu;exact Gd.eE (tI _ _ _ (Z.nd y Y)) (λr I=>Gd.ite (λh=>Gd.ret (λJ=>absurd J (by simpa using h))) (λh=>hn O0 _ O0))
 intro _ s _;refine Gd.forAll (λx=>x.A ∈ n.bC/\x.B_ ∈ n.bC) (λ_=>True) ?_ ?_ _ O0
 ·intro i y s nx Y _ hn
  unfold mw;refine Gd.eE (tI _ _ _ (Z.sw y Y)) (λr I=>Gd.ite (λh=>Gd.ret (λJ=>absurd J (by simpa using h))) (λh=>hn ?_ _ O0))
  have O:r.1=0:=by simpa using h
  exact ⟨I O y.A (by simp),I O y.B_ (by simp)⟩
 intro hsw s _;refine Gd.forAll (λx=>x.oN ∈ n.bC/\x.To ∈ n.bC) (λ_=>True) ?_ ?_ _ O0
 ·intro i y s nx Y _ hn
  unfold my;refine Gd.eE (tI _ _ _ (Z.br y Y)) (λr I=>Gd.ite (λh=>Gd.ret (λJ=>absurd J (by simpa using h))) (λh=>Gd.ite (λh=>Gd.ret (λJ=>absurd J (by simpa using h))) (λ_=>hn ?_ _ O0)))
  have O:r.1=0:=by simpa using h
  exact ⟨I O y.oN (by simp),I O y.To (by simp)⟩
 intro hbr s _;refine Gd.eE (J1 _ n Z) (λr I=>Gd.ret (λh=>?_));obtain ⟨hg,hl2⟩:=I h;exact ⟨by omega,by omega,by omega,by omega,by omega,hsw,hbr,hg,hl2⟩
def CV (N:Nat) (l:List bW):Prop:=∀ e ∈ l,0<=e.a0/\e.a0<N/\0<=e.a1/\e.a1<N
structure x9 (N:Nat) (many:Int) (out:List Int):Prop where
 len:out.length=N
 JI:∀ v ∈ out,-1<=v/\v<many
def zw (N:Nat) (l:List Int):Prop:=∀ a ∈ l,0<=a/\a<(N:Int)
def rl (out:List Int):Nat:=out.countP (λv=>decide (v<0))
theorem x9.set {N:Nat}{many:Int}{out:List Int} (h:x9 N many out) {v:Int} (J:0<=v/\v<many) (i:Nat):x9 N many (out.set i v):=
 ⟨by simp [h.len],λx I=>by
  rcases TY I with I | rfl
  ·exact h.JI x I
  ·omega⟩
theorem DE {out:List Int}{i:Nat} (hi:i<out.length) (hn:out[i]<0) {v:Int} (Y:0<=v):rl (out.set i v)+1=rl out:=by
 unfold rl;rw [List.countP_set hi];have I:decide (out[i]<0)=true:=UC hn;have O:decide (v<0)=false:=UA (by omega)
 rw [I,O];have J:0<out.countP (λv=>decide (v<0)):=List.countP_pos_iff.2 ⟨_,PC hi,I⟩;simp;omega
def xt (a b:List Int):Prop:=∀ (i:Nat) (v:Int),a[i]? = some v->0<=v->∃ w,b[i]? = some w/\0<=w
theorem xt.refl (a:List Int):xt a a:=λi v h I=>⟨v,h,I⟩
theorem xt.set {a b:List Int} (h:xt a b) (i:Nat) {v:Int} (Y:0<=v):xt a (b.set i v):=by
 intro j w O Z;obtain ⟨u,J,I⟩:=h j w O Z
 by_cases e:i=j
 ·subst e
  exact ⟨v,by simp [(O3.1 J).1],Y⟩
 ·exact ⟨u,by rw [Pq e]; exact J,I⟩
theorem I3 (N:Nat) (hN:N<=24) (l:List bW) (hl:CV N l) (hll:l.length<=64) (wo:Int):Gd (od N l wo) (λr=>r.length=N/\∀ v ∈ r,0<=v/\v<N):=by
 unfold od;refine Gd.nd ⟨rfl,by omega,by omega⟩ (Gd.nd (by omega) ?_)
 rw [wX];refine Gd.jQ (λm i s=>i+m=N/\0<=s.2/\s.2<=(i:Int)/\x9 N s.2 s.1/\∀ (j:Nat) (v:Int),j<i->s.1[j]? = some v->0<=v) ?_ ?_ (N:Int).toNat 0 (List.replicate N (-1),0) ⟨by omega,by simp,by simp,⟨by simp,by simp⟩,by simp⟩
 ·rintro m i ⟨out,many⟩ nx ⟨hi,h0,hmi,hp,hk⟩ hn
  simp only at h0 hmi hp hk;have hilt:i<out.length:=by rw [hp.len]; omega
  unfold pO;refine Gd.gS hilt (Gd.ite (λh=>?_) (λh=>?_))
  ·have hge:0<=out[i]:=by simpa using h
   unfold jD;refine hn _ ⟨by omega,h0,by show many<=((i+1:Nat):Int); omega,hp,λj v hj hv=>?_⟩
   by_cases e:j=i
   ·subst e
    rw [OZ hilt] at hv;cases hv; exact hge
   ·exact hk j v (by omega) hv
  ·have hneg:out[i]<0:=by simpa using h
   refine Gd.gS hilt ?_;rw [O2];have hw:i64.wrap (many+1)=many+1:=bQ ⟨by omega,by omega⟩
   have hp1:x9 N (many+1) out:=⟨hp.len,λv hv=>by have:=hp.JI v hv; omega⟩
   have Z:2*rl (out.set i many)+[(i:Int)].length<=2*N+1:=by
    have hc:rl (out.set i many)<=N:=by unfold rl; rw [<- hp.len,<- Qh (as:=out) (i:=i) (a:=many)]; exact Rz
    simp only [P2]; omega
   refine Gd.gG (λ(s:List Int×List Int)=>x9 N (many+1) s.1/\xt (out.set i many) s.1/\zw N s.2/\2*rl s.1+s.2.length<=2*N+1) (λs=>2*rl s.1+s.2.length) ?_ fA _ ⟨hp1.set ⟨h0,by omega⟩ i,xt.refl _,by intro a ha; simp at ha; omega,Z⟩ ?_
   ·rintro ⟨o,todo⟩ nx2 ⟨hq,hkp,htd,htot⟩ hn2
    simp only at hq hkp htd htot;unfold pP;refine Gd.ite (λhne=>?_) (λ_=>?_)
    ·have hne:0<todo.length:=by
      have:(0:Int)<((todo.length:Nat):Int):=by simpa using hne
      omega
     obtain ⟨at_,ts,rfl⟩:∃ a ts,todo=a::ts:=by
      cases todo with
      | nil=>simp at hne
      | cons a ts=>exact ⟨a,ts,rfl⟩
     refine Gd.ix (y:=at_) (by decide) rfl (Gd.nd ⟨by omega,by simp only [Pa]; omega⟩ ?_)
     have hat:=htd at_ (O5 ..);have hsl:se (at_::ts) (1:Int).toNat (at_::ts).length=ts:=by
      unfold se;rw [show (1:Int).toNat=1 from rfl,Tn,Qi,Pg (by simp)]
     rw [hsl];simp only [Pa] at htot;have push:∀ (b:List Int) (td:List Int) (q:Int) (nn:(List Int×List Int)->Option (List Int)),0<=q->q<N->x9 N (many+1) b->xt (out.set i many) b->zw N td->2*rl b+td.length<=2*rl o+ts.length ->
       (∀ s',(x9 N (many+1) s'.1/\xt (out.set i many) s'.1/\zw N s'.2/\2*rl s'.1+s'.2.length<=2*rl o+ts.length)->Gd (nn s') (λr=>r.length=N/\∀ v ∈ r,0<=v/\v<N)) ->
       Gd (Sim.idx b q λy7689=>if decide (y7689<0) then (Sim.idx b q λy7694=>dF ((td.length+([q]).length)*8<=140737488355328) (d_ nn (b.set (q:Int).toNat many) (td++([q])))) else (d_ nn b td)) (λr=>r.length=N/\∀ v ∈ r,0<=v/\v<N):=by
      intro b td q nn q0 qN hb J I O Y;have hql:q.toNat<b.length:=by rw [hb.len]; omega
      have hget:b[q.toNat]? = some b[q.toNat]:=OZ hql;unfold d_;refine Gd.ix q0 hget (Gd.ite (λh=>Gd.ix q0 hget (Gd.nd ?_ (Y _ ⟨hb.set ⟨h0,by omega⟩ _,J.set _ h0,?_,?_⟩))) (λh=>Y _ ⟨hb,J,I,O⟩))
      ·have h1:b[q.toNat]<0:=by simpa using h
       have hc:rl o<=N:=by unfold rl; rw [<- hq.len]; exact Rz
       simp;omega
      ·intro a ha
       rcases Pe.1 ha with ha | ha
       ·exact I a ha
       ·simp at ha; omega
      ·have h1:b[q.toNat]<0:=by simpa using h
       have:=DE hql h1 h0;simp;omega
     have hc:rl o<=N:=by unfold rl; rw [<- hq.len]; exact Rz
     ·refine Gd.forAll (λ_=>True) (λ(s:List Int×List Int)=>x9 N (many+1) s.1/\xt (out.set i many) s.1/\zw N s.2/\2*rl s.1+s.2.length<=2*rl o+ts.length) ?_ ?_ _ ⟨hq,hkp,(λa ha=>htd a (O9 _ ha):zw N ts),Pn (2*rl o+ts.length)⟩
      ·rintro k e ⟨b,td⟩ nn he ⟨hb,J,I,O⟩ Y
       simp only at hb J I O;obtain ⟨e1,e2,e3,e4⟩:=hl e he;have hw1:i64.wrap (e.a0+e.a1)=e.a0+e.a1:=bQ ⟨by omega,by omega⟩
       have hw2:i64.wrap (e.a0+e.a1-at_)=e.a0+e.a1-at_:=bQ ⟨by omega,by omega⟩
       unfold pQ;rw [hw1,hw2];refine Gd.ite (λ_=>Y O0 _ ⟨hb,J,I,O⟩) (λ_=>Gd.ite (λh=>?_) (λ_=>Gd.ite (λ_=>Y O0 _ ⟨hb,J,I,O⟩) (λh=>?_)))
       ·have h:e.a0=at_:=by simpa using h
        exact push b td _ nn (by omega) (by omega) hb J I O (λs' hs'=>Y O0 s' hs')
       ·have h:e.a1=at_:=by simpa using h
        exact push b td _ nn (by omega) (by omega) hb J I O (λs' hs'=>Y O0 s' hs')
      ·rintro _ ⟨b,td⟩ ⟨hb,J,I,O⟩
       simp only at hb J I O;exact hn2 _ ⟨hb,J,I,by show 2*rl b+td.length<=2*N+1; omega⟩ (by simp only [Pa]; omega)
    ·unfold jD
     rw [hw];refine hn _ ⟨by omega,by show (0:Int)<=many+1; omega,by show many+1<=((i+1:Nat):Int); omega,hq,λj v hj hv=>?_⟩
     have hjl:j<out.length:=by omega
     have hbase:∃ w,(out.set i many)[j]? = some w/\0<=w:=by
      by_cases e:i=j
      ·subst e; exact ⟨many,by simp [hilt],h0⟩
      ·exact ⟨out[j],by rw [Pq e]; exact OZ hjl,hk j _ (by omega) (OZ hjl)⟩
     obtain ⟨w,hw1,hw0⟩:=hbase;obtain ⟨u,hu,hu0⟩:=hkp j w hw1 hw0;simp only at hv;rw [hu] at hv; cases hv; exact hu0
   ·refine RS Z ?_
    unfold fA; omega
 ·rintro i ⟨out,many⟩ ⟨hi,h0,hmi,hp,hk⟩
  simp only at h0 hmi hp hk;refine Gd.ret ⟨hp.len,λv hv=>?_⟩;obtain ⟨j,hj,hje⟩:=Qc.1 hv;have hj:j<out.length:=hj;have h1:=hp.JI v hv;have h2:=hk j v (by have:=hp.len; omega) (by rw [OZ hj]; exact P4 some hje)
  omega
theorem Bx (N:Nat) (hN:N<=24) (l:List bW) (hl:CV N l) (I:l.length<=64):qQ N l=some 0:=by
 rw [<- Gd.eq];unfold qQ;refine Gd.ite (λh=>?_) (λ_=>Gd.forAll (Q:=λx=>x=0) (λ_=>True) (λ_=>True) ?_ (λ_ _ _=>Gd.ret rfl) _ O0)
 ·simp at h; omega
 ·intro i e s n he _ hn
  obtain ⟨e1,e2,J,O⟩:=hl e he;unfold ss;exact Gd.ite (λh=>by simp at h; omega) (λ_=>Gd.ite (λh=>by simp at h; omega) (λ_=>Gd.ite (λh=>by simp at h; omega) (λ_=>Gd.ite (λh=>by simp at h; omega) (λ_=>hn O0 _ O0))))
theorem HY (N:Nat) (hN:N<=24) (l:List bW) (hl:CV N l) (I:l.length<=64):Gd (iK N l) (λr=>r.1.length=N/\zw N r.1):=by
 unfold iK;refine Gd.bind_eq (Bx N hN l hl I) (Gd.ite (λh=>by simp at h) (λ_=>Gd.eE (I3 N hN l hl I (-1)) (λr J=>Gd.ret J)))
theorem Im (n:Net) (hn:oG n) (o:Bool):Gd (pD n o) (λr=>r.1.length<=32/\CV n.bC.length r.1):=by
 unfold pD;refine Gd.dR (λi ys s=>i+ys.length=n.aM.length/\(∀ y ∈ ys,y ∈ n.aM)/\s.1.length<=i/\s.2.length<=i/\CV n.bC.length s.1) ?_ ?_ _ _ _ ⟨by simp,λ_ h=>h,by simp,by simp,by intro e he; simp at he⟩
 ·rintro i y ys ⟨a,b⟩ nx ⟨hi,hm,Z,hb,he⟩ J
  simp only [Pa] at hi Z hb he;have h2:=hn.l2;have O:∀ z ∈ ys,z ∈ n.aM:=λz hz=>hm z (O9 _ hz);unfold rj ni;refine Gd.ite (λ_=>?_) (λ_=>J _ ⟨by omega,O,by simp only; omega,by simp only; omega,he⟩)
  obtain ⟨h1,Y⟩:=hn.sw y (hm y (O5 ..));obtain ⟨p,hp,hpl,_⟩:=xT h1;obtain ⟨q,hq,hql,_⟩:=xT Y;refine Gd.bind_eq hp (Gd.bind_eq hq (Gd.nd (by simp; omega) (Gd.nd (by simp; omega) (J _ ⟨by omega,O,by simp; omega,by simp; omega,?_⟩))))
  intro e I;rcases Pe.1 I with I | I
  ·exact he e I
  ·simp at I; subst I
   exact ⟨by simp only; omega,by simp only; omega,by simp only; omega,by simp only; omega⟩
 ·rintro i ⟨a,b⟩ ⟨hi,hm,Z,hb,he⟩
  have h2:=hn.l2;simp only [TW] at hi Z;exact Gd.ret ⟨by simp only; omega,he⟩
theorem HU (n:Net) (hn:oG n):Gd (nK n) (λr=>r.length=n.bC.length/\zw n.bC.length r):=by
 unfold nK;refine Gd.eE (Im n hn false) (λr I=>?_);have J:=hn.l1;exact Gd.eE (HY n.bC.length hn.l1 r.1 I.2 (by omega)) (λr I=>Gd.ret I)
structure N9 (n:Net) (t:aW):Prop where
 bl:t.pw.length=n.bC.length
 bi:zw t.bK.length t.pw
 ii:zw t.bK.length t.bK
 il:t.bK.length<=24
theorem Kh {R:Type}{Q:R->Prop} (N:Nat) (hN:N<=24) (I:Nat->Int->Int->(Int->Option R)->Option R) (hb:∀ k y n Z,I k y n Z=Z (max n (i64.wrap (y+1)))) (K:Int->Option R) (l:List Int) (hl:zw N l)
  (hk:∀ m:Nat,m<=N->zw m l->Gd (K (m:Int)) Q):Gd (dR I K 0 l 0) Q:=by
 have key:∀ (ys pre:List Int) (i m:Nat),l=pre++ys->m<=N->zw m pre->Gd (dR I K i ys (m:Int)) Q:=by
  intro ys
  induction ys with
  | nil=>intro pre i m e hm Y; rw [PH] at e; subst e; exact hk m hm Y
  | cons y ys ih=>
   intro pre i m e hm Y;have hy:=hl y (by rw [e]; exact P5 _ (O5 ..))
   show Gd (I i y (m:Int) (λs=>dR I K (i+1) ys s)) Q;rw [hb,bQ ⟨by omega,by omega⟩]
   have O:max (m:Int) (y+1)=((max m (y+1).toNat:Nat):Int):=by omega
   rw [O];refine ih (pre++[y]) (i+1) _ (by rw [e]; simp) (by omega) (λa J=>?_)
   rcases Pe.1 J with J | J
   ·have:=Y a J; omega
   ·simp at J; subst J; omega
 have:=key l [] 0 0 rfl (by omega) (by intro a J; simp at J)
 exact this
abbrev BA:=OX
abbrev Seen:=List (OX×Bool)
theorem IN (l:List (OX×Bool)) (k I:OX):(qK (uv l k true) I).getD false=((qK l I).getD false || decide (k=I)):=by
 have key:∀ (l:List (OX×Bool)) (i:Nat),(∀ p,vq l I i=some p->vq (l++[(k,true)]) I i=some p)/\(vq l I i=none->vq (l++[(k,true)]) I i=if k=I then some (i+l.length,true) else none):=by
  intro l
  induction l with
  | nil=>intro i; refine ⟨λp h=>by simp [vq] at h,λ_=>?_⟩; simp [vq]
  | cons q l ih=>
   obtain ⟨a,b⟩:=q;intro i;simp only [Q9,vq]
   by_cases h:a=I
   ·simp [h]
   ·simp only [h,Q6]
    refine ⟨(ih (i+1)).1,λhn=>?_⟩;rw [(ih (i+1)).2 hn];simp; split
    ·simp; omega
    ·rfl
 have J:∀ (l:List (OX×Bool)) (i j:Nat) (v:Bool),vq l k i=some (j,v)->qK (l.set (j-i) (k,true)) I=if k=I then some true else qK l I:=by
  intro l;unfold qK;have:∀ (l:List (OX×Bool)) (i j:Nat) (v:Bool) (q:Nat),vq l k i=some (j,v)->((vq (l.set (j-i) (k,true)) I q).map (·.2))=if k=I then some true else (vq l I q).map (·.2):=by
   intro l
   induction l with
   | nil=>intro i j v q h; simp [vq] at h
   | cons p l ih=>
    obtain ⟨a,b⟩:=p;intro i j v q h;simp only [vq] at h
    split at h
    ·rename_i e
     simp only [Pk,Rc] at h;obtain ⟨rfl,rfl⟩:=h;subst e;rw [Qg,List.set_cons_zero];simp only [vq]
     by_cases e:a=I <;> simp [e]
    ·rename_i e
     obtain ⟨Z,O,_⟩:=EP h;rw [show j-i=(j-(i+1))+1 by omega,List.set_cons_succ]
     simp only [vq];have:=ih (i+1) j v (q+1) h
     by_cases e2:a=I
     ·subst e2
      have Y:k≠a:=λx=>e x.symm;simp [Y]
     ·simp only [e2,Q6]; exact this
  intro i j v h;exact this l i j v 0 h
 unfold uv;cases h:vq l k 0 with
 | none=>
  simp only;unfold qK;cases O:vq l I 0 with
  | none=>
   rw [(key l 0).2 O]
   by_cases e:k=I <;> simp [e]
  | some p=>
   rw [(key l 0).1 p O]
   by_cases e:k=I
   ·subst e; rw [h] at O; cases O
   ·simp [e]
 | some p=>
  obtain ⟨j,v⟩:=p;simp only;have:=J l 0 j v h;rw [RT] at this;rw [this]
  by_cases e:k=I <;> simp [e]
def oO (P:List BA) (s:Seen):Prop:=∀ k:BA,(qK s k).getD false=true↔k ∈ P
theorem oO.nil:oO [] ([]:Seen):=λk=>by simp [qK,vq]
theorem oO.put {P:List BA}{s:Seen} (h:oO P s) (k:BA):oO (P++[k]) (uv s k true):=λI=>by
 rw [IN,Qy,h I,Pe,PE,PK];exact or_congr Iff.rfl ⟨λe=>e.symm,λe=>e.symm⟩
structure MD (ns P:List BA) (name:BA) (nodes:List BA):Prop where
 nm:bP name=some true
 nw:name ∉ P
 at_:∀ x ∈ nodes,x ∈ ns
 two:∀ a b,nodes=[a,b]->a≠b
theorem tH {c:aQ}{P:List BA} (hs:oO P c.seen) {name:BA} (nodes:List BA) (h:name.size<=maxLen):
  Gd (cB c name nodes) (λr=>r.1=0->MD c.nodes P name nodes/\oO (P++[name]) r.2.seen):=by
 unfold cB;obtain ⟨b,Y,_⟩:=DH name h;refine Gd.bind_eq Y (Gd.ite (λ_=>Gd.ret (λh=>by simp at h)) (λJ=>Gd.ite (λ_=>Gd.ret (λh=>by simp at h)) (λhsn=>?_)))
 have J:b=true:=by simpa using J
 subst J;have Z:name ∉ P:=λhm=>by rw [(hs name).2 hm] at hsn; cases hsn
 refine Gd.forAll (λx=>x ∈ c.nodes) (λ_=>True) ?_ ?_ () O0
 ·intro i y s n hy _ hn
  unfold gK;refine Gd.eE (tD c.nodes y) (λb Y=>Gd.ite (λ_=>Gd.ret (λh=>by simp at h)) (λh=>hn (Y.1 (by simpa using h)) _ O0))
 ·intro I s _
  refine Gd.ite (λh=>?_) (λh2=>Gd.ret (λ_=>⟨⟨Y,Z,I,λa b e=>?_⟩,hs.put name⟩))
  ·have h2:nodes.length=2:=by
    have:((nodes.length:Nat):Int)=2:=by simpa using h
    omega
   obtain ⟨a,b,rfl⟩:∃ a b,nodes=[a,b]:=by
    match nodes,h2 with
    | [a,b],_=>exact ⟨a,b,rfl⟩
   refine Gd.ix (y:=a) (by decide) rfl (Gd.ix (y:=b) (by decide) rfl (Gd.ite (λ_=>Gd.ret (λh=>by simp at h)) (λO=>Gd.ret (λ_=>⟨⟨Y,Z,I,λp q e=>?_⟩,hs.put name⟩))))
   have O:a≠b:=by simpa using O
   simp at e;rw [<- e.1,<- e.2]; exact O
  ·subst e
   simp at h2
theorem uX {c:aQ}{P:List BA} (hs:oO P c.seen) {name:BA}{nodes:List BA} (h:MD c.nodes P name nodes):
  cB c name nodes=some (0,⟨uv c.seen name true,c.nodes⟩):=by
 rw [<- Gd.eq];unfold cB;refine Gd.bind_eq h.nm (Gd.ite (λh=>by simp at h) (λ_=>Gd.ite (λY=>absurd ((hs name).1 Y) h.nw) (λ_=>?_)))
 refine Gd.forAll (λ_=>True) (λ_=>True) ?_ ?_ () O0
 ·intro i y s n hy _ hn
  unfold gK;refine Gd.eE (tD c.nodes y) (λb Z=>Gd.ite (λJ=>?_) (λ_=>hn O0 _ O0));have:=Z.2 (h.at_ y hy);simp [this] at J
 ·intro _ s _
  refine Gd.ite (λI=>?_) (λ_=>Gd.ret rfl);have I:nodes.length=2:=by
   have:((nodes.length:Nat):Int)=2:=by simpa using I
   omega
  obtain ⟨a,b,rfl⟩:∃ a b,nodes=[a,b]:=by
   match nodes,I with
   | [a,b],_=>exact ⟨a,b,rfl⟩
  have O:=h.two a b rfl;exact Gd.ix (y:=a) (by decide) rfl (Gd.ix (y:=b) (by decide) rfl (Gd.ite (λe=>absurd (by simpa using e) O) (λ_=>Gd.ret rfl)))
def names (n:Net):List BA:=n.bC++n.aM.map (·.Name)++n.aG.map (·.Name)++n.dL.map (·.Name)++n.bA.map (·.Name)++n.bT.map (·.Name)
theorem tL {R α:Type}{Q:R->Prop}{I:Nat->α->Seen->(Seen->Option R)->Option R}{k:Seen->Option R}{l:List α} (nm:α->BA) (P:List BA)
  (Y:∀ (i:Nat) (y:α) (s:Seen) (n:Seen->Option R) (pre:List α),(∃ O,l=pre++y::O)->oO (P++pre.map nm) s->Gd (n (uv s (nm y) true)) Q->Gd (I i y s n) Q) (Z:∀ s,oO (P++l.map nm) s->Gd (k s) Q) (s:Seen) (hs:oO P s):Gd (dR I k 0 l s) Q:=by
 refine Gd.seen (λpre s=>oO (P++pre.map nm) s) ?_ Z s (by simpa using hs)
 intro i y s n pre J hs hn;refine Y i y s n pre J hs (hn _ ?_);have:=hs.put (nm y);rw [Qk,<- Pv]; exact this
theorem sk {R α:Type}{Q:R->Prop}{I:Nat->α->Seen->(Seen->Option R)->Option R}{k:Seen->Option R}{l:List α} (nm:α->BA) (P:List BA) (C:α->Prop)
  (Z:∀ (i:Nat) (y:α) (s:Seen) (n:Seen->Option R) (pre:List α),y ∈ l->oO (P++pre.map nm) s->(nm y ∉ P++pre.map nm->C y->∀ s',oO (P++pre.map nm++[nm y]) s'->Gd (n s') Q)->Gd (I i y s n) Q)
  (hk:∀ s,oO (P++l.map nm) s->(∀ x ∈ l,C x)->(P.Nodup->(P++l.map nm).Nodup)->Gd (k s) Q) (s:Seen) (hs:oO P s):Gd (dR I k 0 l s) Q:=by
 refine Gd.seen (λpre s=>oO (P++pre.map nm) s/\(∀ x ∈ pre,C x)/\(P.Nodup->(P++pre.map nm).Nodup)) ?_ (λs h=>hk s h.1 h.2.1 h.2.2) s ⟨by simpa using hs,by simp,λh=>by simpa using h⟩
 rintro i y s n pre Y ⟨h1,h2,h3⟩ hn;refine Z i y s n pre (vL Y).2.1 h1 (λO hC s' hs'=>hn s' ⟨by rw [Qk,<- Pv]; exact hs',λx J=>?_,λhP=>?_⟩)
 ·rcases Pe.1 J with J | J
  ·exact h2 x J
  ·simp at J; subst J; exact hC
 ·rw [Qk,<- Pv,PW]
  refine ⟨h3 hP,by simp,λa ha b Z=>?_⟩
  simp at Z; subst Z
  intro e; subst e; exact O ha
def Dp (g:bE):Bool:=!(((!(aT g.iJ)) || (bF g.qa g.iJ 100000)) || (!(aT g.Bc)))
def BK (s:cE):Bool:=!(((!(aT s.rD)) || (!(aT s.Discharge))) || (!(aT s.tP)))
structure oh (n:Net):Prop where
 l1:n.bC.length<=24
 l2:n.aM.length<=32
 l3:n.aG.length<=24
 l4:n.dL.length<=10
 l5:n.bA.length<=12
 l6:n.bT.length<=4
 nd:(names n).Nodup
 vn:∀ x ∈ n.bC,bP x=some true
 vs:∀ x ∈ n.aM,bP x.Name=some true/\x.A ∈ n.bC/\x.B_ ∈ n.bC/\x.A≠x.B_
 vb:∀ x ∈ n.aG,bP x.Name=some true/\x.oN ∈ n.bC/\x.To ∈ n.bC/\x.oN≠x.To/\gX x=0
 vg:∀ x ∈ n.dL,bP x.Name=some true/\x.Node ∈ n.bC/\Dp x=true
 vl:∀ x ∈ n.bA,bP x.Name=some true/\x.Node ∈ n.bC/\aT x.cW=true
 vt:∀ x ∈ n.bT,bP x.Name=some true/\x.Node ∈ n.bC/\BK x=true
theorem Tu (n:Net) (hz:px n):Gd (bV n) (λe=>e=0->oh n):=by
 unfold bV;refine Gd.ite (λ_=>Gd.ret (λh=>by simp at h)) (λhl=>?_)
 simp only [TC,UB,Int.not_lt] at hl;refine sk (id:BA->BA) [] (λx=>bP x=some true) ?_ ?_ _ oO.nil
 ·intro i y s nx pre Y hs hn
  unfold mu;exact Gd.eE (tH (c:=⟨s,n.bC⟩) hs [] (hz.nd y Y)) (λr O=>Gd.ite (λh=>Gd.ret (λI=>absurd I (by simpa using h))) (λh=>by
   obtain ⟨J,I⟩:=O (by simpa using h)
   exact hn J.nw J.nm _ I))
 intro s hs hvn hnd1;simp only [List.map_id,Qz] at hs hnd1;refine sk (λx:aX=>x.Name) _ (λx=>bP x.Name=some true/\x.A ∈ n.bC/\x.B_ ∈ n.bC/\x.A≠x.B_) ?_ ?_ _ hs
 ·intro i y s nx pre Y hs hn
  unfold mw;exact Gd.eE (tH (c:=⟨s,n.bC⟩) hs [y.A,y.B_] (hz.sw y Y)) (λr O=>Gd.ite (λh=>Gd.ret (λI=>absurd I (by simpa using h))) (λh=>by
   obtain ⟨J,I⟩:=O (by simpa using h)
   exact hn J.nw ⟨J.nm,J.at_ _ (by simp),J.at_ _ (by simp),J.two _ _ rfl⟩ _ I))
 intro s hs hvs hnd2;refine sk (λx:aP=>x.Name) _ (λx=>bP x.Name=some true/\x.oN ∈ n.bC/\x.To ∈ n.bC/\x.oN≠x.To/\gX x=0) ?_ ?_ _ hs
 ·intro i y s nx pre Y hs hn
  unfold my;exact Gd.eE (tH (c:=⟨s,n.bC⟩) hs [y.oN,y.To] (hz.br y Y)) (λr O=>Gd.ite (λh=>Gd.ret (λI=>absurd I (by simpa using h))) (λh=>Gd.ite (λZ=>Gd.ret (λI=>absurd I (by simpa using Z))) (λZ=>by
   obtain ⟨J,I⟩:=O (by simpa using h)
   exact hn J.nw ⟨J.nm,J.at_ _ (by simp),J.at_ _ (by simp),J.two _ _ rfl,by simpa using Z⟩ _ I)))
 intro s hs hvb hnd3;refine Gd.eE (P:=λr=>r.1=0->(∀ x ∈ n.dL,bP x.Name=some true/\x.Node ∈ n.bC/\Dp x=true)/\(∀ x ∈ n.bA,bP x.Name=some true/\x.Node ∈ n.bC/\aT x.cW=true) /\
  (∀ x ∈ n.bT,bP x.Name=some true/\x.Node ∈ n.bC/\BK x=true)/\(names n).Nodup) ?_ (λr O=>Gd.ret (λh=>by
   obtain ⟨a,b,c,d⟩:=O h;exact ⟨by omega,by omega,by omega,by omega,by omega,by omega,d,hvn,hvs,hvb,a,b,c⟩))
 unfold fO;refine sk (λx:bE=>x.Name) _ (λx=>bP x.Name=some true/\x.Node ∈ n.bC/\Dp x=true) ?_ ?_ _ hs
 ·intro i y s nx pre Y hs hn
  unfold iN;exact Gd.eE (tH (c:=⟨s,n.bC⟩) hs [y.Node] (hz.gn y Y)) (λr O=>Gd.ite (λh=>Gd.ret (λI=>absurd I (by simpa using h))) (λh=>Gd.ite (λ_=>Gd.ret (λI=>by simp at I)) (λZ=>by
   obtain ⟨J,I⟩:=O (by simpa using h)
   exact hn J.nw ⟨J.nm,J.at_ _ (by simp),by unfold Dp; rw [Z]; rfl⟩ _ I)))
 intro s hs hvg hnd4;refine sk (λx:aF=>x.Name) _ (λx=>bP x.Name=some true/\x.Node ∈ n.bC/\aT x.cW=true) ?_ ?_ _ hs
 ·intro i y s nx pre Y hs hn
  unfold iP;exact Gd.eE (tH (c:=⟨s,n.bC⟩) hs [y.Node] (hz.ld y Y)) (λr O=>Gd.ite (λh=>Gd.ret (λI=>absurd I (by simpa using h))) (λh=>Gd.ite (λ_=>Gd.ret (λI=>by simp at I)) (λZ=>by
   obtain ⟨J,I⟩:=O (by simpa using h)
   exact hn J.nw ⟨J.nm,J.at_ _ (by simp),by simpa using Z⟩ _ I)))
 intro s hs hvl hnd5;refine sk (λx:cE=>x.Name) _ (λx=>bP x.Name=some true/\x.Node ∈ n.bC/\BK x=true) ?_ ?_ _ hs
 ·intro i y s nx pre Y hs hn
  unfold iQ;exact Gd.eE (tH (c:=⟨s,n.bC⟩) hs [y.Node] (hz.st y Y)) (λr O=>Gd.ite (λh=>Gd.ret (λI=>absurd I (by simpa using h))) (λh=>Gd.ite (λ_=>Gd.ret (λI=>by simp at I)) (λZ=>by
   obtain ⟨J,I⟩:=O (by simpa using h)
   exact hn J.nw ⟨J.nm,J.at_ _ (by simp),by unfold BK; rw [Z]; rfl⟩ _ I)))
 intro s hs hvt hnd6;exact Gd.ret λ_=>⟨hvg,hvl,hvt,hnd6 (hnd5 (hnd4 (hnd3 (hnd2 (hnd1 List.nodup_nil)))))⟩
theorem GV {A B C:List BA}{x:BA} (h:(A++(B++x::C)).Nodup):x ∉ A++B:=by
 rw [<- Pv,PW] at h;exact λhm=>h.2.2 x hm x (O5 ..) rfl
theorem fresh {P:List BA}{α:Type}{nm:α->BA}{l pre:List α}{y:α} (h:(P++l.map nm).Nodup) (J:∃ I,l=pre++y::I):nm y ∉ P++pre.map nm:=by
 obtain ⟨I,rfl⟩:=J;rw [Qk,RH] at h;exact GV h
theorem En (n:Net) (h:oh n):bV n=some 0:=by
 have J:=h.nd;unfold names at J;have n5:=(PW.1 J).1;have n4:=(PW.1 n5).1;have Z:=(PW.1 n4).1;have Y:=(PW.1 Z).1;have n1:=(PW.1 Y).1;have g1:=h.l1; have g2:=h.l2; have g3:=h.l3; have g4:=h.l4; have g5:=h.l5; have g6:=h.l6
 rw [<- Gd.eq];unfold bV;refine Gd.ite (λhl=>?_) (λ_=>?_)
 ·simp only [Qy,PK] at hl
  omega
 refine tL (id:BA->BA) [] ?_ ?_ _ oO.nil
 ·intro i y s O pre I hs hn
  have hy:=(vL I).2.1;have hf:=fresh (P:=[]) (nm:=id) (by simpa using n1) I
  unfold mu;exact Gd.bind_eq (uX (c:=⟨s,n.bC⟩) hs ⟨h.vn y hy,hf,by simp,by simp⟩) (Gd.ite (λh=>by simp at h) (λ_=>hn))
 intro s hs;simp only [List.map_id,Qz] at hs;refine tL (λx:aX=>x.Name) _ ?_ ?_ _ hs
 ·intro i y s O pre I hs hn
  obtain ⟨a,b,c,d⟩:=h.vs y (vL I).2.1;unfold mw;exact Gd.bind_eq (uX (c:=⟨s,n.bC⟩) hs ⟨a,fresh Y I,by simp [b,c],λp q e=>by simp at e; rw [<- e.1,<- e.2]; exact d⟩) (Gd.ite (λh=>by simp at h) (λ_=>hn))
 intro s hs;refine tL (λx:aP=>x.Name) _ ?_ ?_ _ hs
 ·intro i y s O pre I hs hn
  obtain ⟨a,b,c,d,e⟩:=h.vb y (vL I).2.1;unfold my;exact Gd.bind_eq (uX (c:=⟨s,n.bC⟩) hs ⟨a,fresh Z I,by simp [b,c],λp q e=>by simp at e; rw [<- e.1,<- e.2]; exact d⟩) (Gd.ite (λh=>by simp at h) (λ_=>Gd.ite (λh=>by simp [e] at h) (λ_=>hn)))
 intro s hs;refine Gd.eE (P:=λr=>r.1=0) ?_ (λr hr=>Gd.ret hr);unfold fO;refine tL (λx:bE=>x.Name) _ ?_ ?_ _ hs
 ·intro i y s O pre I hs hn
  obtain ⟨a,b,c⟩:=h.vg y (vL I).2.1;unfold Dp at c;unfold iN;exact Gd.bind_eq (uX (c:=⟨s,n.bC⟩) hs ⟨a,fresh n4 I,by simp [b],by simp⟩) (Gd.ite (λh=>by simp at h) (λ_=>Gd.ite (λh=>by rw [h] at c; cases c) (λ_=>hn)))
 intro s hs;refine tL (λx:aF=>x.Name) _ ?_ ?_ _ hs
 ·intro i y s O pre I hs hn
  obtain ⟨a,b,c⟩:=h.vl y (vL I).2.1;unfold iP;exact Gd.bind_eq (uX (c:=⟨s,n.bC⟩) hs ⟨a,fresh n5 I,by simp [b],by simp⟩) (Gd.ite (λh=>by simp at h) (λ_=>Gd.ite (λh=>by simp [c] at h) (λ_=>hn)))
 intro s hs;refine tL (λx:cE=>x.Name) _ ?_ ?_ _ hs
 ·intro i y s O pre I hs hn
  obtain ⟨a,b,c⟩:=h.vt y (vL I).2.1;unfold BK at c;unfold iQ;exact Gd.bind_eq (uX (c:=⟨s,n.bC⟩) hs ⟨a,fresh J I,by simp [b],by simp⟩) (Gd.ite (λh=>by simp at h) (λ_=>Gd.ite (λh=>by rw [h] at c; cases c) (λ_=>hn)))
 intro s hs;exact Gd.ret rfl
def JY (n:Net) (q:Nat):Net:={ n with aG:=n.aG.take q++n.aG.drop (q+1) }
theorem FB {α:Type} (l:List α) (q:Nat):(l.take q++l.drop (q+1)).Sublist l:=by
 have I:(l.drop (q+1)).Sublist (l.drop q):=by rw [<- QG]; exact List.drop_sublist _ _
 have:=(QQ (l.take q)).append I
 rwa [Qn] at this
theorem oh.cut {n:Net} (h:oh n) (q:Nat):oh (JY n q):=by
 have hs:=FB n.aG q;have I:(names (JY n q)).Sublist (names n):=by
  unfold names JY;exact ((((QQ _).append (hs.map _)).append (QQ _)).append (QQ _)).append (QQ _)
 exact ⟨h.l1,h.l2,P0 hs.length_le h.l3,h.l4,h.l5,h.l6,I.nodup h.nd,h.vn,h.vs,λx J=>h.vb x (hs.subset J),h.vg,h.vl,h.vt⟩
theorem oh.ok {n:Net} (h:oh n) (J:px n):oG n:=by
 obtain ⟨e,he,I⟩:=HV n J;rw [En n h] at he;exact I (O4 he).symm
theorem px.cut {n:Net} (h:px n) (q:Nat):px (JY n q):=
 ⟨h.nd,h.sw,λx I=>h.br x ((FB n.aG q).subset I),h.gn,h.ld,h.st⟩
abbrev Ed:=bW
def lb (o:List Int) (u:Int):Int:=if 0<=u then (o[u.toNat]?).getD (-1) else -1
theorem IH {o:List Int}{u:Int} (h:0<=lb o u):0<=u/\u<o.length:=by
 unfold lb at h
 split at h
 ·rename_i h0
  refine ⟨h0,?_⟩
  by_cases e:u.toNat<o.length
  ·omega
  ·rw [P1 (by omega)] at h; simp at h
 ·omega
theorem AB {o:List Int}{k:Nat} (h:k<o.length):lb o (k:Int)=o[k]:=by
 unfold lb; rw [O8 (by omega),O2,OZ h]; rfl
theorem IG {o:List Int}{u:Int} (I:0<=u) (h:u.toNat<o.length):lb o u=o[u.toNat]:=by
 unfold lb; rw [O8 I,OZ h]; rfl
theorem wM {o:List Int}{q:Int} (J:0<=q) (h:q.toNat<o.length) (m u:Int):lb (o.set q.toNat m) u=if u=q then m else lb o u:=by
 unfold lb
 by_cases e:u=q
 ·subst e
  rw [O8 J,O8 rfl,Pu h]; rfl
 ·rw [O7 e]
  by_cases I:0<=u
  ·rw [O8 I,O8 I,Pq (by omega)]
  ·rw [O7 I,O7 I]
def JF (l:List Ed) (u v:Int):Prop:=∃ e ∈ l,(e.a0=u/\e.a1=v)\/(e.a1=u/\e.a0=v)
theorem JF.symm {l:List Ed}{u v:Int} (h:JF l u v):JF l v u:=by
 obtain ⟨e,he,h | h⟩:=h
 ·exact ⟨e,he,.inr ⟨h.2,h.1⟩⟩
 ·exact ⟨e,he,.inl ⟨h.2,h.1⟩⟩
inductive wx (l:List Ed) (u:Int):Int->Prop
 | refl:wx l u u
 | snoc {v w:Int}:wx l u v->JF l v w->wx l u w
theorem wx.trans {l:List Ed}{u v w:Int} (I:wx l u v) (J:wx l v w):wx l u w:=by
 induction J with
 | refl=>exact I
 | snoc _ h ih=>exact .snoc ih h
theorem wx.symm {l:List Ed}{u v:Int} (h:wx l u v):wx l v u:=by
 induction h with
 | refl=>exact .refl
 | snoc _ h ih=>exact (wx.snoc .refl h.symm).trans ih
structure Nv (N:Nat) (l:List Ed) (many:Int) (out:List Int):Prop where
 pt:x9 N many out
 cls:∀ u v,JF l u v->0<=lb out u->lb out v=lb out u
 N_:∀ u v,0<=lb out u->lb out u=lb out v->wx l u v
 NR:∀ c,0<=c->c<many->∃ u,lb out u=c
theorem x9.lt {N:Nat}{many:Int}{out:List Int} (h:x9 N many out) (hm:0<=many) (u:Int):-1<=lb out u/\lb out u<many:=by
 by_cases I:0<=lb out u
 ·obtain ⟨a,b⟩:=IH I
  have:u.toNat<out.length:=by omega
  rw [IG a this];exact h.JI _ (PC _)
 ·refine ⟨?_,by omega⟩
  unfold lb
  split
  ·by_cases e:u.toNat<out.length
   ·rw [OZ e]
    exact (h.JI _ (PC e)).1
   ·rw [P1 (by omega)]; simp
  ·omega
structure Bb (N:Nat) (l:List Ed) (m:Int) (i:Int) (out o:List Int):Prop where
 pt:x9 N (m+1) o
 uj:∀ u,0<=lb out u->lb o u=lb out u
 new:∀ u,lb out u<0->0<=lb o u->lb o u=m/\wx l i u
 st:lb o i=m
theorem Bb.put {N:Nat}{l:List Ed}{m i:Int}{out o:List Int} (h:Bb N l m i out o) (hc:Nv N l m out) (Z:0<=m) {a q:Int} (ha:lb o a=m) (J:JF l a q) (Y:0<=q) (qN:q<N) (hq:lb o q<0):Bb N l m i out (o.set q.toNat m):=by
 have I:q.toNat<o.length:=by rw [h.pt.len]; omega
 have ca:wx l i a:=by
  by_cases e:0<=lb out a
  ·have h1:=h.uj a e
   have h2:=(hc.pt.lt Z a).2;omega
  ·exact (h.new a (by omega) (by omega)).2
 refine ⟨h.pt.set ⟨Z,by omega⟩ _,λu O=>?_,λu O hn=>?_,?_⟩
 ·rw [wM Y I]
  have h1:=h.uj u O;rw [O7 (λe=>by subst e; omega)]
  exact h1
 ·rw [wM Y I] at hn ⊢
  by_cases e:u=q
  ·subst e
   rw [O8 rfl];exact ⟨rfl,ca.snoc J⟩
  ·rw [O7 e] at hn ⊢
   exact h.new u O hn
 ·rw [wM Y I]
  split
  ·rfl
  ·exact h.st
theorem Bb.mono {N:Nat}{m:Int}{o:List Int} (hl:o.length=N) (I:0<=m) {q:Int} (O:0<=q) (Y:q<N) {u:Int} (J:0<=lb o u):0<=lb (o.set q.toNat m) u:=by
 rw [wM O (by omega)]
 split
 ·exact I
 ·exact J
theorem Bb.done {N:Nat}{l:List Ed}{m i:Int}{out o:List Int} (h:Bb N l m i out o) (J:Nv N l m out) (h0:0<=m) (hp:∀ u,lb o u=m->∀ v,JF l u v->0<=lb o v):Nv N l (m+1) o:=by
 refine ⟨h.pt,λu v I Y=>?_,λu v Y I=>?_,λc c0 c1=>?_⟩
 ·by_cases e:0<=lb out u
  ·have Z:=h.uj u e
   have O:=J.cls u v I e;have h3:=h.uj v (by omega)
   omega
  ·obtain ⟨Z,_⟩:=h.new u (by omega) Y
   have O:=hp u Z v I
   by_cases e2:0<=lb out v
   ·have:=J.cls v u I.symm e2
    omega
   ·have:=(h.new v (by omega) O).1
    omega
 ·by_cases e:0<=lb out u
  ·have Z:=h.uj u e
   have O:=(J.pt.lt h0 u).2
   by_cases e2:0<=lb out v
   ·exact J.N_ u v e (by have:=h.uj v e2; omega)
   ·have:=(h.new v (by omega) (by omega)).1
    omega
  ·obtain ⟨Z,O⟩:=h.new u (by omega) Y
   by_cases e2:0<=lb out v
   ·have h3:=h.uj v e2
    have h4:=(J.pt.lt h0 v).2;omega
   ·exact O.symm.trans (h.new v (by omega) (by omega)).2
 ·by_cases e:c<m
  ·obtain ⟨u,Y⟩:=J.NR c c0 e
   exact ⟨u,by rw [h.uj u (by omega)]; exact Y⟩
  ·exact ⟨i,by rw [h.st]; omega⟩
structure Ge (N:Nat) (l:List Ed) (r:List Int) (many:Nat):Prop where
 len:r.length=N
 all:∀ u:Int,0<=u->u<N->0<=lb r u/\lb r u<many
 mN:many<=N
 iff:∀ u v:Int,0<=u->u<N->0<=v->v<N->(lb r u=lb r v↔wx l u v)
 NR:∀ c:Int,0<=c->c<many->∃ u:Int,0<=u/\u<N/\lb r u=c
theorem EY (N:Nat) (hN:N<=24) (l:List Ed) (hl:CV N l) (hll:l.length<=64):Gd (od N l (-1)) (λr=>∃ many:Nat,Ge N l r many):=by
 unfold od;refine Gd.nd ⟨rfl,by omega,by omega⟩ (Gd.nd (by omega) ?_)
 rw [wX];have hrep:∀ u,lb (List.replicate N (-1)) u = -1:=λu=>by
  unfold lb
  split
  ·by_cases e:u.toNat<N
   ·rw [OZ (by simpa using e)]; simp
   ·rw [P1 (by simpa using e)]; rfl
  ·rfl
 refine Gd.jQ (λm i (s:List Int×Int)=>i+m=N/\0<=s.2/\s.2<=(i:Int)/\Nv N l s.2 s.1/\∀ j:Nat,j<i->0<=lb s.1 (j:Int)) ?_ ?_ (N:Int).toNat 0 (List.replicate N (-1),0)
  ⟨by omega,by simp,by simp,⟨⟨by simp,by simp⟩,λu v _ h=>by rw [hrep] at h; omega,λu v h _=>by rw [hrep] at h; omega,λc h1 h2=>by omega⟩,by simp⟩
 ·rintro m i ⟨out,many⟩ nx ⟨hi,h0,hmi,Z,hk⟩ hn
  simp only at h0 hmi Z hk;have hilt:i<out.length:=by rw [Z.pt.len]; omega
  have hwm:i64.wrap (many+1)=many+1:=bQ ⟨by omega,by omega⟩
  unfold pO;refine Gd.gS hilt (Gd.ite (λh=>?_) (λh=>?_))
  ·have hge:0<=out[i]:=by simpa using h
   unfold jD;refine hn _ ⟨by omega,h0,by show many<=((i+1:Nat):Int); omega,Z,λj hj=>?_⟩
   by_cases e:j=i
   ·subst e; simp only; rw [AB hilt]; exact hge
   ·exact hk j (by omega)
  ·have hneg:out[i]<0:=by simpa using h
   refine Gd.gS hilt ?_;rw [O2];have hnegl:lb out (i:Int)<0:=by rw [AB hilt]; exact hneg
   have hset:∀ u,lb (out.set i many) u=if u=(i:Int) then many else lb out u:=λu=>by
    have:=wM (o:=out) (q:=(i:Int)) (by omega) (by simpa using hilt) many u
    rwa [O2] at this
   have hp1:x9 N (many+1) out:=⟨Z.pt.len,λv hv=>by have:=Z.pt.JI v hv; omega⟩
   have hbase:2*rl (out.set i many)+[(i:Int)].length<=2*N+1:=by
    have hcn:rl (out.set i many)<=N:=by unfold rl; rw [<- Z.pt.len,<- Qh (as:=out) (i:=i) (a:=many)]; exact Rz
    simp only [P2]; omega
   have hf0:Bb N l many (i:Int) out (out.set i many):=by
    refine ⟨hp1.set ⟨h0,by omega⟩ i,λu O=>?_,λu O hn2=>?_,by rw [hset,O8 rfl]⟩
    ·rw [hset,O7 (λe=>by subst e; omega)]
    ·rw [hset] at hn2 ⊢
     by_cases e:u=(i:Int)
     ·subst e; rw [O8 rfl]; exact ⟨rfl,.refl⟩
     ·rw [O7 e] at hn2; omega
   refine Gd.gG (λ(s:List Int×List Int)=>Bb N l many (i:Int) out s.1/\(∀ a ∈ s.2,lb s.1 a=many)/\(∀ u,lb s.1 u=many->u ∉ s.2->∀ v,JF l u v->0<=lb s.1 v)/\2*rl s.1+s.2.length<=2*N+1)
    (λs=>2*rl s.1+s.2.length) ?_ fA _ ⟨hf0,λa ha=>?_,λu O Y=>?_,hbase⟩ ?_
   ·rintro ⟨o,todo⟩ nx2 ⟨hf,htd,hpr,htot⟩ hn2
    simp only at hf htd hpr htot;have hol:=hf.pt.len;unfold pP;refine Gd.ite (λhne=>?_) (λhze=>?_)
    ·obtain ⟨at_,ts,rfl⟩:∃ a ts,todo=a::ts:=by
      cases todo with
      | nil=>simp at hne
      | cons a ts=>exact ⟨a,ts,rfl⟩
     simp only [Pa] at htot;refine Gd.ix (y:=at_) (by decide) rfl (Gd.nd ⟨by omega,by simp only [Pa]; omega⟩ ?_)
     have hat:=htd at_ (O5 ..);obtain ⟨at0,atN⟩:=IH (by omega:0<=lb o at_)
     have hsl:se (at_::ts) (1:Int).toNat (at_::ts).length=ts:=by
      unfold se;rw [show (1:Int).toNat=1 from rfl,Tn,Qi,Pg (by simp)]
     rw [hsl]
     let J:List Ed->List Int×List Int->Prop:=λpre s=>Bb N l many (i:Int) out s.1/\(∀ a ∈ s.2,lb s.1 a=many)/\lb s.1 at_=many/\(∀ u,lb s.1 u=many->u ∉ s.2->u≠at_->∀ v,JF l u v->0<=lb s.1 v) /\
      (∀ e ∈ pre,(e.a0=at_->0<=lb s.1 e.a1)/\(e.a1=at_->0<=lb s.1 e.a0))/\2*rl s.1+s.2.length<=2*rl o+ts.length
     have push:∀ (pre:List Ed) (e:Ed) (b td:List Int) (q:Int) (nn:List Int×List Int->Option (List Int)),e ∈ l->J pre (b,td)->JF l at_ q->0<=q->q<N->((e.a0=at_/\e.a1=q)\/(e.a1=at_/\e.a0=q)) ->
       (∀ s',J (pre++[e]) s'->Gd (nn s') (λr=>∃ many:Nat,Ge N l r many)) ->
       Gd (Sim.idx b q λy7689=>if decide (y7689<0) then (Sim.idx b q λy7694=>dF ((td.length+([q]).length)*8<=140737488355328) (d_ nn (b.set (q:Int).toNat many) (td++([q])))) else (d_ nn b td)) (λr=>∃ many:Nat,Ge N l r many):=by
      intro pre e b td q nn hel ⟨j1,j2,j3,j4,j5,j6⟩ hadj q0 qN hends hnn;simp only at j1 j2 j3 j4 j5 j6;have hbl:=j1.pt.len;have hql:q.toNat<b.length:=by omega
      have hget:b[q.toNat]? = some b[q.toNat]:=OZ hql;have hlq:lb b q=b[q.toNat]:=IG q0 hql;have hno:rl o<=N:=by unfold rl; rw [<- hol]; exact Rz
      unfold d_;refine Gd.ix q0 hget (Gd.ite (λh=>Gd.ix q0 hget (Gd.nd ?_ (hnn _ ?_))) (λh=>hnn _ ⟨j1,j2,j3,j4,λd I=>?_,j6⟩))
      ·simp; omega
      ·have h1:b[q.toNat]<0:=by simpa using h
       have hlt:lb b q<0:=by omega
       have up:∀ {u:Int},0<=lb b u->0<=lb (b.set q.toNat many) u:=λ{u} O=>Bb.mono hbl h0 q0 qN O;have hqs:lb (b.set q.toNat many) q=many:=by rw [wM q0 hql,O8 rfl]
       have same:∀ {u:Int},lb b u=many->lb (b.set q.toNat many) u=many:=λ{u} O=>by
        rw [wM q0 hql]; split
        ·rfl
        ·exact O
       refine ⟨j1.put Z h0 j3 hadj q0 qN hlt,λa ha=>?_,same j3,λu O Y hua v hv=>?_,λd I=>?_,?_⟩
       ·rcases Pe.1 ha with ha | ha
        ·exact same (j2 a ha)
        ·simp at ha; subst ha; exact hqs
       ·simp only at O Y
        by_cases e2:u=q
        ·subst e2
         exact absurd (P5 _ (List.mem_singleton_self _)) Y
        ·rw [wM q0 hql,O7 e2] at O
         exact up (j4 u O (λhm=>Y (O1 _ hm)) hua v hv)
       ·rcases Pe.1 I with I | I
        ·obtain ⟨x1,x2⟩:=j5 d I
         exact ⟨λhh=>up (x1 hh),λhh=>up (x2 hh)⟩
        ·simp at I; subst I
         have hat2:0<=lb (b.set q.toNat many) at_:=up (by omega)
         have hq2:0<=lb (b.set q.toNat many) q:=by omega
         rcases hends with ⟨x1,x2⟩ | ⟨x1,x2⟩
         ·exact ⟨λ_=>by rw [x2]; exact hq2,λ_=>by rw [x1]; exact hat2⟩
         ·exact ⟨λ_=>by rw [x1]; exact hat2,λ_=>by rw [x2]; exact hq2⟩
       ·have:=DE hql h1 h0
        simp only [Pj,P2];omega
      ·have h1:0<=b[q.toNat]:=by simpa using h
       rcases Pe.1 I with I | I
       ·exact j5 d I
       ·simp at I; subst I
        rcases hends with ⟨x1,x2⟩ | ⟨x1,x2⟩
        ·exact ⟨λ_=>by rw [x2]; simp only; omega,λ_=>by rw [x1]; simp only; omega⟩
        ·exact ⟨λ_=>by rw [x1]; simp only; omega,λ_=>by rw [x2]; simp only; omega⟩
     refine Gd.seen J ?_ ?_ _ ⟨hf,λa ha=>htd a (O9 _ ha),hat,λu O Y hua v hv=>hpr u O (λhm=>(PN.1 hm).elim hua Y) v hv,by simp,Pn (2*rl o+ts.length)⟩
     ·rintro k e ⟨b,td⟩ nn pre hpre hJ hnn
      obtain ⟨_,hel,_⟩:=vL hpre;obtain ⟨e1,e2,e3,e4⟩:=hl e hel;have hw1:i64.wrap (e.a0+e.a1)=e.a0+e.a1:=bQ ⟨by omega,by omega⟩
      have hw2:i64.wrap (e.a0+e.a1-at_)=e.a0+e.a1-at_:=bQ ⟨by omega,by omega⟩
      unfold pQ;rw [hw1,hw2];refine Gd.ite (λh=>by simp at h) (λ_=>Gd.ite (λh=>?_) (λh=>Gd.ite (λh2=>?_) (λh2=>?_)))
      ·have h:e.a0=at_:=by simpa using h
       have hq:e.a0+e.a1-at_=e.a1:=by omega
       rw [hq];exact push pre e b td _ nn hel hJ ⟨e,hel,.inl ⟨h,rfl⟩⟩ e3 e4 (.inl ⟨h,rfl⟩) hnn
      ·have h1:e.a0≠at_:=by simpa using h
       have h2:e.a1≠at_:=by simpa using h2
       obtain ⟨j1,j2,j3,j4,j5,j6⟩:=hJ;refine hnn _ ⟨j1,j2,j3,j4,λd I=>?_,j6⟩;rcases Pe.1 I with I | I
       ·exact j5 d I
       ·simp at I; subst I
        exact ⟨λhh=>absurd hh h1,λhh=>absurd hh h2⟩
      ·have h2:e.a1=at_:=by simpa using h2
       have hq:e.a0+e.a1-at_=e.a0:=by omega
       rw [hq];exact push pre e b td _ nn hel hJ ⟨e,hel,.inr ⟨h2,rfl⟩⟩ e1 e2 (.inr ⟨h2,rfl⟩) hnn
     ·rintro ⟨b,td⟩ ⟨j1,j2,j3,j4,j5,j6⟩
      simp only at j1 j2 j3 j4 j5 j6;refine hn2 _ ⟨j1,j2,λu O Y v hv=>?_,by show 2*rl b+td.length<=2*N+1; omega⟩ (by simp only [Pa]; omega)
      by_cases e:u=at_
      ·subst e
       obtain ⟨d,I,hh | hh⟩:=hv
       ·have:=(j5 d I).1 hh.1
        rw [hh.2] at this; exact this
       ·have:=(j5 d I).2 hh.1
        rw [hh.2] at this; exact this
      ·exact j4 u O Y e v hv
    ·have htn:todo=[]:=by
      cases todo with
      | nil=>rfl
      | cons a ts=>simp at hze
     subst htn;unfold jD;rw [hwm];refine hn _ ⟨by omega,by show (0:Int)<=many+1; omega,by show many+1<=((i+1:Nat):Int); omega,hf.done Z h0 (λu O v hv=>hpr u O (by simp) v hv),λj hj=>?_⟩
     by_cases e:j=i
     ·subst e; show 0<=lb o (j:Int); rw [hf.st]; exact h0
     ·have h1:=hk j (by omega)
      show 0<=lb o (j:Int);rw [hf.uj _ h1]; exact h1
   ·simp only [PE] at ha
    subst ha;exact hf0.st
   ·exfalso
    rw [hset] at O
    by_cases e:u=(i:Int)
    ·subst e; simp at Y
    ·rw [O7 e] at O
     have:=(Z.pt.lt h0 u).2;omega
   ·refine RS hbase ?_
    unfold fA; omega
 ·rintro i ⟨out,many⟩ ⟨hi,h0,hmi,Z,hk⟩
  simp only at h0 hmi Z hk;have hge:∀ u:Int,0<=u->u<N->0<=lb out u:=λu u0 uN=>by
   have:=hk u.toNat (by omega)
   rwa [show ((u.toNat:Nat):Int)=u by omega] at this
  refine Gd.ret ⟨many.toNat,Z.pt.len,λu u0 uN=>⟨hge u u0 uN,by have h1:=hge u u0 uN; have h2:=(Z.pt.lt h0 u).2; show lb out u<((many.toNat:Nat):Int); omega⟩,by omega,λu v u0 uN v0 vN=>⟨λe=>Z.N_ u v (hge u u0 uN) e,λe=>?_⟩,λc c0 c1=>?_⟩
  ·clear vN v0
   induction e with
   | refl=>rfl
   | snoc _ h ih=>
    rename_i p q _
    have ih:lb out u=lb out p:=ih;have hp:0<=lb out p:=by have:=hge u u0 uN; omega
    show lb out u=lb out q;rw [ih];exact (Z.cls p q h hp).symm
  ·obtain ⟨u,O⟩:=Z.NR c c0 (by omega)
   obtain ⟨a,b⟩:=IH (by omega:0<=lb out u)
   exact ⟨u,a,by have:=Z.pt.len; omega,O⟩
theorem Er (N:Nat) (hN:N<=24) (l:List Ed) (hl:CV N l) (I:l.length<=64):Gd (iK N l) (λr=>r.2=0/\∃ many:Nat,Ge N l r.1 many):=by
 unfold iK;refine Gd.bind_eq (Bx N hN l hl I) (Gd.ite (λh=>by simp at h) (λ_=>Gd.eE (EY N hN l hl I) (λr J=>Gd.ret ⟨rfl,J⟩)))
theorem Kg (N:Nat) (hN:N<=24) (l:List Int) (hl:zw N l):∃ m:Nat,m<=N/\zw m l/\(∀ c:Nat,zw c l->m<=c) /\
  ∀ {R:Type} (I:Nat->Int->Int->(Int->Option R)->Option R) (Z:∀ k y n nx,I k y n nx=nx (max n (i64.wrap (y+1)))) (K:Int->Option R),dR I K 0 l 0=K (m:Int):=by
 have key:∀ (ys pre:List Int) (m:Nat),l=pre++ys->m<=N->zw m pre->(∀ c:Nat,zw c pre->m<=c)->∃ Y:Nat,Y<=N/\zw Y l/\(∀ c:Nat,zw c l->Y<=c) /\
   ∀ {R:Type} (I:Nat->Int->Int->(Int->Option R)->Option R) (Z:∀ k y n nx,I k y n nx=nx (max n (i64.wrap (y+1)))) (K:Int->Option R) (i:Nat),dR I K i ys (m:Int)=K (Y:Int):=by
  intro ys
  induction ys with
  | nil=>
   intro pre m e hm hp J;rw [PH] at e; subst e
   exact ⟨m,hm,hp,J,λ_ _ _ _=>rfl⟩
  | cons y ys ih=>
   intro pre m e hm hp J;have hy:=hl y (by rw [e]; exact P5 _ (O5 ..))
   have hw:i64.wrap (y+1)=y+1:=bQ ⟨by omega,by omega⟩
   have hmx:max (m:Int) (y+1)=((max m (y+1).toNat:Nat):Int):=by omega
   obtain ⟨Y,h1,h2,h3,h4⟩:=ih (pre++[y]) (max m (y+1).toNat) (by rw [e]; simp) (by omega) (λa O=>by
    rcases Pe.1 O with O | O
    ·have:=hp a O; omega
    ·simp at O; subst O; omega) (λc hc=>by
     have c1:=J c (λa O=>hc a (O1 _ O));have c2:=hc y (P5 _ (List.mem_singleton_self _));omega)
   refine ⟨Y,h1,h2,h3,λ{R} I Z K i=>?_⟩;show I i y (m:Int) (λs=>dR I K (i+1) ys s)=_;rw [Z,hw,hmx];exact h4 I Z K (i+1)
 obtain ⟨Y,h1,h2,h3,h4⟩:=key l [] 0 rfl (by omega) (by intro a O; simp at O) (λc _=>by omega)
 exact ⟨Y,h1,h2,h3,λ{R} I Z K=>h4 I Z K 0⟩
def pos (n:Net) (s:BA):Nat:=((a_ n.bC s).getD 0).toNat
theorem SV {n:Net}{s:BA} (h:s ∈ n.bC):a_ n.bC s=some (pos n s:Int)/\pos n s<n.bC.length:=by
 obtain ⟨k,I,hl,_⟩:=xT h;unfold pos;rw [I];exact ⟨rfl,hl⟩
def HM (n:Net) (I:List Int) (b:aP):Ed:=⟨I.getD (pos n b.oN) 0,I.getD (pos n b.To) 0⟩
theorem HN {n:Net} (hn:oG n) {I:List Int}{m:Nat} (hbl:I.length=n.bC.length) (hm:zw m I):CV m (n.aG.map (HM n I)):=λe he=>by
 obtain ⟨b,Z,rfl⟩:=PO.1 he;obtain ⟨O,Y⟩:=hn.br b Z;have p1:=(SV O).2;have p2:=(SV Y).2;have q:∀ k,k<I.length->0<=I.getD k 0/\I.getD k 0<m:=λk J=>by
  rw [PA,OZ J];exact hm _ (PC J)
 exact ⟨(q _ (by omega)).1,(q _ (by omega)).2,(q _ (by omega)).1,(q _ (by omega)).2⟩
theorem J3 {n:Net} (hn:oG n) {I:List Int} (Y:nK n=some I) (hbl:I.length=n.bC.length) {m:Nat} (Z:m<=24) (hm:zw m I)
  (O:∀ {R:Type} (J:Nat->Int->Int->(Int->Option R)->Option R) (hb:∀ k y n nx,J k y n nx=nx (max n (i64.wrap (y+1)))) (K:Int->Option R),dR J K 0 I 0=K (m:Int)):
  Gd (dT n) (λt=>t.pw=I/\∃ c:Nat,Ge m (n.aG.map (HM n I)) t.bK c):=by
 have l3:=hn.l3;unfold dT;refine Gd.bind_eq Y ?_;rw [O _ (λk y n nx=>by unfold rT; rfl)]
 refine Gd.seen (λpre out=>out=pre.map (HM n I)) ?_ ?_ _ rfl
 ·rintro i y out nn pre hpre rfl hnx
  obtain ⟨hpl,hyl,_⟩:=vL hpre;obtain ⟨h1,h2⟩:=hn.br y hyl;obtain ⟨p1,p2⟩:=SV h1;obtain ⟨q1,q2⟩:=SV h2;have g:∀ k (hk:k<I.length),I[k]=I.getD k 0:=λk hk=>by
   rw [PA,OZ hk]; rfl
  unfold rU;refine Gd.bind_eq p1 (Gd.gS (by omega) (Gd.bind_eq q1 (Gd.gS (by omega) (Gd.nd ?_ (hnx _ ?_)))))
  ·simp only [QR,P2]; omega
  ·rw [Qk,g _ (by omega),g _ (by omega)]; rfl
 ·rintro out rfl
  exact Gd.eE (Er m Z _ (HN hn hbl hm) (by simp; omega)) (λr ⟨_,hr⟩=>Gd.ret ⟨rfl,hr⟩)
section
variable {ν:Type}
def IC (l:List (Int×ν)) (k:Int):Option ν:=(l.find? (λp=>p.1=k)).map (·.2)
theorem ER (l:List (Int×ν)) (k:Int):qK l k=IC l k:=by
 unfold qK IC;have:∀ (l:List (Int×ν)) (i:Nat),(vq l k i).map (·.2)=(l.find? (λp=>p.1=k)).map (·.2):=by
  intro l
  induction l with
  | nil=>intro i; rfl
  | cons p l ih=>
   obtain ⟨a,v⟩:=p;intro i;simp only [vq,List.find?_cons]
   by_cases e:a=k
   ·simp [e]
   ·simp only [e,Q6,Ti]; exact ih (i+1)
 exact this l 0
theorem IM {l:List (Int×ν)}{k:Int}:∀ {i j:Nat}{v:ν},vq l k i=some (j,v)->∃ q,j=i+q/\l[q]? = some (k,v):=by
 induction l with
 | nil=>intro i j v h; simp [vq] at h
 | cons p l ih=>
  obtain ⟨a,u⟩:=p;intro i j v h;simp only [vq] at h
  split at h
  ·rename_i e
   simp only [Pk,Rc] at h;obtain ⟨rfl,rfl⟩:=h;exact ⟨0,rfl,by rw [e]; rfl⟩
  ·obtain ⟨q,rfl,I⟩:=ih h
   exact ⟨q+1,by omega,I⟩
theorem IL {l:List (Int×ν)}{k:Int}:∀ {i:Nat},vq l k i=none->∀ p ∈ l,p.1≠k:=by
 induction l with
 | nil=>intro i _ p J; cases J
 | cons p l ih=>
  obtain ⟨a,u⟩:=p;intro i h;simp only [vq] at h
  split at h
  ·cases h
  ·rename_i e
   intro q I;rcases PN.1 I with rfl | I
   ·exact e
   ·exact ih h q I
def CQ (l:List (Int×ν)):Prop:=(l.map (·.1)).Nodup
theorem CQ.find {l:List (Int×ν)} (h:CQ l) {k:Int}{v:ν}:qK l k=some v↔(k,v) ∈ l:=by
 rw [ER];unfold IC CQ at *
 induction l with
 | nil=>simp
 | cons p l ih=>
  obtain ⟨a,u⟩:=p;simp only [RH,Sg] at h;rw [List.find?_cons]
  by_cases e:a=k
  ·subst e
   simp only [decide_true,Qp,Pk,PN,Rc,true_and];constructor
   ·intro I; exact .inl I.symm
   ·rintro (I | I)
    ·exact I.symm
    ·exact absurd (PO.2 ⟨_,I,rfl⟩) h.1
  ·simp only [e,Ti,PN,Rc]
   rw [ih h.2];constructor
   ·exact λI=>.inr I
   ·rintro (⟨I,_⟩ | I)
    ·exact absurd I.symm e
    ·exact I
theorem CQ.put {l:List (Int×ν)} (h:CQ l) (k:Int) (v:ν):CQ (uv l k v)/\∀ p,p ∈ uv l k v↔p=(k,v)\/(p ∈ l/\p.1≠k):=by
 unfold uv;cases hm:vq l k 0 with
 | none=>
  have hno:=IL hm;refine ⟨?_,λp=>?_⟩
  ·show ((l++[(k,v)]).map (·.1)).Nodup
   rw [Qk,PW];refine ⟨h,by simp,?_⟩
   intro a Y b hb;obtain ⟨p,hp,rfl⟩:=PO.1 Y;simp at hb;subst hb;exact hno p hp
  ·simp only [Pe,PE]
   constructor
   ·rintro (O | O)
    ·exact .inr ⟨O,hno p O⟩
    ·exact .inl O
   ·rintro (O | ⟨O,_⟩)
    ·exact .inr O
    ·exact .inl O
 | some q=>
  obtain ⟨j,u⟩:=q;obtain ⟨i,rfl,hi⟩:=IM hm;obtain ⟨hil,Z⟩:=O3.1 hi;simp only [Po];have hmap:(l.set i (k,v)).map (·.1)=l.map (·.1):=by
   rw [List.map_set];apply A1;rw [Pw,hi]; rfl
  refine ⟨by unfold CQ; rw [hmap]; exact h,λp=>?_⟩
  have huniq:∀ (a:Nat) (x:Int×ν),l[a]? = some x->x.1=k->a=i:=λa x Y hx=>by
   obtain ⟨J,I⟩:=O3.1 Y;unfold CQ at h;rw [List.nodup_iff_pairwise_ne,RZ] at h;rcases RX a i with hlt | heq | hgt
   ·exact (h a i (by simpa using J) (by simpa using hil) hlt (by rw [Q4,Q4,I,Z,hx])).elim
   ·exact heq
   ·exact (h i a (by simpa using hil) (by simpa using J) hgt (by rw [Q4,Q4,I,Z,hx])).elim
  constructor
  ·intro hp
   obtain ⟨a,Y,I⟩:=Qc.1 hp;rw [TR] at I
   split at I
   ·exact .inl I.symm
   ·rename_i hne
    have J:a<l.length:=by simpa using Y
    refine .inr ⟨by rw [<- I]; exact PC J,λhk=>?_⟩
    exact hne (huniq a p (by rw [OZ J,I]) hk).symm
  ·rintro (rfl | ⟨hp,hk⟩)
   ·exact Qc.2 ⟨i,by simpa using hil,by simp⟩
   ·obtain ⟨a,Y,I⟩:=Qc.1 hp
    have hne:i≠a:=λe=>by
     subst e;rw [Z] at I;exact hk (by rw [<- I])
    exact Qc.2 ⟨a,by simpa using Y,by rw [List.getElem_set_ne hne]; exact I⟩
theorem CQ.FF {l:List (Int×ν)} (h:CQ l) (k I:Int) (v:ν):qK (uv l k v) I=if I=k then some v else qK l I:=by
 obtain ⟨J,O⟩:=h.put k v
 split
 ·rename_i e
  rw [J.find,O]; exact .inl (by rw [e])
 ·rename_i e
  cases Z:qK l I with
  | some u=>
   rw [J.find,O];exact .inr ⟨h.find.1 Z,e⟩
  | none=>
   cases hg2:qK (uv l k v) I with
   | none=>rfl
   | some u=>
    rcases (O _).1 (J.find.1 hg2) with Y | ⟨Y,_⟩
    ·exact absurd (Prod.mk.inj Y).1 e
    ·rw [h.find.2 Y] at Z; cases Z
theorem CQ.nil:CQ ([]:List (Int×ν)):=by unfold CQ; simp
end
structure uq (n:Net) (t:aW):Prop where
 bl:t.pw.length=n.bC.length
 JG:t.bK.length<=24
 bi:zw t.bK.length t.pw
 comp:∃ c:Nat,Ge t.bK.length (n.aG.map (HM n t.pw)) t.bK c
theorem KJ {n:Net} (hn:oG n):∃ t,dT n=some t/\uq n t:=by
 have g1:=hn.l1;obtain ⟨bus,hbus,Z,Y⟩:=HU n hn;obtain ⟨m,hm1,I,_,J⟩:=Kg n.bC.length hn.l1 bus Y;obtain ⟨t,ht,O,c,hc⟩:=J3 hn hbus Z (by omega) I J
 have hl:=hc.len;refine ⟨t,ht,⟨by rw [O]; exact Z,by omega,by rw [O,hl]; exact I,c,?_⟩⟩
 rw [O,hl];exact hc
def fr (I:List Int):List Nat:=(List.range I.length).filter (λi=>(List.range i).any (λj=>decide (I[j]? = I[i]?)))
theorem EF {I:List Int}{i:Nat}:i ∈ fr I↔i<I.length/\∃ j:Nat,j<i/\I[j]? = I[i]? := by
 unfold fr;simp
theorem Iq (I:List Int):(fr I).Nodup:=List.Pairwise.filter _ List.nodup_range
theorem Cf {I:List Int} (h:I.length<=24):(fr I).length<=23:=by
 have O:(fr I).length<=((List.range I.length).filter (λi=>decide (0<i))).length:=by
  unfold fr;rw [<- List.countP_eq_length_filter,<- List.countP_eq_length_filter];refine List.countP_mono_left (λi _ hi=>?_);simp at hi;obtain ⟨j,Y,_⟩:=hi;simp; omega
 have J:∀ m,((List.range m).filter (λi=>decide (0<i))).length<=m-1:=by
  intro m
  induction m with
  | zero=>simp
  | succ m ih=>
   rw [Sh,RA,Pj];cases m with
   | zero=>simp
   | succ m=>simp at ih ⊢; omega
 have:=J I.length;omega
def Ba (I:List Int) (i:Nat):Nat:=(fr I).getD i 0
theorem Cd {I:List Int}{i:Nat} (h:i<(fr I).length):(fr I)[i]? = some (Ba I i):=by
 unfold Ba;rw [PA,OZ h]; rfl
theorem Ce {I:List Int}{i:Nat} (h:i<(fr I).length):Ba I i ∈ fr I:=Pb (Cd h)
theorem yl {I:List Int}{i j:Nat} (hi:i<(fr I).length) (Y:j<(fr I).length) (e:Ba I i=Ba I j):i=j:=by
 have a:=Cd hi;have b:=Cd Y;rw [e] at a;have nd:=Iq I;obtain ⟨_,J⟩:=O3.1 a;obtain ⟨_,O⟩:=O3.1 b;exact (List.getElem_inj nd).1 (J.trans O.symm)
theorem MR (I:List Int):(fr I).map (λx:Nat=>(x:Int))=(List.range (fr I).length).map (λi=>(Ba I i:Int)):=by
 apply QE;intro i;rw [Pw,Pw]
 by_cases h:i<(fr I).length
 ·rw [Cd h,QW h]; rfl
 ·rw [P1 (by omega),P1 (by simp; omega)]; rfl
def Fz (n:Net) (I:List Int) (b:aP):Rat×Nat×Nat:=(((b.X*b.A_:Int):Rat),(HM n I b).a0.toNat,(HM n I b).a1.toNat)
def zd (n:Net) (I:List Int):List (Rat×Nat×Nat):=n.aG.map (Fz n I)
structure NG (b:aP):Prop where
 x:1<=b.X/\b.X<=10000
 t:500<=b.A_/\b.A_<=1500
 s:-1000<=b.Shift/\b.Shift<=1000
 l:0<=b.sN/\b.sN<=100000
theorem Gr {n:Net} (h:oh n) {b:aP} (J:b ∈ n.aG):NG b:=by
 obtain ⟨_,_,_,_,I⟩:=h.vb b J;unfold gX at I
 split at I
 ·omega
 ·rename_i h6
  simp [bF] at h6;exact ⟨by omega,by omega,by omega,by omega⟩
theorem NG.q {b:aP} (h:NG b):500<=b.X*b.A_/\b.X*b.A_<=15000000:=by
 have I:=h.x; have J:=h.t
 have a:1*500<=b.X*b.A_:=Int.mul_le_mul I.1 J.1 (by omega) (by omega)
 have c:b.X*b.A_<=10000*1500:=Int.mul_le_mul I.2 J.2 (by omega) (by omega)
 omega
structure Nw (N:Nat) (l:List (Rat×Nat×Nat)):Prop where
 ll:l.length<=24
 el:∀ e ∈ l,e.2.1<N/\e.2.2<N
 q:∀ e ∈ l,∃ z:Int,e.1=(z:Rat)/\500<=z/\z<=15000000
theorem Ao {n:Net} (h:oh n) (hn:oG n) {t:aW} (ht:uq n t):Nw t.bK.length (zd n t.pw):=by
 refine ⟨by unfold zd; rw [QR]; exact h.l3,λe he=>?_,λe he=>?_⟩
 ·obtain ⟨b,I,rfl⟩:=PO.1 he
  have:=HN hn ht.bl ht.bi (HM n t.pw b) (PO.2 ⟨b,I,rfl⟩);show (HM n t.pw b).a0.toNat<_/\(HM n t.pw b).a1.toNat<_;omega
 ·obtain ⟨b,I,rfl⟩:=PO.1 he
  exact ⟨_,rfl,(Gr h I).q.1,(Gr h I).q.2⟩
theorem yA {N:Nat}{l:List (Rat×Nat×Nat)} (h:Nw N l) {e:Rat×Nat×Nat} (he:e ∈ l):tB e.1/\500<=e.1/\e.1<=15000000:=by
 obtain ⟨z,I,J,O⟩:=h.q e he;have a:=Ur.2 J;have b:=Ur.2 O;rw [<- I] at a b;exact ⟨⟨z,I⟩,a,b⟩
abbrev tq:Rat:=((1000000:Int):Rat)
abbrev J9 (F:Nat->Nat) (l:List (Rat×Nat×Nat)):Mt:=gC ((l.map (xr tq)).map (mG F))
theorem Js:0<tq:=by
 have:((0:Int):Rat)<((1000000:Int):Rat):=Rat.intCast_lt_intCast.2 (by decide)
 simpa using this
theorem I5 {a:Nat}{c:Rat} (I:0<=c) (h:c<=(((2 ^ a:Nat):Int):Rat)):∀ k:Nat,0<=pr k (λ_=>c)/\pr k (λ_=>c)<=(((2 ^ (a*k):Nat):Int):Rat)
 | 0=>by
  refine ⟨by show (0:Rat)<=1; decide,?_⟩
  show (1:Rat)<=_;rw [Ud,Ul];exact Uu
 | k+1=>by
  obtain ⟨J,O⟩:=I5 I h k;refine ⟨Uy J I,?_⟩;show pr k (λ_=>c)*c<=_;have e:a*(k+1)=a*k+a:=Nat.mul_succ a k;rw [e,Ue,PT,Us];exact pN O h J I
theorem Mh {a b:Nat} (h:a<=32*b):(((2 ^ a:Nat):Int):Rat)<=wq b:=by
 unfold wq;rw [zS];have:2 ^ a<=2 ^ (32*b):=Ug (by decide) h
 exact Ur.2 (by omega)
theorem Lv {a c:Nat}{x:Rat} (I:0<=x) (h:x<=(((2 ^ a:Nat):Int):Rat)) (k:Nat) (J:a*k<=32*c):pr k (λ_=>x)<=wq c:=
 Uv (I5 I h k).2 (Mh J)
theorem Fv {N:Nat}{l:List (Rat×Nat×Nat)} (h:Nw N l):1<=uW l/\uW l<=wq 18:=by
 have I:=h.ll;refine ⟨Ab (λe he=>by have:=yA h he; grind),?_⟩
 refine Rat.le_trans (Fu (q:=15000000) (λe he=>by have:=yA h he; constructor <;> grind)) (Lv (a:=24) (by decide) ?_ l.length (by omega))
 have:((15000000:Int):Rat)<=(((2 ^ 24:Nat):Int):Rat):=Ur.2 (by decide)
 exact this
theorem DR {u:Nat}:∀ {l:List (Rat×Nat×Nat)},(∀ e ∈ l,1<=e.1)->tn u l<=uW l
 | [],_=>Uu
 | e::l,h=>by
  have ih:=DR (u:=u) (l:=l) (λe he=>h e (List.mem_cons_of_mem _ he));have I:=h e (List.mem_cons_self ..);have J:=yE (u:=u) (l:=l) (λe he=>h e (List.mem_cons_of_mem _ he));unfold tn uW;refine pN ?_ ih ?_ (by grind)
  ·split <;> grind
  ·split <;> grind
theorem Gb {N:Nat}:∀ {l:List (Rat×Nat×Nat)},(∀ e ∈ l,500<=e.1)->0<=A7 (l.map (xr tq))/\A7 (l.map (xr tq))<=2000*(((l.length:Nat):Int):Rat)
 | [],_=>⟨Uu,by
  show (0:Rat)<=2000*((((0:Nat):Int)):Rat);simp⟩
 | e::l,h=>by
  obtain ⟨a,b⟩:=Gb (N:=N) (l:=l) (λe he=>h e (List.mem_cons_of_mem _ he));have I:=h e (List.mem_cons_self ..);have e1:A7 ((e::l).map (xr tq))=tq / e.1+A7 (l.map (xr tq)):=rfl;have p:0<e.1⁻¹:=Rat.inv_pos.2 (by grind)
  have J:=Rat.mul_inv_cancel e.1 (by grind)
  have O:=Rat.mul_le_mul_of_nonneg_right I (Rat.le_of_lt p);have t1:tq=1000000:=rfl;have e2:(((e::l).length:Nat):Int)=(((l.length:Nat):Int))+1:=by simp
  rw [e1,Rat.div_def,t1,e2,Rat.intCast_add,Rat.intCast_one];constructor <;> grind
theorem ET {N n:Nat}{F:Nat->Nat}{l:List (Rat×Nat×Nat)} (h:Nw N l) (hn:n<=23) (J:∀ i j,i<n->j<n->F i=F j->i=j):
  Nb n (J9 F l) (λi=>tn (F i) l) (λi c=>tn (F i) l*gC ((l.map (xr tq)).map (ou F)) i c+dl i c) (λi=>tn (F i) l*(4*A7 (l.map (xr tq)))+1):=by
 have Z:=h.ll;have I:∀ e ∈ l,1<=e.1:=λe he=>by have:=yA h he; grind
 have ws:=Gb (N:=N) (λe he=>(yA h he).2.1);have Y:(((l.length:Nat):Int):Rat)<=24:=Ur.2 (show ((l.length:Nat):Int)<=24 by omega)
 refine ⟨Kk J ⟨_,rfl⟩ Js (λe he=>⟨(yA h he).1,I e he⟩),?_,λi _=>Rat.le_trans (DR I) (Fv h).2⟩;have a:=M4 (n:=n) (F:=F) (l:=l) (s:=4*A7 (l.map (xr tq))) (w:=192000) J I (by grind) (by grind)
 have b:=Fv h;have c:pr n (λ_=>(192000:Rat)+1)<=wq 13:=Lv (a:=18) (by grind) (by
  have:((192001:Int):Rat)<=(((2 ^ 18:Nat):Int):Rat):=Ur.2 (by decide)
  have e:(192000:Rat)+1=((192001:Int):Rat):=by grind
  rw [e]; exact this) n (by omega)
 have d:uW l*uW l<=wq 36:=by
  rw [<- uU 18 18];exact pN b.2 b.2 (by grind) (by grind)
 have O:0<=pr n (λ_=>(192000:Rat)+1):=me (λ_ _=>by grind)
 have f:uW l*uW l*pr n (λ_=>(192000:Rat)+1)<=wq 49:=by
  rw [<- uU 36 13];exact pN d c (Rat.mul_nonneg (by grind) (by grind)) O
 exact Uv a (Uv f (xg (by omega)))
theorem Ip (I:List Int):∀ i:Nat,∃ r,r<=i/\I[r]? = I[i]? /\ ∀ j,j<r->I[j]? ≠ I[i]? := by
 intro i
 induction i using Nat.strongRecOn with
 | ind i ih=>
  by_cases h:∃ j,j<i/\I[j]? = I[i]?
  ·obtain ⟨j,J,e⟩:=h
   obtain ⟨r,h1,O,Y⟩:=ih j J;exact ⟨r,by omega,O.trans e,λq hq Z=>Y q hq (Z.trans e.symm)⟩
  ·exact ⟨i,Pn _,rfl,λj J e=>h ⟨j,J,e⟩⟩
theorem JW {n:Net}{t:aW}{u v:Int} (h:wx (n.aG.map (HM n t.pw)) u v):Lk ((zd n t.pw).map (xr tq)) u.toNat v.toNat:=by
 induction h with
 | refl=>exact .refl
 | snoc _ I ih=>
  obtain ⟨e,he,O⟩:=I;obtain ⟨b,J,rfl⟩:=PO.1 he;have hm:xr tq (Fz n t.pw b) ∈ (zd n t.pw).map (xr tq):=PO.2 ⟨_,PO.2 ⟨b,J,rfl⟩,rfl⟩;rcases O with ⟨rfl,rfl⟩ | ⟨rfl,rfl⟩
  ·exact .step ih (.inl hm)
  ·exact .step ih (.inr hm)
theorem EU {n:Net} (h:oh n) (hn:oG n) {t:aW} (ht:uq n t):Pd (fr t.bK).length (J9 (Ba t.bK) (zd n t.pw)):=by
 have hE:=Ao h hn ht;obtain ⟨c,hc⟩:=ht.comp;refine M6 (λe he=>?_) (λi j hi Y e=>yl hi Y e) (λi hi=>?_)
 ·obtain ⟨d,hd,rfl⟩:=PO.1 he
  have:=yA hE hd;show 0<tq / d.1;rw [Rat.div_def];exact Rat.mul_pos Js (Rat.inv_pos.2 (by grind))
 ·have hm:=EF.1 (Ce hi)
  obtain ⟨r,h1,O,h3⟩:=Ip t.bK (Ba t.bK i);refine ⟨r,λj Y e=>?_,?_⟩
  ·have J:=EF.1 (Ce Y)
   rw [e] at J;obtain ⟨_,q,hq,Z⟩:=J;exact h3 q hq (Z.trans O)
  ·have hl:∀ (a:Nat),a<t.bK.length->lb t.bK (a:Int)=t.bK[a]! := λa ha=>by
    rw [AB ha]; simp [ha]
   have I:wx (n.aG.map (HM n t.pw)) ((Ba t.bK i:Nat):Int) ((r:Nat):Int):=by
    refine (hc.iff _ _ (by omega) (by omega) (by omega) (by omega)).1 ?_
    have hr:r<t.bK.length:=by omega
    rw [AB hm.1,AB hr];rw [OZ hr,OZ hm.1] at O;exact (O4 O).symm
   have:=JW I;simpa using this
structure Md (n:Net) (t:aW) (M:aV):Prop where
 top:M.uJ=t
 md:Ht M (fr t.bK).length t.bK.length (Ba t.bK) (zd n t.pw) tq
 B4:M.C.length=n.aG.length
 c:∀ (k:Nat) (y:LR),M.C[k]? = some y->∃ b,n.aG[k]? = some b/\oc y/\RL y 4/\rv y=(tq / ((b.X*b.A_:Int):Rat))*(((0-b.Shift:Int):Rat) / ((1000:Int):Rat))
 inv:Ld M.qu (fr t.bK).length (J9 (Ba t.bK) (zd n t.pw))
theorem F_ {α Y:Type}{P:α->Y->Prop}{l:List α}{m:List Y} (hl:l.length=m.length) (h:∀ (k:Nat) (y:α),l[k]? = some y->∃ b,m[k]? = some b/\P y b) {x:α}{b:Y} (hx:P x b):∀ (k:Nat) (y:α),(l++[x])[k]? = some y->∃ J,(m++[b])[k]? = some J/\P y J:=by
 intro k y I
 by_cases e:k<l.length
 ·rw [Qb e] at I
  obtain ⟨J,Z,h2⟩:=h k y I;exact ⟨J,by rw [Qb (by omega)]; exact Z,h2⟩
 ·have O:=(O3.1 I).1
  rw [Pj,P2] at O;obtain rfl:k=l.length:=by omega
  rw [PB (Pn _),Qg] at I;obtain rfl:=O4 I;exact ⟨b,by rw [hl,PB (Pn _),Qg]; rfl,hx⟩
theorem Ej {n:Net} (hn:oG n) {t:aW} (ht:uq n t) {k:Nat} (J:k<n.bC.length):∃ v:Nat,t.pw[k]? = some (v:Int)/\v=(t.pw.getD k 0).toNat:=by
 have I:k<t.pw.length:=by rw [ht.bl]; exact J
 have O:=ht.bi _ (PC I);refine ⟨(t.pw[k]).toNat,?_,?_⟩
 ·rw [OZ I]; congr 1; omega
 ·rw [PA,OZ I]; rfl
theorem IP {n:Net} (h:oh n) (hn:oG n) {t:aW} (hg:dT n=some t) (ht:uq n t):Gd (u5 n) (λo=>∃ M,o=some M/\Md n t M):=by
 have hE:=Ao h hn ht;have hll:=h.l3;have hN:=ht.JG;unfold u5;refine Gd.bind_eq hg ?_;refine Gd.dR (λk ys s=>∃ pre,n.aG=pre++ys/\pre.length=k/\s.1=pre.map (λb=>((Fz n t.pw b).2.1:Int))/\s.2.1=pre.map (λb=>((Fz n t.pw b).2.2:Int))/\s.2.2.1.length=pre.length/\s.2.2.2.length=pre.length /\
  (∀ (k:Nat) (y:LR),s.2.2.1[k]? = some y->∃ b,pre[k]? = some b/\(oc y/\RL y 2/\rv y=tq / ((b.X*b.A_:Int):Rat))) /\
  (∀ (k:Nat) (y:LR),s.2.2.2[k]? = some y->∃ b,pre[k]? = some b/\(oc y/\RL y 4/\rv y=(tq / ((b.X*b.A_:Int):Rat))*(((0-b.Shift:Int):Rat) / ((1000:Int):Rat))))) ?_ ?_ n.aG 0 _
  ⟨[],rfl,rfl,rfl,rfl,rfl,rfl,λk y hy=>by simp at hy,λk y hy=>by simp at hy⟩
 ·rintro k b ys ⟨l1,l2,l3,l4⟩ nx ⟨pre,J,hpk,e1,e2,e3,e4,hB,hC⟩ hnx
  simp only at e1 e2 e3 e4 hB hC;subst e1 e2;have hb:b ∈ n.aG:=by rw [J]; simp
  have hkl:pre.length<24:=by
   have:n.aG.length=pre.length+(ys.length+1):=by rw [J]; simp
   omega
  obtain ⟨_,m1,m2,_⟩:=h.vb b hb;obtain ⟨p1,p2⟩:=SV m1;obtain ⟨q1,q2⟩:=SV m2;obtain ⟨u,u1,u2⟩:=Ej hn ht p2;obtain ⟨v,v1,v2⟩:=Ej hn ht q2;have V:=Gr h hb;have hq:=V.q;have hx:=V.x; have htp:=V.t; have hs:=V.s
  unfold vA;have w1:i64.wrap (b.X*b.A_)=b.X*b.A_:=bQ ⟨by omega,by omega⟩
  have w2:i64.wrap (0-b.Shift)=0-b.Shift:=bQ ⟨by omega,by omega⟩
  rw [w1,w2];refine Gd.bind_eq p1 (Gd.ix (by omega) (by rw [O2]; exact u1) (Gd.nd (by simp; omega) (Gd.bind_eq q1 (Gd.ix (by omega) (by rw [O2]; exact v1) (Gd.nd (by simp; omega) ?_)))))
  refine Gd.eE (FE (by omega) (by omega) (by omega)) (λs Y=>Gd.nd (by simp; omega) (Gd.eE (FE (by omega) (by omega) (by omega)) (λf hf=>Gd.eE (yC Y.1 hf.1 Y.2.1 hf.2.1 (by omega)) (λc hc=>Gd.nd (by simp; omega) ?_))))
  refine hnx _ ⟨pre++[b],by rw [J]; simp,by simp [hpk],?_,?_,by simp [e3],by simp [e4],?_,?_⟩
  ·simp only [Qk,RH,Tf]
   rw [u2]; rfl
  ·simp only [Qk,RH,Tf]
   rw [v2]; rfl
  ·exact F_ e3 hB ⟨Y.1,Y.2.1,Y.2.2⟩
  ·exact F_ e4 hC ⟨hc.1,hc.2.1,by rw [hc.2.2,Y.2.2,hf.2.2]⟩
 ·rintro k ⟨l1,l2,l3,l4⟩ ⟨pre,J,hpk,e1,e2,e3,e4,hB,hC⟩
  simp only at e1 e2 e3 e4 hB hC;rw [PH] at J;subst J;subst e1 e2;refine Gd.dR (λi ys s=>∃ pre,t.bK=pre++ys/\pre.length=i/\CQ s.1/\(∀ k:Int,(qK s.1 k).getD false=true↔k ∈ pre) /\
   s.2=((List.range i).filter (λi=>(List.range i).any (λj=>decide (t.bK[j]? = t.bK[i]?)))).map (λx:Nat=>(x:Int))) ?_ ?_ t.bK 0 _
   ⟨[],rfl,rfl,CQ.nil,λk=>by simp [qK,vq],rfl⟩
  ·rintro i y ys ⟨seen,free⟩ nx ⟨pre,J,Z,hk,hs,e⟩ hnx
   simp only at hk hs e;subst e;have hi:t.bK[i]? = some y:=by rw [J,PB (by omega),Z,Qg]; rfl
   have hil:=(O3.1 hi).1;have hmem:y ∈ pre↔(List.range i).any (λj=>decide (t.bK[j]? = t.bK[i]?))=true:=by
    rw [List.any_eq_true];constructor
    ·intro hy
     obtain ⟨j,hj,he⟩:=Qc.1 hy;refine ⟨j,PV.2 (by omega),?_⟩
     rw [hi,J,Qb hj,OZ hj,he]; simp
    ·rintro ⟨j,hj,he⟩
     have hj:=PV.1 hj;have he:=O6 he;rw [hi,J,Qb (by omega)] at he
     exact Pb he
   have hfl:((List.range i).filter (λi=>(List.range i).any (λj=>decide (t.bK[j]? = t.bK[i]?)))).length<=i:=by
    have:=TV (λi=>(List.range i).any (λj=>decide (t.bK[j]? = t.bK[i]?))) (List.range i);simpa using this
   have O:CQ (uv seen y true)/\∀ k:Int,(qK (uv seen y true) k).getD false=true↔k ∈ pre++[y]:=by
    refine ⟨(hk.put y true).1,λk=>?_⟩;rw [hk.FF,Pe,PE]
    split
    ·rename_i e; simp [e]
    ·rename_i e; rw [hs k]; simp [e]
   unfold vB;refine Gd.ite (λhc=>?_) (λhc=>?_)
   ·have hc2:=hmem.1 ((hs y).1 hc)
    unfold qv;refine Gd.nd (by simp only [QR,P2]; omega) (hnx _ ⟨pre++[y],by rw [J]; simp,by simp [Z],O.1,O.2,?_⟩)
    simp only;rw [Sh,RA,Qk,TP,O8 hc2]
    rfl
   ·have hc2:¬ (List.range i).any (λj=>decide (t.bK[j]? = t.bK[i]?))=true:=λhh=>by
     have:=(hs y).2 (hmem.2 hh);rw [this] at hc; cases hc
    unfold qv;refine hnx _ ⟨pre++[y],by rw [J]; simp,by simp [Z],O.1,O.2,?_⟩
    simp only;rw [Sh,RA,Qk,TP,O7 hc2];simp
  ·rintro i ⟨seen,free⟩ ⟨pre,J,Z,hk,hs,e⟩
   simp only at e;rw [PH] at J;subst e;have hi:i=t.bK.length:=by rw [<- Z,<- J]
   subst hi;have I:Ht (aV.mk t (n.aG.map (λb=>((Fz n t.pw b).2.1:Int))) (n.aG.map (λb=>((Fz n t.pw b).2.2:Int))) l3 l4 ((fr t.bK).map (λx:Nat=>(x:Int))) []) (fr t.bK).length t.bK.length (Ba t.bK) (zd n t.pw) tq:=by
    refine ⟨Cf hN,MR _,λi j hi hj e=>yl hi hj e,λi hi=>(EF.1 (Ce hi)).1,hN,hE.ll,hE.el,?_,?_,by show l3.length=_; rw [e3]; simp [zd],λk y hy=>?_⟩
    ·simp [zd]
    ·simp [zd]
    ·obtain ⟨b,hb,y1,y2,y3⟩:=hB k y hy
     exact ⟨Fz n t.pw b,by unfold zd; rw [Pw,hb]; rfl,y1,y2,y3⟩
   have hinv:=GQ I (EU h hn ht) (ET hE (Cf hN) (λi j hi hj e=>yl hi hj e));refine Gd.eE hinv ?_;rintro _ ⟨rows,rfl,hI⟩;refine Gd.ret ⟨_,rfl,⟨rfl,?_,e4,hC,hI⟩⟩;exact ⟨I.hn,I.free,I.inj,I.lt,I.hN,I.ll,I.el,I.fr,I.to,I.bl,I.b⟩
def NL (l:List LR) (N:Nat) (P:Nat->LR->Prop):Prop:=l.length=N/\∀ (b:Nat) (y:LR),l[b]? = some y->P b y
theorem NL.mono {l:List LR}{N:Nat}{P P':Nat->LR->Prop} (h:NL l N P) (k:∀ b y,b<N->P b y->P' b y):NL l N P':=
 ⟨h.1,λb y I=>k b y (by rw [<- h.1]; exact (O3.1 I).1) (h.2 b y I)⟩
theorem NL.set {l:List LR}{N:Nat}{P:Nat->LR->Prop} (h:NL l N P) {b:Nat}{y:LR} (O:P b y):NL (l.set b y) N P:=by
 refine ⟨by rw [Qh]; exact h.1,λJ Y I=>?_⟩
 by_cases e:b=J
 ·subst e
  have hl:b<l.length:=by
   have:=(O3.1 I).1
   rwa [Qh] at this
  rw [Pu hl] at I;obtain rfl:=O4 I;exact O
 ·rw [Pq e] at I
  exact h.2 J Y I
theorem NL.snoc {l:List LR}{N:Nat}{P:Nat->LR->Prop} (h:NL l N P) {y:LR} (O:P N y):NL (l++[y]) (N+1) P:=by
 refine ⟨by simp [h.1],λb Y I=>?_⟩
 by_cases e:b<l.length
 ·rw [Qb e] at I
  exact h.2 b Y I
 ·have J:=(O3.1 I).1
  rw [Pj,P2] at J;obtain rfl:b=l.length:=by omega
  rw [PB (Pn _),Qg] at I;obtain rfl:=O4 I;rw [h.1]; exact O
theorem NL.get {R:Type}{Q:R->Prop}{l:List LR}{N:Nat}{P:Nat->LR->Prop} (h:NL l N P) {b:Nat} (I:b<N) {f:LR->Option R} (J:∀ y,P b y->Gd (f y) Q):Gd (idx l (b:Int) f) Q:=by
 have hl:b<l.length:=by rw [h.1]; exact I
 exact Gd.gS hl (J _ (h.2 b _ (OZ hl)))
theorem KH {n:Net}{t:aW}{M:aV} (hM:Md n t M) (ht:uq n t) (hn:oG n) {p:List Int} (hp:p.length=n.bC.length) (hb:∀ z ∈ p,-100000<=z/\z<=100000):
  Gd (nL M p) (λr=>NL r t.bK.length (λ_ y=>oc y/\RL y 2/\∃ z:Int,rv y=(z:Rat)/\-2400000<=z/\z<=2400000)):=by
 have h24:=hn.l1;have hN:=ht.JG;unfold nL fC;rw [hM.top];refine Gd.nd (by omega) ?_
 rw [O2];refine Gd.dR (λi ys s=>∃ pre,p=pre++ys/\pre.length=i/\s.length=t.bK.length/\∀ z ∈ s,-100000*(i:Int)<=z/\z<=100000*(i:Int)) ?_ ?_ p 0 _ ⟨[],rfl,rfl,by simp,λz hz=>by
  have:=TO hz;omega⟩
 ·rintro i y ys s nx ⟨pre,I,Y,hsl,hs⟩ O
  have hi:i<n.bC.length:=by rw [<- hp,I]; simp; omega
  have hy:=hb y (by rw [I]; simp)
  obtain ⟨v,v1,v2⟩:=Ej hn ht hi;have hv:v<t.bK.length:=by
   have:=ht.bi _ (Pb v1);omega
  have hvs:v<s.length:=by omega
  unfold qb;rw [hM.top];refine Gd.ix (by omega) (by rw [O2]; exact v1) (Gd.gS hvs (Gd.gS hvs ?_))
  have hz:=hs _ (PC hvs);have hw:i64.wrap (s[v]+y)=s[v]+y:=bQ ⟨by omega,by omega⟩
  rw [hw,O2];refine O _ ⟨pre++[y],by rw [I]; simp,by simp [Y],by rw [Qh]; exact hsl,λz hz'=>?_⟩
  rcases TY hz' with h1 | h1
  ·have:=hs z h1; omega
  ·subst h1; omega
 ·rintro i s ⟨pre,I,Y,hsl,hs⟩
  rw [PH] at I;have hil:i<=24:=by rw [<- Y,<- I,hp]; exact h24
  refine Gd.dR (λk ys r=>∃ pre,s=pre++ys/\pre.length=k/\NL r k (λ_ y=>oc y/\RL y 2/\∃ z:Int,rv y=(z:Rat)/\-2400000<=z/\z<=2400000)) ?_ ?_ s 0 _ ⟨[],rfl,rfl,rfl,λb y hb=>by simp at hb⟩
  ·rintro k y ys r nx ⟨pre,J,Z,hr⟩ O
   have hy:=hs y (by rw [J]; simp)
   have hkl:s.length=pre.length+(ys.length+1):=by rw [J]; simp
   have hrl:=hr.1;unfold qc;refine Gd.eE (um (by omega)) (λw hw=>Gd.nd (by simp; omega) (O _ ⟨pre++[y],by rw [J]; simp,by simp [Z],hr.snoc ⟨hw.1,hw.2.1,y,hw.2.2,by omega,by omega⟩⟩))
  ·rintro k r ⟨pre,J,Z,hr⟩
   rw [PH] at J;have hkn:k=t.bK.length:=by rw [<- Z,<- J,hsl]
   subst hkn;exact Gd.ret hr
theorem LN {a b:List LR}{n W:Nat}{A B:Nat->Rat} (hn:n<=24) (hW:W<=6000) (ha:NL a n (λj y=>oc y/\RL y W/\rv y=A j)) (hb:NL b n (λj y=>oc y/\RL y W/\rv y=B j)):
  Gd (sV a b) (λr=>oc r/\rv r=sm n (λj=>A j*B j)):=by
 unfold sV;refine Gd.eE (um (n:=0) (by omega)) (λz hz=>?_)
 rw [ha.1,O2];refine Gd.jQ (λm k s=>k+m=n/\∃ r:LR,s=(r.N.minus,r.N.words,r.D.minus,r.D.words)/\oc r/\RL r (2+(2*W+1)*k)/\rv r=sm k (λj=>A j*B j)) ?_ ?_ n 0 _ ⟨by omega,z,rfl,hz.1,hz.2.1,by rw [hz.2.2]; rfl⟩
 ·rintro m k _ nx ⟨hk,r,rfl,hr,J,hv⟩ Z
  have I:k<n:=by omega
  have hbig:(2*W+1)*k<=(2*W+1)*23:=Uc _ (by omega)
  have hsucc:(2*W+1)*(k+1)=(2*W+1)*k+(2*W+1):=Nat.mul_succ _ _;unfold tV;refine ha.get I (λy hy=>?_);have skip:A k*B k=0->Gd (lQ nx r.N.minus r.N.words r.D.minus r.D.words) (λr=>oc r/\rv r=sm n (λj=>A j*B j)):=λh0=>by
   unfold lQ;refine Z _ ⟨by omega,r,rfl,hr,J.mono (by omega),?_⟩
   rw [hv];show _=sm k (λj=>A j*B j)+A k*B k;rw [h0]; grind
  rw [w4 hy.1,hy.2.2];refine Gd.ite (λh=>skip (by rw [of_decide_eq_true h]; grind)) (λ_=>hb.get I (λu hu=>?_))
  rw [w4 hu.1,hu.2.2];refine Gd.ite (λ_=>ha.get I (λy2 Y=>hb.get I (λu2 O=>?_))) (λh=>skip (by
   have h1:decide (B k=0)=true:=by simpa using h
   rw [of_decide_eq_true h1]; grind))
  refine Gd.eE (yC Y.1 O.1 Y.2.1 O.2.1 (by omega)) (λc hc=>Gd.eE (vM (a:=⟨⟨r.N.minus,r.N.words⟩,⟨r.D.minus,r.D.words⟩⟩) hr hc.1 J hc.2.1 (by omega)) (λd hd=>?_))
  unfold lQ;refine Z _ ⟨by omega,d,rfl,hd.1,hd.2.1.mono (by omega),?_⟩
  rw [hd.2.2,hc.2.2,Y.2.2,O.2.2];show rv r+_=sm k (λj=>A j*B j)+A k*B k;rw [hv]
 ·rintro k _ ⟨hk,r,rfl,hr,J,hv⟩
  obtain rfl:k=n:=by omega
  exact Gd.ret ⟨hr,hv⟩
theorem JT {q s:Int} (hq:500<=q) (hs:-1000<=s/\s<=1000):-2000<=(tq / (q:Rat))*((s:Rat) / ((1000:Int):Rat))/\(tq / (q:Rat))*((s:Rat) / ((1000:Int):Rat))<=2000/\(tq / (q:Rat))*((s:Rat) / ((1000:Int):Rat))=(((1000*s:Int):Rat)) / (q:Rat):=by
 have O:((500:Int):Rat)<=(q:Rat):=Ur.2 hq;have Z:((-1000:Int):Rat)<=(s:Rat):=Ur.2 hs.1;have h3:(s:Rat)<=((1000:Int):Rat):=Ur.2 hs.2;have e1:((500:Int):Rat)=500:=rfl;have e2:((-1000:Int):Rat) = -1000:=by rw [Ut]; rfl
 have J:((1000:Int):Rat)=1000:=rfl;have Y:tq=1000000:=rfl;rw [e1] at O; rw [e2] at Z; rw [J] at h3 ⊢
 have p:0<((q:Rat))⁻¹:=Rat.inv_pos.2 (by grind)
 have i1:=Rat.mul_inv_cancel (q:Rat) (by grind)
 have i2:=Rat.mul_le_mul_of_nonneg_right O (Rat.le_of_lt p);have i3:(q:Rat)⁻¹<=1 / 500:=by grind
 have I:(tq / (q:Rat))*((s:Rat) / 1000)=(1000*(s:Rat))*(q:Rat)⁻¹:=by rw [Y,Rat.div_def,Rat.div_def]; grind
 have m:=z_ (x:=1000*(s:Rat)) (y:=(q:Rat)⁻¹) (a:=1000000) (b:=1 / 500) (by grind) (by grind) (by grind) i3
 refine ⟨by rw [I]; grind,by rw [I]; grind,?_⟩
 rw [I,Us,J,Uq]
def Lg (l:List (Rat×Nat×Nat)) (W:Nat) (C:Rat) (b:Nat) (y:LR):Prop:=oc y/\RL y W/\tB (tn b l*rv y)/\-C<=rv y/\rv y<=C
theorem Lg.mono {l:List (Rat×Nat×Nat)}{W J:Nat}{C I:Rat}{b:Nat}{y:LR} (h:Lg l W C b y) (O:W<=J) (Y:C<=I):Lg l J I b y:=
 ⟨h.1,h.2.1.mono O,h.2.2.1,by have:=h.2.2.2.1; grind,by have:=h.2.2.2.2; grind⟩
theorem FH {a:Rat} (h:tB a):tB (-a):=by
 obtain ⟨z,rfl⟩:=h;exact ⟨-z,by rw [Ut]⟩
theorem Lg.sub {l:List (Rat×Nat×Nat)}{W:Nat}{C:Rat}{b:Nat}{y c:LR} (h:Lg l W C b y) (hc:Lg l 4 2000 b c) (hW:W<=1000):Gd (iU y c) (Lg l (W+5) (C+2000) b):=by
 obtain ⟨a1,J,O,a4,a5⟩:=h;obtain ⟨Y,Z,c3,c4,c5⟩:=hc;refine (xf a1 Y J Z (by omega)).mono (λr I=>⟨I.1,I.2.1.mono (by omega),?_,?_,?_⟩)
 ·rw [I.2.2]
  have e:tn b l*(rv y-rv c)=tn b l*rv y+-(tn b l*rv c):=by grind
  rw [e]; exact ym O (FH c3)
 ·rw [I.2.2]; grind
 ·rw [I.2.2]; grind
theorem Lg.add {l:List (Rat×Nat×Nat)}{W:Nat}{C:Rat}{b:Nat}{y c:LR} (h:Lg l W C b y) (hc:Lg l 4 2000 b c) (hW:W<=1000):Gd (gJ y c) (Lg l (W+5) (C+2000) b):=by
 obtain ⟨a1,J,O,a4,a5⟩:=h;obtain ⟨Y,Z,c3,c4,c5⟩:=hc;refine (vM a1 Y J Z (by omega)).mono (λr I=>⟨I.1,I.2.1.mono (by omega),?_,?_,?_⟩)
 ·rw [I.2.2]
  have e:tn b l*(rv y+rv c)=tn b l*rv y+tn b l*rv c:=by grind
  rw [e]; exact ym O c3
 ·rw [I.2.2]; grind
 ·rw [I.2.2]; grind
theorem IK {n:Net}{t:aW}{M:aV} (I:Md n t M) {k:Nat}{b:aP} (J:n.aG[k]? = some b):
  M.oN[k]? = some ((Fz n t.pw b).2.1:Int)/\M.To[k]? = some ((Fz n t.pw b).2.2:Int)/\(zd n t.pw)[k]? = some (Fz n t.pw b):=by
 have e:(zd n t.pw)[k]? = some (Fz n t.pw b):=by unfold zd; rw [Pw,J]; rfl
 refine ⟨?_,?_,e⟩
 ·rw [I.md.fr]; exact B1 (λe:Rat×Nat×Nat=>(e.2.1:Int)) e
 ·rw [I.md.to]; exact B1 (λe:Rat×Nat×Nat=>(e.2.2:Int)) e
theorem NO {n:Net}{t:aW}{M:aV} (h:oh n) (hn:oG n) (hM:Md n t M) (ht:uq n t) {k:Nat}{c:LR} (hc:M.C[k]? = some c):
  ∃ b,n.aG[k]? = some b/\Lg (zd n t.pw) 4 2000 (Fz n t.pw b).2.1 c/\Lg (zd n t.pw) 4 2000 (Fz n t.pw b).2.2 c:=by
 obtain ⟨b,J,O,Y,c3⟩:=hM.c k c hc;have V:=Gr h (Pb J);have Z:=Ao h hn ht;obtain ⟨_,_,e⟩:=IK hM J;have hm:=Pb e;have hs:=V.s;obtain ⟨d1,d2,d3⟩:=JT (q:=b.X*b.A_) (s:=0-b.Shift) V.q.1 (by omega)
 rw [<- c3] at d1 d2 d3;have I:=λ(u:Nat) hu=>CJ (u:=u) (l:=zd n t.pw) (λe he=>⟨(yA Z he).1,by have:=(yA Z he).2.1; grind⟩) _ hm hu (((1000*(0-b.Shift):Int)):Rat) ⟨_,rfl⟩
 refine ⟨b,J,⟨O,Y,?_,d1,d2⟩,⟨O,Y,?_,d1,d2⟩⟩
 ·rw [d3]; exact I _ (.inl rfl)
 ·rw [d3]; exact I _ (.inr rfl)
theorem yL (k:Nat):(((k+1:Nat):Int):Rat)=((k:Int):Rat)+1:=by rw [TH,Rat.intCast_add]; rfl
theorem Kd {n:Net}{t:aW}{M:aV} (h:oh n) (hn:oG n) (hM:Md n t M) (ht:uq n t) {p:List LR}
  (hp:NL p t.bK.length (λ_ y=>oc y/\RL y 2/\∃ z:Int,rv y=(z:Rat)/\-2400000<=z/\z<=2400000)) {Q:List LR->Prop}{K:List LR->Option (List LR)} (hK:∀ s,NL s t.bK.length (Lg (zd n t.pw) 300 2500000)->Gd (K s) Q):
  Gd (dR (λk y s n=>mH M k y s n) K 0 M.C p) Q:=by
 have hE:=Ao h hn ht;have hcl:=hM.B4;have h24:=h.l3;refine Gd.dR (λk ys s=>∃ pre,M.C=pre++ys/\pre.length=k/\NL s t.bK.length (Lg (zd n t.pw) (2+10*k) (2400000+4000*((k:Int):Rat)))) ?_ ?_ M.C 0 p ⟨[],rfl,rfl,hp.mono (λb y hb Y=>?_)⟩
 ·rintro k c ys s nx ⟨pre,J,O,hs⟩ hnx
  have hck:M.C[k]? = some c:=by rw [J,PB (by omega),O,Qg]; rfl
  obtain ⟨b,hb,g1,g2⟩:=NO h hn hM ht hck;obtain ⟨f1,f2,f3⟩:=IK hM hb;have I:=hE.el _ (Pb f3);have hk24:k<24:=by have:=(O3.1 hck).1; omega
  generalize Fz n t.pw b=e at g1 g2 f1 f2 f3 I;unfold mH;refine Gd.ix (by omega) (by rw [O2]; exact f1) (Gd.ix (by omega) (by rw [O2]; exact f1) (hs.get I.1 (λy Y=>Gd.eE (Y.sub g1 (by omega)) (λr hr=>hs.get I.1 (λ_ _=>?_)))))
  have c0:(2400000+4000*((k:Int):Rat))<=(2400000+4000*((k:Int):Rat))+2000:=by grind
  have Z:=(hs.mono (P':=Lg (zd n t.pw) (2+10*k+5) (2400000+4000*((k:Int):Rat)+2000)) (λb y _ Y=>Y.mono (by omega) c0)).set (b:=e.2.1) hr
  refine Gd.ix (by omega) (by rw [O2]; exact f2) (Gd.ix (by omega) (by rw [O2]; exact f2) ?_)
  rw [O2,O2];refine Z.get I.2 (λy2 hy2=>Gd.eE (hy2.add g2 (by omega)) (λr2 hr2=>Z.get I.2 (λ_ _=>?_)))
  have c1:(2400000+4000*((k:Int):Rat))+2000<=2400000+4000*(((k+1:Nat):Int):Rat):=by rw [yL]; grind
  have c2:(2400000+4000*((k:Int):Rat))+2000+2000<=2400000+4000*(((k+1:Nat):Int):Rat):=by rw [yL]; grind
  exact hnx _ ⟨pre++[c],by rw [J]; simp,by simp [O],(Z.mono (λb y _ Y=>Y.mono (by omega) c1)).set (hr2.mono (by omega) c2)⟩
 ·rintro k s ⟨pre,J,O,hs⟩
  rw [PH] at J;have hk24:k<=24:=by rw [<- O,<- J]; omega
  have hc:((k:Int):Rat)<=((24:Int):Rat):=Ur.2 (by omega)
  have e24:((24:Int):Rat)=24:=rfl;rw [e24] at hc;exact hK s (hs.mono (λb y _ Y=>Y.mono (by omega) (by grind)))
 ·obtain ⟨y1,y2,z,y3,y4,y5⟩:=Y
  have e0:(((0:Nat):Int):Rat)=0:=rfl;have a:=Ur.2 y4;have b:=Ur.2 y5;have e1:((2400000:Int):Rat)=2400000:=rfl;rw [Ut,e1] at a;rw [e1] at b;refine ⟨y1,y2,?_,?_,?_⟩
  ·rw [y3]
   exact rG (zE (λe he=>(yA hE he).1)) ⟨z,rfl⟩
  ·rw [y3,e0]; grind
  ·rw [y3,e0]; grind
def An (D:Rat) (y:LR):Prop:=oc y/\∃ T,tB T/\-wq 140<=T/\T<=wq 140/\rv y=T / D
structure Dv (D:Rat):Prop where
 i:tB D
 z:D≠0
 a:-wq 60<=D
 b:D<=wq 60
theorem Iy:tB 0:=⟨0,rfl⟩
theorem An.rb {D:Rat} (I:Dv D) {y:LR} (h:An D y):RB (rv y) 141:=by
 obtain ⟨_,T,t1,t2,t3,e⟩:=h;rw [e];have:=xg (show 60<=140 by omega)
 have J:=I.a;have O:=I.b;exact yB t1 I.i t2 t3 (by grind) (by grind) I.z (by omega)
theorem An.zero {D:Rat}{y:LR} (J:oc y) (I:rv y=0):An D y:=⟨J,0,Iy,by have:=uV 140; grind,by have:=uV 140; grind,by rw [I,Rat.div_def]; grind⟩
theorem Ly {f:Nat->Rat}{b:Rat} (I:0<=b):∀ {n:Nat},(∀ i,i<n->-b<=f i/\f i<=b)->-(((n:Int):Rat)*b)<=sm n f/\sm n f<=((n:Int):Rat)*b
 | 0,_=>by
  show -((((0:Nat):Int):Rat)*b)<=0/\0<=((((0:Nat):Int):Rat)*b);have e:((((0:Nat):Int)):Rat)=0:=rfl;rw [e]; grind
 | n+1,h=>by
  have J:=Ly I (n:=n) (λi hi=>h i (by omega))
  have O:=h n (by omega)
  rw [yL];show _<=sm n f+f n/\sm n f+f n<=_
  grind
theorem HJ {n:Nat}{A B m:Mt}{L R:Nat->Rat} (h:Nb n A L B R) (J:Pd n A) (hn:n<=23) (hG:Gj n A n m) {i:Nat} (hi:i<n) {x:Nat->Rat} (hx:∀ p,p<n->tB (L p*x p)/\-2500000<=x p/\x p<=2500000) {y:LR} (hy:oc y)
  (e:rv y=sm n (λp=>m i (n+p)*x p)):An (Dk A L n) y:=by
 have d0:=(h.D0 J (Pn n)).1;have key:∀ p,p<n->∃ T,tB T/\-wq 139<=T/\T<=wq 139/\m i (n+p)*x p=T*(Dk A L n)⁻¹:=λp I=>by
  obtain ⟨N,n1,n2,n3,e1⟩:=hG.num h.s (Pn n) hi I;rw [O7 (by omega)] at e1
  have Y:m i (n+p)*Dk A L n=N*L p:=by
   have e2:1*m i (n+p)*Dk A L n=N*L p:=e1
   grind
  obtain ⟨x1,x2,x3⟩:=hx p I;have hP:=h.hP;have p1:1<=pr n R:=CE (λj hj=>h.s.R1 hj);have r1:=h.s.R1 hi;have r2:=h.R hi;have hNb:pr n R*R i<=wq 120:=by
   rw [<- uU 60 60];exact pN hP r2 (by grind) (by grind)
  have l1:=h.s.l1 p I;have l2:=h.hL p I;have w1:(2500000:Rat)<=wq 1:=by
   have:((2500000:Int):Rat)<=(((WB ^ 1:Nat):Int):Rat):=Ur.2 (by decide)
   exact this
  have Z:=z_ (x:=L p) (y:=x p) (a:=wq 18) (b:=wq 1) (by have:=uV 18; grind) l2 (by grind) (by grind)
  rw [uU] at Z;have q2:=z_ (x:=N) (y:=L p*x p) (a:=wq 120) (b:=wq (18+1)) (by grind) (by grind) Z.1 Z.2
  rw [uU] at q2;refine ⟨N*(L p*x p),rG n1 x1,q2.1,q2.2,?_⟩;have i1:=Rat.mul_inv_cancel _ d0;have e3:m i (n+p)=N*L p*(Dk A L n)⁻¹:=by rw [<- Y]; grind
  rw [e3]; grind
 have:∃ T:Nat->Rat,∀ p,p<n->tB (T p)/\-wq 139<=T p/\T p<=wq 139/\m i (n+p)*x p=(Dk A L n)⁻¹*T p:=by
  refine ⟨λp=>m i (n+p)*x p*Dk A L n,λp I=>?_⟩;obtain ⟨T,t1,t2,t3,t4⟩:=key p I;have i1:=Rat.mul_inv_cancel _ d0;have e2:m i (n+p)*x p*Dk A L n=T:=by rw [t4]; grind
  simp only;rw [e2];exact ⟨t1,t2,t3,by rw [t4]; grind⟩
 obtain ⟨T,O⟩:=this;have hs:sm n (λp=>m i (n+p)*x p)=(Dk A L n)⁻¹*sm n T:=by
  rw [<- qM];exact n_ (λp J=>(O p J).2.2.2)
 have hb:=Ly (f:=T) (b:=wq 139) (by have:=uV 139; grind) (n:=n) (λp J=>⟨(O p J).2.1,(O p J).2.2.1⟩)
 have hn2:((n:Int):Rat)*wq 139<=wq 140:=by
  have e1:wq 1*wq 139=wq 140:=uU 1 139;rw [<- e1];have h1:((n:Int):Rat)<=wq 1:=Ur.2 (show (n:Int)<=((WB ^ 1:Nat):Int) by
   have:((WB ^ 1:Nat):Int)=4294967296:=by decide
   rw [this]; omega)
  exact Rat.mul_le_mul_of_nonneg_right h1 (by have:=uV 139; grind)
 refine ⟨hy,sm n T,EL (λp J=>(O p J).1),by grind,by grind,?_⟩
 rw [e,hs,Rat.div_def]; grind
theorem An.mk' {D:Rat} (I:Dv D) {y z:LR} (h:An D y) (k:An D z):RB (rv y-rv z) 142:=by
 obtain ⟨_,T,t1,t2,t3,e⟩:=h;obtain ⟨_,U,u1,u2,Y,f⟩:=k;have e1:rv y-rv z=(T+-U) / D:=by rw [e,f,Rat.div_def,Rat.div_def,Rat.div_def]; grind
 have w:wq 140+wq 140<=wq 141:=by
  have e2:wq 1*wq 140=wq 141:=uU 1 140;rw [<- e2];have J:((2:Int):Rat)<=wq 1:=Ur.2 (by decide)
  have O:((2:Int):Rat)=2:=rfl;rw [O] at J;have:=Rat.mul_le_mul_of_nonneg_right J (show 0<=wq 140 by have:=uV 140; grind)
  grind
 rw [e1];have Z:=xg (show 60<=141 by omega)
 have d1:=I.a;have d2:=I.b;exact yB (ym t1 (FH u1)) I.i (by grind) (by grind) (by grind) (by grind) I.z (by omega)
def MO (n:Net) (t:aW):Rat:=Dk (J9 (Ba t.bK) (zd n t.pw)) (λi=>tn (Ba t.bK i) (zd n t.pw)) (fr t.bK).length
theorem H7 {n:Net} (h:oh n) (hn:oG n) {t:aW} (ht:uq n t):Dv (MO n t):=by
 have J:=Ao h hn ht;have I:=ET J (Cf ht.JG) (λi j hi O e=>yl hi O e);have Y:=EU h hn ht;obtain ⟨a,b,c⟩:=I.Db (Pn _);exact ⟨a,(I.D0 Y (Pn _)).1,b,c⟩
theorem Gn {n:Net}{t:aW}{M:aV} (h:oh n) (hn:oG n) (hM:Md n t M) (ht:uq n t) {s:List LR} (hs:NL s t.bK.length (Lg (zd n t.pw) 300 2500000)):
  Gd (mo M s) (λr=>NL r t.bK.length (λ_ y=>An (MO n t) y)):=by
 have hE:=Ao h hn ht;have hnf:=Cf ht.JG;have hNb:=ET hE hnf (λi j hi O e=>yl hi O e);have hp:=EU h hn ht;have hfl:M.pY.length=(fr t.bK).length:=by rw [hM.md.free]; simp
 have hfr:∀ k (y:Int),M.pY[k]? = some y->k<(fr t.bK).length/\y=(Ba t.bK k:Int):=λk y Y=>by
  have hk1:=(O3.1 Y).1;rw [hM.md.free,Pw,QW (by omega)] at Y
  exact ⟨by omega,(O4 Y).symm⟩
 obtain ⟨m,hG,hR⟩:=hM.inv.ex;unfold mo;rw [hfl,O2];refine Gd.nd (by omega) ?_
 refine Gd.dR (λk ys r=>∃ pre,M.pY=pre++ys/\pre.length=k/\r.length=(fr t.bK).length/\∀ j,j<k->r[j]? = s[Ba t.bK j]?) ?_ ?_ M.pY 0 _ ⟨[],rfl,rfl,by simp,λj O=>by omega⟩
 ·rintro k y ys r nx ⟨pre,I,J,hrl,hr⟩ hnx
  obtain ⟨Y,rfl⟩:=hfr k y (by rw [I,PB (by omega),J,Qg]; rfl)
  have Z:=hM.md.lt k Y;unfold oR;refine Gd.gS (by rw [hs.1]; exact Z) (Gd.gS (by omega) ?_)
  rw [O2];refine hnx _ ⟨pre++[(Ba t.bK k:Int)],by rw [I]; simp,by simp [J],by rw [Qh]; exact hrl,λj O=>?_⟩
  by_cases e:k=j
  ·subst e
   rw [Pu (by omega),OZ]
  ·rw [Pq e]; exact hr j (by omega)
 ·rintro k r ⟨pre,I,J,hrl,hr⟩
  rw [PH] at I;have Y:k=(fr t.bK).length:=by rw [<- J,<- I,hfl]
  subst Y;unfold fC;rw [hM.top];refine Gd.eE (yH (by have:=ht.JG; omega)) ?_
  rintro _ ⟨z,rfl,z1,z2,z3⟩;have hx:∀ j,j<(fr t.bK).length->∃ y,r[j]? = some y/\Lg (zd n t.pw) 300 2500000 (Ba t.bK j) y:=λj O=>by
   have Z:=hM.md.lt j O;have hl:Ba t.bK j<s.length:=by rw [hs.1]; exact Z
   have hsj:=OZ hl;exact ⟨s[Ba t.bK j],by rw [hr j O,hsj],hs.2 _ _ hsj⟩
  have hb:NL r (fr t.bK).length (λj y=>oc y/\RL y 6000/\rv y=((r[j]?).map rv).getD 0):=⟨hrl,λj y O=>by
   have hj1:=(O3.1 O).1;obtain ⟨y2,e,g⟩:=hx j (by omega)
   rw [O] at e;obtain rfl:=O4 e;exact ⟨g.1,g.2.1.mono (by omega),by rw [O]; rfl⟩⟩
  have hxx:∀ p,p<(fr t.bK).length->tB (tn (Ba t.bK p) (zd n t.pw)*((r[p]?).map rv).getD 0)/\-2500000<=((r[p]?).map rv).getD 0/\((r[p]?).map rv).getD 0<=2500000:=λp hp=>by
   obtain ⟨y2,e,g⟩:=hx p hp;rw [e];exact ⟨g.2.2.1,g.2.2.2.1,g.2.2.2.2⟩
  refine Gd.dR (λk ys o=>∃ pre,M.pY=pre++ys/\pre.length=k/\NL o t.bK.length (λ_ y=>An (MO n t) y)) ?_ ?_ M.pY 0 _ ⟨[],rfl,rfl,⟨by simp,λb y hb=>by
   have:=TO (Pb hb);subst this;exact An.zero z1 z3⟩⟩
  ·rintro k y ys o nx ⟨pre,I,J,ho⟩ hnx
   obtain ⟨Y,rfl⟩:=hfr k y (by rw [I,PB (by omega),J,Qg]; rfl)
   have Z:=hM.md.lt k Y;obtain ⟨row,w1,w2,w3⟩:=hR.row k Y;have ha:NL row (fr t.bK).length (λj y=>oc y/\RL y 6000/\rv y=m k ((fr t.bK).length+j)):=⟨w2,λj y O=>by
    have hj1:=(O3.1 O).1;obtain ⟨y2,e,g⟩:=w3 j (by omega)
    rw [O] at e;obtain rfl:=O4 e;exact g⟩
   unfold oS;refine Gd.ix (by omega) (by rw [O2]; exact w1) (Gd.eE (LN (by omega) (by omega) ha hb) (λd hd=>ho.get Z (λ_ _=>?_)))
   rw [O2];exact hnx _ ⟨pre++[(Ba t.bK k:Int)],by rw [I]; simp,by simp [J],ho.set (HJ hNb hp hnf hG Y hxx hd.1 hd.2)⟩
  ·rintro k o ⟨_,_,_,ho⟩
   exact Gd.ret ho
theorem Gc {n:Net}{t:aW}{M:aV} (h:oh n) (hn:oG n) (I:Md n t M) (ht:uq n t) {p:List LR}
  (J:NL p t.bK.length (λ_ y=>oc y/\RL y 2/\∃ z:Int,rv y=(z:Rat)/\-2400000<=z/\z<=2400000)):Gd (mn M p) (λr=>NL r t.bK.length (λ_ y=>An (MO n t) y)):=by
 have Y:=ht.JG;have Z:=J.1;unfold mn;exact Gd.nd (by omega) (Kd h hn I ht J (λs hs=>Gd.eE (Gn h hn I ht hs) (λr O=>Gd.ret O)))
theorem Hq {n:Net}{t:aW}{M:aV} (h:oh n) (hn:oG n) (O:Md n t M) (ht:uq n t) {a:List LR} (ha:NL a t.bK.length (λ_ y=>An (MO n t) y)):
  Gd (mY M a) (λr=>NL r n.aG.length (λ_ y=>oc y/\fits (rv y))):=by
 have hE:=Ao h hn ht;have hD:=H7 h hn ht;have hcl:=O.B4;have h24:=h.l3;unfold mY;refine Gd.dR (λk ys r=>∃ pre,M.C=pre++ys/\pre.length=k/\NL r k (λ_ y=>oc y/\fits (rv y))) ?_ ?_ M.C 0 _ ⟨[],rfl,rfl,rfl,λb y hb=>by simp at hb⟩
 ·rintro k c ys r nx ⟨pre,I,J,hr⟩ hnx
  have Z:M.C[k]? = some c:=by rw [I,PB (by omega),J,Qg]; rfl
  have hk24:k<24:=by have:=(O3.1 Z).1; omega
  obtain ⟨b,hb,c1,c2,c3⟩:=O.c k c Z;obtain ⟨f1,f2,f3⟩:=IK O hb;have hlt:=hE.el _ (Pb f3);have Y:k<M.B_.length:=by rw [O.md.bl]; exact (O3.1 f3).1
  obtain ⟨e,e1,b1,b2,b3⟩:=O.md.b k M.B_[k] (OZ Y);rw [f3] at e1;obtain rfl:=O4 e1;obtain ⟨q,q1,q2,q3⟩:=hE.q _ (Pb f3);have hBR:RB (rv M.B_[k]) 1:=by
   rw [b3,q1];exact RB.NT (by decide) (by omega) (by omega)
  have hrl:=hr.1;unfold pM;refine Gd.ix (by omega) (by rw [O2]; exact OZ Y) (Gd.ix (by omega) (by rw [O2]; exact f1) (ha.get hlt.1 (λy hy=>Gd.ix (by omega) (by rw [O2]; exact f2) (ha.get hlt.2 (λz hz=>?_)))))
  refine Gd.eE (xf hy.1 hz.1 (hy.1.rb (hy.rb hD)) (hz.1.rb (hz.rb hD)) (by omega)) (λd hd=>?_)
  have hdR:RB (rv d) 142:=by rw [hd.2.2]; exact hy.mk' hD hz
  refine Gd.eE (yC b1 hd.1 (b1.rb hBR) (hd.1.rb hdR) (by omega)) (λf hf=>?_)
  refine Gd.eE (vM hf.1 c1 hf.2.1 c2 (by omega)) (λg hg=>Gd.nd (by simp; omega) (hnx _ ⟨pre++[c],by rw [I]; simp,by simp [J],hr.snoc ⟨hg.1,?_⟩⟩))
  exact RB.fits ⟨g,hg.1,hg.2.1,rfl⟩ (by omega)
 ·rintro k r ⟨pre,I,J,hr⟩
  rw [PH] at I;have hk:k=n.aG.length:=by rw [<- J,<- I,hcl]
  subst hk;exact Gd.ret hr
theorem DX {l:List LR} (hl:l.length<=1000) (h:∀ y ∈ l,oc y/\fits (rv y)):Gd (mT l) (λr=>r=(l.map (λy=>ctext (rv y)),0)):=by
 unfold mT;refine Gd.eE (P:=λr=>r=(l.map (λy=>ctext (rv y)),true)) ?_ (λr O=>by subst O; exact Gd.ite (λh=>by simp at h) (λ_=>Gd.ret rfl))
 unfold sJ;refine Gd.nd (by omega) ?_
 rw [O2];refine Gd.dR (λk ys s=>∃ pre,l=pre++ys/\pre.length=k/\s=pre.map (λy=>ctext (rv y))++List.replicate ys.length (⟨#[]⟩:OX)) ?_ ?_ l 0 _ ⟨[],rfl,rfl,by simp⟩
 ·rintro k y ys _ nx ⟨pre,J,I,rfl⟩ Y
  obtain ⟨y1,y2⟩:=h y (by rw [J]; simp)
  unfold sx;refine Gd.eE (Jd y1) (λr O=>?_);have Z:=O.1.2 y2;refine Gd.ite (λhh=>by rw [Z] at hh; simp at hh) (λ_=>?_)
  refine Gd.ix (y:=⟨#[]⟩) (by omega) ?_ (Y _ ⟨pre++[y],by rw [J]; simp,by simp [I],?_⟩)
  ·rw [O2,PB (by simp [I]),QR,I,Qg,Pa,Rl]; rfl
  ·rw [O2,T0 _ _ (by simp [I]),QR,I,Qg,Pa,Rl,List.set_cons_zero,O.2 Z]
   simp
 ·rintro k _ ⟨pre,J,I,rfl⟩
  rw [PH] at J;subst J;exact Gd.ret (by simp)
structure MI (n:Net) (t:aW) (s:cD):Prop where
 al:s.fK.length=t.bK.length
 fl:s.hO.length=n.aG.length
 a:∀ x ∈ s.fK,∃ q,fits q/\x=ctext q
 f:∀ x ∈ s.hO,∃ q,fits q/\x=ctext q
theorem NL.all {l:List LR}{N:Nat}{P:LR->Prop} (h:NL l N (λ_ y=>P y)):∀ y ∈ l,P y:=λy I=>by
 obtain ⟨i,hi,rfl⟩:=Qc.1 I;exact h.2 i _ (OZ hi)
theorem Jl {n:Net}{p:List Int} (h:oh n) (hn:oG n) {t:aW} (hg:dT n=some t) (ht:uq n t) (hp:p.length=n.bC.length) (hb:∀ z ∈ p,-100000<=z/\z<=100000) (hc:oQ n p=some 0):
  Gd (oU n p) (λr=>r.2=0/\MI n t r.1):=by
 have hN:=ht.JG;have h24:=h.l3;unfold oU;refine Gd.bind_eq hc (Gd.ite (λh=>by simp at h) (λ_=>?_))
 refine Gd.eE (IP h hn hg ht) ?_;rintro _ ⟨M,rfl,O⟩;simp only [DL];refine Gd.eE (KH O ht hn hp hb) (λsm hsm=>Gd.eE (Gc h hn O ht hsm) (λa J=>?_));have hD:=H7 h hn ht;have Z:=J.1;refine Gd.eE (DX (by omega) (λy I=>⟨(J.all y I).1,(An.rb hD (J.all y I)).fits (by omega)⟩)) ?_
 rintro _ rfl;refine Gd.eE (Hq h hn O ht J) (λf Y=>?_);have hl2:=Y.1;refine Gd.eE (DX (by omega) (λy I=>Y.all y I)) ?_
 rintro _ rfl;refine Gd.ite (λh=>by simp at h) (λ_=>Gd.ret ⟨rfl,by simp [Z],by simp [hl2],λx hx=>?_,λx hx=>?_⟩)
 ·obtain ⟨y,I,rfl⟩:=PO.1 hx
  exact ⟨_,(An.rb hD (J.all y I)).fits (by omega),rfl⟩
 ·obtain ⟨y,I,rfl⟩:=PO.1 hx
  exact ⟨_,(Y.all y I).2,rfl⟩
def acc {α:Type} (f:α->Int) (p:α->Nat) (k:Nat):List α->Int
 | []=>0
 | x::xs=>(if p x=k then f x else 0)+acc f p k xs
theorem B0 {α:Type}{f:α->Int}{p:α->Nat}{k:Nat}:∀ {l:List α},(∀ x ∈ l,0<=f x)->0<=acc f p k l
 | [],_=>Ro _
 | x::xs,h=>by
  have J:=h x (O5 ..);have O:=B0 (f:=f) (p:=p) (k:=k) (l:=xs) λy I=>h y (O9 _ I);unfold acc
  split <;> omega
theorem Ec {α:Type}{f:α->Int}{p:α->Nat}{k:Nat}{B:Int} (I:0<=B):∀ {l:List α},(∀ x ∈ l,f x<=B)->acc f p k l<=B*l.length
 | [],_=>by simp [acc]
 | x::xs,h=>by
  have O:=h x (O5 ..);have Y:=Ec (f:=f) (p:=p) (k:=k) (B:=B) I (l:=xs) λy J=>h y (O9 _ J);unfold acc;rw [Pa,TH,TE]
  split <;> omega
theorem Ft {α:Type}{f:α->Int}{p:α->Nat}{k:Nat}:∀ (a b:List α),acc f p k (a++b)=acc f p k a+acc f p k b
 | [],b=>by show acc f p k b=0+acc f p k b; omega
 | x::xs,b=>by
  have:=Ft (f:=f) (p:=p) (k:=k) xs b;show (if p x=k then f x else 0)+acc f p k (xs++b)=(if p x=k then f x else 0)+acc f p k xs+acc f p k b
  omega
theorem yd {α:Type}{f:α->Int}{p:α->Nat}{k:Nat} (a:List α) (x:α):acc f p k (a++[x])=acc f p k a+(if p x=k then f x else 0):=by
 rw [Ft];show _+((if p x=k then f x else 0)+0)=_
 omega
def sD (I:Nat->Nat) (k:Nat):Nat->List Int->Int
 | _,[]=>0
 | i,x::xs=>(if I i=k then x else 0)+sD I k (i+1) xs
theorem DC (I:Nat->Nat) (k:Nat):∀ (a b:List Int) (i:Nat),sD I k i (a++b)=sD I k i a+sD I k (i+a.length) b
 | [],b,i=>by show sD I k i b=0+sD I k (i+0) b; rw [Qt]; omega
 | x::xs,b,i=>by
  have:=DC I k xs b (i+1);have e:i+(x::xs).length=i+1+xs.length:=by simp; omega
  rw [e];show (if I i=k then x else 0)+sD I k (i+1) (xs++b)=(if I i=k then x else 0)+sD I k (i+1) xs+_
  omega
theorem AL (I:Nat->Nat) (k:Nat) (y:Int):∀ (l:List Int) (i j:Nat) (h:j<l.length),sD I k i (l.set j y)=sD I k i l+(if I (i+j)=k then y-l[j] else 0)
 | [],_,_,h=>by simp at h
 | x::xs,i,0,_=>by
  rw [List.set_cons_zero,Qt,List.getElem_cons_zero];show (if I i=k then y else 0)+sD I k (i+1) xs=(if I i=k then x else 0)+sD I k (i+1) xs+_
  split <;> omega
 | x::xs,i,j+1,h=>by
  have J:j<xs.length:=by simpa using h
  have:=AL I k y xs (i+1) j J;have e:i+1+j=i+(j+1):=by omega
  rw [e] at this;rw [List.set_cons_succ,List.getElem_cons_succ];show (if I i=k then x else 0)+sD I k (i+1) (xs.set j y)=(if I i=k then x else 0)+sD I k (i+1) xs+_
  rw [this]; omega
theorem DD (I:Nat->Nat) (k:Nat):∀ (m i:Nat),sD I k i (List.replicate m 0)=0
 | 0,_=>rfl
 | m+1,i=>by
  show (if I i=k then (0:Int) else 0)+sD I k (i+1) (List.replicate m 0)=0
  rw [DD I k m (i+1)]; split <;> rfl
theorem FQ (I:Nat->Nat) (k:Nat) {B:Int} (J:0<=B):∀ (l:List Int) (i:Nat),(∀ z ∈ l,-B<=z/\z<=B)->-(B*l.length)<=sD I k i l/\sD I k i l<=B*l.length
 | [],_,_=>by simp [sD]
 | x::xs,i,h=>by
  have Y:=h x (O5 ..);have Z:=FQ I k J xs (i+1) (λz O=>h z (O9 _ O));show -(B*(x::xs).length)<=(if I i=k then x else 0)+sD I k (i+1) xs/\(if I i=k then x else 0)+sD I k (i+1) xs<=B*(x::xs).length
  rw [Pa,TH,TE]
  split <;> omega
def CC (t:aW) (i:Nat):Nat:=((t.bK[((t.pw[i]?).getD 0).toNat]?).getD 0).toNat
theorem EZ {n:Net}{t:aW} (ht:uq n t) {i:Nat} (hi:i<n.bC.length):∃ v:Nat,t.pw[i]? = some (v:Int)/\v<t.bK.length/\t.bK[v]? = some (CC t i:Int)/\CC t i<t.bK.length:=by
 have I:i<t.pw.length:=by rw [ht.bl]; exact hi
 have Z:=ht.bi _ (PC I);obtain ⟨c,O⟩:=ht.comp;have J:(t.pw[i]).toNat<t.bK.length:=by omega
 have e1:t.pw[i]? = some (((t.pw[i]).toNat:Nat):Int):=by rw [OZ I]; congr 1; omega
 have Y:=O.all ((t.pw[i]).toNat:Int) (by omega) (by omega)
 rw [AB J] at Y;have hm:=O.mN;refine ⟨(t.pw[i]).toNat,e1,J,?_,?_⟩
 ·unfold CC
  rw [e1,QV,O2,OZ J,QV]
  congr 1; omega
 ·unfold CC
  rw [e1,QV,O2,OZ J,QV];omega
def xq (n:Net) (t:aW) (s:BA):Nat:=CC t (pos n s)
theorem AW {n:Net}{t:aW} (ht:uq n t) {s:BA} (hs:s ∈ n.bC):mf n t s=some (xq n t s:Int)/\xq n t s<t.bK.length:=by
 obtain ⟨p1,p2⟩:=SV hs;obtain ⟨v,v1,v2,v3,v4⟩:=EZ ht p2;refine ⟨?_,v4⟩;rw [<- Gd.eq];unfold mf;exact Gd.bind_eq p1 (Gd.ix (by omega) (by rw [O2]; exact v1) (Gd.ix (by omega) (by rw [O2]; exact v3) (Gd.ret rfl)))
theorem GW {n:Net}{t:aW} (hg:dT n=some t) (ht:uq n t):∃ N:Nat,lD n=some (N:Int)/\N<=24/\∀ s ∈ n.bC,xq n t s<N:=by
 obtain ⟨c,O⟩:=ht.comp;have hm:=O.mN;have I:zw t.bK.length t.bK:=λa ha=>by
  obtain ⟨k,hk,rfl⟩:=Qc.1 ha;have:=O.all (k:Int) (by omega) (by omega)
  rw [AB hk] at this;omega
 have h:Gd (lD n) (λr=>∃ N:Nat,r=N/\N<=24/\zw N t.bK):=by
  unfold lD;refine Gd.bind_eq hg (Kh t.bK.length ht.JG _ (λk y n nx=>by unfold qC; rfl) _ t.bK I (λm hm J=>Gd.ret ⟨m,rfl,by have:=ht.JG; omega,J⟩))
 obtain ⟨r,hr,N,rfl,Y,Z⟩:=h;refine ⟨N,hr,Y,λs hs=>?_⟩;obtain ⟨v,_,_,v3,_⟩:=EZ ht (SV hs).2;have:=Z _ (Pb v3);show CC t (pos n s)<N;omega
abbrev GF (n:Net) (t:aW) (k:Nat):Int:=acc aF.cW (λl:aF=>xq n t l.Node) k n.bA
theorem H8 {n:Net} (hn:oG n) (t:aW) (k:Nat):0<=GF n t k/\GF n t k<=1200000:=by
 have I:=B0 (f:=aF.cW) (p:=λl:aF=>xq n t l.Node) (k:=k) (l:=n.bA) (λl hl=>(hn.ld l hl).2.1);have J:=Ec (f:=aF.cW) (p:=λl:aF=>xq n t l.Node) (k:=k) (B:=100000) (by omega) (l:=n.bA) (λl hl=>(hn.ld l hl).2.2)
 have:=hn.l5;have O:GF n t k<=100000*(n.bA.length:Int):=J;exact ⟨I,by omega⟩
theorem Iz {n:Net}{t:aW} (hn:oG n) (hg:dT n=some t) (ht:uq n t) {N:Nat} (hN:lD n=some (N:Int)) (h24:N<=24) (hpl:∀ s ∈ n.bC,xq n t s<N):
  Gd (qh n) (λr=>r.length=N/\∀ k (I:k<r.length),r[k].cW=GF n t k):=by
 have h4:=hn.l4;have h5:=hn.l5;unfold qh;refine Gd.bind_eq hg (Gd.bind_eq hN (Gd.nd ⟨by omega,by omega⟩ ?_))
 rw [O2];refine Gd.dR (λi ys s=>(∀ y ∈ ys,y ∈ n.dL)/\s.length=N/\∀ k (I:k<s.length),s[k].cW=0) ?_ ?_ _ _ _ ⟨λ_ h=>h,by simp,?_⟩
 ·rintro i y ys s nx ⟨hm,hl,I⟩ Z
  have hy:=hm y (O5 ..);obtain ⟨Y,_⟩:=AW ht (hn.gn y hy).1;have J:xq n t y.Node<s.length:=by have:=hpl _ (hn.gn y hy).1; omega
  unfold rJ;refine Gd.bind_eq Y (Gd.gS J ?_);rw [O2,List.set_set];refine Z _ ⟨λz hz=>hm z (O9 _ hz),by simp [hl],λk O=>?_⟩
  rw [Qh] at O;rw [TR]
  split
  ·exact I _ J
  ·exact I k O
 ·rintro i s ⟨_,hl,I⟩
  refine Gd.dR (λi ys s=>∃ pre,n.bA=pre++ys/\s.length=N/\∀ k (I:k<s.length),s[k].cW=acc aF.cW (λl:aF=>xq n t l.Node) k pre) ?_ ?_ _ _ _ ⟨[],rfl,hl,I⟩
  ·rintro i y ys s nx ⟨pre,Y,hl,I⟩ Z
   have hy:y ∈ n.bA:=by rw [Y]; simp
   obtain ⟨hpp,_⟩:=AW ht (hn.ld y hy).1;have J:xq n t y.Node<s.length:=by have:=hpl _ (hn.ld y hy).1; omega
   have hyd:=hn.ld y hy;have hb1:=B0 (f:=aF.cW) (p:=λl:aF=>xq n t l.Node) (k:=xq n t y.Node) (l:=pre) (λl hl=>(hn.ld l (by rw [Y]; simp [hl])).2.1)
   have hb2:=Ec (f:=aF.cW) (p:=λl:aF=>xq n t l.Node) (k:=xq n t y.Node) (B:=100000) (by omega) (l:=pre) (λl hl=>(hn.ld l (by rw [Y]; simp [hl])).2.2)
   have hpre:pre.length<=12:=by
    have:n.bA.length=pre.length+(ys.length+1):=by rw [Y]; simp
    omega
   have hkk:=I _ J;have hw1:i64.wrap (s[xq n t y.Node].cW+y.cW)=s[xq n t y.Node].cW+y.cW:=bQ ⟨by omega,by omega⟩
   unfold rK;refine Gd.bind_eq hpp (Gd.gS J (Gd.gS J ?_));rw [hw1,O2];refine Z _ ⟨pre++[y],by rw [Y]; simp,by simp [hl],λk O=>?_⟩
   rw [Qh] at O;rw [TR,yd]
   by_cases e:xq n t y.Node=k
   ·subst e
    rw [O8 rfl,O8 rfl,hkk]
   ·rw [O7 e,O7 e,I k O]; omega
  ·rintro i s ⟨pre,Y,hl,I⟩
   rw [PH] at Y;subst Y;exact Gd.ret ⟨hl,I⟩
 ·intro k I
  have e:(List.replicate N ({ iJ:=0,qa:=0,cW:=0 }:bH))[k]={ iJ:=0,qa:=0,cW:=0 }:=List.getElem_replicate _;rw [e]
theorem J5 (l:List Int):Gd (dH l) (λb=>b=true↔∃ v ∈ l,0<v):=by
 unfold dH eF;refine Gd.eE (P:=λr=>0<=r↔∃ v ∈ l,0<v) ?_ (λr J=>Gd.ret (by simpa using J))
 refine Gd.jQ (λm i _=>i+m=l.length/\∀ v ∈ l.take i,v<=0) ?_ ?_ (l.length:Int).toNat 0 () ⟨by omega,by simp⟩
 ·intro m i _ O ⟨hi,hno⟩ hnx
  unfold fD nM;refine Gd.gS (by omega) (Gd.ite (λh=>Gd.ret ⟨λ_=>⟨l[i],PC _,by simpa using h⟩,λ_=>by omega⟩) (λh=>hnx () ⟨by omega,?_⟩))
  rw [Ps (by omega)]
  intro v I;rcases Pe.1 I with I | I
  ·exact hno v I
  ·simp at I; subst I; simpa using h
 ·intro i _ ⟨hi,hno⟩
  rw [Pg (by omega)] at hno
  exact Gd.ret ⟨λh=>by omega,λ⟨v,I,h⟩=>by have:=hno v I; omega⟩
abbrev Dn (n:Net) (t:aW) (k:Nat) (l:List (bE×Int)):Int:=acc (λz:bE×Int=>z.2) (λz:bE×Int=>xq n t z.1.Node) k l
structure NM (n:Net) (t:aW) (p:List Int):Prop where
 len:p.length=n.dL.length
 each:∀ z ∈ n.dL.zip p,0<=z.2/\z.2<=100000/\(z.2=0\/z.1.iJ<=z.2/\z.2<=z.1.qa)
 NN:∀ k,Dn n t k (n.dL.zip p)=GF n t k
theorem GR {n:Net}{t:aW} (hn:oG n) (hg:dT n=some t) (ht:uq n t) (hc:bV n=some 0):
  Gd (gI n) (λx=>(x.2=14/\x.1=[])\/(x.2=0/\NM n t x.1)):=by
 obtain ⟨N,hN,h24,Y⟩:=GW hg ht;have h4:=hn.l4;have h5:=hn.l5;obtain ⟨r,hr,hlen,hk⟩:=Iz hn hg ht hN h24 Y;unfold gI;refine Gd.bind_eq hc (Gd.ite (λh=>by simp at h) (λ_=>Gd.bind_eq hg (Gd.bind_eq hr ?_)))
 refine Gd.dR (λi ys s=>i+ys.length=r.length/\ys=r.drop i/\s=(r.take i).map bH.cW) ?_ ?_ _ _ _ ⟨by simp,by simp,by simp⟩
 ·rintro i y ys s nx ⟨hi,hys,rfl⟩ hnx
  simp only [Pa] at hi;have hlt:i<r.length:=by omega
  rw [Pz hlt] at hys;obtain ⟨rfl,rfl⟩:=TL hys;unfold q9;refine Gd.nd (by simp; omega) (hnx _ ⟨by omega,rfl,?_⟩)
  rw [Ps hlt,Qk]; rfl
 rintro i s ⟨hi,_,rfl⟩;rw [Pg (by simp at hi; omega)]
 refine Gd.dR (λi ys (s:List Int×List Int)=>∃ pre,n.dL=pre++ys/\pre.length=i/\s.1.length=N/\s.2.length=pre.length/\(∀ v ∈ s.1,0<=v)/\(∀ z ∈ pre.zip s.2,0<=z.2/\z.2<=100000/\(z.2=0\/z.1.iJ<=z.2/\z.2<=z.1.qa)) /\
   (∀ k (hk:k<s.1.length),s.1[k]+Dn n t k (pre.zip s.2)=GF n t k)) ?_ ?_ _ _ _
  ⟨[],rfl,rfl,by simp [hlen],rfl,?_,by simp,?_⟩
 ·rintro i y ys ⟨rest,out⟩ nx ⟨pre,hp,hpi,O,I,h0,he,hb⟩ hnx
  simp only at O I h0 he hb;have hy:y ∈ n.dL:=by rw [hp]; simp
  obtain ⟨hpp,_⟩:=AW ht (hn.gn y hy).1;have hlp:xq n t y.Node<rest.length:=by have:=Y _ (hn.gn y hy).1; omega
  have hgy:=hn.gn y hy;have hr0:=h0 rest[xq n t y.Node] (PC _);have hb0:=hb _ hlp;have hd:=H8 hn t (xq n t y.Node);have hge:0<=Dn n t (xq n t y.Node) (pre.zip out):=B0 (λz hz=>(he z hz).1);have hpl10:pre.length<10:=by
   have:n.dL.length=pre.length+(ys.length+1):=by rw [hp]; simp
   omega
  have step:∀ p:Int,0<=p->p<=rest[xq n t y.Node]->p<=y.qa->(p=0\/y.iJ<=p/\p<=y.qa) ->
    Gd (lF rest out nx (xq n t y.Node:Int) rest[xq n t y.Node] p) (λx=>(x.2=14/\x.1=[])\/(x.2=0/\NM n t x.1)):=by
   intro p p0 pr pm pe;have hw:i64.wrap (rest[xq n t y.Node]-p)=rest[xq n t y.Node]-p:=bQ ⟨by omega,by omega⟩
   have hz:(pre++[y]).zip (out++[p])=pre.zip out++[(y,p)]:=by rw [List.zip_append I.symm]; rfl
   unfold lF;rw [hw,O2];refine Gd.nd (by simp; omega) (hnx _ ⟨pre++[y],by rw [hp]; simp,by simp [hpi],by simp [O],by simp [I],?_,?_,?_⟩)
   ·intro v Z
    rcases TY Z with Z | rfl
    ·exact h0 v Z
    ·omega
   ·simp only
    rw [hz];intro z hzz;rcases Pe.1 hzz with h1 | h1
    ·exact he z h1
    ·rw [PE] at h1
     subst h1;exact ⟨p0,by simp only; omega,pe⟩
   ·intro k J
    simp only [Qh] at J;simp only;rw [hz];unfold Dn;rw [yd,TR];have hbk:=hb k J;unfold Dn at hbk
    by_cases e:xq n t y.Node=k
    ·subst e
     rw [O8 rfl,O8 rfl];simp only; omega
    ·rw [O7 e,O7 e]; omega
  unfold q_;refine Gd.bind_eq hpp (Gd.gS hlp (Gd.ite (λhle=>?_) (λ_=>step 0 (by omega) (by omega) (by omega) (.inl rfl))))
  have hle:y.iJ<=rest[xq n t y.Node]:=by simpa using hle
  exact step (min y.qa rest[xq n t y.Node]) (by omega) (by omega) (by omega) (.inr ⟨by omega,by omega⟩)
 ·rintro i ⟨rest,out⟩ ⟨pre,hp,hpi,O,I,h0,he,hb⟩
  simp only at O I h0 he hb;rw [PH] at hp;subst hp;refine Gd.eE (J5 rest) (λb hb2=>Gd.ite (λ_=>Gd.ret (.inl ⟨rfl,rfl⟩)) (λh=>Gd.ret (.inr ⟨rfl,I,he,λk=>?_⟩)));have hno:∀ v ∈ rest,v=0:=λv Z=>by
   have h1:=h0 v Z
   by_cases e:0<v
   ·have:=hb2.2 ⟨v,Z,e⟩
    rw [this] at h; cases h
   ·omega
  by_cases hkN:k<rest.length
  ·have:=hb k hkN
   rw [hno _ (PC _)] at this;show Dn n t k (n.dL.zip out)=_;omega
  ·have none:∀ {α:Type} (f:α->Int) (p:α->Nat) (l:List α),(∀ x ∈ l,p x<N)->acc f p k l=0:=by
    intro α f p l
    induction l with
    | nil=>intro _; rfl
    | cons x l ih=>
     intro hx;have h1:=hx x (O5 ..);have h2:=ih (λx h=>hx x (O9 _ h));show (if p x=k then f x else 0)+acc f p k l=0
     rw [O7 (by omega),h2]; rfl
   rw [show GF n t k=0 from none _ _ _ (λl hl=>Y _ (hn.ld l hl).1)];exact none _ _ _ (λz hz=>Y _ (hn.gn _ (List.of_mem_zip hz).1).1)
 ·intro v Z
  obtain ⟨s,hs,rfl⟩:=PO.1 Z;obtain ⟨k,hk2,rfl⟩:=Qc.1 hs;rw [hk k hk2]; exact (H8 hn t k).1
 ·intro k J
  simp only [QR] at J;simp only [Q4];rw [hk k J];show GF n t k+0=_;omega
theorem D3 {α I:Type}{y:α}{v:I}:∀ {pre:List α}{p:List I},p[pre.length]? = some v->(pre++[y]).zip p=pre.zip p++[(y,v)]
 | [],[],h=>by simp at h
 | [],b::p,h=>by
  have:b=v:=by simpa using h
  subst this;simp
 | a::pre,[],h=>by simp at h
 | a::pre,b::p,h=>by
  have J:p[pre.length]? = some v:=by simpa using h
  have:=D3 (y:=y) J;simp [this]
structure Hr (n:Net) (t:aW) (p:List Int):Prop where
 len:p.length=n.bC.length
 JI:∀ z ∈ p,-100000<=z/\z<=100000
 NN:∀ k,sD (CC t) k 0 p=0
theorem EE {n:Net}{t:aW} (h:oh n) (hn:oG n) (hg:dT n=some t) (ht:uq n t) (hc:bV n=some 0) {p:List Int} (hp:NM n t p):
  Gd (qP n p (List.replicate n.bT.length 0)) (λx=>(x.2=4/\x.1=[])\/(x.2=0/\Hr n t x.1)):=by
 have l1:=hn.l1;have l4:=hn.l4;have l5:=hn.l5;have l6:=h.l6;unfold qP;refine Gd.bind_eq hc (Gd.ite (λh=>by simp at h) (λ_=>?_))
 refine Gd.ite (λh=>absurd h (by simp [hp.len])) (λ_=>Gd.nd (by omega) ?_)
 rw [O2];refine Gd.dR (λi ys s=>∃ pre,n.dL=pre++ys/\pre.length=i/\s.length=n.bC.length/\(∀ k,sD (CC t) k 0 s=Dn n t k (pre.zip p))/\∀ z ∈ s,-(100000*(i:Int))<=z/\z<=100000*(i:Int)) ?_ ?_ n.dL 0 _
  ⟨[],rfl,rfl,by simp,λk=>DD _ _ _ _,λz hz=>by have:=TO hz; omega⟩
 ·rintro i y ys s nx ⟨pre,I,O,hsl,hb,hs⟩ Z
  have hy:y ∈ n.dL:=by rw [I]; simp
  obtain ⟨q1,q2⟩:=SV (hn.gn y hy).1;have hil:i<n.dL.length:=by rw [I]; simp; omega
  have hip:i<p.length:=by rw [hp.len]; exact hil
  have hpi2:=OZ hip;have hzip:=D3 (y:=y) (pre:=pre) (p:=p) (v:=p[i]) (by rw [O]; exact hpi2)
  have hmem:(y,p[i]) ∈ n.dL.zip p:=by
   refine Qc.2 ⟨i,by simp [hp.len]; omega,?_⟩
   rw [List.getElem_zip]
   congr 1
   have:n.dL[i]? = some y:=by rw [I,PB (by omega),O,Qg]; rfl
   rw [OZ hil] at this;exact O4 this
  have he:=hp.each _ hmem;simp only at he;have J:pos n y.Node<s.length:=by omega
  have hz:=hs _ (PC J);have fin:Gd (nx (s.set ((pos n y.Node:Int)).toNat (i64.wrap (s[pos n y.Node]+p[i])))) (λx=>(x.2=4/\x.1=[])\/(x.2=0/\Hr n t x.1)):=by
   have hw:i64.wrap (s[pos n y.Node]+p[i])=s[pos n y.Node]+p[i]:=bQ ⟨by omega,by omega⟩
   rw [hw,O2];refine Z _ ⟨pre++[y],by rw [I]; simp,by simp [O],by simp [hsl],λk=>?_,λz hz2=>?_⟩
   ·rw [AL _ _ _ _ _ _ J,hb k,hzip]
    unfold Dn;rw [yd,Po];show _+(if xq n t y.Node=k then _ else _)=_
    split <;> omega
   ·rcases TY hz2 with Y | Y
    ·have:=hs z Y; omega
    ·subst Y; omega
  unfold sn;refine Gd.gS hip (Gd.ite (λh0=>?_) (λh0=>?_))
  ·exact Gd.bind_eq q1 (Gd.gS J (Gd.gS hip (Gd.gS J fin)))
  ·have h0:p[i]≠0:=Pc h0
   refine Gd.gS hip (Gd.ite (λY=>?_) (λ_=>Gd.gS hip (Gd.ite (λY=>?_) (λ_=>Gd.bind_eq q1 (Gd.gS J (Gd.gS hip (Gd.gS J fin)))))))
   ·have:=O6 Y; omega
   ·have:=O6 Y; omega
 ·rintro i s ⟨pre,I,O,hsl,hb,hs⟩
  rw [PH] at I;subst I;have hb2:∀ k,sD (CC t) k 0 s=GF n t k:=λk=>(hb k).trans (hp.NN k);have hs2:∀ z ∈ s,-1000000<=z/\z<=1000000:=λz hz=>by have:=hs z hz; omega
  clear hb hs;refine Gd.dR (λi ys s'=>∃ pre,n.bT=pre++ys/\pre.length=i/\s'=s) ?_ ?_ n.bT 0 _ ⟨[],rfl,rfl,rfl⟩
  ·rintro i y ys s nx ⟨pre,I,O,rfl⟩ Z
   have hy:y ∈ n.bT:=by rw [I]; simp
   obtain ⟨_,v2,v3⟩:=h.vt y hy;obtain ⟨q1,q2⟩:=SV v2;have hil:i<n.bT.length:=by rw [I]; simp; omega
   have hst:(List.replicate n.bT.length (0:Int))[i]? = some 0:=by rw [Rh,O8 hil]
   have J:pos n y.Node<s.length:=by omega
   have hz:=hs2 _ (PC J);have hch:0<=y.rD/\y.rD<=100000/\0<=y.Discharge/\y.Discharge<=100000:=by
    simp [BK,aT,bF] at v3;omega
   have hw:i64.wrap (0-y.rD)=0-y.rD:=bQ ⟨by omega,by omega⟩
   have hw2:i64.wrap (s[pos n y.Node]+0)=s[pos n y.Node]:=by rw [bQ ⟨by omega,by omega⟩]; omega
   unfold so;rw [hw];refine Gd.ix (by omega) (by rw [O2]; exact hst) (Gd.ite (λY=>?_) (λ_=>Gd.ix (by omega) (by rw [O2]; exact hst) (Gd.ite (λY=>?_) (λ_=>Gd.bind_eq q1 (Gd.gS J (Gd.ix (by omega) (by rw [O2]; exact hst) (Gd.gS J ?_)))))))
   ·have:=O6 Y; omega
   ·have:=O6 Y; omega
   ·rw [hw2,O2]
    exact Z _ ⟨pre++[y],by rw [I]; simp,by simp [O],A1 (OZ J)⟩
  ·rintro i _ ⟨_,_,_,rfl⟩
   refine Gd.dR (λi ys s'=>∃ pre,n.bA=pre++ys/\pre.length=i/\s'.length=n.bC.length/\(∀ k,sD (CC t) k 0 s'=GF n t k-acc aF.cW (λl:aF=>xq n t l.Node) k pre)/\∀ z ∈ s',-(1000000+100000*(i:Int))<=z/\z<=1000000) ?_ ?_ n.bA 0 _
    ⟨[],rfl,rfl,hsl,λk=>by rw [hb2 k]; show _=GF n t k-0; omega,λz hz=>by have:=hs2 z hz; omega⟩
   ·rintro i y ys s' nx ⟨pre,I,O,hsl',hb',hs'⟩ Z
    have hy:y ∈ n.bA:=by rw [I]; simp
    obtain ⟨q1,q2⟩:=SV (hn.ld y hy).1;have hd:=(hn.ld y hy).2;have hil:i<n.bA.length:=by rw [I]; simp; omega
    have J:pos n y.Node<s'.length:=by omega
    have hz:=hs' _ (PC J);have hw:i64.wrap (s'[pos n y.Node]-y.cW)=s'[pos n y.Node]-y.cW:=bQ ⟨by omega,by omega⟩
    unfold sq;refine Gd.bind_eq q1 (Gd.gS J (Gd.gS J ?_));rw [hw,O2];refine Z _ ⟨pre++[y],by rw [I]; simp,by simp [O],by simp [hsl'],λk=>?_,λz hz2=>?_⟩
    ·rw [AL _ _ _ _ _ _ J,hb' k,yd,Po]
     show _+(if xq n t y.Node=k then _ else _)=_
     split <;> omega
    ·rcases TY hz2 with Y | Y
     ·have:=hs' z Y; omega
     ·subst Y; omega
   ·rintro i s' ⟨pre,I,O,hsl',hb',hs'⟩
    rw [PH] at I;subst I;refine Gd.dR (λi ys _=>∃ pre,s'=pre++ys/\∀ z ∈ pre,-100000<=z/\z<=100000) ?_ ?_ s' 0 _ ⟨[],rfl,λz hz=>by simp at hz⟩
    ·rintro i y ys _ nx ⟨pre,I,hr⟩ Z
     unfold sr;refine Gd.ite (λ_=>Gd.ret (.inl ⟨rfl,rfl⟩)) (λY=>Z () ⟨pre++[y],by rw [I]; simp,λz hz=>?_⟩)
     simp only [TC,UB] at Y;rcases Pe.1 hz with h2 | h2
     ·exact hr z h2
     ·rw [PE] at h2
      subst h2; omega
    ·rintro i _ ⟨pre,I,hr⟩
     rw [PH] at I;subst I;exact Gd.ret (.inr ⟨rfl,hsl',hr,λk=>by rw [hb' k]; show GF n t k-GF n t k=0; omega⟩)
theorem GP {n:Net}{t:aW} (h:oh n) (hn:oG n) (O:dT n=some t) (ht:uq n t) (J:bV n=some 0):
  Gd (eO n) (λx=>(x.2≠0/\x.1=[])\/(x.2=0/\Hr n t x.1)):=by
 have l6:=h.l6;unfold eO;refine Gd.eE (GR hn O ht J) (λx Z=>?_);rcases Z with ⟨e,_⟩ | ⟨e,Y⟩
 ·rw [e]
  exact Gd.ite (λ_=>Gd.ret (.inl ⟨by simp,rfl⟩)) (λh=>by simp at h)
 ·rw [e]
  refine Gd.ite (λh=>by simp at h) (λ_=>Gd.nd (by omega) ?_)
  rw [O2];refine Gd.eE (EE h hn O ht J Y) (λy I=>Gd.ret ?_);rcases I with ⟨e1,e2⟩ | I
  ·exact .inl ⟨by simp only; omega,e2⟩
  ·exact .inr I
theorem GK {n:Net}{t:aW} (hg:dT n=some t) (ht:uq n t) (hn:oG n) (hc:bV n=some 0) {p:List Int} (hp:Hr n t p):oQ n p=some 0:=by
 have l1:=hn.l1;rw [<- Gd.eq];unfold oQ;refine Gd.bind_eq hc (Gd.ite (λh=>by simp at h) (λ_=>Gd.ite (λh=>absurd h (by simp [hp.len])) (λ_=>Gd.bind_eq hg ?_)))
 refine Gd.dR (λi ys (l:List (Int×Int))=>∃ pre,p=pre++ys/\pre.length=i/\CQ l/\(∀ z ∈ l,∃ k:Nat,z.1=(k:Int))/\∀ k:Nat,(qK l (k:Int)).getD 0=sD (CC t) k 0 pre) ?_ ?_ p 0 _ ⟨[],rfl,rfl,CQ.nil,λz O=>by simp at O,λk=>by simp [qK,vq,sD]⟩
 ·rintro i y ys l nx ⟨pre,I,Y,hk,J,hs⟩ hnx
  have hy:=hp.JI y (by rw [I]; simp)
  have hpl:p.length=pre.length+(ys.length+1):=by rw [I]; simp
  have hpn:=hp.len;obtain ⟨v,v1,v2,v3,v4⟩:=EZ ht (show i<n.bC.length by omega)
  have hbd:=FQ (CC t) (CC t i) (B:=100000) (by omega) pre 0 (λz O=>hp.JI z (by rw [I]; simp [O]))
  have hw:i64.wrap ((qK l (CC t i:Int)).getD 0+y)=(qK l (CC t i:Int)).getD 0+y:=by
   rw [hs (CC t i)];exact bQ ⟨by omega,by omega⟩
  unfold s7;refine Gd.ite (λh=>?_) (λ_=>Gd.ix (by omega) (by rw [O2]; exact v1) (Gd.ix (by omega) (by rw [O2]; exact v3) ?_))
  ·exfalso
   simp only [Qy,PK] at h;omega
  ·rw [hw]
   refine hnx _ ⟨pre++[y],by rw [I]; simp,by simp [Y],(hk.put _ _).1,λz O=>?_,λk=>?_⟩
   ·rcases ((hk.put _ _).2 z).1 O with Z | Z
    ·exact ⟨CC t i,by rw [Z]⟩
    ·exact J z Z.1
   ·rw [hk.FF,DC]
    show _=_+((if CC t (0+pre.length)=k then y else 0)+0)
    rw [Po,Y]
    by_cases e:CC t i=k
    ·subst e
     rw [O8 rfl,O8 rfl,QV,hs]; omega
    ·rw [O7 (by omega),O7 e,hs]; omega
 ·rintro i l ⟨pre,I,Y,hk,J,hs⟩
  rw [PH] at I;subst I;have:(l.any λp=>!decide (p.2=0))=false:=by
   rw [List.any_eq_false];intro z O;obtain ⟨k,hk2⟩:=J z O;have Z:qK l (k:Int)=some z.2:=hk.find.2 (by rw [<- hk2]; exact O)
   have h2:=hs k;rw [Z,QV,hp.NN k] at h2;simp [h2]
  rw [this];exact Gd.ret rfl
theorem H6 {s:OX} (h:∃ q,fits q/\s=ctext q):s.size<=maxLen:=by
 obtain ⟨q,I,rfl⟩:=h;have:=Eu I;unfold maxLen; omega
theorem vz (n:Net) (hz:px n):(∃ e,e≠0/\eO n=some ([],e)) \/
  (∃ t p s,oh n/\oG n/\dT n=some t/\uq n t/\Hr n t p/\eO n=some (p,0)/\oQ n p=some 0/\oU n p=some (s,0)/\MI n t s/\True):=by
 obtain ⟨e,he,hok⟩:=Tu n hz
 by_cases Y:e=0
 ·subst Y
  have Z:=hok rfl;have hn:=Z.ok hz;obtain ⟨t,hg,ht⟩:=KJ hn;obtain ⟨⟨p,x⟩,hi,hx⟩:=GP Z hn hg ht he;rcases hx with ⟨J,hp⟩ | ⟨hx,I⟩
  ·left
   simp only at J hp;subst hp;exact ⟨x,J,hi⟩
  ·right
   simp only at hx I;subst hx;have hc:=GK hg ht hn he I;obtain ⟨⟨s,y⟩,hs,hy,O⟩:=Jl Z hn hg ht I.len I.JI hc;simp only at hy O;subst hy;exact ⟨t,p,s,Z,hn,hg,ht,I,hi,hc,hs,O,O0⟩
 ·left
  refine ⟨e,Y,?_⟩;have hsh:gI n=some ([],e):=by
   rw [<- Gd.eq];unfold gI;exact Gd.bind_eq he (Gd.ite (λ_=>Gd.ret rfl) (λh=>absurd (by simpa using h) Y))
  rw [<- Gd.eq];unfold eO;exact Gd.bind_eq hsh (Gd.ite (λ_=>Gd.ret rfl) (λh=>absurd (by simpa using h) Y))
instance NX (p:OX) (l:List OX):Decidable (p ∈ l):=@List.instDecidableMemOfLawfulBEq _ instBEqOfDecidableEq inferInstance p l
theorem qS (l:List OX) (p:OX):bG l p=some (decide (p ∈ l)):=by
 obtain ⟨b,e,h⟩:=tD l p;rw [e]
 congr 1
 cases b <;> simp_all
theorem Aj {α:Type} (p:α->Option Bool) (kp:α->Bool) (hp:∀ x,p x=some (!kp x)) (z:α) (A:List α) (hA:A.length<=100000):
  Gd ((jQ (λk (_:Unit) n=>idx A (k:Int) λy=>(p y).bind λr=>if r then (some (k:Int)) else (n ())) (λ_=>some (-1)) ((A.length:Int)).toNat 0 ()).bind λr=>
   if decide (r=(-1)) then (some A) else (gG (λ(s:List α×Int×Int) n=>if decide (s.2.2<(s.1.length:Int)) then (idx s.1 s.2.2 λy=>(p y).bind λr=>if !r then (idx s.1 s.2.1 λ_=>n (s.1.set (s.2.1).toNat y,i64.wrap (s.2.1+1),i64.wrap (s.2.2+1))) else (n (s.1,s.2.1,i64.wrap (s.2.2+1))))
    else (dF (0<=s.2.1/\s.2.1<=(s.1.length:Int)) (dF (0<=s.2.1/\s.2.1<=((s.1.take (s.2.1).toNat++List.replicate (s.1.length-(s.2.1).toNat) z).length:Int)) (some (se (s.1.take (s.2.1).toNat++List.replicate (s.1.length-(s.2.1).toNat) z) 0 (s.2.1).toNat))))) fA (A,r,i64.wrap (r+1)))) (λr=>r=A.filter kp):=by
 refine Gd.eE (P:=λr=>(r = -1/\∀ x ∈ A,kp x=true)\/∃ (i:Nat) (h:i<A.length),r=i/\kp A[i]=false/\∀ x ∈ A.take i,kp x=true) ?_ (λr hr=>?_)
 ·refine Gd.jQ (λm i _=>i+m=A.length/\∀ x ∈ A.take i,kp x=true) ?_ ?_ (A.length:Int).toNat 0 () ⟨by omega,by simp⟩
  ·intro m i _ nx ⟨hi,hno⟩ hnx
   have hlt:i<A.length:=by omega
   refine Gd.gS hlt ?_;rw [hp];refine Gd.ite (λh=>Gd.ret (.inr ⟨i,hlt,rfl,by simpa using h,hno⟩)) (λh=>hnx () ⟨by omega,?_⟩)
   rw [Ps hlt];intro x hx;rcases Pe.1 hx with hx | hx
   ·exact hno x hx
   ·simp at hx; subst hx; simpa using h
  ·intro i _ ⟨hi,hno⟩
   rw [Pg (by omega)] at hno
   exact Gd.ret (.inl ⟨rfl,hno⟩)
 ·rcases hr with ⟨rfl,hall⟩ | ⟨i,hi,rfl,hki,hpre⟩
  ·exact Gd.ite (λ_=>Gd.ret (Tp.2 hall).symm) (λh=>by simp at h)
  ·refine Gd.ite (λh=>by simp at h) (λ_=>?_)
   have hw0:i64.wrap ((i:Int)+1)=((i+1:Nat):Int):=by rw [bQ ⟨by omega,by omega⟩]; omega
   rw [hw0];have Y:A.take i=(A.take (i+1)).filter kp:=by
    rw [Ps hi,RA,Tp.2 hpre];simp [TP,hki]
   refine Gd.gG (λ(s:List α×Int×Int)=>∃ p q:Nat,s.2.1=p/\s.2.2=q/\p<q/\q<=A.length/\s.1.length=A.length/\s.1.take p=(A.take q).filter kp/\s.1.drop q=A.drop q) (λs=>A.length-s.2.2.toNat) ?_ fA _ ⟨i,i+1,rfl,rfl,by omega,by omega,rfl,Y,rfl⟩ (by unfold fA; omega)
   rintro ⟨l,n1,n2⟩ nx ⟨p,q,h1,h2,hpq,hqA,hl,I,O⟩ hn;simp only at h1 h2 hl I O;subst h1; subst h2
   have hwq:i64.wrap ((q:Int)+1)=((q+1:Nat):Int):=by rw [bQ ⟨by omega,by omega⟩]; omega
   have hwp:i64.wrap ((p:Int)+1)=((p+1:Nat):Int):=by rw [bQ ⟨by omega,by omega⟩]; omega
   rw [hwq];refine Gd.ite (λh=>?_) (λh=>?_)
   ·have hq:q<l.length:=by
     have:(q:Int)<((l.length:Nat):Int):=by simpa using h
     omega
    have hqa:q<A.length:=by omega
    have hv:l[q]=A[q]:=by
     have e1:=Pz hq;have e2:=Pz hqa;rw [O,e2] at e1;exact (TL e1).1.symm
    have hd2:l.drop (q+1)=A.drop (q+1):=by
     have:=P4 (List.drop 1) O;simpa [QG] using this
    have J:(A.take (q+1)).filter kp=(A.take q).filter kp++(if kp A[q] then [A[q]] else []):=by
     rw [Ps hqa,RA]
     congr 1
     simp only [TP,List.filter_nil]
    refine Gd.gS hq ?_;rw [hp,hv];refine Gd.ite (λZ=>Gd.gS (show p<l.length by omega) ?_) (λZ=>?_)
    ·have Z:kp A[q]=true:=by simpa using Z
     rw [hwp,O2];refine hn _ ⟨p+1,q+1,rfl,rfl,by omega,by omega,by simpa using hl,?_,?_⟩ (by simp only [O2]; omega)
     ·simp only
      have hp:p<(l.set p A[q]).length:=by simp; omega
      rw [Ps hp,List.getElem_set_self,J,O8 Z,RM (Pn p),I]
     ·simp only
      rw [Rk (by omega),hd2]
    ·have Z:kp A[q]=false:=by simpa using Z
     refine hn _ ⟨p,q+1,rfl,rfl,by omega,by omega,hl,?_,hd2⟩ (by simp only [O2]; omega)
     simp only;rw [J,O7 (by simp [Z]),PH,I]
   ·have hq:l.length<=q:=by
     have:((l.length:Nat):Int)<=(q:Int):=by simpa using h
     omega
    have hqe:q=A.length:=by omega
    refine Gd.nd ⟨TI p,show (p:Int)<=((l.length:Nat):Int) by omega⟩ (Gd.nd ⟨TI p,?_⟩ (Gd.ret ?_))
    ·simp only [O2,Pj,Pr,Qe]; omega
    ·unfold se
     rw [Qi,RT,O2,List.take_append_of_le_length (by simp; omega),SX,Nat.min_self,I,hqe,QJ]
def Dt (W:List BA) (x:aF):Bool:=decide (x.Name ∈ W)
theorem del_eq (W:List BA) (x:aF):lI x W=some (!Dt W x):=by
 unfold lI;rw [qS]; rfl
theorem Ey (W:List BA) (A:List aF) (hA:A.length<=1000):Gd (dM A W) (λr=>r=A.filter (Dt W)):=
 Aj (λy=>lI y W) (Dt W) (del_eq W) (aF.mk ⟨#[]⟩ ⟨#[]⟩ 0) A (by omega)
theorem Hb {l:List OX}{k:Nat}:se l 0 k=l.take k:=by unfold se; simp
theorem Hi {n:Net} (O:px n) (on:List OX):Gd (dW n on) (λe=>e=0->bV n=some 0):=by
 obtain ⟨e,he,_⟩:=Tu n O;unfold dW;refine Gd.bind_eq he (Gd.ite (λh=>Gd.ret (λJ=>by subst J; simp at h)) (λh=>?_))
 have J:e=0:=by simpa using h
 subst J;refine Gd.dR (Q:=λe=>e=0->bV n=some 0) (λi (ys:List OX) (_:Unit)=>i+ys.length=on.length) ?_ (λ_ _ _=>Gd.ret (λ_=>he)) on 0 () (by simp)
 intro i y ys _ Y hi I;simp only [Pa] at hi;unfold o_;refine Gd.eE (P:=λ_=>True) ?_ (λb _=>Gd.ite (λ_=>Gd.ret (λh=>by simp at h)) (λ_=>?_))
 ·unfold cG cL
  refine Gd.eE (P:=λ_=>True) ?_ (λ_ _=>Gd.ret O0);refine Gd.jQ (Q:=λ_=>True) (λm i (_:Unit)=>i+m=n.bA.length) ?_ (λ_ _ _=>Gd.ret O0) ((n.bA.length:Int)).toNat 0 () (by omega)
  intro m i _ Y hi I;unfold dD;exact Gd.gS (by omega) (Gd.ite (λ_=>Gd.ret O0) (λ_=>I () (by omega)))
 ·refine Gd.nd (by omega) ?_
  rw [qS];exact Gd.ite (λ_=>Gd.ret (λh=>by simp at h)) (λ_=>I () (by omega))
def pE (n:Net) (on:List OX):Net:=aD.mk n.bC n.aM n.aG n.dL (n.bA.filter (Dt on)) n.bT
theorem Ga {n:Net} (h:oh n) (on:List OX):oC n on=some (pE n on):=by
 have:=h.l1; have:=h.l2; have:=h.l3; have:=h.l4; have:=h.l5; have:=h.l6
 rw [<- Gd.eq];unfold oC iV;refine Gd.eE (P:=λr=>r=n) (Gd.nd (by omega) (Gd.nd (by omega) (Gd.nd (by omega) (Gd.nd (by omega) (Gd.nd (by omega) (Gd.nd (by omega) (Gd.ret rfl))))))) (λr I=>?_)
 subst I;refine Gd.eE (Ey on r.bA (by omega)) (λl hl=>Gd.ret ?_)
 rw [hl]; rfl
theorem px.pE {n:Net} (h:px n) (on:List OX):px (pE n on):=
 ⟨h.nd,h.sw,h.br,h.gn,λx I=>h.ld x (PY.1 I).1,h.st⟩
theorem JP {n:Net}{on:List OX}{e:Int} (h:dW n on=some e) (I:e≠0):kJ n on=some (aD.mk [] [] [] [] [] [],e):=by
 rw [<- Gd.eq];unfold kJ;exact Gd.bind_eq h (Gd.ite (λ_=>Gd.ret rfl) (λk=>absurd (by simpa using k) I))
theorem zx {n:Net} (I:oh n) {on:List OX} (h:dW n on=some 0):kJ n on=some (pE n on,0):=by
 rw [<- Gd.eq];unfold kJ;exact Gd.bind_eq h (Gd.ite (λk=>by simp at k) (λ_=>Gd.bind_eq (Ga I on) (Gd.ret rfl)))
def yN (z:aP×Rat):Prop:=(z.1.sN:Rat)<Mc z.2
open Classical in
noncomputable def xw (z:aP×Rat):List OX:=if yN z then [z.1.Name] else []
theorem yT {z:aP×Rat} (h:yN z):xw z=[z.1.Name]:=O8 h
theorem AV {z:aP×Rat} (h:¬ yN z):xw z=[]:=O7 h
theorem F2:∀ {l:List OX},(∀ x ∈ l,∃ q,fits q/\x=ctext q)->∃ qs:List Rat,l=qs.map ctext/\∀ q ∈ qs,fits q
 | [],_=>⟨[],rfl,λq h=>by cases h⟩
 | x::l,h=>by
  obtain ⟨q,O,rfl⟩:=h x (O5 ..);obtain ⟨qs,rfl,J⟩:=F2 (l:=l) (λy Y=>h y (O9 _ Y));refine ⟨q::qs,rfl,λp I=>?_⟩;rcases PN.1 I with rfl | I
  ·exact O
  ·exact J p I
theorem JE {I:List aP}{qs:List Rat}{i:Nat} (h:i<I.length) (O:i<qs.length):
  ((I.zip qs).take (i+1)).flatMap xw=((I.zip qs).take i).flatMap xw++xw (I[i],qs[i]):=by
 have J:i<(I.zip qs).length:=by simp; omega
 rw [Ps J,Sa,List.getElem_zip];simp
theorem Cz {n:Net} (hV:oh n) {qs:List Rat} (hl:qs.length=n.aG.length) (hf:∀ q ∈ qs,fits q):
  nc n (qs.map ctext)=some ((n.aG.zip qs).flatMap xw):=by
 have h3:=hV.l3;rw [<- Gd.eq];unfold nc;refine Gd.dR (λi (ys:List aP) (w:List OX)=>i+ys.length=n.aG.length/\n.aG.drop i=ys/\w.length<=i/\w=((n.aG.zip qs).take i).flatMap xw) ?_ ?_ n.aG 0 [] ⟨by simp,rfl,by simp,by simp⟩
 ·rintro i y ys w nx ⟨hi,hd,hw,hv⟩ hnx
  simp only [Pa] at hi;have J:i<n.aG.length:=by omega
  have O:i<qs.length:=by omega
  have hy:n.aG[i]=y:=by
   have e:=Pz J;rw [hd] at e; exact (TL e).1.symm
  have Z:n.aG.drop (i+1)=ys:=by
   have:=P4 (List.drop 1) hd;simpa [QG] using this
  have hL:=(Gr hV (PC J)).l;have Y:=JE J O;rw [<- hv] at Y;unfold rR n6;refine Gd.gS (by simpa using O) ?_
  rw [Q4];refine Gd.eE (DM (hf _ (PC O))) (λa ha=>Gd.eE (F3 ha.1 ha.2.1 (by omega)) (λb hb=>?_))
  rw [<- hy];refine Gd.eE (um ⟨by omega,by omega⟩) (λc hc=>Gd.eE (CF hb.1 hc.1 hb.2.1 hc.2.1 (by omega)) (λd I=>?_))
  rw [hb.2.2,hc.2.2,ha.2.2] at I;have hov:0<d↔yN (n.aG[i],qs[i]):=I.1;clear I;refine Gd.ite (λh=>Gd.nd ?_ (hnx _ ⟨by omega,Z,?_,?_⟩)) (λh=>hnx _ ⟨by omega,Z,by omega,?_⟩)
  ·simp only [Pa,TW]; omega
  ·simp; omega
  ·rw [Y,yT (hov.1 (O6 h))]
  ·rw [Y,AV (λk=>Pc h (hov.2 k)),PH]
 ·rintro i w ⟨hi,_,_,hv⟩
  rw [Pg (by simp at hi ⊢; omega)] at hv
  exact Gd.ret hv
theorem EX {c:Net} (hz:px c):∃ e,kZ c=some e:=by
 suffices h:Gd (kZ c) (λ_=>True) by
  obtain ⟨e,he,_⟩:=h;exact ⟨e,he⟩
 unfold kZ;refine Gd.eE (P:=λ_=>True) ?_ (λr _=>Gd.ite (λ_=>Gd.ret O0) (λ_=>Gd.ret O0));unfold fJ;rcases vz c hz with ⟨x,hx,hi⟩ | ⟨t,p,s,hV,hn,hg,ht,hb,hi,hfc,hs,I,hv⟩
 ·exact Gd.bind_eq hi (Gd.ite (λ_=>Gd.ret O0) (λk=>absurd (by simpa using k) hx))
 ·obtain ⟨qs,Z,J⟩:=F2 I.f
  have O:qs.length=c.aG.length:=by
   have:=I.fl;rw [Z,QR] at this;exact this
  have Y:=Cz hV (qs:=qs) O J;rw [<- Z] at Y;exact Gd.bind_eq hi (Gd.ite (λk=>by simp at k) (λ_=>Gd.bind_eq hs (Gd.ite (λk=>by simp at k) (λ_=>Gd.bind_eq Y (Gd.ret O0)))))
def zg (n:Net) (l:List OX):Prop:=kZ (pE n l)=some 0
def nm (n:Net):List OX:=n.bA.map (·.Name)
theorem DG {n:Net} (h:oh n):(nm n).Nodup:=by
 have:=h.nd;unfold names at this;exact (PW.1 (PW.1 this).1).2.1
theorem xU (n:Net):(nm n).length=n.bA.length:=by simp [nm]
theorem Ji (l:List OX):se l 0 ((l.length:Int)).toNat=l:=by simp [se]
structure Found (n:Net) (l out:List OX):Prop where
 ext:out.take l.length=l
 len:out.length=n.bA.length
 ok:∀ k,l.length<=k->k<=out.length->zg n (out.take k)
 set:l.Nodup->(∀ x ∈ l,x ∈ nm n)->out.Nodup/\∀ x ∈ out,x ∈ nm n

theorem Hx {n:Net}{on:List OX}{e:Int} (h:dW n on=some e) (I:e≠0):c_ n on=some (cD.mk [] [],[],e):=by
 rw [<- Gd.eq];unfold c_;exact Gd.bind_eq (JP h I) (Gd.ite (λ_=>Gd.ret rfl) (λk=>absurd (by simpa using k) I))
theorem Gg {n:Net} (J:oh n) {on:List OX} (h:dW n on=some 0) {e:Int} (I:e≠0) (hi:eO (pE n on)=some ([],e)):
  c_ n on=some (cD.mk [] [],[],e):=by
 rw [<- Gd.eq];unfold c_ fJ;exact Gd.bind_eq (zx J h) (Gd.ite (λk=>by simp at k) (λ_=>Gd.eE (P:=λr=>r=(cD.mk [] [],[],e)) (Gd.bind_eq hi (Gd.ite (λ_=>Gd.ret rfl) (λk=>absurd (by simpa using k) I))) (λr O=>by subst O; exact Gd.ret rfl)))
theorem Hy {n:Net} (I:oh n) {on:List OX} (h:dW n on=some 0) {p:List Int}{s:cD}{ov:List OX}
  (hi:eO (pE n on)=some (p,0)) (hs:oU (pE n on) p=some (s,0)) (J:nc (pE n on) s.hO=some ov):
  c_ n on=some (s,ov,0):=by
 rw [<- Gd.eq];unfold c_ fJ;exact Gd.bind_eq (zx I h) (Gd.ite (λk=>by simp at k) (λ_=>Gd.eE (P:=λr=>r=(s,ov,0)) (Gd.bind_eq hi (Gd.ite (λk=>by simp at k) (λ_=>Gd.bind_eq hs (Gd.ite (λk=>by simp at k) (λ_=>Gd.bind_eq J (Gd.ret rfl)))))) (λr O=>by subst O; exact Gd.ret rfl)))
theorem Hj {n:Net} (hc:bV n=some 0) (l:List OX) (hl:l.length<=1000) (hnd:l.Nodup) (hs:∀ x ∈ l,x ∈ nm n):dW n l=some 0:=by
 rw [<- Gd.eq];unfold dW;refine Gd.bind_eq hc (Gd.ite (λh=>by simp at h) (λ_=>?_))
 refine Gd.dR (Q:=λe=>e=0) (λi (ys:List OX) (_:Unit)=>i+ys.length=l.length/\l.drop i=ys) ?_ (λ_ _ _=>Gd.ret rfl) l 0 () ⟨by simp,rfl⟩
 rintro i y ys _ nx ⟨hi,hd⟩ I;simp only [Pa] at hi;have O:i<l.length:=by omega
 have hy:l[i]=y:=by
  have e:=Pz O;rw [hd] at e; exact (TL e).1.symm
 have hd':l.drop (i+1)=ys:=by
  have:=P4 (List.drop 1) hd;simpa [QG] using this
 have Y:y ∈ nm n:=hs y (hy▸PC O);obtain ⟨q,hq,J⟩:=Qc.1 Y;rw [xU] at hq;have J:n.bA[q].Name=y:=by simpa [nm] using J
 unfold o_;refine Gd.eE (P:=λb=>b=true) ?_ (λb hb=>?_)
 ·unfold cG cL
  refine Gd.eE (P:=λr=>(0:Int)<=r) ?_ (λr hr=>Gd.ret (by simpa using hr))
  refine Gd.jQ (Q:=λr=>(0:Int)<=r) (λm i (_:Unit)=>i+m=n.bA.length/\i<=q) ?_ (λi _ h=>by omega) ((n.bA.length:Int)).toNat 0 () ⟨by omega,by omega⟩
  rintro m i _ nx ⟨hi,hiq⟩ I;unfold dD;refine Gd.gS (by omega) (Gd.ite (λ_=>Gd.ret (by omega)) (λh=>I () ⟨by omega,?_⟩))
  refine Nat.lt_of_le_of_ne hiq (λe=>?_);subst e;simp [nZ,J] at h
 ·subst hb
  refine Gd.ite (λh=>by simp at h) (λ_=>Gd.nd (by omega) ?_)
  rw [qS,Hb,O2];refine Gd.ite (λh=>?_) (λ_=>I () ⟨by omega,hd'⟩)
  exfalso;have h:=O6 h;obtain ⟨p,hp,Z⟩:=List.mem_take_iff_getElem.1 h;rw [<- hy] at Z;have:p=i:=(List.getElem_inj hnd).1 Z;omega
def vi (off:List BA) (x:BA):Bool:=!decide (x ∈ off)
theorem Km (off:List BA) (x:BA):iS x off=some (!vi off x):=by
 unfold iS vi;rw [qS,Bool.not_not]; rfl
theorem G3 (off A:List BA) (hA:A.length<=1000):Gd (dN A off) (λr=>r=A.filter (vi off)):=
 Aj (λy=>iS y off) (vi off) (Km off) ⟨#[]⟩ A (by omega)
def zl (n:Net) (names off:List BA):Prop:=zg n (names.filter (vi off))
theorem Gl {n:Net} (O:px n) (I:oh n) (names off:List BA) (hl:names.length<=1000):Gd (nb off names n) (λb=>b=true↔zl n names off):=by
 unfold nb;refine Gd.nd (by omega) (Gd.eE (G3 off names hl) (λr J=>?_))
 subst J;obtain ⟨e,he⟩:=EX (O.pE (names.filter (vi off)));refine Gd.bind_eq (Ga I _) (Gd.bind_eq he (Gd.ret ?_));unfold zl zg;rw [he];constructor
 ·intro h; rw [O6 h]
 ·intro h; exact UC (O4 h)
theorem Jm {y:BA}{s L:List BA}{m:Nat} (h:s.Sublist (y::L)) (hl:s.length=m+1):s.Sublist L\/∃ I,s=y::I/\I.Sublist L/\I.length=m:=by
 cases h with
 | cons _ h=>exact .inl h
 | cons_cons _ h=>exact .inr ⟨_,rfl,h,by simpa using hl⟩
theorem Ag {n:Net} (hz:px n) (hV:oh n) (names:List BA) (hl:names.length<=12):∀ (m:Nat) (off:List BA) (i:Nat),off.length+m<=1000->i<=names.length->∀ f,m<f ->
  Gd (dG f names off (i:Int) (m:Int) names n) (λr=>
   (r.2=true->∃ s,r.1=off++s/\s.Sublist (names.drop i)/\s.length=m/\zl n names r.1) /\
   (r.2=false->∀ s,s.Sublist (names.drop i)->s.length=m->¬ zl n names (off++s)))
 | m,off,i,ho,hi,0,hf=>by omega
 | m,off,i,ho,hi,f+1,hf=>by
  show Gd (dZ (dG f) names off i m names n) _;unfold dZ;refine Gd.ite (λh=>?_) (λh=>?_)
  ·have hm:m=0:=by have:=O6 h; omega
   subst hm;refine Gd.eE (Gl hz hV names off (by omega)) (λb hb=>Gd.ret ⟨λh=>⟨[],by simp,by simp,rfl,hb.1 h⟩,λh s hs h0 Y=>?_⟩)
   have hs0:=Py h0;subst hs0;rw [PH] at Y;have:=hb.2 Y;simp only at h;rw [h] at this; cases this
  ·obtain ⟨k,rfl⟩:∃ k,m=k+1:=⟨m-1,by have:=Pc h; omega⟩
   have hwm:i64.wrap (((k+1:Nat):Int)-1)=(k:Int):=by rw [bQ ⟨by omega,by omega⟩]; omega
   refine Gd.gG (λ(s:Int)=>∃ j:Nat,s=j/\i<=j/\j<=names.length/\∀ s,s.Sublist (names.drop i)->s.length=k+1->¬ zl n names (off++s)\/s.Sublist (names.drop j)) (λs=>names.length-s.toNat) ?_ fA _ ⟨i,rfl,Pn _,hi,λs hs _=>.inr hs⟩ (by unfold fA; omega)
   rintro _ nx ⟨j,rfl,hij,hj,hI⟩ hn;unfold iT;refine Gd.ite (λh=>?_) (λh=>Gd.ret ⟨λh=>by simp at h,λ_ s hs J Y=>?_⟩)
   ·have I:j<names.length:=by have:=O6 h; omega
    have hwj:i64.wrap ((j:Int)+1)=((j+1:Nat):Int):=by rw [bQ ⟨by omega,by omega⟩]; omega
    have hd:=Pz I;rw [hwj,hwm];refine Gd.nd (by omega) (Gd.gS I ?_)
    rw [Ji];refine Gd.nd (by simp only [Pa,TW]; omega) ?_
    refine Gd.eE (Ag hz hV names hl k (off++[names[j]]) (j+1) (by simp; omega) I f (by omega)) (λr hr=>Gd.ite (λh=>Gd.ret ⟨λ_=>?_,λh=>by simp at h⟩) (λh=>hn _ ⟨j+1,rfl,by omega,I,λs hs J=>?_⟩ (by simp only [O2]; omega)))
    ·obtain ⟨s,h1,Z,h3,h4⟩:=hr.1 h
     refine ⟨names[j]::s,by simp [h1],?_,by simp [h3],h4⟩
     refine (Z.cons_cons _).trans ?_;rw [<- hd];obtain ⟨d,rfl⟩:∃ d,j=i+d:=⟨j-i,by omega⟩
     rw [<- QG];exact List.drop_sublist _ _
    ·rcases hI s hs J with O | O
     ·exact .inl O
     ·rw [hd] at O
      rcases Jm O J with O | ⟨s',rfl,Z,h3⟩
      ·exact .inr O
      ·have:=hr.2 h s' Z h3
       rw [Pv] at this;exact .inl this
   ·have I:j=names.length:=by have:=Pc h; omega
    rcases hI s hs J with O | O
    ·exact O Y
    ·rw [I,RN] at O
     rw [List.sublist_nil.1 O] at J;simp at J
theorem w8 {n:Net} (hz:px n) (hV:oh n) (on:List BA) (hc:dW n on=some 0) (hl:on.length<=5) (names:List BA) (O:names=(nm n).filter (λx=>decide (x ∈ on))):
  Gd (gP n on) (λr=>(r.2=0/\r.1.Sublist names/\zl n names r.1/\∀ s,s.Sublist names->s.length<r.1.length->¬ zl n names s) \/
   (r=([],8)/\∀ s,s.Sublist names->¬ zl n names s)):=by
 have hnl:=xU n;have h5:=hV.l5;have J:names.length<=12:=by
  rw [O]; exact P0 (TV _ _) (by omega)
 unfold gP;refine Gd.bind_eq hc (Gd.ite (λh=>by simp at h) (λ_=>Gd.ite (λh=>?_) (λ_=>?_)))
 ·have:=O6 h
  omega
 refine Gd.dR (λi (ys:List aF) (w:List BA)=>i+ys.length=n.bA.length/\n.bA.drop i=ys/\w=((nm n).take i).filter (λx=>decide (x ∈ on))/\w.length<=i) ?_ ?_ n.bA 0 [] ⟨by simp,rfl,by simp,by simp⟩
 ·rintro i y ys w nx ⟨hi,hd,hw,hwl⟩ Y
  simp only [Pa] at hi;have hil:i<n.bA.length:=by omega
  have hy:n.bA[i]=y:=by
   have e:=Pz hil;rw [hd] at e; exact (TL e).1.symm
  have I:n.bA.drop (i+1)=ys:=by
   have:=P4 (List.drop 1) hd;simpa [QG] using this
  have tK:i<(nm n).length:=by omega
  have hny:(nm n)[i]=y.Name:=by simp [nm,hy]
  have Z:((nm n).take (i+1)).filter (λx=>decide (x ∈ on))=w++(if decide (y.Name ∈ on) then [y.Name] else []):=by
   rw [Ps tK,RA,<- hw,hny]
   congr 1
   simp only [TP,List.filter_nil]
  unfold qI mz;rw [qS];refine Gd.ite (λh=>Gd.nd (by simp only [Pa,TW]; omega) (Y _ ⟨by omega,I,?_,by simp; omega⟩)) (λh=>Y _ ⟨by omega,I,?_,by omega⟩)
  ·rw [Z,O8 h]
  ·rw [Z,O7 (by rw [h]; simp),PH]
 ·rintro i w ⟨hi,_,hw,_⟩
  rw [Pg (by simp at hi; omega),<- O] at hw
  subst hw;refine Gd.gG (λ(s:Int)=>∃ k:Nat,s=k/\k<=w.length+1/\∀ s,s.Sublist w->s.length<k->¬ zl n w s) (λs=>w.length+1-s.toNat) ?_ fA _ ⟨0,rfl,by omega,λs _ h=>by omega⟩ (by unfold fA; simp; omega)
  rintro _ nx ⟨k,rfl,hk,hI⟩ hn;unfold qJ;refine Gd.ite (λh=>?_) (λh=>Gd.ret (.inr ⟨rfl,λs hs=>hI s hs ?_⟩))
  ·have hkw:k<=w.length:=by have:=O6 h; omega
   have hwk:i64.wrap ((k:Int)+1)=((k+1:Nat):Int):=by rw [bQ ⟨by omega,by omega⟩]; omega
   unfold jP;rw [hwk];refine Gd.eE (Ag hz hV w J k [] 0 (by simp; omega) (Nat.zero_le _) fA (by unfold fA; omega)) (λr hr=>Gd.ite (λh=>Gd.ret (.inl ?_)) (λh=>hn _ ⟨k+1,rfl,by omega,λs hs hs1=>?_⟩ (by simp only [O2]; omega)))
   ·obtain ⟨s,h1,h2,h3,h4⟩:=hr.1 h
    rw [Qz] at h1;rw [Qi,<- h1] at h2;exact ⟨rfl,h2,h4,λs' hs hl'=>hI s' hs (by rw [h1] at hl'; omega)⟩
   ·by_cases e:s.length=k
    ·have:=hr.2 h s (by rw [Qi]; exact hs) e
     rwa [Qz] at this
    ·exact hI s hs (by omega)
  ·have:=hs.length_le
   have:=Pc h;omega
theorem A4 {c:Net} (hz:px c):∃ r,fJ c=some r:=by
 suffices h:Gd (fJ c) (λ_=>True) by
  obtain ⟨e,he,_⟩:=h;exact ⟨e,he⟩
 unfold fJ;rcases vz c hz with ⟨x,hx,hi⟩ | ⟨t,p,s,hV,hn,hg,ht,hb,hi,hfc,hs,I,hv⟩
 ·exact Gd.bind_eq hi (Gd.ite (λ_=>Gd.ret O0) (λk=>absurd (by simpa using k) hx))
 ·obtain ⟨qs,Z,J⟩:=F2 I.f
  have O:qs.length=c.aG.length:=by
   have:=I.fl;rw [Z,QR] at this;exact this
  have Y:=Cz hV (qs:=qs) O J;rw [<- Z] at Y;exact Gd.bind_eq hi (Gd.ite (λk=>by simp at k) (λ_=>Gd.bind_eq hs (Gd.ite (λk=>by simp at k) (λ_=>Gd.bind_eq Y (Gd.ret O0)))))
theorem C0 {n:Net} (I:oh n) {l:List BA} (h:dW n l=some 0) {r:cD×List OX×Int} (hs:fJ (pE n l)=some r):c_ n l=some r:=by
 rw [<- Gd.eq];unfold c_;exact Gd.bind_eq (zx I h) (Gd.ite (λk=>by simp at k) (λ_=>Gd.bind_eq hs (Gd.ret rfl)))
theorem BD {n:Net}{l:List BA}{r:cD×List OX×Int} (hs:fJ (pE n l)=some r):zg n l↔r.2.2=0/\r.2.1=[]:=by
 unfold zg kZ;rw [hs];show (if _ then _ else _)=_↔_
 by_cases I:r.2.2=0
 ·by_cases J:r.2.1=[]
  ·simp [I,J]
  ·have:0<r.2.1.length:=TX.2 J
   simp [I,J]
 ·simp [I]
abbrev Node:=bJ
abbrev BQ:=aZ
abbrev Sw:=aL
theorem uK {α:Type}{l:List α}{i:Nat} (h:i<l.length):∃ x,l[i]? = some x:=⟨_,OZ h⟩
theorem Bz {α:Type}{l:List α}{i:Nat}{x:α} (h:l[i]? = some x):i<l.length:=(O3.1 h).1
theorem drop_cons {α:Type}{l:List α}{k:Nat}{y:α}{ys:List α} (h:y::ys=l.drop k):l[k]? = some y/\ys=l.drop (k+1):=by
 constructor
 ·have:=P4 (·[0]?) h
  simpa [PJ] using this.symm
 ·have:=P4 (List.drop 1) h
  simpa using this
theorem xd (s:OX) (h:s.size<=maxLen):Gd (bP s) (λ_=>True):=by
 unfold bP;refine Gd.nd h (Gd.dR (λ_ _ _=>True) (λi y ys s n _ hn=>?_) (λi s _=>Gd.ret O0) _ _ _ O0);unfold oX;exact Gd.ite (λ_=>Gd.ret O0) (λ_=>hn _ O0)
structure At (l:List Sw) (name:OX) (r:Int):Prop where
 no:r<0->∀ x ∈ l,x.Name≠name
 yes:0<=r->∃ x,l[r.toNat]? = some x/\x.Name=name
theorem Aw (l:List Sw) (name:OX):Gd (kG l name) (At l name):=by
 unfold kG;refine Gd.eE (P:=At l name) ?_ (λa h=>Gd.ret h);unfold bX;refine Gd.jQ (λm i _=>i+m=l.length/\∀ x ∈ l.take i,x.Name≠name) ?_ ?_ (l.length:Int).toNat 0 () ⟨by omega,by simp⟩
 ·intro m i _ J ⟨hi,hno⟩ hnx
  unfold cN;refine Gd.gS (by omega) ?_
  refine Gd.ite (λh=>Gd.ret ⟨λh=>by omega,λ_=>⟨l[i]'(by omega),by rw [show ((i:Int)).toNat=i by omega]; exact OZ _,by simpa [kN] using h⟩⟩) (λh=>hnx () ⟨by omega,?_⟩)
  intro x I;rw [Ps (by omega),Pe,PE] at I
  rcases I with I | rfl
  ·exact hno x I
  ·simpa [kN] using h
 ·intro i _ ⟨hi,hno⟩
  refine Gd.ret ⟨λ_=>?_,λh=>by omega⟩
  rw [Pg (by omega)] at hno
  exact hno
def Fk (l:List Sw):Prop:=l.length<=32/\(∀ x ∈ l,bP x.Name=some true)/\(l.map (·.Name)).Nodup
theorem He (l:List Sw) (hl:∀ x ∈ l,x.Name.size<=maxLen):Gd (jW l) (λe=>e=0↔Fk l):=by
 unfold jW;refine Gd.ite (λh=>Gd.ret ?_) (λh=>?_)
 ·simp only [PK] at h
  exact ⟨λh=>by omega,λY=>by have:=Y.1; omega⟩
 ·simp only [UB] at h
  refine Gd.dR (λk ys _=>ys=l.drop k/\k<=l.length/\(∀ x ∈ l.take k,bP x.Name=some true)/\((l.take k).map (·.Name)).Nodup) ?_ ?_ l 0 () ⟨by simp,by omega,by simp,by simp⟩
  ·rintro k y ys _ nx ⟨O,hk,hn,hd⟩ hnx
   obtain ⟨hy,hys'⟩:=drop_cons O;have hky:=Bz hy;have hym:=Pb hy;obtain ⟨b,hb,_⟩:=xd y.Name (hl y hym);have J:l.take (k+1)=l.take k++[y]:=by rw [T3,hy]; rfl
   unfold m_;refine Gd.bind_eq hb (Gd.ite (λh=>Gd.ret ?_) (λh=>?_))
   ·refine ⟨λh=>by omega,λY=>?_⟩
    have:=Y.2.1 y hym;rw [hb] at this; cases this; simp at h
   ·have hbt:b=true:=by simpa using h
    subst hbt;refine Gd.nd (by omega) ?_
    refine Gd.eE (Aw _ _) (λr hr=>Gd.ite (λh=>Gd.ret ?_) (λh=>?_))
    ·refine ⟨λh=>by omega,λY=>?_⟩
     simp only [PK] at h;obtain ⟨x,I,hxn⟩:=hr.yes h;simp only [se,Qi,RT,O2] at I;have hnd:=Y.2.2;rw [PR] at I
     split at I
     case isFalse=>cases I
     rename_i hlt
     rw [<- Qn k l,Qk,PW] at hnd;refine absurd hxn (hnd.2.2 _ (PO.2 ⟨x,?_,rfl⟩) _ (PO.2 ⟨y,?_,rfl⟩))
     ·exact Pb (i:=r.toNat) (by rw [PR,O8 hlt]; exact I)
     ·rw [<- O]; exact O5 ..
    ·simp only [UB] at h
     have hno:=hr.no (by omega)
     simp only [se,Qi,RT,O2] at hno;refine hnx () ⟨hys',by omega,?_,?_⟩
     ·rw [J]
      intro x I;rw [Pe,PE] at I;rcases I with I | rfl
      ·exact hn x I
      ·exact hb
     ·rw [J,Qk,PW]
      refine ⟨hd,by simp,?_⟩
      rintro a ha b Z rfl;simp only [RH,Tf,PE] at Z;obtain ⟨x,I,rfl⟩:=PO.1 ha;exact hno x I Z
  ·rintro k _ ⟨O,hk,hn,hd⟩
   have:l.length<=k:=by
    have:=P4 List.length O;simp at this; omega
   rw [Pg this] at hn hd;exact Gd.ret ⟨λ_=>⟨by omega,hn,hd⟩,λ_=>rfl⟩
def D9 (k:Nat) (y:Node):Prop:=(y.Kind=4->0<=y.A/\y.A<k)/\((y.Kind=5\/y.Kind=6)->0<=y.A/\y.A<k/\0<=y.B_/\y.B_<k)
structure zM (c:List Node):Prop where
 pos:0<c.length
 len:c.length<=40
 ok:∀ j y,c[j]? = some y->D9 j y
structure CI (c:List Node) (k:Nat) (l:List Int):Prop where
 len:l.length=c.length
 st:∀ (j:Nat) (v:Int),j<k->l[j]? = some v->0<=v/\v<=j
 ok:∀ j y,j<k->c[j]? = some y->D9 j y
theorem CI.next {c:List Node}{k:Nat}{l:List Int}{y:Node}{v:Int} (h:CI c k l) (Y:c[k]? = some y) (hn:D9 k y) (Z:0<=v) (h1:v<=k):CI c (k+1) (l.set k v):=by
 refine ⟨by simp [h.len],?_,?_⟩
 ·intro j w O I
  rw [Su] at I
  split at I
  ·rename_i e
   split at I
   ·cases I; omega
   ·cases I
  ·exact h.st j w (by omega) I
 ·intro j z O J
  by_cases e:j=k
  ·subst e; rw [Y] at J; cases J; exact hn
  ·exact h.ok j z (by omega) J
theorem HZ:jA=dY:=rfl
theorem HK {c:List Node}{k:Nat}{l:List Int}{y:Node}{Q:Int->Prop}{nx:List Int->Option Int} (h:CI c k l) (hc:c.length<=40) (hy:c[k]? = some y) (I:Q 3) (J:∀ l',CI c (k+1) l'->Gd (nx l') Q)
  (b:Bool) (Y:y.Kind≠4) (hb:b=false->y.Kind≠5/\y.Kind≠6):Gd (dY l nx y k b) Q:=by
 have hk:=Bz hy;have hw:i64.wrap ((k:Int)-1)=(k:Int)-1:=bQ (by omega)
 have Z:((k:Int)).toNat=k:=by omega
 unfold dY dO;rw [hw,Z];refine Gd.ite (λ_=>?_) (λh0=>?_)
 ·refine Gd.ite (λ_=>Gd.ret I) (λh1=>?_)
  simp only [UB] at h1;refine Gd.ite (λh2=>?_) (λ_=>Gd.ret I);simp only [PK] at h2;obtain ⟨p,hp⟩:=uK (l:=l) (i:=k-1) (by rw [h.len]; omega)
  have O:(l.set k (k:Int))[((k:Int)-1).toNat]? = some p:=by
   rw [show ((k:Int)-1).toNat=k-1 by omega,Su,O7 (by omega)]; exact hp
  have hpb:=h.st (k-1) p (by omega) hp
  refine Gd.ix (by omega) O (Gd.ite (λ_=>Gd.ret I) (λh3=>?_))
  simp only [UB] at h3;refine Gd.ix (by omega) O ?_
  rw [bQ (n:=p-1) (by omega)]
  refine Gd.ite (λ_=>Gd.ret I) (λY=>?_);have Y:y.A=p-1:=by simpa using Y
  obtain ⟨q,hq⟩:=uK (l:=l) (i:=y.A.toNat) (by rw [h.len]; omega)
  have hq':(l.set k (k:Int))[y.A.toNat]? = some q:=by
   rw [Su,O7 (by omega)]; exact hq
  have hqb:=h.st y.A.toNat q (by omega) hq
  refine Gd.ix (by omega) hq' (Gd.gS (by simp [h.len]; omega) ?_)
  rw [List.set_set];exact J _ (h.next hy ⟨λe=>by omega,λ_=>⟨by omega,by omega,by omega,by omega⟩⟩ hqb.1 (by omega))
 ·refine Gd.ite (λ_=>Gd.ret I) (λh1=>?_)
  have:=hb h0;exact J _ (h.next hy ⟨λe=>absurd e Y,λe=>by omega⟩ (by omega) (by omega))
theorem vx (c:List Node) (hc:∀ x ∈ c,x.Name.size<=maxLen):Gd (jG c) (λe=>e=0->zM c):=by
 unfold jG;refine Gd.ite (λ_=>Gd.ret (by omega)) (λh40=>?_)
 simp only [UB] at h40;refine Gd.ite (λ_=>Gd.ret (by omega)) (λh1=>?_)
 simp only [UB] at h1;refine Gd.nd (by omega) ?_
 refine Gd.dR (λk ys l=>ys=c.drop k/\CI c k l) ?_ ?_ c 0 _ ⟨by simp,by simp,λj v hj=>by omega,λj y hj=>by omega⟩
 ·rintro k y ys l nx ⟨Y,J⟩ hnx
  obtain ⟨hy,hys'⟩:=drop_cons Y;have hk:=Bz hy;have I:∀ l',CI c (k+1) l'->Gd (nx l') (λe=>e=0->zM c):=λl' h=>hnx l' ⟨hys',h⟩;have hkn:((k:Int)).toNat=k:=by omega
  have hw:i64.wrap ((k:Int)-1)=(k:Int)-1:=bQ (by omega)
  have rest:Gd (idx l (k:Int) λy926=>if decide (y.Kind=4) then (if ((decide ((k:Int)=0)) || (!decide (y.A=(i64.wrap ((k:Int)-1))))) || (!decide (y.B_=0)) then (some 3) else (idx (l.set (((k:Int):Int).toNat) ((k:Int))) y.A λy939=>idx (l.set (((k:Int):Int).toNat) ((k:Int))) (k:Int) λy943=>dO nx ((l.set (((k:Int):Int).toNat) ((k:Int))).set (((k:Int):Int).toNat) y939))) else (if decide (y.Kind=5) then (dY l nx y k (decide (y.Kind=5))) else (dY l nx y k (decide (y.Kind=6)))))
    (λe=>e=0->zM c):=by
   rw [hw,hkn];refine Gd.gS (by rw [J.len]; exact hk) ?_
   refine Gd.ite (λZ=>?_) (λZ=>?_)
   ·refine Gd.ite (λ_=>Gd.ret (by omega)) (λO=>?_)
    simp only [TC,UB,TB,PK] at O;obtain ⟨q,hq⟩:=uK (l:=l) (i:=y.A.toNat) (by rw [J.len]; omega)
    have hq':(l.set k (k:Int))[y.A.toNat]? = some q:=by
     rw [Su,O7 (by omega)]; exact hq
    have hqb:=J.st y.A.toNat q (by omega) hq
    refine Gd.ix (by omega) hq' (Gd.gS (by simp [J.len]; omega) ?_)
    rw [List.set_set];simp only [PK] at Z;exact I _ (J.next hy ⟨λe=>by omega,λe=>by omega⟩ hqb.1 (by omega))
   ·simp only [UB] at Z
    refine Gd.ite (λO=>?_) (λO=>?_)
    ·exact HK J (by omega) hy (by omega) I _ Z (λh=>by simp only [UB] at h; simp only [PK] at O; exact absurd O h)
    ·exact HK J (by omega) hy (by omega) I _ Z (λh=>by simp only [UB] at h O; exact ⟨O,h⟩)
  unfold nC;rw [HZ];refine Gd.ite (λ_=>Gd.ret (by omega)) (λ_=>?_)
  refine Gd.ite (λ_=>?_) (λ_=>?_)
  ·refine Gd.eE (xd _ (hc y (Pb hy))) (λb _=>Gd.ite (λ_=>Gd.ret (by omega)) (λ_=>rest))
  ·exact Gd.ite (λ_=>Gd.ret (by omega)) (λ_=>rest)
 ·rintro k l ⟨Y,J⟩
  have hk:c.length<=k:=by
   have:=P4 List.length Y;simp at this; omega
  have hw:i64.wrap ((c.length:Int)-1)=(c.length:Int)-1:=bQ (by omega)
  rw [hw];obtain ⟨q,hq⟩:=uK (l:=l) (i:=((c.length:Int)-1).toNat) (by rw [J.len]; omega)
  refine Gd.ix (by omega) hq (Gd.ite (λ_=>Gd.ret (by omega)) (λ_=>Gd.ret λ_=>⟨by omega,by omega,λj y hj=>J.ok j y (by have:=Bz hj; omega) hj⟩))
def Hv (r:BQ):Prop:=bP r.Switch=some true/\jG r.vX=some 0
def zP (r:BQ):Prop:=r.Switch.size<=maxLen/\∀ x ∈ r.vX,x.Name.size<=maxLen
def x_ (l:List BQ):Prop:=l.length<=24/\∀ r ∈ l,Hv r
theorem By (l:List BQ) (hl:∀ r ∈ l,zP r):Gd (lZ l) (λe=>e=0↔x_ l):=by
 unfold lZ;refine Gd.ite (λh=>Gd.ret ?_) (λh=>?_)
 ·simp only [PK] at h
  exact ⟨λh=>by omega,λI=>by have:=I.1; omega⟩
 ·simp only [UB] at h
  refine Gd.dR (λk ys _=>(∀ r ∈ ys,r ∈ l)/\∀ r ∈ l,r ∈ ys\/Hv r) ?_ ?_ l 0 () ⟨λr h=>h,λr h=>.inl h⟩
  ·rintro k y ys _ nx ⟨Y,Z⟩ hnx
   have O:=Y y (O5 ..);unfold qd;obtain ⟨b,hb,_⟩:=xd y.Switch (hl y O).1;obtain ⟨e,he,_⟩:=vx y.vX (hl y O).2;refine Gd.bind_eq hb (Gd.ite (λh=>Gd.ret ?_) (λh=>Gd.bind_eq he (Gd.ite (λh=>Gd.ret ?_) (λI=>hnx () ⟨λr J=>Y r (O9 _ J),λr J=>?_⟩))))
   ·refine ⟨λh=>by omega,λI=>?_⟩
    have:=(I.2 y O).1;rw [hb] at this; cases this; simp at h
   ·have h:e≠0:=by simpa using h
    refine ⟨λI=>absurd I h,λI=>?_⟩;have:=(I.2 y O).2;rw [he] at this; cases this; simp at h
   ·have hbt:b=true:=by simpa using h
    have het:e=0:=by simpa using I
    subst hbt; subst het
    rcases Z r J with h | h
    ·rcases PN.1 h with rfl | h
     ·exact .inr ⟨hb,he⟩
     ·exact .inl h
    ·exact .inr h
  ·rintro k _ ⟨Y,Z⟩
   exact Gd.ret ⟨λ_=>⟨by omega,λr J=>(Z r J).resolve_left (by simp)⟩,λ_=>rfl⟩
theorem Iw {c:List Node} (hc:zM c) (st:List Sw):Gd (l7 c st) (λ_=>True):=by
 have hl:=hc.len;have hp:=hc.pos;unfold l7;refine Gd.nd (by omega) ?_
 refine Gd.dR (λk ys (l:List Bool)=>ys=c.drop k/\l.length=c.length) ?_ ?_ c 0 _ ⟨by simp,by simp⟩
 ·rintro k y ys l nx ⟨Z,J⟩ hnx
  obtain ⟨hy,hys'⟩:=drop_cons Z;have hk:=Bz hy;have hn:=hc.ok k y hy;have Y:∀ l':List Bool,l'.length=c.length->Gd (nx l') (λ_=>True):=λl' h=>hnx l' ⟨hys',h⟩;have I:∀ b:Bool,Gd (idx l (k:Int) λ_=>dA nx (l.set ((k:Int)).toNat b)) (λ_=>True):=λb=>
   Gd.gS (by omega) (Y _ (by simp [J]))
  unfold qe;refine Gd.eE (Aw st y.Name) (λr hr=>?_);refine Gd.ite (λ_=>I true) (λ_=>?_);refine Gd.ite (λ_=>Gd.ite (λh=>?_) (λ_=>I false)) (λ_=>?_)
  ·obtain ⟨x,O,_⟩:=hr.yes (by simpa using h)
   exact Gd.ix (by simpa using h) O (I _)
  refine Gd.ite (λ_=>Gd.ite (λh=>?_) (λ_=>I false)) (λ_=>?_)
  ·obtain ⟨x,O,_⟩:=hr.yes (by simpa using h)
   exact Gd.ix (by simpa using h) O (I _)
  refine Gd.ite (λh=>?_) (λ_=>?_)
  ·have hA:=hn.1 (by simpa using h)
   obtain ⟨x,O⟩:=uK (l:=l) (i:=y.A.toNat) (by omega)
   exact Gd.ix hA.1 O (I _)
  refine Gd.ite (λh=>?_) (λ_=>?_)
  ·have hA:=hn.2 (.inl (by simpa using h))
   obtain ⟨x,O⟩:=uK (l:=l) (i:=y.A.toNat) (by omega)
   obtain ⟨z,hz⟩:=uK (l:=l) (i:=y.B_.toNat) (by omega)
   exact Gd.ix hA.1 O (Gd.ite (λ_=>Gd.ix hA.2.2.1 hz (I _)) (λ_=>I _))
  refine Gd.ite (λh=>?_) (λ_=>Y _ J)
  ·have hA:=hn.2 (.inr (by simpa using h))
   obtain ⟨x,O⟩:=uK (l:=l) (i:=y.A.toNat) (by omega)
   obtain ⟨z,hz⟩:=uK (l:=l) (i:=y.B_.toNat) (by omega)
   exact Gd.ix hA.1 O (Gd.ite (λ_=>I _) (λ_=>Gd.ix hA.2.2.1 hz (I _)))
 ·rintro k l ⟨Z,J⟩
  rw [bQ (n:=(c.length:Int)-1) (by omega)]
  obtain ⟨q,hq⟩:=uK (l:=l) (i:=((c.length:Int)-1).toNat) (by omega)
  exact Gd.ix (by omega) hq (Gd.ret O0)
def wH (st:List Sw) (I:Bool) (name:OX) (r:BQ):Prop:=r.Close=I->r.Switch=name->l7 r.vX st=some true
theorem ED {l:List BQ} (hl:x_ l) (hz:∀ r ∈ l,zP r) {st:List Sw} (hs:Fk st) (hsz:∀ x ∈ st,x.Name.size<=maxLen) (I:Bool) {name:OX} (hn:∃ x ∈ st,x.Name=name):
  Gd (mr l st I name) (λr=>r.2=0/\(r.1=[]↔∀ r ∈ l,wH st I name r)):=by
 unfold mr;obtain ⟨e,he,heq⟩:=By l hz;obtain ⟨f,hf,hfq⟩:=He st hsz;have e0:=heq.2 hl;have f0:=hfq.2 hs;subst e0; subst f0
 refine Gd.bind_eq he (Gd.ite (λh=>by simp at h) (λ_=>Gd.bind_eq hf (Gd.ite (λh=>by simp at h) (λ_=>?_))))
 refine Gd.eE (Aw st name) (λi hi=>Gd.ite (λh=>?_) (λ_=>?_))
 ·obtain ⟨x,hx,hxn⟩:=hn
  exact absurd hxn (hi.no (by simpa using h) x hx)
 have h24:=hl.1;refine Gd.dR (λk ys (out:List Int)=>ys=l.drop k/\out.length<=k/\(out=[]↔∀ r ∈ l.take k,wH st I name r)) ?_ ?_ l 0 [] ⟨by simp,by simp,by simp⟩
 ·rintro k y ys out nx ⟨hys,hlen,hq⟩ hnx
  obtain ⟨hy,Z⟩:=drop_cons hys;have hk:=Bz hy;have htake:l.take (k+1)=l.take k++[y]:=by rw [T3,hy]; rfl
  have O:(∀ r ∈ l.take (k+1),wH st I name r)↔(∀ r ∈ l.take k,wH st I name r)/\wH st I name y:=by
   rw [htake];constructor
   ·intro h; exact ⟨λr Y=>h r (O1 _ Y),h y (by simp)⟩
   ·rintro ⟨h1,h2⟩ r Y
    rcases Pe.1 Y with Y | Y
    ·exact h1 r Y
    ·rw [PE] at Y; subst Y; exact h2
  have J:wH st I name y->Gd (nx out) (λr=>r.2=0/\(r.1=[]↔∀ r ∈ l,wH st I name r)):=λha=>
   hnx out ⟨Z,by omega,by rw [O,hq]; exact ⟨λh=>⟨h,ha⟩,λh=>h.1⟩⟩
  have hcond:zM y.vX:=by
   obtain ⟨e,he,hq⟩:=vx y.vX (hz y (Pb hy)).2;have:=(hl.2 y (Pb hy)).2;rw [he] at this; cases this; exact hq rfl
  obtain ⟨b,hb,_⟩:=Iw hcond st;unfold oW gA;refine Gd.ite (λh1=>Gd.ite (λh2=>Gd.bind_eq hb (Gd.ite (λh3=>?_) (λh3=>J ?_))) (λh2=>J ?_)) (λh1=>J ?_)
  ·refine Gd.nd (by simp; omega) (hnx _ ⟨Z,by simp; omega,?_⟩)
   constructor
   ·intro h; simp at h
   ·intro h
    have:=(O.1 h).2 (by simpa using h1) (by simpa using h2)
    rw [hb] at this; cases this; simp at h3
  ·intro _ _; rw [hb]; simpa using h3
  ·intro _ h; exact absurd h (by simpa using h2)
  ·intro h _; exact absurd h (by simpa using h1)
 ·rintro k out ⟨hys,hlen,hq⟩
  have hk:l.length<=k:=by
   have:=P4 List.length hys;simp at this; omega
  rw [Pg hk] at hq;exact Gd.ret ⟨rfl,hq⟩
theorem CB {l:List BQ} (hl:x_ l) (Y:∀ r ∈ l,zP r) {st:List Sw} (hs:Fk st) (O:∀ x ∈ st,x.Name.size<=maxLen) (I:Bool) {name:OX} (hn:∃ x ∈ st,x.Name=name):
  Gd (lz l st I name) (λr=>r.2=0/\(r.1=true↔∀ r ∈ l,wH st I name r)):=by
 unfold lz;refine Gd.eE (ED hl Y hs O I hn) (λr J=>Gd.ret ⟨J.1,?_⟩);rw [J.1,<- J.2];cases r.1 <;> simp <;> omega
structure Lh (n:Net) (on:List BA) (s:cD) (ov:List BA):Prop where
 JH:dW n on=some 0
 cn:bV n=some 0
 v:oh n
 al:s.fK.length<=100000
 fl:s.hO.length=n.aG.length
 ff:∀ x ∈ s.hO,∃ q,fits q/\x=ctext q
 oe:nc n s.hO=some ov
 ol:ov.length<=24
 om:∀ x ∈ ov,∃ b ∈ n.aG,b.Name=x
 OF:∃ p,eO (pE n on)=some (p,0)/\True
theorem GX {l:List (aP×Rat)}:∀ {x:BA},x ∈ l.flatMap xw->∃ z ∈ l,z.1.Name=x:=by
 intro x I;obtain ⟨z,J,I⟩:=QU.1 I;refine ⟨z,J,?_⟩
 by_cases h:yN z
 ·rw [yT h] at I
  simp at I;exact I.symm
 ·rw [AV h] at I
  simp at I
theorem BE:∀ (l:List (aP×Rat)),(l.flatMap xw).length<=l.length
 | []=>by simp
 | z::l=>by
  have:=BE l;have:(xw z).length<=1:=by
   by_cases h:yN z
   ·rw [yT h]; simp
   ·rw [AV h]; simp
  simp only [Qf,Pj,Pa];omega
theorem zQ {n:Net} (O:px n) (on:List BA):Gd (c_ n on) (λr=>(r.2.2≠0->r=(cD.mk [] [],[],r.2.2))/\(r.2.2=0->Lh n on r.1 r.2.1)):=by
 obtain ⟨e,he,hok⟩:=Hi O on
 by_cases h0:e=0
 ·subst h0
  have J:=hok rfl;have Y:oh n:=by
   obtain ⟨f,hf,hs⟩:=Tu n O;rw [J] at hf;exact hs (O4 hf).symm
  rcases vz (pE n on) (O.pE on) with ⟨x,Z,hi⟩ | ⟨t,p,s,hV',hn,hg,ht,hb,hi,hfc,hs,I,hv⟩
  ·rw [Gg Y he Z hi]
   exact Gd.ret ⟨λ_=>rfl,λh=>absurd h Z⟩
  ·obtain ⟨qs,hq,hqf⟩:=F2 I.f
   have hql:qs.length=(pE n on).aG.length:=by
    have:=I.fl;rw [hq,QR] at this;exact this
   have ho:=Cz hV' (qs:=qs) hql hqf;rw [<- hq] at ho;rw [Hy Y he hi hs ho];refine Gd.ret ⟨λh=>absurd rfl h,λ_=>⟨he,J,Y,?_,I.fl,I.f,ho,?_,?_,p,hi,hv⟩⟩
   ·have:=I.al
    have:=ht.JG;show s.fK.length<=100000;omega
   ·refine P0 (BE _) ?_
    rw [List.length_zip];exact P0 (Nat.min_le_left _ _) Y.l3
   ·intro x Z
    obtain ⟨z,O,he⟩:=GX Z;exact ⟨z.1,(List.of_mem_zip O).1,he⟩
 ·rw [Hx he h0]
  exact Gd.ret ⟨λ_=>rfl,λh=>absurd h h0⟩
def MF {α:Type} (p:α->Bool) (l:List α) (r:Int):Prop:=(r = -1/\∀ x ∈ l,p x=false)\/∃ i,∃ h:i<l.length,r=(i:Int)/\p l[i]=true/\∀ x ∈ l.take i,p x=false
theorem FJ {α:Type} (p:α->Bool) (l:List α):
  Gd (jQ (λk (_:Unit) n=>idx l (k:Int) λy=>if p y then (some (k:Int)) else (n ())) (λ_=>some (-1)) ((l.length:Int):Int).toNat 0 ()) (MF p l):=by
 refine Gd.jQ (λm i _=>i+m=l.length/\∀ x ∈ l.take i,p x=false) ?_ ?_ (l.length:Int).toNat 0 () ⟨by omega,by simp⟩
 ·intro m i _ O ⟨hi,hno⟩ hnx
  have I:i<l.length:=by omega
  refine Gd.gS I (Gd.ite (λh=>Gd.ret (.inr ⟨i,I,rfl,h,hno⟩)) (λh=>hnx () ⟨by omega,?_⟩))
  rw [Ps I];intro x J;rcases Pe.1 J with J | J
  ·exact hno x J
  ·rw [PE.1 J]; exact h
 ·intro i _ ⟨hi,hno⟩
  refine Gd.ret (.inl ⟨rfl,?_⟩);have:l.take i=l:=Pg (by omega)
  rw [this] at hno;exact hno
theorem LY (l:List aF) (e:aH):Gd (dE l e) (MF (λx=>decide (x.Name=e.Name)) l):=FJ _ l
theorem LX (l:List bE) (e:aH):Gd (dK l e) (MF (λx=>decide (x.Name=e.Name)) l):=FJ _ l
theorem L1 (l:List aX) (e:aH):Gd (cP l e) (MF (λx=>decide (x.Name=e.Name)) l):=FJ _ l
theorem LZ (l:List aF) (x:BA):Gd (cZ l x) (MF (λy=>decide (y.Name=x)) l):=FJ _ l
theorem yX (n:Net) (hl:n.bA.length<=12):pq n=some (nm n):=by
 rw [<- Gd.eq];unfold pq;refine Gd.dR (λi (ys:List aF) (w:List BA)=>i+ys.length=n.bA.length/\n.bA.drop i=ys/\w=(n.bA.take i).map (·.Name)) ?_ ?_ n.bA 0 [] ⟨by simp,rfl,by simp⟩
 ·rintro i y ys w nx ⟨hi,J,O⟩ Y
  simp only [Pa] at hi;unfold th;have I:i<n.bA.length:=by omega
  have Z:n.bA[i]=y:=by
   rw [Pz I] at J;exact (TL J).1
  refine Gd.nd ?_ (Y _ ⟨by omega,?_,?_⟩)
  ·rw [O]; simp; omega
  ·rw [Pz I] at J
   exact (TL J).2
  ·rw [O,Ps I,Z]; simp
 ·rintro i w ⟨hi,J,O⟩
  refine Gd.ret ?_;rw [O,Pg (by simp at hi; omega)]
  rfl
abbrev Ev:=aH
def CW (e:Ev):Prop:=e.Kind.size<=maxLen/\e.Name.size<=maxLen
theorem J8 (s:BA) (h:s.size<=maxLen):Gd (lP s) (λ_=>True):=by
 unfold lP;refine Gd.nd h (Gd.dR (λ_ _ _=>True) (λi y ys s I _ hn=>?_) (λ_ _ _=>Gd.ret O0) _ _ _ O0);unfold rH;exact Gd.ite (λ_=>Gd.ret O0) (λ_=>hn _ O0)
theorem Gm {e:Ev} (h:CW e):Gd (dV e) (λr=>r=0->0<=e.Time/\e.Time<=200000):=by
 unfold dV;refine Gd.ite (λ_=>Gd.ret (λh=>by simp at h)) (λht=>Gd.eE (J8 e.Kind h.1) (λb _=>Gd.ite (λ_=>?_) (λ_=>Gd.ret (λh=>by simp at h))))
 refine Gd.eE (xd e.Name h.2) (λb _=>Gd.ite (λ_=>Gd.ret (λh=>by simp at h)) (λ_=>Gd.ite (λ_=>Gd.ret (λh=>by simp at h)) (λ_=>Gd.ret (λ_=>?_))))
 simp at ht;omega
theorem Aa {t v:Int}{k s:BA} (ht:0<=t/\t<=200000) (I:lP k=some true) (hs:bP s=some true) (J:-1000000<=v/\v<=1000000):
  dV (aH.mk t k s v)=some 0:=by
 rw [<- Gd.eq];unfold dV;refine Gd.ite (λk=>?_) (λ_=>Gd.bind_eq I (Gd.ite (λ_=>Gd.bind_eq hs (Gd.ite (λk=>by simp at k) (λ_=>Gd.ite (λk=>?_) (λ_=>Gd.ret rfl)))) (λk=>by simp at k)))
 ·simp at k; omega
 ·simp at k; omega
theorem G8:lP (⟨#[115,104,101,100]⟩)=some true:=by kernel_rfl
theorem E1:lP (⟨#[112,114,111,111,102]⟩)=some true:=by kernel_rfl
theorem append_eq {l:List Ev}{e:Ev} (hl:l.length<300) (ht:∀ x ∈ l,x.Time<=e.Time) (I:dV e=some 0):
  ∃ k,eL (bD.mk l) e=some (k,0,bD.mk (l++[e])):=by
 suffices h:Gd (eL (bD.mk l) e) (λr=>∃ k,r=(k,0,bD.mk (l++[e]))) by
  obtain ⟨r,O,k,rfl⟩:=h;exact ⟨k,O⟩
 unfold eL;refine Gd.bind_eq I (Gd.ite (λk=>by simp at k) (λ_=>Gd.ite (λJ=>?_) (λ_=>?_)))
 ·have Z:0<l.length:=by simpa using J
  have Y:i64.wrap ((l.length:Int)-1)=((l.length-1:Nat):Int):=by
   rw [bQ ⟨by omega,by omega⟩]; omega
  rw [Y];refine Gd.gS (by simp; omega) (Gd.ite (λk=>?_) (λ_=>?_))
  ·have:=ht _ (PC (by omega:l.length-1<l.length))
   simp at k;omega
  ·refine Gd.ite (λk=>?_) (λ_=>Gd.nd ?_ (Gd.ret ⟨_,rfl⟩))
   ·simp at k; omega
   ·simp; omega
 ·refine Gd.ite (λk=>?_) (λ_=>Gd.nd ?_ (Gd.ret ⟨_,rfl⟩))
  ·simp at k; omega
  ·simp; omega
theorem HS {n:Net} (h:oh n) {b:aP} (J:b ∈ n.aG):0<=b.wz/\b.wz<=200000:=by
 obtain ⟨_,_,_,_,I⟩:=h.vb b J;unfold gX at I
 split at I
 ·omega
 ·rename_i h6
  simp [bF] at h6;omega
theorem copy_eq {n:Net} (h:oh n):iV n=some n:=by
 have:=h.l1; have:=h.l2; have:=h.l3; have:=h.l4; have:=h.l5; have:=h.l6
 rw [<- Gd.eq];unfold iV;exact Gd.nd (by omega) (Gd.nd (by omega) (Gd.nd (by omega) (Gd.nd (by omega) (Gd.nd (by omega) (Gd.nd (by omega) (Gd.ret rfl))))))
structure vS (n:Net) (w:bN):Prop where
 b:w.kF=n.aG
 f:w.lM.length=n.aG.length
 a:w.rq.length=n.aG.length
 o:w.over.length=n.aG.length
theorem D1 {n:Net}{w:bN} (h:vS n w) (hl:n.aG.length<=24):Gd (jB w) (λr=>r.length<=24):=by
 unfold jB;rw [h.b];refine Gd.dR (λi (ys:List aP) (s:List BA)=>i+ys.length=n.aG.length/\s.length<=i) ?_ ?_ n.aG 0 [] ⟨by simp,by simp⟩
 ·rintro i y ys s J ⟨hi,hs⟩ I
  simp only [Pa] at hi;unfold oZ kI;refine Gd.gS (by rw [h.o]; omega) (Gd.ite (λ_=>Gd.nd ?_ (I _ ⟨by omega,?_⟩)) (λ_=>I _ ⟨by omega,by omega⟩))
  ·simp only [Pa,TW]; omega
  ·simp; omega
 ·rintro i s ⟨hi,hs⟩
  exact Gd.ret (by simp at hi; omega)
theorem JB {n:Net}{w:bN} (h:vS n w) (hV:oh n) {fl:List BA} (hl:fl.length=n.aG.length) (hf:∀ x ∈ fl,∃ q,fits q/\x=ctext q) (d:Int):
  Gd (kU w fl d) (λr=>vS n r.2.2):=by
 have I:=hV.l3;unfold kU;refine Gd.eE (P:=λ_=>True) ?_ (λr _=>Gd.ite (λ_=>Gd.ret h) (λ_=>Gd.ite (λ_=>Gd.ret h) (λ_=>Gd.ite (λ_=>Gd.ret h) (λ_=>?_))))
 ·unfold pW
  exact Gd.ite (λ_=>Gd.ret O0) (λ_=>Gd.eE (De (λs hs=>H6 (hf s hs))) (λ_ _=>Gd.ret O0))
 ·rw [h.b]
  refine Gd.dR (λi (ys:List aP) (s:List aA×List Int×List Bool)=>i+ys.length=n.aG.length/\(∀ y ∈ ys,y ∈ n.aG)/\s.1.length=n.aG.length/\s.2.1.length=n.aG.length/\s.2.2.length=n.aG.length) ?_ ?_ n.aG 0 (w.lM,w.rq,w.over) ⟨by simp,λ_ h=>h,h.f,h.a,h.o⟩
  ·rintro i y ys ⟨s1,s2,s3⟩ nx ⟨hi,hd,Z,J,I⟩ Y
   simp only [Pa] at hi;simp only at Z J I;have hy:=Gr hV (hd y (O5 ..));have hL:=hy.l;have hS:=HS hV (hd y (O5 ..));have O:∀ z ∈ ys,z ∈ n.aG:=λz hz=>hd z (O9 _ hz);have hif:i<fl.length:=by omega
   obtain ⟨q,hq,hqe⟩:=hf _ (PC hif);unfold o9 gB;refine Gd.gS hif ?_;rw [hqe];refine Gd.eE (DM hq) (λa ha=>Gd.eE (F3 ha.1 ha.2.1 (by omega)) (λb hb=>Gd.gS (by rw [Z]; omega) ?_))
   refine Gd.eE (um ⟨by omega,by omega⟩) (λc hc=>Gd.eE (CF hb.1 hc.1 hb.2.1 hc.2.1 (by omega)) (λe _=>?_))
   refine Gd.ite (λ_=>Gd.gS (by rw [J]; omega) (Gd.gS (by rw [I]; omega) (Y _ ⟨by omega,O,by simpa using Z,by simpa using J,by simpa using I⟩))) (λ_=>?_)
   refine Gd.gS (by rw [J]; omega) (Gd.gS (by rw [J]; omega) (Gd.gS (by simp; omega) (Gd.ite (λ_=>Gd.gS (by rw [I]; omega) (Y _ ⟨by omega,O,by simpa using Z,by simpa using J,by simpa using I⟩)) (λ_=>?_))))
   refine Gd.eE (um ⟨by omega,by omega⟩) (λc2 hc2=>Gd.eE (CF hb.1 hc2.1 hb.2.1 hc2.2.1 (by omega)) (λe2 _=>?_))
   exact Gd.ite (λ_=>Gd.gS (by rw [I]; omega) (Y _ ⟨by omega,O,by simpa using Z,by simpa using J,by simpa using I⟩)) (λ_=>Y _ ⟨by omega,O,by simpa using Z,by simpa using J,by simpa using I⟩)
  ·rintro i ⟨s1,s2,s3⟩ ⟨hi,hd,Z,J,I⟩
   have hw:vS n (bN.mk n.aG s1 s2 s3 (i64.wrap (w.time+d))):=⟨rfl,Z,J,I⟩;exact Gd.eE (D1 hw hV.l3) (λr _=>Gd.ret hw)
theorem KA {n:Net} (O:bV n=some 0) (J:oh n):∃ w,oY n=some (some w,0)/\vS n w:=by
 suffices h:Gd (oY n) (λr=>∃ w,r=(some w,0)/\vS n w) by
  obtain ⟨r,I,w,rfl,Y⟩:=h;exact ⟨w,I,Y⟩
 have:=J.l3;unfold oY;refine Gd.bind_eq O (Gd.ite (λk=>by simp at k) (λ_=>Gd.bind_eq (copy_eq J) ?_))
 refine Gd.eE (yH (by omega)) (λr I=>Gd.nd (by omega) (Gd.nd (by omega) (Gd.ret ⟨_,rfl,?_⟩)))
 obtain ⟨z,rfl,_⟩:=I;exact ⟨rfl,by simp,by simp,by simp⟩
abbrev Rm:=aO
abbrev Ac:BA:=⟨#[111,112,101,110]⟩
abbrev xG:BA:=⟨#[99,108,111,115,101]⟩
abbrev Fw:BA:=⟨#[98,97,99,107]⟩
abbrev y_:BA:=⟨#[115,104,101,100]⟩
abbrev wI:BA:=⟨#[112,114,111,111,102]⟩
structure Li (held:List BA) (n:Net) (e:Ev) (l:List aX):Prop where
 k:e.Kind=Ac\/e.Kind=xG
 h:e.Name ∉ held
 s:∃ i,∃ h:i<n.aM.length,n.aM[i].Name=e.Name/\∃ b,l=n.aM.set i (aX.mk n.aM[i].Name n.aM[i].A n.aM[i].B_ n.aM[i].vr b)
structure Nx (held:List BA) (n:Net) (on:List BA) (e:Ev) (c:cO):Prop where
 sz:px c.n
 br:c.n.aG=n.aG
 ln:nm c.n=nm n
 sw:c.n.aM=n.aM\/Li held n e c.n.aM
 on:e.Kind≠Fw/\c.on=on\/e.Kind=Fw/\e.Name ∈ nm n/\e.Name ∉ on/\c.on=on++[e.Name]
 ks:e.Kind≠y_/\e.Kind≠wI
 hn:e.Kind=Ac\/e.Kind=xG->e.Name ∉ held
structure D_ (l:List BQ):Prop where
 ok:x_ l
 sz:∀ r ∈ l,zP r
theorem Jp {n:Net} (h:oh n):(n.aM.map (·.Name)).Nodup:=by
 have:=h.nd;unfold names at this;simp only [PW,Pv] at this;exact this.2.1.1
theorem EW {r:Rm}{n:Net} (O:px n) (hV:oh n) (hr:D_ r.rules) {on:List BA}{e:Ev} (he:CW e) (hk:e.Kind=Ac\/e.Kind=xG):
  Gd (mC r (cO.mk n on) e) (λc=>c.1=0->Nx r.held n on e c.2):=by
 have h2:=hV.l2;unfold mC;refine Gd.eE (L1 _ e) (λi hi=>Gd.ite (λ_=>Gd.ret (λh=>by simp at h)) (λh0=>Gd.ite (λ_=>Gd.ret (λh=>by simp at h)) (λ_=>?_)))
 rcases hi with ⟨rfl,_⟩ | ⟨i,I,rfl,hp,_⟩
 ·simp at h0
 have hp:n.aM[i].Name=e.Name:=by simpa using hp
 refine Gd.gS I (Gd.ite (λ_=>Gd.ret (λh=>by simp at h)) (λ_=>?_))
 rw [qS];refine Gd.ite (λ_=>Gd.ret (λh=>by simp at h)) (λhh=>?_)
 have hh:e.Name ∉ r.held:=by simpa using hh
 refine Gd.dR (λj (ys:List aX) (s:List aL)=>j+ys.length=n.aM.length/\n.aM.drop j=ys/\s=(n.aM.take j).map (λy=>aL.mk y.Name (!y.Open))) ?_ ?_ n.aM 0 [] ⟨by simp,rfl,by simp⟩
 ·rintro j y ys s nx ⟨hj,Z,hs⟩ hnx
  simp only [Pa] at hj;unfold pj;have Y:j<n.aM.length:=by omega
  have hy:n.aM[j]=y:=by
   rw [Pz Y] at Z;exact (TL Z).1
  refine Gd.nd ?_ (hnx _ ⟨by omega,?_,?_⟩)
  ·rw [hs]; simp; omega
  ·rw [Pz Y] at Z
   exact (TL Z).2
  ·rw [hs,Ps Y,hy]; simp
 ·rintro j s ⟨hj,Z,hs⟩
  rw [Pg (by simp at hj; omega)] at hs
  have hso:Fk s:=by
   refine ⟨by rw [hs]; simpa using h2,?_,?_⟩
   ·intro x J
    rw [hs] at J;obtain ⟨y,hy,rfl⟩:=PO.1 J;exact (hV.vs y hy).1
   ·rw [hs,List.map_map]
    exact Jp hV
  have hsz:∀ x ∈ s,x.Name.size<=maxLen:=by
   intro x J;rw [hs] at J;obtain ⟨y,hy,rfl⟩:=PO.1 J;exact O.sw y hy
  have tK:∃ x ∈ s,x.Name=e.Name:=by
   refine ⟨aL.mk n.aM[i].Name (!n.aM[i].Open),?_,hp⟩;rw [hs];exact PO.2 ⟨n.aM[i],PC I,rfl⟩
  refine Gd.eE (CB hr.ok hr.sz hso hsz _ tK) (λb _=>Gd.ite (λ_=>Gd.ret (λh=>by simp at h)) (λ_=>Gd.gS I (Gd.ret (λ_=>?_))))
  refine ⟨⟨O.nd,?_,O.br,O.gn,O.ld,O.st⟩,rfl,rfl,.inr ⟨hk,hh,i,I,hp,_,rfl⟩,.inl ⟨?_,rfl⟩,?_,λ_=>hh⟩
  ·intro x J
   rcases TY J with J | rfl
   ·exact O.sw x J
   ·show (n.aM[i]).Name.size<=maxLen
    exact O.sw _ (PC I)
  ·rcases hk with h | h <;> rw [h] <;> decide
  ·rcases hk with h | h <;> rw [h] <;> decide
theorem L8 (n:Net) (i:Nat) (h:i<n.bA.length) (v:Int):(n.bA.set i (aF.mk n.bA[i].Name n.bA[i].Node v)).map (·.Name)=nm n:=by
 unfold nm;rw [List.map_set];show (n.bA.map (·.Name)).set i (n.bA[i].Name)=_;have:(n.bA.map (·.Name))[i]'(by simpa using h)=n.bA[i].Name:=by simp
 rw [<- this];exact Ta (by simpa using h)
theorem GH {r:Rm}{n:Net} (O:px n) (hV:oh n) (hr:D_ r.rules) {on:List BA} (ho:on.length<=1000) {e:Ev} (he:CW e):
  Gd (ng r (cO.mk n on) e) (λc=>c.1=0->Nx r.held n on e c.2):=by
 unfold ng;refine Gd.eE (LY _ e) (λi hi=>Gd.eE (LX _ e) (λj hj=>?_));have Z:∀ c:Bool,(c=true->e.Kind=Ac\/e.Kind=xG)->(e.Kind=Ac\/e.Kind=xG->c=true)->Gd (jH r (cO.mk n on) e i j c) (λc=>c.1=0->Nx r.held n on e c.2):=by
  intro c hc hc2;unfold jH gT;refine Gd.ite (λh=>Gd.eE (EW O hV hr he (hc h)) (λa ha=>Gd.ret ha)) (λhno=>?_);have Y:e.Kind=Ac\/e.Kind=xG->e.Name ∉ r.held:=λh=>by rw [hc2 h] at hno; cases hno
  refine Gd.ite (λJ=>?_) (λhk1=>Gd.ite (λJ=>?_) (λhk2=>Gd.ite (λJ=>?_) (λhk3=>Gd.ite (λJ=>?_) (λ_=>Gd.ret (λh=>by simp at h)))))
  ·refine Gd.ite (λ_=>Gd.ret (λh=>by simp at h)) (λh0=>Gd.ite (λ_=>Gd.ret (λh=>by simp at h)) (λ_=>?_))
   have J:=O6 J;rcases hi with ⟨rfl,_⟩ | ⟨i,I,rfl,hp,_⟩
   ·simp at h0
   refine Gd.gS I (Gd.ret (λ_=>⟨⟨O.nd,O.sw,O.br,O.gn,?_,O.st⟩,rfl,L8 n i I _,.inl rfl,.inl ⟨by rw [J]; decide,rfl⟩,by rw [J]; decide,Y⟩))
   intro x hx;rcases TY hx with hx | rfl
   ·exact O.ld x hx
   ·show (n.bA[i]).Name.size<=maxLen
    exact O.ld _ (PC I)
  ·refine Gd.ite (λ_=>Gd.ret (λh=>by simp at h)) (λh0=>?_)
   have J:=O6 J;rcases hj with ⟨rfl,_⟩ | ⟨j,I,rfl,hp,_⟩
   ·simp at h0
   refine Gd.gS I (Gd.ite (λ_=>Gd.ret (λh=>by simp at h)) (λ_=>Gd.gS I (Gd.ret (λ_=>⟨⟨O.nd,O.sw,O.br,?_,O.ld,O.st⟩,rfl,rfl,.inl rfl,.inl ⟨by rw [J]; decide,rfl⟩,by rw [J]; decide,Y⟩))))
   intro x hx;rcases TY hx with hx | rfl
   ·exact O.gn x hx
   ·show (n.dL[j]).Name.size<=maxLen
    exact O.gn _ (PC I)
  ·refine Gd.ite (λ_=>Gd.ret (λh=>by simp at h)) (λh0=>?_)
   have J:=O6 J;rcases hi with ⟨rfl,_⟩ | ⟨i,I,rfl,hp,_⟩
   ·simp at h0
   have hp:n.bA[i].Name=e.Name:=by simpa using hp
   rw [qS];refine Gd.ite (λ_=>Gd.ret (λh=>by simp at h)) (λhh=>Gd.gS I (Gd.ite (λ_=>Gd.ret (λh=>by simp at h)) (λ_=>Gd.nd ?_ (Gd.ret (λ_=>?_)))))
   ·simp; omega
   ·have hh:e.Name ∉ on:=by simpa using hh
    exact ⟨O,rfl,rfl,.inl rfl,.inr ⟨J,PO.2 ⟨_,PC I,hp⟩,hh,rfl⟩,by rw [J]; decide,Y⟩
  ·have J:=O6 J
   exact Gd.ite (λ_=>Gd.ret (λh=>by simp at h)) (λ_=>Gd.ret (λ_=>⟨O,rfl,rfl,.inl rfl,.inl ⟨by rw [J]; decide,rfl⟩,by rw [J]; decide,Y⟩))
 refine Gd.ite (λh=>Z _ (λ_=>.inl (O6 h)) (λ_=>h)) (λh=>Z _ (λh=>.inr (O6 h)) (λk=>?_));rcases k with k | k
 ·exact absurd k (Pc h)
 ·exact UC k
theorem Kx (off:List BA) (x:BA):gU x off=some (!vi off x):=by
 unfold gU vi;rw [qS];simp
theorem Ky (off A:List BA) (hA:A.length<=1000):Gd (dJ A off) (λr=>r=A.filter (vi off)):=
 Aj (λx=>gU x off) (vi off) (Kx off) _ A (by omega)
theorem KB (ex:List BA) (x:BA):jS x ex=some (!decide (x ∈ ex)):=by
 unfold jS;rw [qS];simp
theorem KC (ex A:List BA) (hA:A.length<=1000):Gd (dQ A ex) (λr=>r=A.filter (λx=>decide (x ∈ ex))):=
 Aj (λx=>jS x ex) (λx=>decide (x ∈ ex)) (KB ex) _ A (by omega)
structure zk (n:Net) (on:List BA):Prop where
 nd:on.Nodup
 s:∀ x ∈ on,x ∈ nm n
theorem zk.len {n:Net}{on:List BA} (h:zk n on):on.length<=n.bA.length:=by
 have:=DI on (nm n) h.nd h.s;rw [xU] at this;exact this
theorem zk.JH {n:Net}{on:List BA} (h:zk n on) (I:bV n=some 0) (hl:n.bA.length<=12):dW n on=some 0:=
 Hj I on (P0 h.len (by omega)) h.nd h.s
theorem zk.filter {n:Net}{on:List BA} (h:zk n on) (p:BA->Bool):zk n (on.filter p):=
 ⟨h.nd.sublist TQ,λx I=>h.s x ((PY.1 I).1)⟩
theorem w6 {n:Net}{a b:List BA} (h:∀ x ∈ nm n,x ∈ a↔x ∈ b):pE n a=pE n b:=by
 unfold pE
 congr 1
 refine List.filter_congr (λx I=>?_);unfold Dt;have:=h x.Name (PO.2 ⟨x,I,rfl⟩);exact Uz.2 this
structure Own (k:BA) (t:Int) (names:List BA) (l:List Ev):Prop where
 n:l.map (·.Name)=names
 k:∀ e ∈ l,e.Kind=k/\e.Time=t
 c:∀ e ∈ l,dV e=some 0
theorem Own.add {k:BA}{t v:Int}{names:List BA}{l:List Ev} (h:Own k t names l) (s:BA) (I:dV (aH.mk t k s v)=some 0):Own k t (names++[s]) (l++[aH.mk t k s v]):=
 ⟨by simp [h.n],λe he=>by
  rcases Pe.1 he with he | he
  ·exact h.k e he
  ·rw [PE.1 he]; exact ⟨rfl,rfl⟩,λe he=>by
  rcases Pe.1 he with he | he
  ·exact h.c e he
  ·rw [PE.1 he]; exact I⟩
theorem Own.len {k:BA}{t:Int}{names:List BA}{l:List Ev} (h:Own k t names l):l.length=names.length:=by
 rw [<- h.n]; simp
theorem E4 {r:Rm} (hz:px r.bR) (hV:oh r.bR) (hc:bV r.bR=some 0) (hl:r.bR.bA.length<=5) (hon:zk r.bR r.on)
  (ht:0<=r.time/\r.time<=200000) (hlog:∀ x ∈ r.log.jK,x.Time<=r.time) (hll:r.log.jK.length<=200) {over:List BA} (ho:over.length<=24) (hov:∀ x ∈ over,∃ b ∈ r.bR.aG,b.Name=x):
  Gd (mD r over) (λr'=>
   (gP r.bR r.on=some ([],8)/\∃ ev,Own wI r.time over ev/\r'=aO.mk r.bR r.rules r.on r.held r.watch r.state r.time (bD.mk (r.log.jK++ev)) over) \/
   ∃ off st ev,Own y_ r.time off ev/\Lh r.bR (r.on.filter (vi off)) st []/\(∀ x ∈ off,x ∈ r.on)/\off.length<=5 /\
    r'=aO.mk r.bR r.rules (r.on.filter (vi off)) r.held r.watch st r.time (bD.mk (r.log.jK++ev)) r.over):=by
 have h5:=hV.l5;have hol:=hon.len;have hck:=hon.JH hc h5;have hnl:=xU r.bR;obtain ⟨⟨off,e⟩,hre,hrs⟩:=w8 hz hV r.on hck (by omega) _ rfl
 unfold mD;refine Gd.bind_eq hre (Gd.ite (λh=>?_) (λh=>?_))
 ·rcases hrs with ⟨h0,_⟩ | ⟨h8,_⟩
  ·exact absurd h0 (by simpa using h)
  refine Gd.dR (λi (ys:List BA) (s:List Ev)=>i+ys.length=over.length/\over.drop i=ys/\∃ ev,Own wI r.time (over.take i) ev/\s=r.log.jK++ev) ?_ ?_ over 0 r.log.jK ⟨by simp,rfl,[],⟨by simp,by simp,by simp⟩,by simp⟩
  ·rintro i y ys s nx ⟨hi,hd,ev,I,rfl⟩ hnx
   simp only [Pa] at hi;have Y:i<over.length:=by omega
   have O:=hd;rw [Pz Y] at O;have hy:over[i]=y:=(TL O).1;have hel:=I.len;unfold pn;obtain ⟨b,hb,hbn⟩:=hov y (hy▸PC Y);have hac:dV (aH.mk r.time wI y 0)=some 0:=Aa ht E1 (by rw [<- hbn]; exact (hV.vb b hb).1) (by omega)
   obtain ⟨k,hk⟩:=append_eq (l:=r.log.jK++ev) (e:=aH.mk r.time wI y 0) (by simp only [Pj,hel,Pr]; omega) (by
    intro x J;rcases Pe.1 J with J | J
    ·exact hlog x J
    ·exact Int.le_of_eq (I.k x J).2) hac
   refine Gd.bind_eq hk (hnx _ ⟨by omega,(TL O).2,ev++[aH.mk r.time wI y 0],?_,by simp⟩)
   rw [Ps Y,hy];exact I.add y hac
  ·rintro i s ⟨hi,hd,ev,I,rfl⟩
   rw [Pg (by simp at hi; omega)] at I
   exact Gd.ret (.inl ⟨by rw [hre,h8],ev,I,rfl⟩)
 ·have h0:e=0:=by simpa using h
  subst h0;rcases hrs with ⟨_,hsub,Z,_⟩ | ⟨h8,_⟩
  ·simp only at hsub Z
   have tK:∀ x ∈ off,x ∈ nm r.bR/\x ∈ r.on:=λx J=>by
    have:=hsub.subset J;rw [PY] at this;exact ⟨this.1,by simpa using this.2⟩
   have hofl:off.length<=5:=by
    refine P0 hsub.length_le (P0 (TV _ _) (by omega))
   refine Gd.dR (λi (ys:List BA) (s:List Ev)=>i+ys.length=off.length/\off.drop i=ys/\∃ ev,Own y_ r.time (off.take i) ev/\s=r.log.jK++ev) ?_ ?_ off 0 r.log.jK ⟨by simp,rfl,[],⟨by simp,by simp,by simp⟩,by simp⟩
   ·rintro i y ys s nx ⟨hi,hd,ev,I,rfl⟩ hnx
    simp only [Pa] at hi;have Y:i<off.length:=by omega
    have O:=hd;rw [Pz Y] at O;have hy:off[i]=y:=(TL O).1;have hel:=I.len;unfold po;obtain ⟨b,hb,hbn⟩:=PO.1 (tK y (hy▸PC Y)).1;refine Gd.eE (LZ _ y) (λj hj=>?_);rcases hj with ⟨_,hno⟩ | ⟨j,hjl,rfl,hp,_⟩
    ·have:=hno b hb
     simp [hbn] at this
    have hld:=hV.vl _ (PC hjl);have hdm:0<=r.bR.bA[j].cW/\r.bR.bA[j].cW<=100000:=by
     have:=hld.2.2;simp [aT,bF] at this;omega
    refine Gd.gS hjl ?_;have hac:dV (aH.mk r.time y_ y r.bR.bA[j].cW)=some 0:=Aa ht G8 (by rw [<- hbn]; exact (hV.vl b hb).1) (by omega)
    obtain ⟨k,hk⟩:=append_eq (l:=r.log.jK++ev) (e:=aH.mk r.time y_ y r.bR.bA[j].cW) (by simp only [Pj,hel,Pr]; omega) (by
     intro x J;rcases Pe.1 J with J | J
     ·exact hlog x J
     ·exact Int.le_of_eq (I.k x J).2) hac
    refine Gd.bind_eq hk (hnx _ ⟨by omega,(TL O).2,ev++[aH.mk r.time y_ y r.bR.bA[j].cW],?_,by simp⟩)
    rw [Ps Y,hy];exact I.add y hac
   ·rintro i s ⟨hi,hd,ev,I,rfl⟩
    rw [Pg (by simp at hi; omega)] at I
    refine Gd.eE (Ky off r.on (by omega)) (λon' hon'=>?_)
    subst hon';have hon2:=hon.filter (vi off);have hck2:=hon2.JH hc h5;obtain ⟨s,hs,hsg⟩:=zQ hz (r.on.filter (vi off));obtain ⟨q,hq⟩:=A4 (hz.pE (r.on.filter (vi off)));have hqs:=C0 hV hck2 hq;rw [hs] at hqs;have hqs:=O4 hqs;subst hqs;have hw:pE r.bR (((nm r.bR).filter (λx=>decide (x ∈ r.on))).filter (vi off))=pE r.bR (r.on.filter (vi off)):=w6 (λx J=>by
     simp only [PY,J,true_and,PK])
    have hord:zg r.bR (r.on.filter (vi off)):=by
     unfold zl zg at Z;rw [hw] at Z;exact Z
    obtain ⟨e0,e1⟩:=(BD hq).1 hord;have hst:=hsg.2 e0;rw [e1] at hst;exact Gd.bind_eq hs (Gd.ret (.inr ⟨off,s.1,ev,I,hst,λx J=>(tK x J).2,hofl,rfl⟩))
  ·simp at h8
structure Inv (r:Rm):Prop where
 sz:px r.bR
 ru:D_ r.rules
 on:zk r.bR r.on
 ll:r.bR.bA.length<=5
 st:∃ ov,Lh r.bR r.on r.state ov
 w:vS r.bR r.watch
 tm:0<=r.time/\r.time<=200000
 lt:∀ x ∈ r.log.jK,x.Time<=r.time
 lc:r.log.jK.length<=250
 ol:r.over.length<=24
 lk:∀ x ∈ r.log.jK,dV x=some 0
def yG (r:Rm) (e:Ev):Option bN:=
 if 1<=e.Time-r.time then (kU r.watch r.state.hO (e.Time-r.time)).map (·.2.2) else some r.watch
structure MC (r:Rm) (e:Ev) (r':Rm):Prop where
  c:dV e=some 0
  t:r.time<=e.Time
  t':r'.time=e.Time
  ru:r'.rules=r.rules
  he:r'.held=r.held
  k:e.Kind≠y_/\e.Kind≠wI
  sw:r'.bR.aM=r.bR.aM\/Li r.held r.bR e r'.bR.aM
  hn:e.Kind=Ac\/e.Kind=xG->e.Name ∉ r.held
  ln:nm r'.bR=nm r.bR
  wa:yG r e=some r'.watch
  x:∃ on1,(e.Kind≠Fw/\on1=r.on\/e.Kind=Fw/\e.Name ∈ nm r.bR/\e.Name ∉ r.on/\on1=r.on++[e.Name]) /\
    ∃ st1 ov1 ex,Lh r'.bR on1 st1 ov1/\jB r'.watch=some ex /\
    ((ov1.filter (λx=>decide (x ∈ ex))=[]/\r'.on=on1/\r'.state=st1/\r'.over=[]/\r'.log.jK=r.log.jK++[e]) \/
     (gP r'.bR on1=some ([],8)/\r'.on=on1/\r'.state=st1/\r'.over=ov1.filter (λx=>decide (x ∈ ex))/\∃ ev,Own wI e.Time r'.over ev/\r'.log.jK=r.log.jK++[e]++ev) \/
     (∃ off ev,Own y_ e.Time off ev/\r'.on=on1.filter (vi off)/\Lh r'.bR r'.on r'.state []/\(∀ x ∈ off,x ∈ on1)/\r'.over=[]/\r'.log.jK=r.log.jK++[e]++ev))
theorem vS.Og {n m:Net}{w:bN} (h:vS n w) (e:m.aG=n.aG):vS m w:=⟨by rw [h.b,e],by rw [h.f,e],by rw [h.a,e],by rw [h.o,e]⟩
theorem KF {r:Rm} (h:Inv r) {e:Ev} (hc:dV e=some 0) (ht:r.time<=e.Time) (ht2:0<=e.Time/\e.Time<=200000) (hl:r.log.jK.length<200)
  {c:cO} (I:Nx r.held r.bR r.on e c) {st:cD}{ov:List BA} (hs:Lh c.n c.on st ov) {w:bN} (hw:vS c.n w) (hwe:yG r e=some w):
  Gd (jC r e (0,c) (st,ov,0) w.kF w.lM w.rq w.over w.time) (λq=>q.1=0/\Inv q.2/\MC r e q.2):=by
 have hll:c.n.bA.length=r.bR.bA.length:=by
  have:=P4 List.length I.ln
  rwa [xU,xU] at this
 have h5:=h.ll;have hon:zk c.n c.on:=by
  rcases I.on with ⟨_,ho⟩ | ⟨_,hm,hno,ho⟩
  ·rw [ho]; exact ⟨h.on.nd,λx J=>by rw [I.ln]; exact h.on.s x J⟩
  ·rw [ho]
   refine ⟨?_,λx J=>?_⟩
   ·rw [PW]
    refine ⟨h.on.nd,by simp,λa ha b hb=>?_⟩
    rw [PE.1 hb];intro k; rw [k] at ha; exact hno ha
   ·rw [I.ln]
    rcases Pe.1 J with J | J
    ·exact h.on.s x J
    ·rw [PE.1 J]; exact hm
 have Z:∀ x ∈ r.log.jK++[e],x.Time<=e.Time:=λx J=>by
  rcases Pe.1 J with J | J
  ·exact Int.le_trans (h.lt x J) ht
  ·rw [PE.1 J]; exact Ro _
 have hlk:∀ x ∈ r.log.jK++[e],dV x=some 0:=λx J=>by
  rcases Pe.1 J with J | J
  ·exact h.lk x J
  ·rw [PE.1 J]; exact hc
 unfold jC mB;obtain ⟨k,hk⟩:=append_eq (l:=r.log.jK) (e:=e) (by omega) (λx J=>Int.le_trans (h.lt x J) ht) hc
 refine Gd.bind_eq hk ?_;obtain ⟨ex,Y,hexl⟩:=D1 hw hs.v.l3;refine Gd.bind_eq Y (Gd.eE (KC ex ov (P0 hs.ol (by omega))) (λov' ho'=>?_))
 subst ho';have hol:(ov.filter (λx=>decide (x ∈ ex))).length<=24:=P0 (TV _ _) hs.ol;refine Gd.ite (λhp=>?_) (λhp=>?_)
 ·refine Gd.eE (E4 (r:=aO.mk c.n r.rules c.on r.held w st e.Time (bD.mk (r.log.jK++[e])) []) I.sz hs.v hs.cn (by simp only; omega) hon ht2 Z (by simp; omega) hol (λx J=>hs.om x (PY.1 J).1)) (λq hq=>Gd.ret ⟨rfl,?_⟩)
  rcases hq with ⟨hre,ev,O,rfl⟩ | ⟨off,st',ev,O,hst,hoff,hofl,rfl⟩
  ·have hel:ev.length<=24:=by rw [O.len]; exact hol
   refine ⟨⟨I.sz,h.ru,hon,by simp only; omega,⟨ov,hs⟩,hw,ht2,?_,?_,hol,?_⟩,⟨hc,ht,rfl,rfl,rfl,I.ks,I.sw,I.hn,I.ln,hwe,c.on,I.on,st,ov,ex,hs,Y,.inr (.inl ⟨hre,rfl,rfl,rfl,ev,O,rfl⟩)⟩⟩
   ·intro x J
    rcases Pe.1 J with J | J
    ·exact Z x J
    ·exact Int.le_of_eq (O.k x J).2
   ·simp only [Pj,Pa,TW]; omega
   ·intro x J
    rcases Pe.1 J with J | J
    ·exact hlk x J
    ·exact O.c x J
  ·have hel:=O.len
   refine ⟨⟨I.sz,h.ru,hon.filter _,by simp only; omega,⟨[],hst⟩,hw,ht2,?_,?_,by simp,?_⟩,⟨hc,ht,rfl,rfl,rfl,I.ks,I.sw,I.hn,I.ln,hwe,c.on,I.on,st,ov,ex,hs,Y,.inr (.inr ⟨off,ev,O,rfl,hst,hoff,rfl,rfl⟩)⟩⟩
   ·intro x J
    rcases Pe.1 J with J | J
    ·exact Z x J
    ·exact Int.le_of_eq (O.k x J).2
   ·simp only [Pj,Pa,TW,hel]; omega
   ·intro x J
    rcases Pe.1 J with J | J
    ·exact hlk x J
    ·exact O.c x J
 ·have h0:ov.filter (λx=>decide (x ∈ ex))=[]:=by
   simp only [UB] at hp;exact List.length_eq_zero_iff.1 (Nat.le_zero.1 (Nat.not_lt.1 (λk=>hp (Int.ofNat_lt.2 k))))
  refine Gd.ret ⟨rfl,⟨I.sz,h.ru,hon,by simp only; omega,⟨ov,hs⟩,hw,ht2,Z,by simp; omega,by simp,hlk⟩,⟨hc,ht,rfl,rfl,rfl,I.ks,I.sw,I.hn,I.ln,hwe,c.on,I.on,st,ov,ex,hs,Y,.inl ⟨h0,rfl,rfl,rfl,rfl⟩⟩⟩
theorem KG {r:Rm} (h:Inv r) {e:Ev} (he:CW e):Gd (kB r e) (λq=>Inv q.2/\(q.1≠0->q.2=r)/\(q.1=0->MC r e q.2)):=by
 obtain ⟨ov0,O⟩:=h.st;have hV:=O.v;have hol:=h.on.len;have h5:=h.ll;have no:∀ k:Int,k≠0->Gd (some (k,r)) (λq:Int×Rm=>Inv q.2/\(q.1≠0->q.2=r)/\(q.1=0->MC r e q.2)):=λk hk=>Gd.ret ⟨h,λ_=>rfl,λI=>absurd I hk⟩;unfold kB;obtain ⟨k,hk,hkt⟩:=Gm he;refine Gd.bind_eq hk (Gd.ite (λI=>no k (by simpa using I)) (λI=>?_))
 have I:k=0:=by simpa using I
 subst I;have ht2:=hkt rfl;refine Gd.ite (λ_=>no _ (by decide)) (λht=>?_)
 have ht:r.time<=e.Time:=by simpa using ht
 have htm:=h.tm;have hlc:=h.lc;refine Gd.eE (P:=λx=>x=r.log.jK) (by unfold ly; exact Gd.nd (by omega) (Gd.ret rfl)) (λal hal=>?_)
 subst hal;refine Gd.ite (λ_=>no _ (by decide)) (λhl=>Gd.bind_eq (copy_eq hV) (Gd.nd (by omega) (Gd.eE (GH h.sz hV h.ru (by omega) he) (λc hce=>?_))))
 have hl:r.log.jK.length<200:=by
  simp at hl; omega
 obtain ⟨f,c⟩:=c;refine Gd.ite (λI=>no f (by simpa using I)) (λI=>?_)
 have I:f=0:=by simpa using I
 subst I;have J:=hce rfl;refine Gd.eE (zQ J.sz c.on) (λs hs=>?_);obtain ⟨st,ov,g⟩:=s;refine Gd.ite (λI=>no g (by simpa using I)) (λI=>?_)
 have I:g=0:=by simpa using I
 subst I;have hst:=hs.2 rfl;have hw0:=h.w.Og J.br;have hd:i64.wrap (e.Time-r.time)=e.Time-r.time:=bQ ⟨by omega,by omega⟩
 refine Gd.ite (λ_=>no _ (by decide)) (λ_=>?_)
 rw [hd];have Z:∀ w,vS c.n w->yG r e=some w->Gd (jC r e (0,c) (st,ov,0) w.kF w.lM w.rq w.over w.time) (λq=>Inv q.2/\(q.1≠0->q.2=r)/\(q.1=0->MC r e q.2)):=λw hw hwe=>
  (KF h hk ht ht2 hl J hst hw hwe).mono (λq Y=>⟨Y.2.1,λk=>absurd Y.1 k,λ_=>Y.2.2⟩)
 refine Gd.ite (λh1=>?_) (λh1=>?_)
 ·obtain ⟨q,Y,hqw⟩:=JB h.w hV O.fl O.ff (e.Time-r.time)
  refine Gd.bind_eq Y (Z q.2.2 (hqw.Og J.br) ?_);unfold yG;rw [O8 (O6 h1),Y]
  rfl
 ·refine Z r.watch hw0 ?_
  unfold yG;rw [O7 (Pc h1)]
end Go.Sim
