/-
  The proof, part F2.
-/
import Derived.Test.YtcebojaeckebiaaGreatDoorSqF1
set_option linter.unusedVariables false
set_option linter.unusedSimpArgs false
set_option linter.unusedSectionVars false
set_option linter.unnecessarySimpa false
namespace Go.Sim
abbrev VY := @Int.natCast_nonneg
abbrev V3 := @List.cons.inj
abbrev V6 := @List.eq_of_mem_replicate
abbrev V7 := @List.filter_cons
abbrev V8 := @List.getElem_set
abbrev Wb := @List.length_filter_le
abbrev Wh := @List.set_append_right
abbrev Wj := @List.set_cons_zero
abbrev WO := @Rat.intCast_le_intCast
end Go.Sim
namespace Go.Sim
open Go
open _root_.Go.IntKind (i64 u64 u32 u8)
def FZ (n i:Nat):List Nat:=(List.range i).map (·+1)++List.replicate (n-i) 0
theorem BP (n:Nat):FZ n 0=List.replicate n 0:=by simp [FZ]
theorem BO (n:Nat):FZ n n=yV n:=by simp [FZ,yV]
theorem F9 {n i:Nat} (hi:i<n):(FZ n i)[i]? = some 0:=by
 unfold FZ;rw [RN (by simp),TB,Rb (by simp; omega)]
theorem Bc {n i:Nat} (hi:i<n):(FZ n i).set i (i+1)=FZ n (i+1):=by
 unfold FZ;rw [Wh _ _ (by simp)]
 have e:n-i=(n-(i+1))+1:=by omega
 rw [e,Ta,Uw];simp
theorem LN {n i:Nat} (hi:i<n):(FZ n (i+1))[i]? = some (i+1):=by
 rw [<- Bc hi,RF (by simp [FZ]; omega)]
theorem CS {n:Nat}{rows:List (List LR)} (h:rows.length=n):rT (yV n) ([]::rows)=rows:=by
 apply SM;intro i;unfold rT;rw [RH]
 by_cases hi:i<n
 ·rw [Ez hi,SC,HD,Q4 (by omega)]; rfl
 ·rw [R4 (by rw [xx]; omega),R4 (by omega)]; rfl
theorem LU {rows:List (List LR)}{n:Nat} (hl:rows.length=n) (hn:n<=1000) (Y:∀ y ∈ rows,y.length<=1000):Gd (vp rows) (λr=>r=(yV n,[]::rows)):=by
 unfold vp;rw [hl];refine Gd.nd (by omega) ?_
 rw [Q5];refine Gd.dM (λi l s=>∃ pre,rows=pre++l/\pre.length=i/\s=(FZ n i,[]::pre)) ?_ ?_ rows 0 _ ⟨[],rfl,rfl,by rw [BP]⟩
 ·rintro i y ys _ nx ⟨pre,J,I,rfl⟩ O
  have hi:i<n:=by rw [<- hl,J,Ro,Rd]; omega
  have Z:=Y y (by rw [J]; simp)
  unfold wu;refine Gd.nd (by simp; omega) (Gd.ix (by omega) (by rw [Q5]; exact F9 hi) (O _ ⟨pre++[y],by rw [J]; simp,by simp [I],?_⟩))
  rw [Q5,Rd,I,Bc hi];simp
 ·rintro i _ ⟨pre,J,I,rfl⟩
  rw [RR] at J;subst J;refine Gd.ret ?_;rw [<- I,hl,BO]
theorem uT.short {rows:List (List LR)}{n w W:Nat}{m:Mt} (h:uT rows n w W m) (Y:w<=1000):∀ y ∈ rows,y.length<=1000:=by
 intro y J;obtain ⟨i,hi,he⟩:=Sm.1 J;obtain ⟨l,I,O,_⟩:=h.row i (by rw [<- h.len]; exact hi)
 rw [Q4 hi] at I;have:=Q8 I;rw [<- he,this]; omega
theorem I6 {rows:List (List LR)}{n W:Nat}{A m0:Mt} (hn:n<=400) (hW:W<=100000) (hp:Pd n A) (h0:Gj n A 0 m0) (hM:uT rows n (2*n) W m0)
  (hB:∀ k m,k<=n->Gj n A k m->∀ i c,i<n->c<2*n->RB (m i c) W):
  Gd (rC rows (n:Int)) (λr=>∃ I m,r.1=(yV n,[]::I)/\r.2.length=n/\Gj n A n m/\uT I n (2*n) W m):=by
 unfold rC;refine Gd.eN (LU hM.len (by omega) (hM.short (by omega))) (λr hr=>?_)
 subst hr;refine Gd.fX (λs=>∃ (k:Nat) (l:List Int) (I:List (List LR)) (m:Mt),s=(l,(k:Int),yV n,[]::I)/\l.length=k/\k<=n/\Gj n A k m/\uT I n (2*n) W m) (λs=>((n:Int)-s.2.1).toNat) ?_ eY _
  ⟨0,[],rows,m0,rfl,rfl,by omega,h0,hM⟩ (by simp only [eY]; omega)
 rintro _ nx ⟨k,l,I,m,rfl,hl,hk,Y,Z⟩ O;show Gd (mH (n:Int) l (k:Int) (yV n) ([]::I) nx) _
 by_cases h:k<n
 ·have hd:=Y.NG hp h
  refine I5 hl h (by omega) (by omega) (by omega) (by omega) hW hd Z (λc hc=>?_) (λi c hi hc=>hB (k+1) _ (by omega) (Y.step h hd) i c hi hc) (λJ hM''=>?_)
  ·rw [Y.left k c h (by omega) hc,qw (by omega)]
  ·exact O _ ⟨k+1,_,J,_,rfl,by simp [hl],by omega,Y.step h hd,hM''⟩ (by simp only; omega)
 ·obtain rfl:k=n:=by omega
  unfold mH;refine Gd.ite (λh=>absurd h (by simp)) (λ_=>Gd.ret ⟨I,m,rfl,hl,Y,Z⟩)
theorem Ai {n:Nat} (hn:n<=1000):Gd (nD (n:Int)) (λr=>∃ z,r=List.replicate n z/\o9 z/\RL z 2/\rv z=0):=by
 unfold nD;refine Gd.eN (vE (n:=0) (by omega)) (λz I=>Gd.nd (by simp; omega) (Gd.ret ⟨z,yp _ _,I.1,I.2.1,by rw [I.2.2]; rfl⟩))
theorem uT.snoc {rows:List (List LR)}{n w W:Nat}{m:Mt} (h:uT rows n w W m) {l:List LR} (I:l.length=w) (J:∀ c,c<w->∃ y,l[c]? = some y/\o9 y/\RL y W/\rv y=m n c):uT (rows++[l]) (n+1) w W m:=by
 refine ⟨by simp [h.len],λi hi=>?_⟩
 by_cases e:i<n
 ·obtain ⟨l',a,b,c⟩:=h.row i e
  exact ⟨l',by rw [Sk (by rw [h.len]; exact e)]; exact a,b,c⟩
 ·obtain rfl:i=n:=by omega
  exact ⟨l,by rw [RN (by rw [h.len]; omega),h.len,Sq]; rfl,I,J⟩
def D1 (n:Nat) (A:Mt):Mt:=λi c=>if c<n then A i c else dl i (c-n)
theorem Kh (n:Nat) (A:Mt):Gj n A 0 (D1 n A):=by
 have e:∀ i j,D1 n A i (n+j)=dl i j:=λi j=>by unfold D1; rw [Ra (by omega)]; congr 1; omega
 refine ⟨λi c hi O=>?_,λi j _ _ _=>e i j,λi c _ _ h=>by omega⟩
 have J:sm n (λj=>D1 n A i (n+j)*A j c)=D1 n A i (n+i)*A i c:=CO (p:=i) hi (λj Y I=>by rw [e,qw (λx=>I x.symm)]; grind)
 rw [J,e,rq];unfold D1;rw [if_pos O]; grind
theorem L5 {n k W:Nat}{y:List LR}{z one:LR}{A:Mt} (hk:k<n) (hy:y.length=n) (O:∀ c,c<n->∃ v,y[c]? = some v/\o9 v/\RL v W/\rv v=A k c) (Y:o9 z/\RL z 2/\rv z=0) (J:o9 one/\RL one 2/\rv one=1) (Z:2<=W):
  ((([]++y)++List.replicate n z).set (n+k) one).length=2*n/\∀ c,c<2*n->∃ v,((([]++y)++List.replicate n z).set (n+k) one)[c]? = some v/\o9 v/\RL v W/\rv v=D1 n A k c:=by
 refine ⟨by simp [hy]; omega,λc hc=>?_⟩
 rw [SJ];unfold D1
 by_cases I:c<n
 ·obtain ⟨v,a,b,d,e⟩:=O c I
  refine ⟨v,?_,b,d,by rw [Rb I]; exact e⟩
  rw [Ry (by omega),Sk (by omega)]; exact a
 ·by_cases h2:c=n+k
  ·subst h2
   refine ⟨one,by rw [RF (by simp [hy]; omega)],J.1,J.2.1.mono Z,?_⟩
   rw [Ra I,J.2.2,Ti,rq]
  ·refine ⟨z,?_,Y.1,Y.2.1.mono Z,?_⟩
   ·rw [Ry (by omega),RN (by omega),TB,Rb (by omega)]
   ·rw [Ra I,Y.2.2,qw (by omega)]
theorem Gy {rows:List (List LR)}{n W:Nat}{A:Mt} (hn:n<=400) (hW:W<=100000) (hW2:2<=W) (hp:Pd n A) (hM:uT rows n n W A)
  (hB:∀ k m,k<=n->Gj n A k m->∀ i c,i<n->c<2*n->RB (m i c) W):
  Gd (qH rows) (λr=>r.2=true/\∃ m,Gj n A n m/\uT r.1 n n W (λi c=>m i (n+c))):=by
 unfold qH;rw [hM.len];refine Gd.nd (by omega) ?_
 rw [Q5];refine Gd.jW (λM i s=>i+M=n/\∃ pre:List (List LR),s=(FZ n i,[]::pre)/\uT pre i (2*n) W (D1 n A)) ?_ ?_ n 0 _ ⟨by omega,[],by rw [BP],⟨rfl,λi hi=>by omega⟩⟩
 ·rintro M i _ nx ⟨hiM,pre,rfl,I⟩ hnx
  have hi:i<n:=by omega
  obtain ⟨y,y1,y2,y3⟩:=hM.row i hi;unfold tJ;rw [hM.len];refine Gd.ix (y:=y) (by omega) (by rw [Q5]; exact y1) (Gd.nd (by simp; omega) (Gd.eN (Ai (by omega)) ?_))
  rintro _ ⟨z,rfl,hz⟩;refine Gd.nd (by simp; omega) (Gd.ix (by omega) (by rw [Q5]; exact F9 hi) ?_)
  have hlen:([]::pre:List (List LR)).length=i+1:=by simp [I.len]
  rw [hlen,Q5,Bc hi];refine Gd.ix (by omega) (by rw [Q5]; exact LN hi) (Gd.eN (vE (n:=1) (by omega)) (λone ho=>?_))
  have ho2:o9 one/\RL one 2/\rv one=1:=⟨ho.1,ho.2.1,by rw [ho.2.2]; rfl⟩
  have Z:=L5 hi y2 y3 hz ho2 hW2;have hat:((([]::pre++[([]++y)++List.replicate n z]:List (List LR))[i+1]?).getD [])=([]++y)++List.replicate n z:=by
   rw [S5,List.getElem?_cons_succ,RN (by rw [I.len]; omega),I.len,Sq]; rfl
  rw [hat];have hwr:i64.wrap ((n:Int)+(i:Int))=((n+i:Nat):Int):=by rw [bJ ⟨by omega,by omega⟩]; omega
  rw [hwr];refine Gd.ix (y:=z) (by omega) ?_ (hnx _ ⟨by omega,pre++[(([]++y)++List.replicate n z).set (n+i) one],?_,I.snoc Z.1 Z.2⟩)
  ·rw [Q5,SJ,RN (by omega),TB,Rb (by omega)]
  ·rw [Q5,S5,List.set_cons_succ,Wh _ _ (by rw [I.len]; omega),I.len,Sq]
   rfl
 ·rintro i _ ⟨hi,pre,rfl,I⟩
  obtain rfl:i=n:=by omega
  show Gd ((rC (rT (FZ i i) ([]::pre)) (i:Int)).bind _) _;rw [BO,CS I.len];refine Gd.eN (I6 hn hW hp (Kh i A) I hB) ?_;rintro ⟨⟨sg,ls⟩,pv⟩ ⟨J,m,he,hpl,hG,hM'⟩;obtain ⟨rfl,rfl⟩:=Prod.mk.inj he;simp only at hpl ⊢;rw [hpl];refine Gd.ite (λh=>absurd (Q_ h) (by omega)) (λ_=>?_)
  rw [xx];refine Gd.nd (by omega) ?_
  rw [Q5];refine Gd.jW (λM k s=>k+M=i/\∃ rs:List (List LR),s=(yV i,[]::rs)/\rs.length=i/\∀ q,q<i->rs[q]? = if q<k then (J[q]?).map (·.drop i) else J[q]?) ?_ ?_ i 0 _
   ⟨by omega,J,rfl,hM'.len,λq _=>by rw [Ra (by omega)]⟩
  ·rintro M k _ nx ⟨hkM,rs,rfl,O,Y⟩ hnx
   have hk:k<i:=by omega
   obtain ⟨l,l1,l2,l3⟩:=hM'.row k hk;have hat:rs[k]? = some l:=by rw [Y k hk,Ra (by omega),l1]
   unfold tK;rw [hM.len];refine pH hk ?_;rw [HD,hat,S9];refine Gd.nd (by omega) (pH hk (Gd.nd ?_ ?_))
   ·rw [Q5]
    refine Mj (λj hj=>?_);have hjn:j<i:=by
     have:=(Q7.1 hj).1
     rwa [xx] at this
    rw [Ez hjn] at hj;have:=Q8 hj;omega
   ·rw [Q5,Q5,Bj hk,Oe]
    refine hnx _ ⟨by omega,_,rfl,by rw [Sr]; exact O,λq hq=>?_⟩
    by_cases e:k=q
    ·subst e
     rw [RF (by omega),Rb (by omega),l1]; rfl
    ·rw [Ry e,Y q hq]
     by_cases e2:q<k
     ·rw [Rb e2,Rb (by omega)]
     ·rw [Ra e2,Ra (by omega)]
  ·rintro k _ ⟨hk,rs,rfl,O,Y⟩
   refine Gd.ret ⟨rfl,m,hG,?_⟩;show uT (rT (yV i) ([]::rs)) i i W _;rw [CS O];refine ⟨O,λq hq=>?_⟩;obtain ⟨l,l1,l2,l3⟩:=hM'.row q hq;refine ⟨l.drop i,by rw [Y q hq,Rb (by omega),l1]; rfl,by rw [SL]; omega,λc hc=>?_⟩
   obtain ⟨v,a,b,d,e⟩:=l3 (i+c) (by omega)
   exact ⟨v,by rw [RT]; exact a,b,d,e⟩
def wq (k:Nat):Rat:=(((WB ^ k:Nat):Int):Rat)
theorem wC (a b:Nat):wq a*wq b=wq (a+b):=by unfold wq; rw [Wz,R2,WQ]
theorem wD (a:Nat):1<=wq a:=by
 unfold wq;have h:(1:Nat)<=WB ^ a:=Nat.one_le_pow _ _ (by decide)
 have I:(1:Int)<=((WB ^ a:Nat):Int):=by omega
 have:=WO.2 I
 rwa [Rat.intCast_one] at this
theorem yD {a b:Nat} (h:a<=b):wq a<=wq b:=by
 unfold wq;have h:WB ^ a<=WB ^ b:=WC (by decide) h
 exact WO.2 (by omega)
theorem BI {x y a b:Rat} (O:-a<=x) (Y:x<=a) (Z:-b<=y) (h4:y<=b):-(a*b)<=x*y/\x*y<=a*b:=by
 have I:=Rat.mul_nonneg (show 0<=a-x by grind) (show 0<=b+y by grind)
 have e2:=Rat.mul_nonneg (show 0<=a+x by grind) (show 0<=b-y by grind)
 have e3:=Rat.mul_nonneg (show 0<=a-x by grind) (show 0<=b-y by grind)
 have J:=Rat.mul_nonneg (show 0<=a+x by grind) (show 0<=b+y by grind)
 constructor <;> grind
theorem KO {z:Int}{k:Nat} (I:-wq k<=(z:Rat)) (J:(z:Rat)<=wq k):z.natAbs<WB ^ (k+1):=by
 unfold wq at I J;rw [<- WR] at I;have a1:=WO.1 I;have a2:=WO.1 J;have a3:WB ^ k<WB ^ (k+1):=Nat.pow_lt_pow_right (by decide) (by omega)
 omega
theorem Ab {p q:Rat}{k:Nat} (I:uO p) (J:uO q) (p1:-wq k<=p) (p2:p<=wq k) (Y:-wq k<=q) (q2:q<=wq k) (O:q≠0) (Z:k<=186):RB (p / q) (k+1):=by
 obtain ⟨a,rfl⟩:=I;obtain ⟨b,rfl⟩:=J;exact RB.ratio (KO p1 p2) (KO Y q2) (λe=>O (by rw [e]; rfl)) (by omega)
theorem RB.zero:RB 0 1:=by
 have:=RB.small (m:=0) (by decide)
 simpa using this
theorem RB.one:RB 1 1:=by
 have:=RB.small (m:=1) (by decide)
 simpa using this
theorem RB.dl (i j:Nat):RB (dl i j) 1:=by
 rcases xC i j with h | h <;> rw [h]
 ·exact RB.zero
 ·exact RB.one
theorem RB.sm {f:Nat->Rat}{a:Nat}:∀ {n:Nat},n*(a+1)+1<=700000->(∀ j,j<n->RB (f j) a)->RB (sm n f) (n*(a+1)+1)
 | 0,_,_=>RB.zero.mono (by omega)
 | n+1,hn,h=>by
  have e:(n+1)*(a+1)=n*(a+1)+(a+1):=Nat.succ_mul _ _;have I:=RB.sm (n:=n) (by omega) (λj J=>h j (by omega))
  exact (I.add (h n (by omega)) (by omega)).mono (by omega)
structure Nb (n:Nat) (A:Mt) (L:Nat->Rat) (B:Mt) (R:Nat->Rat):Prop where
 s:Jx n A L B R
 hP:pr n R<=wq 60
 hL:∀ i,i<n->L i<=wq 18
theorem Nb.R {n:Nat}{A B:Mt}{L R:Nat->Rat} (h:Nb n A L B R) {i:Nat} (hi:i<n):R i<=wq 60:=by
 have key:∀ {m:Nat},(∀ j,j<m->1<=R j)->i<m->R i<=pr m R:=by
  intro m
  induction m with
  | zero=>intro _ h; omega
  | succ m ih=>
   intro I hi;have p1:1<=pr m R:=Er (λj J=>I j (by omega))
   show R i<=pr m R*R m
   by_cases e:i=m
   ·subst e
    have:=Rat.mul_le_mul_of_nonneg_right p1 (show 0<=R i by have:=I i hi; grind)
    grind
   ·have a:=ih (λj J=>I j (by omega)) (by omega)
    have:=Rat.mul_le_mul_of_nonneg_left (I m (by omega)) (show 0<=pr m R by grind)
    grind
 exact WT (key (λj J=>h.s.R1 J) hi) h.hP
theorem Nb.L0 {n:Nat}{A B:Mt}{L R:Nat->Rat} (h:Nb n A L B R) {i:Nat} (hi:i<n):L i≠0:=λe=>by
 have:=h.s.l1 i hi; rw [e] at this; exact absurd this (by decide)
theorem Nb.ab {n:Nat}{A B:Mt}{L R:Nat->Rat} (h:Nb n A L B R) {i c:Nat} (hi:i<n) (I:c<n):-wq 60<=L i*A i c/\L i*A i c<=wq 60:=by
 have J:=h.s.ab i c hi I;have O:=NM (f:=B i) (h.s.b0 i) I;have Y:=h.s.rs i hi;have Z:=h.R hi;constructor <;> grind
theorem Nb.A {n:Nat}{A B:Mt}{L R:Nat->Rat} (h:Nb n A L B R) {i c:Nat} (hi:i<n) (I:c<n):RB (A i c) 61:=by
 have e:A i c=(L i*A i c) / L i:=by
  rw [WN];have:=WV (L i) (h.L0 hi)
  grind
 rw [e];have l1:=h.s.l1 i hi;have l2:=h.hL i hi;have l3:=yD (show 18<=60 by omega)
 have w:=wD 60;exact Ab (h.s.ai i c hi I) (h.s.li i hi) (h.ab hi I).1 (h.ab hi I).2 (by grind) (by grind) (h.L0 hi) (by omega)
def Dk (A:Mt) (L:Nat->Rat) (k:Nat):Rat:=q7 k (λr c=>L r*A r c)
theorem Nb.D0 {n:Nat}{A B:Mt}{L R:Nat->Rat} (h:Nb n A L B R) (Z:Pd n A):∀ {k:Nat},k<=n->Dk A L k≠0/\∃ m,Gj n A k m
 | 0,_=>⟨by show (1:Rat)≠0; decide,_,Kh n A⟩
 | k+1,hk=>by
  obtain ⟨d,m,O⟩:=h.D0 Z (k:=k) (by omega)
  have Y:=O.NG Z (by omega)
  refine ⟨?_,_,O.step (by omega) Y⟩
  have e:=O.q7 (k:=k) (by omega) (L:=L) (λi hi=>h.L0 hi)
  show Sim.q7 (k+1) (λr c=>L r*A r c)≠0;rw [e];intro h0;rcases WU.1 h0 with I | I
  ·rcases WU.1 I with J | J
   ·exact h.L0 (by omega) J
   ·exact Y J
  ·exact d I
theorem Nb.Db {n:Nat}{A B:Mt}{L R:Nat->Rat} (h:Nb n A L B R) {k:Nat} (I:k<=n):uO (Dk A L k)/\-wq 60<=Dk A L k/\Dk A L k<=wq 60:=by
 obtain ⟨a,b,c⟩:=h.s.q7 I;have:=h.hP;refine ⟨a,?_,?_⟩ <;> unfold Dk <;> grind
theorem Nb.num {n:Nat}{A B m:Mt}{L R:Nat->Rat} (h:Nb n A L B R) (hp:Pd n A) {k:Nat} (hG:Gj n A k m) (O:k<=n) {i p:Nat} (hi:i<n) (Y:p<k):RB (m i (n+p)) 140:=by
 obtain ⟨N,n1,n2,n3,e⟩:=hG.num h.s O hi Y;obtain ⟨d1,d2,d3⟩:=h.Db O;have d0:=(h.D0 hp O).1;have hP:=h.hP;have p1:1<=pr n R:=Er (λj hj=>h.s.R1 hj);have r1:=h.s.R1 hi;have r2:=h.R hi;have hNb:pr n R*R i<=wq 120:=by
  rw [<- wC 60 60];exact qL hP r2 (by grind) (by grind)
 have lp:=h.s.l1 p (by omega)
 have Z:=h.hL p (by omega)
 have t:=BI (x:=N) (y:=L p) (a:=wq 120) (b:=wq 18) (by grind) (by grind) (by have:=wD 18; grind) Z
 rw [wC] at t;have s0:(if k<=i then L i else 1)≠0:=by
  split
  ·exact h.L0 hi
  ·decide
 have s1:uO (if k<=i then L i else 1):=by
  split
  ·exact h.s.li i hi
  ·exact ⟨1,rfl⟩
 have s2:1<=(if k<=i then L i else 1)/\(if k<=i then L i else 1)<=wq 18:=by
  split
  ·exact ⟨h.s.l1 i hi,h.hL i hi⟩
  ·exact ⟨WS,wD 18⟩
 generalize (if k<=i then L i else 1)=s at e s0 s1 s2
 have u:=BI (x:=s) (y:=Dk A L k) (a:=wq 18) (b:=wq 60) (by have:=wD 18; grind) s2.2 d2 d3
 rw [wC] at u;have e2:m i (n+p)=(N*L p) / (s*Dk A L k):=by
  have e3:s*m i (n+p)*Dk A L k=N*L p:=e;rw [<- e3,WN];have h3:s*Dk A L k≠0:=λJ=>by
   rcases WU.1 J with I | I
   ·exact s0 I
   ·exact d0 I
  have:=WV _ h3
  grind
 rw [e2];have w1:=yD (show 18+60<=139 by omega)
 have w2:=yD (show 120+18<=139 by omega)
 refine Ab (sN n1 (h.s.li p (by omega))) (sN s1 d1) (by grind) (by grind) (by grind) (by grind) ?_ (by omega)
 intro J;rcases WU.1 J with I | I
 ·exact s0 I
 ·exact d0 I
theorem Nb.rb {n:Nat}{A B:Mt}{L R:Nat->Rat} (h:Nb n A L B R) (hp:Pd n A) (hn:n<=24) (k:Nat) (m:Mt) (Y:k<=n) (J:Gj n A k m) (i c:Nat) (hi:i<n) (hc:c<2*n):RB (m i c) 6000:=by
 have right:∀ p,p<n->RB (m i (n+p)) 140:=λp O=>by
  by_cases e:p<k
  ·exact h.num hp J Y hi e
  ·rw [J.right i p hi O (by omega)]
   exact (RB.dl i p).mono (by omega)
 by_cases I:c<n
 ·rw [J.NX Y hi I]
  have Z:RB (sm k (λj=>m i (n+j)*A j c)) (k*202+1):=RB.sm (a:=201) (by omega) (λj hj=>(right j (by omega)).mul (h.A (by omega) I) (by omega))
  have h2:RB (if k<=i then A i c else 0) 61:=by
   split
   ·exact h.A hi I
   ·exact RB.zero.mono (by omega)
  exact (Z.add h2 (by omega)).mono (by omega)
 ·have e:c=n+(c-n):=by omega
  rw [e];exact (right (c-n) (by omega)).mono (by omega)
theorem IN (l:List Int) (p:Int):Gd (lj l p) (λr=>(r = -1/\p ∉ l)\/∃ (k:Nat) (h:k<l.length),r=k/\l[k]=p):=by
 unfold lj;refine Gd.jW (λm i _=>i+m=l.length/\p ∉ l.take i) ?_ ?_ (l.length:Int).toNat 0 () ⟨by omega,by simp⟩
 ·intro m i _ J ⟨hi,hno⟩ hnx
  unfold oh;refine Gd.gK (by omega) (Gd.ite (λh=>Gd.ret (.inr ⟨i,by omega,rfl,?_⟩)) (λh=>hnx () ⟨by omega,?_⟩))
  ·have:p=l[i]:=by simpa using h
   exact this.symm
  ·rw [RD (by omega),Rh,Rz]
   rintro (I | I)
   ·exact hno I
   ·simp [I] at h
 ·intro i _ ⟨hi,hno⟩
  rw [Ri (by omega)] at hno
  exact Gd.ret (.inl ⟨rfl,hno⟩)
structure Ju (M:aX) (n N:Nat) (F:Nat->Nat) (l:List (Rat×Nat×Nat)) (t:Rat):Prop where
 hn:n<=23
 free:M.qZ=(List.range n).map (λi=>(F i:Int))
 inj:∀ i j,i<n->j<n->F i=F j->i=j
 lt:∀ i,i<n->F i<N
 hN:N<=24
 ll:l.length<=24
 el:∀ e ∈ l,e.2.1<N/\e.2.2<N
 fr:M.pO=l.map (λe=>(e.2.1:Int))
 to:M.To=l.map (λe=>(e.2.2:Int))
 bl:M.B_.length=l.length
 b:∀ (k:Nat) (y:LR),M.B_[k]? = some y->∃ e,l[k]? = some e/\o9 y/\RL y 2/\rv y=t / e.1
def Mv:Option Nat->Int
 | none=>-1
 | some i=>(i:Int)
def eo (o:Option Nat) (r:Nat):Rat:=if o=some r then 1 else 0
theorem uL (i r:Nat):eo (some i) r=dl i r:=by
 unfold eo dl
 by_cases e:i=r
 ·subst e; rw [Rb rfl,Rb rfl]
 ·rw [Ra (λh=>e (Q8 h)),Ra e]
theorem uK (r:Nat):eo none r=0:=Ra (by simp)
theorem FD {M:aX}{n N:Nat}{F:Nat->Nat}{l:List (Rat×Nat×Nat)}{t:Rat} (h:Ju M n N F l t) (u:Nat):
  Gd (lY M (u:Int)) (λr=>∃ o:Option Nat,r=Mv o/\(∀ i,o=some i->i<n/\F i=u)/\∀ r,r<n->eo o r=dl (F r) u):=by
 unfold lY;refine Gd.eN (IN _ _) (λr I=>Gd.ret ?_);rw [h.free] at I;rcases I with ⟨rfl,O⟩ | ⟨k,Y,rfl,e⟩
 ·refine ⟨none,rfl,λi hi=>by simp at hi,λr I=>?_⟩
  rw [uK,qw];intro e;exact O (RY.2 ⟨r,R5.2 I,by rw [e]⟩)
 ·have J:k<n:=by simpa using Y
  have e2:F k=u:=by simp at e; omega
  refine ⟨some k,rfl,λi hi=>by obtain rfl:=Q8 hi; exact ⟨J,e2⟩,λr I=>?_⟩
  rw [uL]
  by_cases e3:k=r
  ·subst e3; rw [rq,e2,rq]
  ·rw [qw e3,qw]
   intro Z;exact e3 (h.inj k r J I (by omega))
theorem uT.EJ {rows:List (List LR)}{n w W:Nat}{m:Mt} (h:uT rows n w W m) {p q:Nat} (O:p<n) (Y:q<w) {e:LR}{d:Rat} (he:o9 e) (J:RL e W) (Z:rv e=m p q+d):
  uT (rows.set p (((rows[p]?).getD []).set q e)) n w W (λr c=>m r c+d*(dl p r*dl q c)):=by
 refine (h.set O Y he J).congr (λr c _ _=>?_)
 by_cases I:r=p/\c=q
 ·obtain ⟨rfl,rfl⟩:=I
  rw [if_pos ⟨rfl,rfl⟩,rq,rq,Z]; grind
 ·rw [Ra I]
  by_cases e2:p=r
  ·rw [qw (i:=q) (λe=>I ⟨e2.symm,e.symm⟩)]; grind
  ·rw [qw e2]; grind
abbrev Js:=List (List LR)->Option aX
theorem NA {n W:Nat}{nx:Js}{b:LR}{oi oj:Option Nat}{rows:List (List LR)}{m:Mt}{Q:aX->Prop} (Y:uT rows n n W m) (hW:W<=1000) (hb:o9 b) (Z:RL b 2)
  (hi:∀ i,oi=some i->i<n) (J:∀ j,oj=some j->j<n) (hne:∀ i,oi=some i->oj≠some i)
  (O:∀ I,uT I n n (W+3) (λr c=>m r c-rv b*(eo oi r*eo oj c)-rv b*(eo oj r*eo oi c))->Gd (nx ([]::I)) Q):
  Gd (iS (yV n) nx b (Mv oi) (Mv oj) ([]::rows)) Q:=by
 unfold iS fZ;cases oi with
 | none=>
  refine Gd.ite (λh=>absurd h (by simp [Mv])) (λ_=>O rows ((Y.mono (by omega)).congr (λr c _ _=>?_)))
  rw [uK,uK]; grind
 | some i=>
  cases oj with
  | none=>
   refine Gd.ite (λh=>absurd h (by simp [Mv])) (λ_=>O rows ((Y.mono (by omega)).congr (λr c _ _=>?_)))
   rw [uK,uK]; grind
  | some j=>
   have hi:=hi i rfl;have J:=J j rfl;have hij:i≠j:=λe=>hne i rfl (by rw [e])
   show Gd (if ((decide (0<=(i:Int)) && decide (0<=(j:Int)))=true) then _ else _) Q
   refine Gd.ite (λ_=>?_) (λh=>absurd h (by simp))
   show Gd (idx (yV n) (i:Int) _) Q;refine pH hi (pH J (pH hi (tk Y hi J (λy1 a1 a2 a3=>Gd.eN (yC a1 hb a2 Z (by omega)) (λr1 b1=>?_)))))
   show Gd (idx (yV n) (j:Int) _) Q;refine pH J (tk Y J hi (λy2 c1 c2 c3=>Gd.eN (yC c1 hb c2 Z (by omega)) (λr2 d1=>?_)))
   show Gd (idx ((([]::rows:List (List LR))[i+1]?).getD []) (j:Int) _) Q;refine tk Y hi J (λ_ _ _ _=>?_);have h2:=(Y.mono (show W<=W+3 by omega)).EJ hi J (d:=-rv b) b1.1 (b1.2.1.mono (by omega)) (by rw [b1.2.2,a3]; grind)
   show Gd (idx ((([]::(rows.set i (((rows[i]?).getD []).set j r1)):List (List LR))[j+1]?).getD []) (i:Int) _) Q;refine tk h2 J hi (λ_ _ _ _=>?_);have h3:=h2.EJ J hi (d:=-rv b) d1.1 (d1.2.1.mono (by omega)) (by
    rw [d1.2.2,c3,qw hij]; grind)
   refine O _ (h3.congr (λr c _ _=>?_));rw [uL,uL,uL,uL]; grind
theorem NB {n W:Nat}{nx:Js}{b:LR}{oi oj:Option Nat}{rows:List (List LR)}{m:Mt}{Q:aX->Prop} (hM:uT rows n n W m) (hW:W<=900) (hb:o9 b) (O:RL b 2)
  (hi:∀ i,oi=some i->i<n) (hj:∀ j,oj=some j->j<n) (Y:∀ i,oi=some i->oj≠some i)
  (Z:∀ I,uT I n n (W+6) (λr c=>m r c+rv b*(eo oj r*eo oj c)-rv b*(eo oi r*eo oj c)-rv b*(eo oj r*eo oi c))->Gd (nx ([]::I)) Q):
  Gd (iT (yV n) nx b (Mv oi) (Mv oj) ([]::rows)) Q:=by
 unfold iT;cases oj with
 | none=>
  refine Gd.ite (λh=>absurd h (by simp [Mv])) (λ_=>NA (oj:=none) (hM.mono (show W<=W+3 by omega)) (by omega) hb O hi hj Y (λI h'=>Z I (h'.congr (λr c _ _=>?_))))
  rw [uK,uK]; grind
 | some j=>
  have J:=hj j rfl;show Gd (if (decide (0<=(j:Int))=true) then _ else _) Q
  refine Gd.ite (λ_=>?_) (λh=>absurd h (by simp))
  show Gd (idx (yV n) (j:Int) _) Q;refine pH J (pH J (tk hM J J (λy1 a1 a2 a3=>Gd.eN (xv a1 hb a2 O (by omega)) (λr1 b1=>tk hM J J (λ_ _ _ _=>?_)))))
  have h2:=(hM.mono (show W<=W+3 by omega)).EJ J J (d:=rv b) b1.1 (b1.2.1.mono (by omega)) (by rw [b1.2.2,a3])
  refine NA (oj:=some j) h2 (by omega) hb O hi hj Y (λI h'=>Z I (h'.congr (λr c _ _=>?_)))
  rw [uL,uL]
theorem GA (l:List (Rat×(Nat->Rat))) (e:Rat×(Nat->Rat)) (r c:Nat):gS (l++[e]) r c=gS l r c+e.1*e.2 r*e.2 c:=by
 induction l with
 | nil=>show e.1*e.2 r*e.2 c+0=0+_; grind
 | cons a l ih=>show a.1*a.2 r*a.2 c+gS (l++[e]) r c=a.1*a.2 r*a.2 c+gS l r c+_; rw [ih]; grind
theorem DR {α:Type}{l:List α}{k:Nat}{e:α} (f:α->Int) (h:l[k]? = some e):(l.map f)[k]? = some (f e):=by rw [RH,h]; rfl
theorem O4 {M:aX}{n N:Nat}{F:Nat->Nat}{l:List (Rat×Nat×Nat)}{t:Rat} (h:Ju M n N F l t) {k W:Nat}{e:Rat×Nat×Nat} (he:l[k]? = some e) {b:LR} (hb:o9 b) (J:RL b 2) (hbv:rv b=t / e.1)
  {nx:Js}{rows:List (List LR)}{pre:List (Rat×Nat×Nat)}{Q:aX->Prop} (hW:W<=800) (hM:uT rows n n W (gS ((pre.map (yP t)).map (nq F))))
  (hnx:∀ I,uT I n n (W+9) (gS (((pre++[e]).map (yP t)).map (nq F)))->Gd (nx ([]::I)) Q):
  Gd (kI M (yV n) k b ([]::rows) nx) Q:=by
 obtain ⟨q,u,v⟩:=e;unfold kI;rw [h.fr,h.to];have f1:=DR (λe:Rat×Nat×Nat=>(e.2.1:Int)) he;have f2:=DR (λe:Rat×Nat×Nat=>(e.2.2:Int)) he;have new:∀ r c,gS (((pre++[(q,u,v)]).map (yP t)).map (nq F)) r c=gS ((pre.map (yP t)).map (nq F)) r c+rv b*(dl (F r) u-dl (F r) v)*(dl (F c) u-dl (F c) v):=λr c=>by
  rw [Ss,Ss];show gS (_++[_]) r c=_;rw [GA,hbv]; rfl
 refine Gd.ix (by omega) (by rw [Q5]; exact f1) ?_
 refine Gd.eN (FD h u) ?_;rintro _ ⟨oi,rfl,i1,i2⟩;refine Gd.ix (by omega) (by rw [Q5]; exact f2) ?_
 refine Gd.eN (FD h v) ?_;rintro _ ⟨oj,rfl,j1,j2⟩;refine Gd.ix (by omega) (by rw [Q5]; exact f1) (Gd.ix (by omega) (by rw [Q5]; exact f2) ?_)
 refine Gd.ite (λO=>?_) (λO=>?_)
 ·have e1:u=v:=by have:=Q_ O; simp only at this; omega
  subst e1;unfold fZ;refine hnx rows ((hM.mono (by omega)).congr (λr c _ _=>?_))
  rw [new]; grind
 ·have e1:u≠v:=λe=>by subst e; simp at O
  have hne:∀ i,oi=some i->oj≠some i:=λi hi hj=>by
   have:=(i1 i hi).2;have:=(j1 i hj).2;omega
  have Y:∀ I,uT I n n (W+9) (λr c=>gS ((pre.map (yP t)).map (nq F)) r c+rv b*(eo oi r*eo oi c)+rv b*(eo oj r*eo oj c)-rv b*(eo oi r*eo oj c)-rv b*(eo oj r*eo oi c))->Gd (nx ([]::I)) Q:=λI Z=>
   hnx I (Z.congr (λr c hr hc=>by rw [new,i2 r hr,i2 c hc,j2 r hr,j2 c hc]; grind))
  cases oi with
  | none=>
   refine Gd.ite (λh=>absurd h (by simp [Mv])) (λ_=>NB (oi:=none) (hM.mono (show W<=W+3 by omega)) (by omega) hb J (λi hi=>(i1 i hi).1) (λj hj=>(j1 j hj).1) hne (λI Z=>Y I ((Z.mono (by omega)).congr (λr c _ _=>?_))))
   rw [uK,uK]; grind
  | some i=>
   have hi:=(i1 i rfl).1;show Gd (if (decide (0<=(i:Int))=true) then _ else _) Q
   refine Gd.ite (λ_=>?_) (λh=>absurd h (by simp))
   show Gd (idx (yV n) (i:Int) _) Q;refine pH hi (pH hi (tk hM hi hi (λy1 a1 a2 a3=>Gd.eN (xv a1 hb a2 J (by omega)) (λr1 b1=>tk hM hi hi (λ_ _ _ _=>?_)))))
   have h2:=(hM.mono (show W<=W+3 by omega)).EJ hi hi (d:=rv b) b1.1 (b1.2.1.mono (by omega)) (by rw [b1.2.2,a3])
   refine NB (oi:=some i) h2 (by omega) hb J (λi hi=>(i1 i hi).1) (λj hj=>(j1 j hj).1) hne (λI Z=>Y I ((Z.mono (by omega)).congr (λr c _ _=>?_)))
   rw [uL,uL]
structure Nq (rows:List (List LR)) (n:Nat) (A:Mt):Prop where
 ex:∃ m,Gj n A n m/\uT rows n n 6000 (λi c=>m i (n+c))
theorem IQ {M:aX}{n N:Nat}{F:Nat->Nat}{l:List (Rat×Nat×Nat)}{t:Rat} (h:Ju M n N F l t) {B:Mt}{L R:Nat->Rat} (hp:Pd n (gS ((l.map (yP t)).map (nq F)))) (hB:Nb n (gS ((l.map (yP t)).map (nq F))) L B R):
  Gd (mY M) (λM'=>∃ rows,M'={ M with ry:=rows }/\Nq rows n (gS ((l.map (yP t)).map (nq F)))):=by
 have hn:=h.hn;have hfl:M.qZ.length=n:=by rw [h.free]; simp
 unfold mY;rw [hfl,Q5,So];refine Gd.nd (by omega) (Gd.nd (by omega) ?_)
 rw [Q5];refine Gd.jW (λm i s=>i+m=n/\∃ pre:List (List LR),s=(FZ n i,[]::pre)/\uT pre i n 2 (λ_ _=>0)) ?_ ?_ n 0 _ ⟨by omega,[],by rw [BP],⟨rfl,λi hi=>by omega⟩⟩
 ·rintro m i _ nx ⟨him,pre,rfl,I⟩ Z
  have hi:i<n:=by omega
  unfold pV;rw [hfl];refine Gd.eN (Ai (by omega)) ?_
  rintro _ ⟨z,rfl,hz⟩;refine Gd.ix (by omega) (by rw [Q5]; exact F9 hi) (Z _ ⟨by omega,pre++[List.replicate n z],?_,I.snoc (by simp) (λc hc=>⟨z,by rw [TB,Rb hc],hz.1,hz.2.1,hz.2.2⟩)⟩)
  rw [Q5,Rd,I.len,Bc hi]; rfl
 ·rintro i _ ⟨hi,pre,rfl,I⟩
  obtain rfl:i=n:=by omega
  show Gd (dM (λk y s1523 n=>kI M (FZ i i) k y s1523 n) _ 0 M.B_ ([]::pre)) _;rw [BO];refine Gd.dM (λk ys s=>∃ (bs:List LR) (rows:List (List LR)),M.B_=bs++ys/\bs.length=k/\s=[]::rows/\uT rows i i (2+9*k) (gS (((l.take k).map (yP t)).map (nq F)))) ?_ ?_ M.B_ 0 _ ⟨[],pre,rfl,rfl,rfl,by rw [Ve]; exact I⟩
  ·rintro k y ys _ nx ⟨bs,rows,J,O,rfl,hM⟩ Z
   have hy:M.B_[k]? = some y:=by rw [J,RN (by omega),O,Sq]; rfl
   obtain ⟨e,he,y1,y2,y3⟩:=h.b k y hy;have Y:=(Q7.1 he).1;have hll:=h.ll;have e2:l.take (k+1)=l.take k++[e]:=by
    rw [RD Y,(Q7.1 he).2]
   refine O4 h he y1 y2 y3 (by omega) hM (λrows' h'=>Z _ ⟨bs++[y],rows',by rw [J]; simp,by simp [O],rfl,?_⟩)
   rw [e2];exact h'.mono (by omega)
  ·rintro k _ ⟨bs,rows,J,O,rfl,hM⟩
   have hll:=h.ll;have hbl:=h.bl;rw [RR] at J;have Y:k=l.length:=by rw [<- hbl,J,O]
   rw [Y,SW] at hM;show Gd ((qH (rT (yV i) ([]::rows))).bind _) _;rw [CS hM.len];refine Gd.eN (Gy (by omega) (by omega) (by omega) hp (hM.mono (by omega)) (hB.rb hp (by omega))) (λr hr=>Gd.ret ⟨r.1,rfl,⟨hr.2⟩⟩)
abbrev Net:=aF
theorem Gd.forAll {R α Y:Type}{Q:R->Prop}{I:Nat->α->Y->(Y->Option R)->Option R}{k:Y->Option R}{l:List α} (P:α->Prop) (J:Y->Prop)
  (hb:∀ i y s n,y ∈ l->J s->(P y->∀ Z,J Z->Gd (n Z) Q)->Gd (I i y s n) Q) (hk:(∀ x ∈ l,P x)->∀ s,J s->Gd (k s) Q) (s:Y) (hs:J s):Gd (Sim.dM I k 0 l s) Q:=by
 have key:∀ (ys pre:List α) (i:Nat) (s:Y),l=pre++ys->(∀ x ∈ pre,P x)->J s->Gd (Sim.dM I k i ys s) Q:=by
  intro ys
  induction ys with
  | nil=>intro pre i s hl hp hs; exact hk (by rw [hl,RR]; exact hp) s hs
  | cons y ys ih=>
   intro pre i s hl hp hs;refine hb i y s _ (by rw [hl]; exact Sc _ (Q9 ..)) hs (λhP Z hs'=>?_)
   exact ih (pre++[y]) (i+1) Z (by rw [hl]; simp) (λx O=>by
    rcases Rh.1 O with O | O
    ·exact hp x O
    ·simp at O; subst O; exact hP) hs'
 exact key l [] 0 s rfl (by simp) hs
theorem Fy (s:Q1) (h:s.size<=maxLen):Gd (bC s) (λ_=>True):=by
 unfold bC;refine Gd.nd h (Gd.dM (λ_ _ _=>True) (λi y ys s n _ hn=>?_) (λi s _=>Gd.ret Q3) _ _ _ Q3);unfold l_;exact Gd.ite (λ_=>Gd.ret Q3) (λ_=>hn _ Q3)
theorem Dr (l:List Q1) (p:Q1):Gd (bD l p) (λr=>(r = -1/\p ∉ l)\/∃ (k:Nat) (h:k<l.length),r=k/\l[k]=p):=by
 unfold bD;refine Gd.jW (λm i _=>i+m=l.length/\p ∉ l.take i) ?_ ?_ (l.length:Int).toNat 0 () ⟨by omega,by simp⟩
 ·intro m i _ J ⟨hi,hno⟩ hnx
  unfold lN;refine Gd.gK (by omega) (Gd.ite (λh=>Gd.ret (.inr ⟨i,by omega,rfl,?_⟩)) (λh=>hnx () ⟨by omega,?_⟩))
  ·have:p=l[i]:=by simpa using h
   exact this.symm
  ·rw [RD (by omega),Rh,Rz]
   rintro (I | I)
   ·exact hno I
   ·simp [I] at h
 ·intro i _ ⟨hi,hno⟩
  rw [Ri (by omega)] at hno
  exact Gd.ret (.inl ⟨rfl,hno⟩)
theorem zm {l:List Q1}{p:Q1} (h:p ∈ l):∃ k:Nat,bD l p=some (k:Int)/\∃ J:k<l.length,l[k]=p:=by
 obtain ⟨r,Y,O⟩:=Dr l p;rcases O with ⟨_,I⟩ | ⟨k,J,rfl,e⟩
 ·exact absurd h I
 ·exact ⟨k,Y,J,e⟩
theorem uR (l:List Q1) (p:Q1):Gd (bM l p) (λb=>b=true↔p ∈ l):=by
 unfold bM;refine Gd.eN (Dr l p) (λr J=>Gd.ret ?_);rcases J with ⟨rfl,I⟩ | ⟨k,O,rfl,e⟩
 ·simp [I]
 ·have:p ∈ l:=e▸RI _
  simp [this]
theorem uV (c:aS) (name:Q1) (nodes:List Q1) (h:name.size<=maxLen):
  Gd (cE c name nodes) (λr=>r.1=0->∀ x ∈ nodes,x ∈ c.nodes):=by
 unfold cE;refine Gd.eN (Fy name h) (λa _=>Gd.ite (λ_=>Gd.ret (λh=>by simp at h)) (λ_=>Gd.ite (λ_=>Gd.ret (λh=>by simp at h)) (λ_=>?_)))
 refine Gd.forAll (λx=>x ∈ c.nodes) (λ_=>True) ?_ ?_ () Q3
 ·intro i y s n Z _ hn
  unfold gX;refine Gd.eN (uR c.nodes y) (λb O=>Gd.ite (λ_=>Gd.ret (λh=>by simp at h)) (λh=>hn (O.1 (by simpa using h)) _ Q3))
 ·intro I s _
  refine Gd.ite (λh=>?_) (λ_=>Gd.ret (λ_=>I));have Y:nodes.length=2:=by
   have:((nodes.length:Nat):Int)=2:=by simpa using h
   omega
  have J:(0:Int)=((0:Nat):Int):=rfl;have e2:(1:Int)=((1:Nat):Int):=rfl;rw [J,e2];exact Gd.gK (by omega) (Gd.gK (by omega) (Gd.ite (λ_=>Gd.ret (λh=>by simp at h)) (λ_=>Gd.ret (λ_=>I))))
structure qp (n:Net):Prop where
 nd:∀ x ∈ n.bH,x.size<=maxLen
 sw:∀ x ∈ n.aN,x.Name.size<=maxLen
 br:∀ x ∈ n.aK,x.Name.size<=maxLen
 gn:∀ x ∈ n.dS,x.Name.size<=maxLen
 ld:∀ x ∈ n.bF,x.Name.size<=maxLen
 st:∀ x ∈ n.bY,x.Name.size<=maxLen
structure pF (n:Net):Prop where
 l1:n.bH.length<=24
 l2:n.aN.length<=32
 l3:n.aK.length<=24
 l4:n.dS.length<=10
 l5:n.bF.length<=12
 sw:∀ x ∈ n.aN,x.A ∈ n.bH/\x.B_ ∈ n.bH
 br:∀ x ∈ n.aK,x.pO ∈ n.bH/\x.To ∈ n.bH
 gn:∀ x ∈ n.dS,x.Node ∈ n.bH/\0<=x.iX/\x.iX<=x.q9/\x.q9<=100000
 ld:∀ x ∈ n.bF,x.Node ∈ n.bH/\0<=x.dA/\x.dA<=100000
theorem LY (c:aS) (n:Net) (Z:qp n):
  Gd (gA c n) (λr=>r.1=0->(∀ x ∈ n.dS,x.Node ∈ c.nodes/\0<=x.iX/\x.iX<=x.q9/\x.q9<=100000)/\(∀ x ∈ n.bF,x.Node ∈ c.nodes/\0<=x.dA/\x.dA<=100000)):=by
 unfold gA;refine Gd.forAll (λx=>x.Node ∈ c.nodes/\0<=x.iX/\x.iX<=x.q9/\x.q9<=100000) (λ_=>True) ?_ ?_ _ Q3
 ·intro i y s nx J _ hn
  unfold jF;refine Gd.eN (uV _ _ _ (Z.gn y J)) (λr O=>Gd.ite (λh=>Gd.ret (λI=>absurd I (by simpa using h))) (λh=>Gd.ite (λ_=>Gd.ret (λI=>by simp at I)) (λI=>hn ?_ _ Q3)))
  have Y:r.1=0:=by simpa using h
  have:=O Y y.Node (by simp)
  simp [aW,bL] at I;exact ⟨this,by omega,by omega,by omega⟩
 ·intro hg s _
  refine Gd.forAll (λx=>x.Node ∈ c.nodes/\0<=x.dA/\x.dA<=100000) (λ_=>True) ?_ ?_ _ Q3
  ·intro i y s nx J _ hn
   unfold jG;refine Gd.eN (uV _ _ _ (Z.ld y J)) (λr O=>Gd.ite (λh=>Gd.ret (λI=>absurd I (by simpa using h))) (λh=>Gd.ite (λ_=>Gd.ret (λI=>by simp at I)) (λI=>hn ?_ _ Q3)))
   have Y:r.1=0:=by simpa using h
   have:=O Y y.Node (by simp)
   simp [aW,bL] at I;exact ⟨this,by omega,by omega⟩
  ·intro hl s _
   refine Gd.forAll (λ_=>True) (λ_=>True) ?_ ?_ _ Q3
   ·intro i y s nx J _ hn
    unfold jH;refine Gd.eN (uV _ _ _ (Z.st y J)) (λr O=>Gd.ite (λh=>Gd.ret (λI=>absurd I (by simpa using h))) (λh=>Gd.ite (λ_=>Gd.ret (λI=>by simp at I)) (λ_=>hn Q3 _ Q3)))
   ·intro _ s _
    exact Gd.ret λ_=>⟨hg,hl⟩
theorem JW (n:Net) (Z:qp n):Gd (bZ n) (λe=>e=0->pF n):=by
 unfold bZ;refine Gd.ite (λ_=>Gd.ret (λh=>by simp at h)) (λhl=>?_)
 simp only [VS,WZ,Int.not_lt] at hl;refine Gd.forAll (λ_=>True) (λ_=>True) ?_ ?_ _ Q3
 ·intro i y s nx Y _ hn
  unfold m_;exact Gd.eN (uV _ _ _ (Z.nd y Y)) (λr I=>Gd.ite (λh=>Gd.ret (λJ=>absurd J (by simpa using h))) (λh=>hn Q3 _ Q3))
 intro _ s _;refine Gd.forAll (λx=>x.A ∈ n.bH/\x.B_ ∈ n.bH) (λ_=>True) ?_ ?_ _ Q3
 ·intro i y s nx Y _ hn
  unfold na;refine Gd.eN (uV _ _ _ (Z.sw y Y)) (λr I=>Gd.ite (λh=>Gd.ret (λJ=>absurd J (by simpa using h))) (λh=>hn ?_ _ Q3))
  have O:r.1=0:=by simpa using h
  exact ⟨I O y.A (by simp),I O y.B_ (by simp)⟩
 intro hsw s _;refine Gd.forAll (λx=>x.pO ∈ n.bH/\x.To ∈ n.bH) (λ_=>True) ?_ ?_ _ Q3
 ·intro i y s nx Y _ hn
  unfold nc;refine Gd.eN (uV _ _ _ (Z.br y Y)) (λr I=>Gd.ite (λh=>Gd.ret (λJ=>absurd J (by simpa using h))) (λh=>Gd.ite (λh=>Gd.ret (λJ=>absurd J (by simpa using h))) (λ_=>hn ?_ _ Q3)))
  have O:r.1=0:=by simpa using h
  exact ⟨I O y.pO (by simp),I O y.To (by simp)⟩
 intro hbr s _;refine Gd.eN (LY _ n Z) (λr I=>Gd.ret (λh=>?_));obtain ⟨hg,hl2⟩:=I h;exact ⟨by omega,by omega,by omega,by omega,by omega,hsw,hbr,hg,hl2⟩
def EL (N:Nat) (l:List b_):Prop:=∀ e ∈ l,0<=e.a0/\e.a0<N/\0<=e.a1/\e.a1<N
structure zw (N:Nat) (many:Int) (out:List Int):Prop where
 len:out.length=N
 LC:∀ v ∈ out,-1<=v/\v<many
def Bb (N:Nat) (l:List Int):Prop:=∀ a ∈ l,0<=a/\a<(N:Int)
def sD (out:List Int):Nat:=out.countP (λv=>decide (v<0))
theorem zw.set {N:Nat}{many:Int}{out:List Int} (h:zw N many out) {v:Int} (J:0<=v/\v<many) (i:Nat):zw N many (out.set i v):=
 ⟨by simp [h.len],λx I=>by
  rcases We I with I | rfl
  ·exact h.LC x I
  ·omega⟩
theorem Fw {out:List Int}{i:Nat} (hi:i<out.length) (hn:out[i]<0) {v:Int} (Y:0<=v):sD (out.set i v)+1=sD out:=by
 unfold sD;rw [List.countP_set hi];have I:decide (out[i]<0)=true:=W0 hn;have O:decide (v<0)=false:=WY (by omega)
 rw [I,O];have J:0<out.countP (λv=>decide (v<0)):=List.countP_pos_iff.2 ⟨_,RI hi,I⟩;simp;omega
def yR (a b:List Int):Prop:=∀ (i:Nat) (v:Int),a[i]? = some v->0<=v->∃ w,b[i]? = some w/\0<=w
theorem yR.refl (a:List Int):yR a a:=λi v h I=>⟨v,h,I⟩
theorem yR.set {a b:List Int} (h:yR a b) (i:Nat) {v:Int} (Y:0<=v):yR a (b.set i v):=by
 intro j w O Z;obtain ⟨u,J,I⟩:=h j w O Z
 by_cases e:i=j
 ·subst e
  exact ⟨v,by simp [(Q7.1 J).1],Y⟩
 ·exact ⟨u,by rw [Ry e]; exact J,I⟩
theorem KX (N:Nat) (hN:N<=24) (l:List b_) (hl:EL N l) (hll:l.length<=64) (wo:Int):Gd (o_ N l wo) (λr=>r.length=N/\∀ v ∈ r,0<=v/\v<N):=by
 unfold o_;refine Gd.nd ⟨rfl,by omega,by omega⟩ (Gd.nd (by omega) ?_)
 rw [yp];refine Gd.jW (λm i s=>i+m=N/\0<=s.2/\s.2<=(i:Int)/\zw N s.2 s.1/\∀ (j:Nat) (v:Int),j<i->s.1[j]? = some v->0<=v) ?_ ?_ (N:Int).toNat 0 (List.replicate N (-1),0) ⟨by omega,by simp,by simp,⟨by simp,by simp⟩,by simp⟩
 ·rintro m i ⟨out,many⟩ nx ⟨hi,h0,hmi,hp,hk⟩ hn
  simp only at h0 hmi hp hk;have hilt:i<out.length:=by rw [hp.len]; omega
  unfold qO;refine Gd.gK hilt (Gd.ite (λh=>?_) (λh=>?_))
  ·have hge:0<=out[i]:=by simpa using h
   unfold jU;refine hn _ ⟨by omega,h0,by show many<=((i+1:Nat):Int); omega,hp,λj v hj hv=>?_⟩
   by_cases e:j=i
   ·subst e
    rw [Q4 hilt] at hv;cases hv; exact hge
   ·exact hk j v (by omega) hv
  ·have hneg:out[i]<0:=by simpa using h
   refine Gd.gK hilt ?_;rw [Q5];have hw:i64.wrap (many+1)=many+1:=bJ ⟨by omega,by omega⟩
   have hp1:zw N (many+1) out:=⟨hp.len,λv hv=>by have:=hp.LC v hv; omega⟩
   have Z:2*sD (out.set i many)+[(i:Int)].length<=2*N+1:=by
    have hc:sD (out.set i many)<=N:=by unfold sD; rw [<- hp.len,<- Sr (as:=out) (i:=i) (a:=many)]; exact TP
    simp only [Sa]; omega
   refine Gd.fX (λ(s:List Int×List Int)=>zw N (many+1) s.1/\yR (out.set i many) s.1/\Bb N s.2/\2*sD s.1+s.2.length<=2*N+1) (λs=>2*sD s.1+s.2.length) ?_ eY _ ⟨hp1.set ⟨h0,by omega⟩ i,yR.refl _,by intro a ha; simp at ha; omega,Z⟩ ?_
   ·rintro ⟨o,todo⟩ nx2 ⟨hq,hkp,htd,htot⟩ hn2
    simp only at hq hkp htd htot;unfold qP;refine Gd.ite (λhne=>?_) (λ_=>?_)
    ·have hne:0<todo.length:=by
      have:(0:Int)<((todo.length:Nat):Int):=by simpa using hne
      omega
     obtain ⟨at_,ts,rfl⟩:∃ a ts,todo=a::ts:=by
      cases todo with
      | nil=>simp at hne
      | cons a ts=>exact ⟨a,ts,rfl⟩
     refine Gd.ix (y:=at_) (by decide) rfl (Gd.nd ⟨by omega,by simp only [Rd]; omega⟩ ?_)
     have hat:=htd at_ (Q9 ..);have hsl:sJ (at_::ts) (1:Int).toNat (at_::ts).length=ts:=by
      unfold sJ;rw [show (1:Int).toNat=1 from rfl,VF,Su,Ri (by simp)]
     rw [hsl];simp only [Rd] at htot;have push:∀ (b:List Int) (td:List Int) (q:Int) (nn:(List Int×List Int)->Option (List Int)),0<=q->q<N->zw N (many+1) b->yR (out.set i many) b->Bb N td->2*sD b+td.length<=2*sD o+ts.length ->
       (∀ s',(zw N (many+1) s'.1/\yR (out.set i many) s'.1/\Bb N s'.2/\2*sD s'.1+s'.2.length<=2*sD o+ts.length)->Gd (nn s') (λr=>r.length=N/\∀ v ∈ r,0<=v/\v<N)) ->
       Gd (Sim.idx b q λy7689=>if decide (y7689<0) then (Sim.idx b q λy7694=>cK ((td.length+([q]).length)*8<=140737488355328) (eD nn (b.set (q:Int).toNat many) (td++([q])))) else (eD nn b td)) (λr=>r.length=N/\∀ v ∈ r,0<=v/\v<N):=by
      intro b td q nn q0 qN hb J I O Y;have hql:q.toNat<b.length:=by rw [hb.len]; omega
      have hget:b[q.toNat]? = some b[q.toNat]:=Q4 hql;unfold eD;refine Gd.ix q0 hget (Gd.ite (λh=>Gd.ix q0 hget (Gd.nd ?_ (Y _ ⟨hb.set ⟨h0,by omega⟩ _,J.set _ h0,?_,?_⟩))) (λh=>Y _ ⟨hb,J,I,O⟩))
      ·have h1:b[q.toNat]<0:=by simpa using h
       have hc:sD o<=N:=by unfold sD; rw [<- hq.len]; exact TP
       simp;omega
      ·intro a ha
       rcases Rh.1 ha with ha | ha
       ·exact I a ha
       ·simp at ha; omega
      ·have h1:b[q.toNat]<0:=by simpa using h
       have:=Fw hql h1 h0;simp;omega
     have hc:sD o<=N:=by unfold sD; rw [<- hq.len]; exact TP
     ·refine Gd.forAll (λ_=>True) (λ(s:List Int×List Int)=>zw N (many+1) s.1/\yR (out.set i many) s.1/\Bb N s.2/\2*sD s.1+s.2.length<=2*sD o+ts.length) ?_ ?_ _ ⟨hq,hkp,(λa ha=>htd a (Rc _ ha):Bb N ts),Rq (2*sD o+ts.length)⟩
      ·rintro k e ⟨b,td⟩ nn he ⟨hb,J,I,O⟩ Y
       simp only at hb J I O;obtain ⟨e1,e2,e3,e4⟩:=hl e he;have hw1:i64.wrap (e.a0+e.a1)=e.a0+e.a1:=bJ ⟨by omega,by omega⟩
       have hw2:i64.wrap (e.a0+e.a1-at_)=e.a0+e.a1-at_:=bJ ⟨by omega,by omega⟩
       unfold qQ;rw [hw1,hw2];refine Gd.ite (λ_=>Y Q3 _ ⟨hb,J,I,O⟩) (λ_=>Gd.ite (λh=>?_) (λ_=>Gd.ite (λ_=>Y Q3 _ ⟨hb,J,I,O⟩) (λh=>?_)))
       ·have h:e.a0=at_:=by simpa using h
        exact push b td _ nn (by omega) (by omega) hb J I O (λs' hs'=>Y Q3 s' hs')
       ·have h:e.a1=at_:=by simpa using h
        exact push b td _ nn (by omega) (by omega) hb J I O (λs' hs'=>Y Q3 s' hs')
      ·rintro _ ⟨b,td⟩ ⟨hb,J,I,O⟩
       simp only at hb J I O;exact hn2 _ ⟨hb,J,I,by show 2*sD b+td.length<=2*N+1; omega⟩ (by simp only [Rd]; omega)
    ·unfold jU
     rw [hw];refine hn _ ⟨by omega,by show (0:Int)<=many+1; omega,by show many+1<=((i+1:Nat):Int); omega,hq,λj v hj hv=>?_⟩
     have hjl:j<out.length:=by omega
     have hbase:∃ w,(out.set i many)[j]? = some w/\0<=w:=by
      by_cases e:i=j
      ·subst e; exact ⟨many,by simp [hilt],h0⟩
      ·exact ⟨out[j],by rw [Ry e]; exact Q4 hjl,hk j _ (by omega) (Q4 hjl)⟩
     obtain ⟨w,hw1,hw0⟩:=hbase;obtain ⟨u,hu,hu0⟩:=hkp j w hw1 hw0;simp only at hv;rw [hu] at hv; cases hv; exact hu0
   ·refine T6 Z ?_
    unfold eY; omega
 ·rintro i ⟨out,many⟩ ⟨hi,h0,hmi,hp,hk⟩
  simp only at h0 hmi hp hk;refine Gd.ret ⟨hp.len,λv hv=>?_⟩;obtain ⟨j,hj,hje⟩:=Sm.1 hv;have hj:j<out.length:=hj;have h1:=hp.LC v hv;have h2:=hk j v (by have:=hp.len; omega) (by rw [Q4 hj]; exact Rn some hje)
  omega
theorem Dm (N:Nat) (hN:N<=24) (l:List b_) (hl:EL N l) (I:l.length<=64):rY N l=some 0:=by
 rw [<- Gd.eq];unfold rY;refine Gd.ite (λh=>?_) (λ_=>Gd.forAll (Q:=λx=>x=0) (λ_=>True) (λ_=>True) ?_ (λ_ _ _=>Gd.ret rfl) _ Q3)
 ·simp at h; omega
 ·intro i e s n he _ hn
  obtain ⟨J,e2,e3,O⟩:=hl e he;unfold tH;exact Gd.ite (λh=>by simp at h; omega) (λ_=>Gd.ite (λh=>by simp at h; omega) (λ_=>Gd.ite (λh=>by simp at h; omega) (λ_=>Gd.ite (λh=>by simp at h; omega) (λ_=>hn Q3 _ Q3))))
theorem JY (N:Nat) (hN:N<=24) (l:List b_) (hl:EL N l) (I:l.length<=64):Gd (jB N l) (λr=>r.1.length=N/\Bb N r.1):=by
 unfold jB;refine Gd.bind_eq (Dm N hN l hl I) (Gd.ite (λh=>by simp at h) (λ_=>Gd.eN (KX N hN l hl I (-1)) (λr J=>Gd.ret J)))
theorem Kg (n:Net) (hn:pF n) (o:Bool):Gd (qC n o) (λr=>r.1.length<=32/\EL n.bH.length r.1):=by
 unfold qC;refine Gd.dM (λi ys s=>i+ys.length=n.aN.length/\(∀ y ∈ ys,y ∈ n.aN)/\s.1.length<=i/\s.2.length<=i/\EL n.bH.length s.1) ?_ ?_ _ _ _ ⟨by simp,λ_ h=>h,by simp,by simp,by intro e he; simp at he⟩
 ·rintro i y ys ⟨a,b⟩ nx ⟨hi,hm,Z,hb,he⟩ J
  simp only [Rd] at hi Z hb he;have h2:=hn.l2;have O:∀ z ∈ ys,z ∈ n.aN:=λz hz=>hm z (Rc _ hz);unfold sC n6;refine Gd.ite (λ_=>?_) (λ_=>J _ ⟨by omega,O,by simp only; omega,by simp only; omega,he⟩)
  obtain ⟨h1,Y⟩:=hn.sw y (hm y (Q9 ..));obtain ⟨p,hp,hpl,_⟩:=zm h1;obtain ⟨q,hq,hql,_⟩:=zm Y;refine Gd.bind_eq hp (Gd.bind_eq hq (Gd.nd (by simp; omega) (Gd.nd (by simp; omega) (J _ ⟨by omega,O,by simp; omega,by simp; omega,?_⟩))))
  intro e I;rcases Rh.1 I with I | I
  ·exact he e I
  ·simp at I; subst I
   exact ⟨by simp only; omega,by simp only; omega,by simp only; omega,by simp only; omega⟩
 ·rintro i ⟨a,b⟩ ⟨hi,hm,Z,hb,he⟩
  have h2:=hn.l2;simp only [Wc] at hi Z;exact Gd.ret ⟨by simp only; omega,he⟩
theorem JV (n:Net) (hn:pF n):Gd (oB n) (λr=>r.length=n.bH.length/\Bb n.bH.length r):=by
 unfold oB;refine Gd.eN (Kg n hn false) (λr I=>?_);have J:=hn.l1;exact Gd.eN (JY n.bH.length hn.l1 r.1 I.2 (by omega)) (λr I=>Gd.ret I)
structure Qi (n:Net) (t:aY):Prop where
 bl:t.ql.length=n.bH.length
 bi:Bb t.bR.length t.ql
 ii:Bb t.bR.length t.bR
 il:t.bR.length<=24
theorem Ml {R:Type}{Q:R->Prop} (N:Nat) (hN:N<=24) (I:Nat->Int->Int->(Int->Option R)->Option R) (hb:∀ k y n Z,I k y n Z=Z (max n (i64.wrap (y+1)))) (K:Int->Option R) (l:List Int) (hl:Bb N l)
  (hk:∀ m:Nat,m<=N->Bb m l->Gd (K (m:Int)) Q):Gd (dM I K 0 l 0) Q:=by
 have key:∀ (ys pre:List Int) (i m:Nat),l=pre++ys->m<=N->Bb m pre->Gd (dM I K i ys (m:Int)) Q:=by
  intro ys
  induction ys with
  | nil=>intro pre i m e hm Y; rw [RR] at e; subst e; exact hk m hm Y
  | cons y ys ih=>
   intro pre i m e hm Y;have hy:=hl y (by rw [e]; exact Sc _ (Q9 ..))
   show Gd (I i y (m:Int) (λs=>dM I K (i+1) ys s)) Q;rw [hb,bJ ⟨by omega,by omega⟩]
   have O:max (m:Int) (y+1)=((max m (y+1).toNat:Nat):Int):=by omega
   rw [O];refine ih (pre++[y]) (i+1) _ (by rw [e]; simp) (by omega) (λa J=>?_)
   rcases Rh.1 J with J | J
   ·have:=Y a J; omega
   ·simp at J; subst J; omega
 have:=key l [] 0 0 rfl (by omega) (by intro a J; simp at J)
 exact this
abbrev BA:=Q1
abbrev Seen:=List (Q1×Bool)
theorem KK (l:List (Q1×Bool)) (k I:Q1):(rS (vJ l k true) I).getD false=((rS l I).getD false || decide (k=I)):=by
 have key:∀ (l:List (Q1×Bool)) (i:Nat),(∀ p,wY l I i=some p->wY (l++[(k,true)]) I i=some p)/\(wY l I i=none->wY (l++[(k,true)]) I i=if k=I then some (i+l.length,true) else none):=by
  intro l
  induction l with
  | nil=>intro i; refine ⟨λp h=>by simp [wY] at h,λ_=>?_⟩; simp [wY]
  | cons q l ih=>
   obtain ⟨a,b⟩:=q;intro i;simp only [S5,wY]
   by_cases h:a=I
   ·simp [h]
   ·simp only [h,Tn]
    refine ⟨(ih (i+1)).1,λhn=>?_⟩;rw [(ih (i+1)).2 hn];simp; split
    ·simp; omega
    ·rfl
 have J:∀ (l:List (Q1×Bool)) (i j:Nat) (v:Bool),wY l k i=some (j,v)->rS (l.set (j-i) (k,true)) I=if k=I then some true else rS l I:=by
  intro l;unfold rS;have:∀ (l:List (Q1×Bool)) (i j:Nat) (v:Bool) (q:Nat),wY l k i=some (j,v)->((wY (l.set (j-i) (k,true)) I q).map (·.2))=if k=I then some true else (wY l I q).map (·.2):=by
   intro l
   induction l with
   | nil=>intro i j v q h; simp [wY] at h
   | cons p l ih=>
    obtain ⟨a,b⟩:=p;intro i j v q h;simp only [wY] at h
    split at h
    ·rename_i e
     simp only [Rp,Tw] at h;obtain ⟨rfl,rfl⟩:=h;subst e;rw [Sq,Wj];simp only [wY]
     by_cases e:a=I <;> simp [e]
    ·rename_i e
     obtain ⟨Z,O,_⟩:=GF h;rw [show j-i=(j-(i+1))+1 by omega,List.set_cons_succ]
     simp only [wY];have:=ih (i+1) j v (q+1) h
     by_cases e2:a=I
     ·subst e2
      have Y:k≠a:=λx=>e x.symm;simp [Y]
     ·simp only [e2,Tn]; exact this
  intro i j v h;exact this l i j v 0 h
 unfold vJ;cases h:wY l k 0 with
 | none=>
  simp only;unfold rS;cases O:wY l I 0 with
  | none=>
   rw [(key l 0).2 O]
   by_cases e:k=I <;> simp [e]
  | some p=>
   rw [(key l 0).1 p O]
   by_cases e:k=I
   ·subst e; rw [h] at O; cases O
   ·simp [e]
 | some p=>
  obtain ⟨j,v⟩:=p;simp only;have:=J l 0 j v h;rw [T7] at this;rw [this]
  by_cases e:k=I <;> simp [e]
def pP (P:List BA) (s:Seen):Prop:=∀ k:BA,(rS s k).getD false=true↔k ∈ P
theorem pP.nil:pP [] ([]:Seen):=λk=>by simp [rS,wY]
theorem pP.put {P:List BA}{s:Seen} (h:pP P s) (k:BA):pP (P++[k]) (vJ s k true):=λI=>by
 rw [KK,SP,h I,Rh,Rz,RS];exact or_congr Iff.rfl ⟨λe=>e.symm,λe=>e.symm⟩
structure OL (ns P:List BA) (name:BA) (nodes:List BA):Prop where
 nm:bC name=some true
 nw:name ∉ P
 at_:∀ x ∈ nodes,x ∈ ns
 two:∀ a b,nodes=[a,b]->a≠b
theorem uU {c:aS}{P:List BA} (hs:pP P c.seen) {name:BA} (nodes:List BA) (h:name.size<=maxLen):
  Gd (cE c name nodes) (λr=>r.1=0->OL c.nodes P name nodes/\pP (P++[name]) r.2.seen):=by
 unfold cE;obtain ⟨b,Y,_⟩:=Fy name h;refine Gd.bind_eq Y (Gd.ite (λ_=>Gd.ret (λh=>by simp at h)) (λJ=>Gd.ite (λ_=>Gd.ret (λh=>by simp at h)) (λhsn=>?_)))
 have J:b=true:=by simpa using J
 subst J;have Z:name ∉ P:=λhm=>by rw [(hs name).2 hm] at hsn; cases hsn
 refine Gd.forAll (λx=>x ∈ c.nodes) (λ_=>True) ?_ ?_ () Q3
 ·intro i y s n hy _ hn
  unfold gX;refine Gd.eN (uR c.nodes y) (λb Y=>Gd.ite (λ_=>Gd.ret (λh=>by simp at h)) (λh=>hn (Y.1 (by simpa using h)) _ Q3))
 ·intro I s _
  refine Gd.ite (λh=>?_) (λh2=>Gd.ret (λ_=>⟨⟨Y,Z,I,λa b e=>?_⟩,hs.put name⟩))
  ·have h2:nodes.length=2:=by
    have:((nodes.length:Nat):Int)=2:=by simpa using h
    omega
   obtain ⟨a,b,rfl⟩:∃ a b,nodes=[a,b]:=by
    match nodes,h2 with
    | [a,b],_=>exact ⟨a,b,rfl⟩
   refine Gd.ix (y:=a) (by decide) rfl (Gd.ix (y:=b) (by decide) rfl (Gd.ite (λ_=>Gd.ret (λh=>by simp at h)) (λO=>Gd.ret (λ_=>⟨⟨Y,Z,I,λp q e=>?_⟩,hs.put name⟩))))
   have O:a≠b:=by simpa using O
   simp at e;rw [<- e.1,<- e.2]; exact O
  ·subst e
   simp at h2
theorem wG {c:aS}{P:List BA} (hs:pP P c.seen) {name:BA}{nodes:List BA} (h:OL c.nodes P name nodes):
  cE c name nodes=some (0,⟨vJ c.seen name true,c.nodes⟩):=by
 rw [<- Gd.eq];unfold cE;refine Gd.bind_eq h.nm (Gd.ite (λh=>by simp at h) (λ_=>Gd.ite (λY=>absurd ((hs name).1 Y) h.nw) (λ_=>?_)))
 refine Gd.forAll (λ_=>True) (λ_=>True) ?_ ?_ () Q3
 ·intro i y s n hy _ hn
  unfold gX;refine Gd.eN (uR c.nodes y) (λb Z=>Gd.ite (λJ=>?_) (λ_=>hn Q3 _ Q3));have:=Z.2 (h.at_ y hy);simp [this] at J
 ·intro _ s _
  refine Gd.ite (λI=>?_) (λ_=>Gd.ret rfl);have I:nodes.length=2:=by
   have:((nodes.length:Nat):Int)=2:=by simpa using I
   omega
  obtain ⟨a,b,rfl⟩:∃ a b,nodes=[a,b]:=by
   match nodes,I with
   | [a,b],_=>exact ⟨a,b,rfl⟩
  have O:=h.two a b rfl;exact Gd.ix (y:=a) (by decide) rfl (Gd.ix (y:=b) (by decide) rfl (Gd.ite (λe=>absurd (by simpa using e) O) (λ_=>Gd.ret rfl)))
def names (n:Net):List BA:=n.bH++n.aN.map (·.Name)++n.aK.map (·.Name)++n.dS.map (·.Name)++n.bF.map (·.Name)++n.bY.map (·.Name)
theorem uY {R α:Type}{Q:R->Prop}{I:Nat->α->Seen->(Seen->Option R)->Option R}{k:Seen->Option R}{l:List α} (nm:α->BA) (P:List BA)
  (Y:∀ (i:Nat) (y:α) (s:Seen) (n:Seen->Option R) (pre:List α),(∃ O,l=pre++y::O)->pP (P++pre.map nm) s->Gd (n (vJ s (nm y) true)) Q->Gd (I i y s n) Q) (Z:∀ s,pP (P++l.map nm) s->Gd (k s) Q) (s:Seen) (hs:pP P s):Gd (dM I k 0 l s) Q:=by
 refine Gd.seen (λpre s=>pP (P++pre.map nm) s) ?_ Z s (by simpa using hs)
 intro i y s n pre J hs hn;refine Y i y s n pre J hs (hn _ ?_);have:=hs.put (nm y);rw [Ss,<- RG]; exact this
theorem tB {R α:Type}{Q:R->Prop}{I:Nat->α->Seen->(Seen->Option R)->Option R}{k:Seen->Option R}{l:List α} (nm:α->BA) (P:List BA) (C:α->Prop)
  (Z:∀ (i:Nat) (y:α) (s:Seen) (n:Seen->Option R) (pre:List α),y ∈ l->pP (P++pre.map nm) s->(nm y ∉ P++pre.map nm->C y->∀ s',pP (P++pre.map nm++[nm y]) s'->Gd (n s') Q)->Gd (I i y s n) Q)
  (hk:∀ s,pP (P++l.map nm) s->(∀ x ∈ l,C x)->(P.Nodup->(P++l.map nm).Nodup)->Gd (k s) Q) (s:Seen) (hs:pP P s):Gd (dM I k 0 l s) Q:=by
 refine Gd.seen (λpre s=>pP (P++pre.map nm) s/\(∀ x ∈ pre,C x)/\(P.Nodup->(P++pre.map nm).Nodup)) ?_ (λs h=>hk s h.1 h.2.1 h.2.2) s ⟨by simpa using hs,by simp,λh=>by simpa using h⟩
 rintro i y s n pre Y ⟨h1,h2,h3⟩ hn;refine Z i y s n pre (xu Y).2.1 h1 (λO hC s' hs'=>hn s' ⟨by rw [Ss,<- RG]; exact hs',λx J=>?_,λhP=>?_⟩)
 ·rcases Rh.1 J with J | J
  ·exact h2 x J
  ·simp at J; subst J; exact hC
 ·rw [Ss,<- RG,R6]
  refine ⟨h3 hP,by simp,λa ha b Z=>?_⟩
  simp at Z; subst Z
  intro e; subst e; exact O ha
def Fh (g:bK):Bool:=!(((!(aW g.iX)) || (bL g.q9 g.iX 100000)) || (!(aW g.C1)))
def Dz (s:cL):Bool:=!(((!(aW s.sK)) || (!(aW s.Discharge))) || (!(aW s.u6)))
structure po (n:Net):Prop where
 l1:n.bH.length<=24
 l2:n.aN.length<=32
 l3:n.aK.length<=24
 l4:n.dS.length<=10
 l5:n.bF.length<=12
 l6:n.bY.length<=4
 nd:(names n).Nodup
 vn:∀ x ∈ n.bH,bC x=some true
 vs:∀ x ∈ n.aN,bC x.Name=some true/\x.A ∈ n.bH/\x.B_ ∈ n.bH/\x.A≠x.B_
 vb:∀ x ∈ n.aK,bC x.Name=some true/\x.pO ∈ n.bH/\x.To ∈ n.bH/\x.pO≠x.To/\iK x=0
 vg:∀ x ∈ n.dS,bC x.Name=some true/\x.Node ∈ n.bH/\Fh x=true
 vl:∀ x ∈ n.bF,bC x.Name=some true/\x.Node ∈ n.bH/\aW x.dA=true
 vt:∀ x ∈ n.bY,bC x.Name=some true/\x.Node ∈ n.bH/\Dz x=true
theorem VL (n:Net) (hz:qp n):Gd (bZ n) (λe=>e=0->po n):=by
 unfold bZ;refine Gd.ite (λ_=>Gd.ret (λh=>by simp at h)) (λhl=>?_)
 simp only [VS,WZ,Int.not_lt] at hl;refine tB (id:BA->BA) [] (λx=>bC x=some true) ?_ ?_ _ pP.nil
 ·intro i y s nx pre Y hs hn
  unfold m_;exact Gd.eN (uU (c:=⟨s,n.bH⟩) hs [] (hz.nd y Y)) (λr O=>Gd.ite (λh=>Gd.ret (λI=>absurd I (by simpa using h))) (λh=>by
   obtain ⟨J,I⟩:=O (by simpa using h)
   exact hn J.nw J.nm _ I))
 intro s hs hvn hnd1;simp only [List.map_id,SJ] at hs hnd1;refine tB (λx:a_=>x.Name) _ (λx=>bC x.Name=some true/\x.A ∈ n.bH/\x.B_ ∈ n.bH/\x.A≠x.B_) ?_ ?_ _ hs
 ·intro i y s nx pre Y hs hn
  unfold na;exact Gd.eN (uU (c:=⟨s,n.bH⟩) hs [y.A,y.B_] (hz.sw y Y)) (λr O=>Gd.ite (λh=>Gd.ret (λI=>absurd I (by simpa using h))) (λh=>by
   obtain ⟨J,I⟩:=O (by simpa using h)
   exact hn J.nw ⟨J.nm,J.at_ _ (by simp),J.at_ _ (by simp),J.two _ _ rfl⟩ _ I))
 intro s hs hvs hnd2;refine tB (λx:aR=>x.Name) _ (λx=>bC x.Name=some true/\x.pO ∈ n.bH/\x.To ∈ n.bH/\x.pO≠x.To/\iK x=0) ?_ ?_ _ hs
 ·intro i y s nx pre Y hs hn
  unfold nc;exact Gd.eN (uU (c:=⟨s,n.bH⟩) hs [y.pO,y.To] (hz.br y Y)) (λr O=>Gd.ite (λh=>Gd.ret (λI=>absurd I (by simpa using h))) (λh=>Gd.ite (λZ=>Gd.ret (λI=>absurd I (by simpa using Z))) (λZ=>by
   obtain ⟨J,I⟩:=O (by simpa using h)
   exact hn J.nw ⟨J.nm,J.at_ _ (by simp),J.at_ _ (by simp),J.two _ _ rfl,by simpa using Z⟩ _ I)))
 intro s hs hvb hnd3;refine Gd.eN (P:=λr=>r.1=0->(∀ x ∈ n.dS,bC x.Name=some true/\x.Node ∈ n.bH/\Fh x=true)/\(∀ x ∈ n.bF,bC x.Name=some true/\x.Node ∈ n.bH/\aW x.dA=true) /\
  (∀ x ∈ n.bY,bC x.Name=some true/\x.Node ∈ n.bH/\Dz x=true)/\(names n).Nodup) ?_ (λr O=>Gd.ret (λh=>by
   obtain ⟨a,b,c,d⟩:=O h;exact ⟨by omega,by omega,by omega,by omega,by omega,by omega,d,hvn,hvs,hvb,a,b,c⟩))
 unfold gA;refine tB (λx:bK=>x.Name) _ (λx=>bC x.Name=some true/\x.Node ∈ n.bH/\Fh x=true) ?_ ?_ _ hs
 ·intro i y s nx pre Y hs hn
  unfold jF;exact Gd.eN (uU (c:=⟨s,n.bH⟩) hs [y.Node] (hz.gn y Y)) (λr O=>Gd.ite (λh=>Gd.ret (λI=>absurd I (by simpa using h))) (λh=>Gd.ite (λ_=>Gd.ret (λI=>by simp at I)) (λZ=>by
   obtain ⟨J,I⟩:=O (by simpa using h)
   exact hn J.nw ⟨J.nm,J.at_ _ (by simp),by unfold Fh; rw [Z]; rfl⟩ _ I)))
 intro s hs hvg hnd4;refine tB (λx:aH=>x.Name) _ (λx=>bC x.Name=some true/\x.Node ∈ n.bH/\aW x.dA=true) ?_ ?_ _ hs
 ·intro i y s nx pre Y hs hn
  unfold jG;exact Gd.eN (uU (c:=⟨s,n.bH⟩) hs [y.Node] (hz.ld y Y)) (λr O=>Gd.ite (λh=>Gd.ret (λI=>absurd I (by simpa using h))) (λh=>Gd.ite (λ_=>Gd.ret (λI=>by simp at I)) (λZ=>by
   obtain ⟨J,I⟩:=O (by simpa using h)
   exact hn J.nw ⟨J.nm,J.at_ _ (by simp),by simpa using Z⟩ _ I)))
 intro s hs hvl hnd5;refine tB (λx:cL=>x.Name) _ (λx=>bC x.Name=some true/\x.Node ∈ n.bH/\Dz x=true) ?_ ?_ _ hs
 ·intro i y s nx pre Y hs hn
  unfold jH;exact Gd.eN (uU (c:=⟨s,n.bH⟩) hs [y.Node] (hz.st y Y)) (λr O=>Gd.ite (λh=>Gd.ret (λI=>absurd I (by simpa using h))) (λh=>Gd.ite (λ_=>Gd.ret (λI=>by simp at I)) (λZ=>by
   obtain ⟨J,I⟩:=O (by simpa using h)
   exact hn J.nw ⟨J.nm,J.at_ _ (by simp),by unfold Dz; rw [Z]; rfl⟩ _ I)))
 intro s hs hvt hnd6;exact Gd.ret λ_=>⟨hvg,hvl,hvt,hnd6 (hnd5 (hnd4 (hnd3 (hnd2 (hnd1 List.nodup_nil)))))⟩
theorem IX {A B C:List BA}{x:BA} (h:(A++(B++x::C)).Nodup):x ∉ A++B:=by
 rw [<- RG,R6] at h;exact λhm=>h.2.2 x hm x (Q9 ..) rfl
theorem fresh {P:List BA}{α:Type}{nm:α->BA}{l pre:List α}{y:α} (h:(P++l.map nm).Nodup) (J:∃ I,l=pre++y::I):nm y ∉ P++pre.map nm:=by
 obtain ⟨I,rfl⟩:=J;rw [Ss,Te] at h;exact IX h
theorem Gb (n:Net) (h:po n):bZ n=some 0:=by
 have J:=h.nd;unfold names at J;have n5:=(R6.1 J).1;have n4:=(R6.1 n5).1;have Z:=(R6.1 n4).1;have Y:=(R6.1 Z).1;have n1:=(R6.1 Y).1;have g1:=h.l1; have g2:=h.l2; have g3:=h.l3; have g4:=h.l4; have g5:=h.l5; have g6:=h.l6
 rw [<- Gd.eq];unfold bZ;refine Gd.ite (λhl=>?_) (λ_=>?_)
 ·simp only [SP,RS] at hl
  omega
 refine uY (id:BA->BA) [] ?_ ?_ _ pP.nil
 ·intro i y s O pre I hs hn
  have hy:=(xu I).2.1;have hf:=fresh (P:=[]) (nm:=id) (by simpa using n1) I
  unfold m_;exact Gd.bind_eq (wG (c:=⟨s,n.bH⟩) hs ⟨h.vn y hy,hf,by simp,by simp⟩) (Gd.ite (λh=>by simp at h) (λ_=>hn))
 intro s hs;simp only [List.map_id,SJ] at hs;refine uY (λx:a_=>x.Name) _ ?_ ?_ _ hs
 ·intro i y s O pre I hs hn
  obtain ⟨a,b,c,d⟩:=h.vs y (xu I).2.1;unfold na;exact Gd.bind_eq (wG (c:=⟨s,n.bH⟩) hs ⟨a,fresh Y I,by simp [b,c],λp q e=>by simp at e; rw [<- e.1,<- e.2]; exact d⟩) (Gd.ite (λh=>by simp at h) (λ_=>hn))
 intro s hs;refine uY (λx:aR=>x.Name) _ ?_ ?_ _ hs
 ·intro i y s O pre I hs hn
  obtain ⟨a,b,c,d,e⟩:=h.vb y (xu I).2.1;unfold nc;exact Gd.bind_eq (wG (c:=⟨s,n.bH⟩) hs ⟨a,fresh Z I,by simp [b,c],λp q e=>by simp at e; rw [<- e.1,<- e.2]; exact d⟩) (Gd.ite (λh=>by simp at h) (λ_=>Gd.ite (λh=>by simp [e] at h) (λ_=>hn)))
 intro s hs;refine Gd.eN (P:=λr=>r.1=0) ?_ (λr hr=>Gd.ret hr);unfold gA;refine uY (λx:bK=>x.Name) _ ?_ ?_ _ hs
 ·intro i y s O pre I hs hn
  obtain ⟨a,b,c⟩:=h.vg y (xu I).2.1;unfold Fh at c;unfold jF;exact Gd.bind_eq (wG (c:=⟨s,n.bH⟩) hs ⟨a,fresh n4 I,by simp [b],by simp⟩) (Gd.ite (λh=>by simp at h) (λ_=>Gd.ite (λh=>by rw [h] at c; cases c) (λ_=>hn)))
 intro s hs;refine uY (λx:aH=>x.Name) _ ?_ ?_ _ hs
 ·intro i y s O pre I hs hn
  obtain ⟨a,b,c⟩:=h.vl y (xu I).2.1;unfold jG;exact Gd.bind_eq (wG (c:=⟨s,n.bH⟩) hs ⟨a,fresh n5 I,by simp [b],by simp⟩) (Gd.ite (λh=>by simp at h) (λ_=>Gd.ite (λh=>by simp [c] at h) (λ_=>hn)))
 intro s hs;refine uY (λx:cL=>x.Name) _ ?_ ?_ _ hs
 ·intro i y s O pre I hs hn
  obtain ⟨a,b,c⟩:=h.vt y (xu I).2.1;unfold Dz at c;unfold jH;exact Gd.bind_eq (wG (c:=⟨s,n.bH⟩) hs ⟨a,fresh J I,by simp [b],by simp⟩) (Gd.ite (λh=>by simp at h) (λ_=>Gd.ite (λh=>by rw [h] at c; cases c) (λ_=>hn)))
 intro s hs;exact Gd.ret rfl
def LV (n:Net) (q:Nat):Net:={ n with aK:=n.aK.take q++n.aK.drop (q+1) }
theorem Hn {α:Type} (l:List α) (q:Nat):(l.take q++l.drop (q+1)).Sublist l:=by
 have I:(l.drop (q+1)).Sublist (l.drop q):=by rw [<- SV]; exact List.drop_sublist _ _
 have:=(Tm (l.take q)).append I
 rwa [SA] at this
theorem po.cut {n:Net} (h:po n) (q:Nat):po (LV n q):=by
 have hs:=Hn n.aK q;have I:(names (LV n q)).Sublist (names n):=by
  unfold names LV;exact ((((Tm _).append (hs.map _)).append (Tm _)).append (Tm _)).append (Tm _)
 exact ⟨h.l1,h.l2,Sb hs.length_le h.l3,h.l4,h.l5,h.l6,I.nodup h.nd,h.vn,h.vs,λx J=>h.vb x (hs.subset J),h.vg,h.vl,h.vt⟩
theorem po.ok {n:Net} (h:po n) (J:qp n):pF n:=by
 obtain ⟨e,he,I⟩:=JW n J;rw [Gb n h] at he;exact I (Q8 he).symm
theorem qp.cut {n:Net} (h:qp n) (q:Nat):qp (LV n q):=
 ⟨h.nd,h.sw,λx I=>h.br x ((Hn n.aK q).subset I),h.gn,h.ld,h.st⟩
abbrev Ed:=b_
def lb (o:List Int) (u:Int):Int:=if 0<=u then (o[u.toNat]?).getD (-1) else -1
theorem KE {o:List Int}{u:Int} (h:0<=lb o u):0<=u/\u<o.length:=by
 unfold lb at h
 split at h
 ·rename_i h0
  refine ⟨h0,?_⟩
  by_cases e:u.toNat<o.length
  ·omega
  ·rw [R4 (by omega)] at h; simp at h
 ·omega
theorem Cf {o:List Int}{k:Nat} (h:k<o.length):lb o (k:Int)=o[k]:=by
 unfold lb; rw [Rb (by omega),Q5,Q4 h]; rfl
theorem KD {o:List Int}{u:Int} (I:0<=u) (h:u.toNat<o.length):lb o u=o[u.toNat]:=by
 unfold lb; rw [Rb I,Q4 h]; rfl
theorem ye {o:List Int}{q:Int} (J:0<=q) (h:q.toNat<o.length) (m u:Int):lb (o.set q.toNat m) u=if u=q then m else lb o u:=by
 unfold lb
 by_cases e:u=q
 ·subst e
  rw [Rb J,Rb rfl,RF h]; rfl
 ·rw [Ra e]
  by_cases I:0<=u
  ·rw [Rb I,Rb I,Ry (by omega)]
  ·rw [Ra I,Ra I]
def LA (l:List Ed) (u v:Int):Prop:=∃ e ∈ l,(e.a0=u/\e.a1=v)\/(e.a1=u/\e.a0=v)
theorem LA.symm {l:List Ed}{u v:Int} (h:LA l u v):LA l v u:=by
 obtain ⟨e,he,h | h⟩:=h
 ·exact ⟨e,he,.inr ⟨h.2,h.1⟩⟩
 ·exact ⟨e,he,.inl ⟨h.2,h.1⟩⟩
inductive xT (l:List Ed) (u:Int):Int->Prop
 | refl:xT l u u
 | snoc {v w:Int}:xT l u v->LA l v w->xT l u w
theorem xT.trans {l:List Ed}{u v w:Int} (I:xT l u v) (J:xT l v w):xT l u w:=by
 induction J with
 | refl=>exact I
 | snoc _ h ih=>exact .snoc ih h
theorem xT.symm {l:List Ed}{u v:Int} (h:xT l u v):xT l v u:=by
 induction h with
 | refl=>exact .refl
 | snoc _ h ih=>exact (xT.snoc .refl h.symm).trans ih
structure PE (N:Nat) (l:List Ed) (many:Int) (out:List Int):Prop where
 pt:zw N many out
 cls:∀ u v,LA l u v->0<=lb out u->lb out v=lb out u
 Qj:∀ u v,0<=lb out u->lb out u=lb out v->xT l u v
 P0:∀ c,0<=c->c<many->∃ u,lb out u=c
theorem zw.lt {N:Nat}{many:Int}{out:List Int} (h:zw N many out) (hm:0<=many) (u:Int):-1<=lb out u/\lb out u<many:=by
 by_cases I:0<=lb out u
 ·obtain ⟨a,b⟩:=KE I
  have:u.toNat<out.length:=by omega
  rw [KD a this];exact h.LC _ (RI _)
 ·refine ⟨?_,by omega⟩
  unfold lb
  split
  ·by_cases e:u.toNat<out.length
   ·rw [Q4 e]
    exact (h.LC _ (RI e)).1
   ·rw [R4 (by omega)]; simp
  ·omega
structure CZ (N:Nat) (l:List Ed) (m:Int) (i:Int) (out o:List Int):Prop where
 pt:zw N (m+1) o
 vC:∀ u,0<=lb out u->lb o u=lb out u
 new:∀ u,lb out u<0->0<=lb o u->lb o u=m/\xT l i u
 st:lb o i=m
theorem CZ.put {N:Nat}{l:List Ed}{m i:Int}{out o:List Int} (h:CZ N l m i out o) (hc:PE N l m out) (Z:0<=m) {a q:Int} (ha:lb o a=m) (J:LA l a q) (Y:0<=q) (qN:q<N) (hq:lb o q<0):CZ N l m i out (o.set q.toNat m):=by
 have I:q.toNat<o.length:=by rw [h.pt.len]; omega
 have ca:xT l i a:=by
  by_cases e:0<=lb out a
  ·have h1:=h.vC a e
   have h2:=(hc.pt.lt Z a).2;omega
  ·exact (h.new a (by omega) (by omega)).2
 refine ⟨h.pt.set ⟨Z,by omega⟩ _,λu O=>?_,λu O hn=>?_,?_⟩
 ·rw [ye Y I]
  have h1:=h.vC u O;rw [Ra (λe=>by subst e; omega)]
  exact h1
 ·rw [ye Y I] at hn ⊢
  by_cases e:u=q
  ·subst e
   rw [Rb rfl];exact ⟨rfl,ca.snoc J⟩
  ·rw [Ra e] at hn ⊢
   exact h.new u O hn
 ·rw [ye Y I]
  split
  ·rfl
  ·exact h.st
theorem CZ.mono {N:Nat}{m:Int}{o:List Int} (hl:o.length=N) (I:0<=m) {q:Int} (O:0<=q) (Y:q<N) {u:Int} (J:0<=lb o u):0<=lb (o.set q.toNat m) u:=by
 rw [ye O (by omega)]
 split
 ·exact I
 ·exact J
theorem CZ.done {N:Nat}{l:List Ed}{m i:Int}{out o:List Int} (h:CZ N l m i out o) (J:PE N l m out) (h0:0<=m) (hp:∀ u,lb o u=m->∀ v,LA l u v->0<=lb o v):PE N l (m+1) o:=by
 refine ⟨h.pt,λu v I Y=>?_,λu v Y I=>?_,λc c0 c1=>?_⟩
 ·by_cases e:0<=lb out u
  ·have Z:=h.vC u e
   have O:=J.cls u v I e;have h3:=h.vC v (by omega)
   omega
  ·obtain ⟨Z,_⟩:=h.new u (by omega) Y
   have O:=hp u Z v I
   by_cases e2:0<=lb out v
   ·have:=J.cls v u I.symm e2
    omega
   ·have:=(h.new v (by omega) O).1
    omega
 ·by_cases e:0<=lb out u
  ·have Z:=h.vC u e
   have O:=(J.pt.lt h0 u).2
   by_cases e2:0<=lb out v
   ·exact J.Qj u v e (by have:=h.vC v e2; omega)
   ·have:=(h.new v (by omega) (by omega)).1
    omega
  ·obtain ⟨Z,O⟩:=h.new u (by omega) Y
   by_cases e2:0<=lb out v
   ·have h3:=h.vC v e2
    have h4:=(J.pt.lt h0 v).2;omega
   ·exact O.symm.trans (h.new v (by omega) (by omega)).2
 ·by_cases e:c<m
  ·obtain ⟨u,Y⟩:=J.P0 c c0 e
   exact ⟨u,by rw [h.vC u (by omega)]; exact Y⟩
  ·exact ⟨i,by rw [h.st]; omega⟩
structure H8 (N:Nat) (l:List Ed) (r:List Int) (many:Nat):Prop where
 len:r.length=N
 all:∀ u:Int,0<=u->u<N->0<=lb r u/\lb r u<many
 mN:many<=N
 iff:∀ u v:Int,0<=u->u<N->0<=v->v<N->(lb r u=lb r v↔xT l u v)
 P0:∀ c:Int,0<=c->c<many->∃ u:Int,0<=u/\u<N/\lb r u=c
theorem GM (N:Nat) (hN:N<=24) (l:List Ed) (hl:EL N l) (hll:l.length<=64):Gd (o_ N l (-1)) (λr=>∃ many:Nat,H8 N l r many):=by
 unfold o_;refine Gd.nd ⟨rfl,by omega,by omega⟩ (Gd.nd (by omega) ?_)
 rw [yp];have hrep:∀ u,lb (List.replicate N (-1)) u = -1:=λu=>by
  unfold lb
  split
  ·by_cases e:u.toNat<N
   ·rw [Q4 (by simpa using e)]; simp
   ·rw [R4 (by simpa using e)]; rfl
  ·rfl
 refine Gd.jW (λm i (s:List Int×Int)=>i+m=N/\0<=s.2/\s.2<=(i:Int)/\PE N l s.2 s.1/\∀ j:Nat,j<i->0<=lb s.1 (j:Int)) ?_ ?_ (N:Int).toNat 0 (List.replicate N (-1),0)
  ⟨by omega,by simp,by simp,⟨⟨by simp,by simp⟩,λu v _ h=>by rw [hrep] at h; omega,λu v h _=>by rw [hrep] at h; omega,λc h1 h2=>by omega⟩,by simp⟩
 ·rintro m i ⟨out,many⟩ nx ⟨hi,h0,hmi,Z,hk⟩ hn
  simp only at h0 hmi Z hk;have hilt:i<out.length:=by rw [Z.pt.len]; omega
  have hwm:i64.wrap (many+1)=many+1:=bJ ⟨by omega,by omega⟩
  unfold qO;refine Gd.gK hilt (Gd.ite (λh=>?_) (λh=>?_))
  ·have hge:0<=out[i]:=by simpa using h
   unfold jU;refine hn _ ⟨by omega,h0,by show many<=((i+1:Nat):Int); omega,Z,λj hj=>?_⟩
   by_cases e:j=i
   ·subst e; simp only; rw [Cf hilt]; exact hge
   ·exact hk j (by omega)
  ·have hneg:out[i]<0:=by simpa using h
   refine Gd.gK hilt ?_;rw [Q5];have hnegl:lb out (i:Int)<0:=by rw [Cf hilt]; exact hneg
   have hset:∀ u,lb (out.set i many) u=if u=(i:Int) then many else lb out u:=λu=>by
    have:=ye (o:=out) (q:=(i:Int)) (by omega) (by simpa using hilt) many u
    rwa [Q5] at this
   have hp1:zw N (many+1) out:=⟨Z.pt.len,λv hv=>by have:=Z.pt.LC v hv; omega⟩
   have hbase:2*sD (out.set i many)+[(i:Int)].length<=2*N+1:=by
    have hcn:sD (out.set i many)<=N:=by unfold sD; rw [<- Z.pt.len,<- Sr (as:=out) (i:=i) (a:=many)]; exact TP
    simp only [Sa]; omega
   have hf0:CZ N l many (i:Int) out (out.set i many):=by
    refine ⟨hp1.set ⟨h0,by omega⟩ i,λu O=>?_,λu O hn2=>?_,by rw [hset,Rb rfl]⟩
    ·rw [hset,Ra (λe=>by subst e; omega)]
    ·rw [hset] at hn2 ⊢
     by_cases e:u=(i:Int)
     ·subst e; rw [Rb rfl]; exact ⟨rfl,.refl⟩
     ·rw [Ra e] at hn2; omega
   refine Gd.fX (λ(s:List Int×List Int)=>CZ N l many (i:Int) out s.1/\(∀ a ∈ s.2,lb s.1 a=many)/\(∀ u,lb s.1 u=many->u ∉ s.2->∀ v,LA l u v->0<=lb s.1 v)/\2*sD s.1+s.2.length<=2*N+1)
    (λs=>2*sD s.1+s.2.length) ?_ eY _ ⟨hf0,λa ha=>?_,λu O Y=>?_,hbase⟩ ?_
   ·rintro ⟨o,todo⟩ nx2 ⟨hf,htd,hpr,htot⟩ hn2
    simp only at hf htd hpr htot;have hol:=hf.pt.len;unfold qP;refine Gd.ite (λhne=>?_) (λhze=>?_)
    ·obtain ⟨at_,ts,rfl⟩:∃ a ts,todo=a::ts:=by
      cases todo with
      | nil=>simp at hne
      | cons a ts=>exact ⟨a,ts,rfl⟩
     simp only [Rd] at htot;refine Gd.ix (y:=at_) (by decide) rfl (Gd.nd ⟨by omega,by simp only [Rd]; omega⟩ ?_)
     have hat:=htd at_ (Q9 ..);obtain ⟨at0,atN⟩:=KE (by omega:0<=lb o at_)
     have hsl:sJ (at_::ts) (1:Int).toNat (at_::ts).length=ts:=by
      unfold sJ;rw [show (1:Int).toNat=1 from rfl,VF,Su,Ri (by simp)]
     rw [hsl]
     let J:List Ed->List Int×List Int->Prop:=λpre s=>CZ N l many (i:Int) out s.1/\(∀ a ∈ s.2,lb s.1 a=many)/\lb s.1 at_=many/\(∀ u,lb s.1 u=many->u ∉ s.2->u≠at_->∀ v,LA l u v->0<=lb s.1 v) /\
      (∀ e ∈ pre,(e.a0=at_->0<=lb s.1 e.a1)/\(e.a1=at_->0<=lb s.1 e.a0))/\2*sD s.1+s.2.length<=2*sD o+ts.length
     have push:∀ (pre:List Ed) (e:Ed) (b td:List Int) (q:Int) (nn:List Int×List Int->Option (List Int)),e ∈ l->J pre (b,td)->LA l at_ q->0<=q->q<N->((e.a0=at_/\e.a1=q)\/(e.a1=at_/\e.a0=q)) ->
       (∀ s',J (pre++[e]) s'->Gd (nn s') (λr=>∃ many:Nat,H8 N l r many)) ->
       Gd (Sim.idx b q λy7689=>if decide (y7689<0) then (Sim.idx b q λy7694=>cK ((td.length+([q]).length)*8<=140737488355328) (eD nn (b.set (q:Int).toNat many) (td++([q])))) else (eD nn b td)) (λr=>∃ many:Nat,H8 N l r many):=by
      intro pre e b td q nn hel ⟨j1,j2,j3,j4,j5,j6⟩ hadj q0 qN hends hnn;simp only at j1 j2 j3 j4 j5 j6;have hbl:=j1.pt.len;have hql:q.toNat<b.length:=by omega
      have hget:b[q.toNat]? = some b[q.toNat]:=Q4 hql;have hlq:lb b q=b[q.toNat]:=KD q0 hql;have hno:sD o<=N:=by unfold sD; rw [<- hol]; exact TP
      unfold eD;refine Gd.ix q0 hget (Gd.ite (λh=>Gd.ix q0 hget (Gd.nd ?_ (hnn _ ?_))) (λh=>hnn _ ⟨j1,j2,j3,j4,λd I=>?_,j6⟩))
      ·simp; omega
      ·have h1:b[q.toNat]<0:=by simpa using h
       have hlt:lb b q<0:=by omega
       have up:∀ {u:Int},0<=lb b u->0<=lb (b.set q.toNat many) u:=λ{u} O=>CZ.mono hbl h0 q0 qN O;have hqs:lb (b.set q.toNat many) q=many:=by rw [ye q0 hql,Rb rfl]
       have same:∀ {u:Int},lb b u=many->lb (b.set q.toNat many) u=many:=λ{u} O=>by
        rw [ye q0 hql]; split
        ·rfl
        ·exact O
       refine ⟨j1.put Z h0 j3 hadj q0 qN hlt,λa ha=>?_,same j3,λu O Y hua v hv=>?_,λd I=>?_,?_⟩
       ·rcases Rh.1 ha with ha | ha
        ·exact same (j2 a ha)
        ·simp at ha; subst ha; exact hqs
       ·simp only at O Y
        by_cases e2:u=q
        ·subst e2
         exact absurd (Sc _ (List.mem_singleton_self _)) Y
        ·rw [ye q0 hql,Ra e2] at O
         exact up (j4 u O (λhm=>Y (Q6 _ hm)) hua v hv)
       ·rcases Rh.1 I with I | I
        ·obtain ⟨x1,x2⟩:=j5 d I
         exact ⟨λhh=>up (x1 hh),λhh=>up (x2 hh)⟩
        ·simp at I; subst I
         have hat2:0<=lb (b.set q.toNat many) at_:=up (by omega)
         have hq2:0<=lb (b.set q.toNat many) q:=by omega
         rcases hends with ⟨x1,x2⟩ | ⟨x1,x2⟩
         ·exact ⟨λ_=>by rw [x2]; exact hq2,λ_=>by rw [x1]; exact hat2⟩
         ·exact ⟨λ_=>by rw [x1]; exact hat2,λ_=>by rw [x2]; exact hq2⟩
       ·have:=Fw hql h1 h0
        simp only [Ro,Sa];omega
      ·have h1:0<=b[q.toNat]:=by simpa using h
       rcases Rh.1 I with I | I
       ·exact j5 d I
       ·simp at I; subst I
        rcases hends with ⟨x1,x2⟩ | ⟨x1,x2⟩
        ·exact ⟨λ_=>by rw [x2]; simp only; omega,λ_=>by rw [x1]; simp only; omega⟩
        ·exact ⟨λ_=>by rw [x1]; simp only; omega,λ_=>by rw [x2]; simp only; omega⟩
     refine Gd.seen J ?_ ?_ _ ⟨hf,λa ha=>htd a (Rc _ ha),hat,λu O Y hua v hv=>hpr u O (λhm=>(RU.1 hm).elim hua Y) v hv,by simp,Rq (2*sD o+ts.length)⟩
     ·rintro k e ⟨b,td⟩ nn pre hpre hJ hnn
      obtain ⟨_,hel,_⟩:=xu hpre;obtain ⟨e1,e2,e3,e4⟩:=hl e hel;have hw1:i64.wrap (e.a0+e.a1)=e.a0+e.a1:=bJ ⟨by omega,by omega⟩
      have hw2:i64.wrap (e.a0+e.a1-at_)=e.a0+e.a1-at_:=bJ ⟨by omega,by omega⟩
      unfold qQ;rw [hw1,hw2];refine Gd.ite (λh=>by simp at h) (λ_=>Gd.ite (λh=>?_) (λh=>Gd.ite (λh2=>?_) (λh2=>?_)))
      ·have h:e.a0=at_:=by simpa using h
       have hq:e.a0+e.a1-at_=e.a1:=by omega
       rw [hq];exact push pre e b td _ nn hel hJ ⟨e,hel,.inl ⟨h,rfl⟩⟩ e3 e4 (.inl ⟨h,rfl⟩) hnn
      ·have h1:e.a0≠at_:=by simpa using h
       have h2:e.a1≠at_:=by simpa using h2
       obtain ⟨j1,j2,j3,j4,j5,j6⟩:=hJ;refine hnn _ ⟨j1,j2,j3,j4,λd I=>?_,j6⟩;rcases Rh.1 I with I | I
       ·exact j5 d I
       ·simp at I; subst I
        exact ⟨λhh=>absurd hh h1,λhh=>absurd hh h2⟩
      ·have h2:e.a1=at_:=by simpa using h2
       have hq:e.a0+e.a1-at_=e.a0:=by omega
       rw [hq];exact push pre e b td _ nn hel hJ ⟨e,hel,.inr ⟨h2,rfl⟩⟩ e1 e2 (.inr ⟨h2,rfl⟩) hnn
     ·rintro ⟨b,td⟩ ⟨j1,j2,j3,j4,j5,j6⟩
      simp only at j1 j2 j3 j4 j5 j6;refine hn2 _ ⟨j1,j2,λu O Y v hv=>?_,by show 2*sD b+td.length<=2*N+1; omega⟩ (by simp only [Rd]; omega)
      by_cases e:u=at_
      ·subst e
       obtain ⟨d,I,hh | hh⟩:=hv
       ·have:=(j5 d I).1 hh.1
        rw [hh.2] at this; exact this
       ·have:=(j5 d I).2 hh.1
        rw [hh.2] at this; exact this
      ·exact j4 u O Y e v hv
    ·have htn:todo=[]:=by
      cases todo with
      | nil=>rfl
      | cons a ts=>simp at hze
     subst htn;unfold jU;rw [hwm];refine hn _ ⟨by omega,by show (0:Int)<=many+1; omega,by show many+1<=((i+1:Nat):Int); omega,hf.done Z h0 (λu O v hv=>hpr u O (by simp) v hv),λj hj=>?_⟩
     by_cases e:j=i
     ·subst e; show 0<=lb o (j:Int); rw [hf.st]; exact h0
     ·have h1:=hk j (by omega)
      show 0<=lb o (j:Int);rw [hf.vC _ h1]; exact h1
   ·simp only [Rz] at ha
    subst ha;exact hf0.st
   ·exfalso
    rw [hset] at O
    by_cases e:u=(i:Int)
    ·subst e; simp at Y
    ·rw [Ra e] at O
     have:=(Z.pt.lt h0 u).2;omega
   ·refine T6 hbase ?_
    unfold eY; omega
 ·rintro i ⟨out,many⟩ ⟨hi,h0,hmi,Z,hk⟩
  simp only at h0 hmi Z hk;have hge:∀ u:Int,0<=u->u<N->0<=lb out u:=λu u0 uN=>by
   have:=hk u.toNat (by omega)
   rwa [show ((u.toNat:Nat):Int)=u by omega] at this
  refine Gd.ret ⟨many.toNat,Z.pt.len,λu u0 uN=>⟨hge u u0 uN,by have h1:=hge u u0 uN; have h2:=(Z.pt.lt h0 u).2; show lb out u<((many.toNat:Nat):Int); omega⟩,by omega,λu v u0 uN v0 vN=>⟨λe=>Z.Qj u v (hge u u0 uN) e,λe=>?_⟩,λc c0 c1=>?_⟩
  ·clear vN v0
   induction e with
   | refl=>rfl
   | snoc _ h ih=>
    rename_i p q _
    have ih:lb out u=lb out p:=ih;have hp:0<=lb out p:=by have:=hge u u0 uN; omega
    show lb out u=lb out q;rw [ih];exact (Z.cls p q h hp).symm
  ·obtain ⟨u,O⟩:=Z.P0 c c0 (by omega)
   obtain ⟨a,b⟩:=KE (by omega:0<=lb out u)
   exact ⟨u,a,by have:=Z.pt.len; omega,O⟩
theorem Ge (N:Nat) (hN:N<=24) (l:List Ed) (hl:EL N l) (I:l.length<=64):Gd (jB N l) (λr=>r.2=0/\∃ many:Nat,H8 N l r.1 many):=by
 unfold jB;refine Gd.bind_eq (Dm N hN l hl I) (Gd.ite (λh=>by simp at h) (λ_=>Gd.eN (GM N hN l hl I) (λr J=>Gd.ret ⟨rfl,J⟩)))
theorem Mk (N:Nat) (hN:N<=24) (l:List Int) (hl:Bb N l):∃ m:Nat,m<=N/\Bb m l/\(∀ c:Nat,Bb c l->m<=c) /\
  ∀ {R:Type} (I:Nat->Int->Int->(Int->Option R)->Option R) (Z:∀ k y n nx,I k y n nx=nx (max n (i64.wrap (y+1)))) (K:Int->Option R),dM I K 0 l 0=K (m:Int):=by
 have key:∀ (ys pre:List Int) (m:Nat),l=pre++ys->m<=N->Bb m pre->(∀ c:Nat,Bb c pre->m<=c)->∃ Y:Nat,Y<=N/\Bb Y l/\(∀ c:Nat,Bb c l->Y<=c) /\
   ∀ {R:Type} (I:Nat->Int->Int->(Int->Option R)->Option R) (Z:∀ k y n nx,I k y n nx=nx (max n (i64.wrap (y+1)))) (K:Int->Option R) (i:Nat),dM I K i ys (m:Int)=K (Y:Int):=by
  intro ys
  induction ys with
  | nil=>
   intro pre m e hm hp J;rw [RR] at e; subst e
   exact ⟨m,hm,hp,J,λ_ _ _ _=>rfl⟩
  | cons y ys ih=>
   intro pre m e hm hp J;have hy:=hl y (by rw [e]; exact Sc _ (Q9 ..))
   have hw:i64.wrap (y+1)=y+1:=bJ ⟨by omega,by omega⟩
   have hmx:max (m:Int) (y+1)=((max m (y+1).toNat:Nat):Int):=by omega
   obtain ⟨Y,h1,h2,h3,h4⟩:=ih (pre++[y]) (max m (y+1).toNat) (by rw [e]; simp) (by omega) (λa O=>by
    rcases Rh.1 O with O | O
    ·have:=hp a O; omega
    ·simp at O; subst O; omega) (λc hc=>by
     have c1:=J c (λa O=>hc a (Q6 _ O));have c2:=hc y (Sc _ (List.mem_singleton_self _));omega)
   refine ⟨Y,h1,h2,h3,λ{R} I Z K i=>?_⟩;show I i y (m:Int) (λs=>dM I K (i+1) ys s)=_;rw [Z,hw,hmx];exact h4 I Z K (i+1)
 obtain ⟨Y,h1,h2,h3,h4⟩:=key l [] 0 rfl (by omega) (by intro a O; simp at O) (λc _=>by omega)
 exact ⟨Y,h1,h2,h3,λ{R} I Z K=>h4 I Z K 0⟩
def pos (n:Net) (s:BA):Nat:=((bD n.bH s).getD 0).toNat
theorem Vb {n:Net}{s:BA} (h:s ∈ n.bH):bD n.bH s=some (pos n s:Int)/\pos n s<n.bH.length:=by
 obtain ⟨k,I,hl,_⟩:=zm h;unfold pos;rw [I];exact ⟨rfl,hl⟩
def JP (n:Net) (I:List Int) (b:aR):Ed:=⟨I.getD (pos n b.pO) 0,I.getD (pos n b.To) 0⟩
theorem JQ {n:Net} (hn:pF n) {I:List Int}{m:Nat} (hbl:I.length=n.bH.length) (hm:Bb m I):EL m (n.aK.map (JP n I)):=λe he=>by
 obtain ⟨b,Z,rfl⟩:=RY.1 he;obtain ⟨O,Y⟩:=hn.br b Z;have p1:=(Vb O).2;have p2:=(Vb Y).2;have q:∀ k,k<I.length->0<=I.getD k 0/\I.getD k 0<m:=λk J=>by
  rw [RM,Q4 J];exact hm _ (RI J)
 exact ⟨(q _ (by omega)).1,(q _ (by omega)).2,(q _ (by omega)).1,(q _ (by omega)).2⟩
theorem L4 {n:Net} (hn:pF n) {I:List Int} (Y:oB n=some I) (hbl:I.length=n.bH.length) {m:Nat} (Z:m<=24) (hm:Bb m I)
  (O:∀ {R:Type} (J:Nat->Int->Int->(Int->Option R)->Option R) (hb:∀ k y n nx,J k y n nx=nx (max n (i64.wrap (y+1)))) (K:Int->Option R),dM J K 0 I 0=K (m:Int)):
  Gd (dY n) (λt=>t.ql=I/\∃ c:Nat,H8 m (n.aK.map (JP n I)) t.bR c):=by
 have l3:=hn.l3;unfold dY;refine Gd.bind_eq Y ?_;rw [O _ (λk y n nx=>by unfold s6; rfl)]
 refine Gd.seen (λpre out=>out=pre.map (JP n I)) ?_ ?_ _ rfl
 ·rintro i y out nn pre hpre rfl hnx
  obtain ⟨hpl,hyl,_⟩:=xu hpre;obtain ⟨h1,h2⟩:=hn.br y hyl;obtain ⟨p1,p2⟩:=Vb h1;obtain ⟨q1,q2⟩:=Vb h2;have g:∀ k (hk:k<I.length),I[k]=I.getD k 0:=λk hk=>by
   rw [RM,Q4 hk]; rfl
  unfold s7;refine Gd.bind_eq p1 (Gd.gK (by omega) (Gd.bind_eq q1 (Gd.gK (by omega) (Gd.nd ?_ (hnx _ ?_)))))
  ·simp only [S2,Sa]; omega
  ·rw [Ss,g _ (by omega),g _ (by omega)]; rfl
 ·rintro out rfl
  exact Gd.eN (Ge m Z _ (JQ hn hbl hm) (by simp; omega)) (λr ⟨_,hr⟩=>Gd.ret ⟨rfl,hr⟩)
section
variable {ν:Type}
def Ky (l:List (Int×ν)) (k:Int):Option ν:=(l.find? (λp=>p.1=k)).map (·.2)
theorem GG (l:List (Int×ν)) (k:Int):rS l k=Ky l k:=by
 unfold rS Ky;have:∀ (l:List (Int×ν)) (i:Nat),(wY l k i).map (·.2)=(l.find? (λp=>p.1=k)).map (·.2):=by
  intro l
  induction l with
  | nil=>intro i; rfl
  | cons p l ih=>
   obtain ⟨a,v⟩:=p;intro i;simp only [wY,List.find?_cons]
   by_cases e:a=k
   ·simp [e]
   ·simp only [e,Tn,VA]; exact ih (i+1)
 exact this l 0
theorem KJ {l:List (Int×ν)}{k:Int}:∀ {i j:Nat}{v:ν},wY l k i=some (j,v)->∃ q,j=i+q/\l[q]? = some (k,v):=by
 induction l with
 | nil=>intro i j v h; simp [wY] at h
 | cons p l ih=>
  obtain ⟨a,u⟩:=p;intro i j v h;simp only [wY] at h
  split at h
  ·rename_i e
   simp only [Rp,Tw] at h;obtain ⟨rfl,rfl⟩:=h;exact ⟨0,rfl,by rw [e]; rfl⟩
  ·obtain ⟨q,rfl,I⟩:=ih h
   exact ⟨q+1,by omega,I⟩
theorem KI {l:List (Int×ν)}{k:Int}:∀ {i:Nat},wY l k i=none->∀ p ∈ l,p.1≠k:=by
 induction l with
 | nil=>intro i _ p J; cases J
 | cons p l ih=>
  obtain ⟨a,u⟩:=p;intro i h;simp only [wY] at h
  split at h
  ·cases h
  ·rename_i e
   intro q I;rcases RU.1 I with rfl | I
   ·exact e
   ·exact ih h q I
def EG (l:List (Int×ν)):Prop:=(l.map (·.1)).Nodup
theorem EG.find {l:List (Int×ν)} (h:EG l) {k:Int}{v:ν}:rS l k=some v↔(k,v) ∈ l:=by
 rw [GG];unfold Ky EG at *
 induction l with
 | nil=>simp
 | cons p l ih=>
  obtain ⟨a,u⟩:=p;simp only [Te,Uv] at h;rw [List.find?_cons]
  by_cases e:a=k
  ·subst e
   simp only [decide_true,SC,Rp,RU,Tw,true_and];constructor
   ·intro I; exact .inl I.symm
   ·rintro (I | I)
    ·exact I.symm
    ·exact absurd (RY.2 ⟨_,I,rfl⟩) h.1
  ·simp only [e,VA,RU,Tw]
   rw [ih h.2];constructor
   ·exact λI=>.inr I
   ·rintro (⟨I,_⟩ | I)
    ·exact absurd I.symm e
    ·exact I
theorem EG.put {l:List (Int×ν)} (h:EG l) (k:Int) (v:ν):EG (vJ l k v)/\∀ p,p ∈ vJ l k v↔p=(k,v)\/(p ∈ l/\p.1≠k):=by
 unfold vJ;cases hm:wY l k 0 with
 | none=>
  have hno:=KI hm;refine ⟨?_,λp=>?_⟩
  ·show ((l++[(k,v)]).map (·.1)).Nodup
   rw [Ss,R6];refine ⟨h,by simp,?_⟩
   intro a Y b hb;obtain ⟨p,hp,rfl⟩:=RY.1 Y;simp at hb;subst hb;exact hno p hp
  ·simp only [Rh,Rz]
   constructor
   ·rintro (O | O)
    ·exact .inr ⟨O,hno p O⟩
    ·exact .inl O
   ·rintro (O | ⟨O,_⟩)
    ·exact .inr O
    ·exact .inl O
 | some q=>
  obtain ⟨j,u⟩:=q;obtain ⟨i,rfl,hi⟩:=KJ hm;obtain ⟨hil,Z⟩:=Q7.1 hi;simp only [Rv];have hmap:(l.set i (k,v)).map (·.1)=l.map (·.1):=by
   rw [List.map_set];apply CM;rw [RH,hi]; rfl
  refine ⟨by unfold EG; rw [hmap]; exact h,λp=>?_⟩
  have huniq:∀ (a:Nat) (x:Int×ν),l[a]? = some x->x.1=k->a=i:=λa x Y hx=>by
   obtain ⟨J,I⟩:=Q7.1 Y;unfold EG at h;rw [List.nodup_iff_pairwise_ne,Ue] at h;rcases Uc a i with hlt | heq | hgt
   ·exact (h a i (by simpa using J) (by simpa using hil) hlt (by rw [Tk,Tk,I,Z,hx])).elim
   ·exact heq
   ·exact (h i a (by simpa using hil) (by simpa using J) hgt (by rw [Tk,Tk,I,Z,hx])).elim
  constructor
  ·intro hp
   obtain ⟨a,Y,I⟩:=Sm.1 hp;rw [V8] at I
   split at I
   ·exact .inl I.symm
   ·rename_i hne
    have J:a<l.length:=by simpa using Y
    refine .inr ⟨by rw [<- I]; exact RI J,λhk=>?_⟩
    exact hne (huniq a p (by rw [Q4 J,I]) hk).symm
  ·rintro (rfl | ⟨hp,hk⟩)
   ·exact Sm.2 ⟨i,by simpa using hil,by simp⟩
   ·obtain ⟨a,Y,I⟩:=Sm.1 hp
    have hne:i≠a:=λe=>by
     subst e;rw [Z] at I;exact hk (by rw [<- I])
    exact Sm.2 ⟨a,by simpa using Y,by rw [List.getElem_set_ne hne]; exact I⟩
theorem EG.Ht {l:List (Int×ν)} (h:EG l) (k I:Int) (v:ν):rS (vJ l k v) I=if I=k then some v else rS l I:=by
 obtain ⟨J,O⟩:=h.put k v
 split
 ·rename_i e
  rw [J.find,O]; exact .inl (by rw [e])
 ·rename_i e
  cases Z:rS l I with
  | some u=>
   rw [J.find,O];exact .inr ⟨h.find.1 Z,e⟩
  | none=>
   cases hg2:rS (vJ l k v) I with
   | none=>rfl
   | some u=>
    rcases (O _).1 (J.find.1 hg2) with Y | ⟨Y,_⟩
    ·exact absurd (Prod.mk.inj Y).1 e
    ·rw [h.find.2 Y] at Z; cases Z
theorem EG.nil:EG ([]:List (Int×ν)):=by unfold EG; simp
end
structure vF (n:Net) (t:aY):Prop where
 bl:t.ql.length=n.bH.length
 LB:t.bR.length<=24
 bi:Bb t.bR.length t.ql
 comp:∃ c:Nat,H8 t.bR.length (n.aK.map (JP n t.ql)) t.bR c
theorem MO {n:Net} (hn:pF n):∃ t,dY n=some t/\vF n t:=by
 have g1:=hn.l1;obtain ⟨bus,hbus,Z,Y⟩:=JV n hn;obtain ⟨m,hm1,I,_,J⟩:=Mk n.bH.length hn.l1 bus Y;obtain ⟨t,ht,O,c,hc⟩:=L4 hn hbus Z (by omega) I J
 have hl:=hc.len;refine ⟨t,ht,⟨by rw [O]; exact Z,by omega,by rw [O,hl]; exact I,c,?_⟩⟩
 rw [O,hl];exact hc
def fr (I:List Int):List Nat:=(List.range I.length).filter (λi=>(List.range i).any (λj=>decide (I[j]? = I[i]?)))
theorem Gt {I:List Int}{i:Nat}:i ∈ fr I↔i<I.length/\∃ j:Nat,j<i/\I[j]? = I[i]? := by
 unfold fr;simp
theorem Kl (I:List Int):(fr I).Nodup:=List.Pairwise.filter _ List.nodup_range
theorem D5 {I:List Int} (h:I.length<=24):(fr I).length<=23:=by
 have O:(fr I).length<=((List.range I.length).filter (λi=>decide (0<i))).length:=by
  unfold fr;rw [<- List.countP_eq_length_filter,<- List.countP_eq_length_filter];refine List.countP_mono_left (λi _ hi=>?_);simp at hi;obtain ⟨j,Y,_⟩:=hi;simp; omega
 have J:∀ m,((List.range m).filter (λi=>decide (0<i))).length<=m-1:=by
  intro m
  induction m with
  | zero=>simp
  | succ m ih=>
   rw [Uw,TQ,Ro];cases m with
   | zero=>simp
   | succ m=>simp at ih ⊢; omega
 have:=J I.length;omega
def CY (I:List Int) (i:Nat):Nat:=(fr I).getD i 0
theorem D3 {I:List Int}{i:Nat} (h:i<(fr I).length):(fr I)[i]? = some (CY I i):=by
 unfold CY;rw [RM,Q4 h]; rfl
theorem D4 {I:List Int}{i:Nat} (h:i<(fr I).length):CY I i ∈ fr I:=Rg (D3 h)
theorem zI {I:List Int}{i j:Nat} (hi:i<(fr I).length) (Y:j<(fr I).length) (e:CY I i=CY I j):i=j:=by
 have a:=D3 hi;have b:=D3 Y;rw [e] at a;have nd:=Kl I;obtain ⟨_,J⟩:=Q7.1 a;obtain ⟨_,O⟩:=Q7.1 b;exact (List.getElem_inj nd).1 (J.trans O.symm)
theorem O2 (I:List Int):(fr I).map (λx:Nat=>(x:Int))=(List.range (fr I).length).map (λi=>(CY I i:Int)):=by
 apply SM;intro i;rw [RH,RH]
 by_cases h:i<(fr I).length
 ·rw [D3 h,S_ h]; rfl
 ·rw [R4 (by omega),R4 (by simp; omega)]; rfl
def Hl (n:Net) (I:List Int) (b:aR):Rat×Nat×Nat:=(((b.X*b.CW:Int):Rat),(JP n I b).a0.toNat,(JP n I b).a1.toNat)
def AV (n:Net) (I:List Int):List (Rat×Nat×Nat):=n.aK.map (Hl n I)
structure PO (b:aR):Prop where
 x:1<=b.X/\b.X<=10000
 t:500<=b.CW/\b.CW<=1500
 s:-1000<=b.Shift/\b.Shift<=1000
 l:0<=b.tY/\b.tY<=100000
theorem Ip {n:Net} (h:po n) {b:aR} (J:b ∈ n.aK):PO b:=by
 obtain ⟨_,_,_,_,I⟩:=h.vb b J;unfold iK at I
 split at I
 ·omega
 ·rename_i h6
  simp [bL] at h6;exact ⟨by omega,by omega,by omega,by omega⟩
theorem PO.q {b:aR} (h:PO b):500<=b.X*b.CW/\b.X*b.CW<=15000000:=by
 have I:=h.x; have J:=h.t
 have a:1*500<=b.X*b.CW:=Int.mul_le_mul I.1 J.1 (by omega) (by omega)
 have c:b.X*b.CW<=10000*1500:=Int.mul_le_mul I.2 J.2 (by omega) (by omega)
 omega
structure PG (N:Nat) (l:List (Rat×Nat×Nat)):Prop where
 ll:l.length<=24
 el:∀ e ∈ l,e.2.1<N/\e.2.2<N
 q:∀ e ∈ l,∃ z:Int,e.1=(z:Rat)/\500<=z/\z<=15000000
theorem BZ {n:Net} (h:po n) (hn:pF n) {t:aY} (ht:vF n t):PG t.bR.length (AV n t.ql):=by
 refine ⟨by unfold AV; rw [S2]; exact h.l3,λe he=>?_,λe he=>?_⟩
 ·obtain ⟨b,I,rfl⟩:=RY.1 he
  have:=JQ hn ht.bl ht.bi (JP n t.ql b) (RY.2 ⟨b,I,rfl⟩);show (JP n t.ql b).a0.toNat<_/\(JP n t.ql b).a1.toNat<_;omega
 ·obtain ⟨b,I,rfl⟩:=RY.1 he
  exact ⟨_,rfl,(Ip h I).q.1,(Ip h I).q.2⟩
theorem Aa {N:Nat}{l:List (Rat×Nat×Nat)} (h:PG N l) {e:Rat×Nat×Nat} (he:e ∈ l):uO e.1/\500<=e.1/\e.1<=15000000:=by
 obtain ⟨z,I,J,O⟩:=h.q e he;have a:=WO.2 J;have b:=WO.2 O;rw [<- I] at a b;exact ⟨⟨z,I⟩,a,b⟩
abbrev tq:Rat:=((1000000:Int):Rat)
abbrev L_ (F:Nat->Nat) (l:List (Rat×Nat×Nat)):Mt:=gS ((l.map (yP tq)).map (nq F))
theorem Lm:0<tq:=by
 have:((0:Int):Rat)<((1000000:Int):Rat):=Rat.intCast_lt_intCast.2 (by decide)
 simpa using this
theorem KZ {a:Nat}{c:Rat} (I:0<=c) (h:c<=(((2 ^ a:Nat):Int):Rat)):∀ k:Nat,0<=pr k (λ_=>c)/\pr k (λ_=>c)<=(((2 ^ (a*k):Nat):Int):Rat)
 | 0=>by
  refine ⟨by show (0:Rat)<=1; decide,?_⟩
  show (1:Rat)<=_;rw [Wy,WI];exact WS
 | k+1=>by
  obtain ⟨J,O⟩:=KZ I h k;refine ⟨WW J I,?_⟩;show pr k (λ_=>c)*c<=_;have e:a*(k+1)=a*k+a:=Nat.mul_succ a k;rw [e,Wz,R2,WQ];exact qL O h J I
theorem Oq {a b:Nat} (h:a<=32*b):(((2 ^ a:Nat):Int):Rat)<=wq b:=by
 unfold wq;rw [BB];have:2 ^ a<=2 ^ (32*b):=WC (by decide) h
 exact WO.2 (by omega)
theorem NH {a c:Nat}{x:Rat} (I:0<=x) (h:x<=(((2 ^ a:Nat):Int):Rat)) (k:Nat) (J:a*k<=32*c):pr k (λ_=>x)<=wq c:=
 WT (KZ I h k).2 (Oq J)
theorem Hi {N:Nat}{l:List (Rat×Nat×Nat)} (h:PG N l):1<=wE l/\wE l<=wq 18:=by
 have I:=h.ll;refine ⟨BK (λe he=>by have:=Aa h he; grind),?_⟩
 refine Rat.le_trans (Hh (q:=15000000) (λe he=>by have:=Aa h he; constructor <;> grind)) (NH (a:=24) (by decide) ?_ l.length (by omega))
 have:((15000000:Int):Rat)<=(((2 ^ 24:Nat):Int):Rat):=WO.2 (by decide)
 exact this
theorem FI {u:Nat}:∀ {l:List (Rat×Nat×Nat)},(∀ e ∈ l,1<=e.1)->uH u l<=wE l
 | [],_=>WS
 | e::l,h=>by
  have ih:=FI (u:=u) (l:=l) (λe he=>h e (List.mem_cons_of_mem _ he));have I:=h e (List.mem_cons_self ..);have J:=Af (u:=u) (l:=l) (λe he=>h e (List.mem_cons_of_mem _ he));unfold uH wE;refine qL ?_ ih ?_ (by grind)
  ·split <;> grind
  ·split <;> grind
theorem H6 {N:Nat}:∀ {l:List (Rat×Nat×Nat)},(∀ e ∈ l,500<=e.1)->0<=CT (l.map (yP tq))/\CT (l.map (yP tq))<=2000*(((l.length:Nat):Int):Rat)
 | [],_=>⟨WS,by
  show (0:Rat)<=2000*((((0:Nat):Int)):Rat);simp⟩
 | e::l,h=>by
  obtain ⟨a,b⟩:=H6 (N:=N) (l:=l) (λe he=>h e (List.mem_cons_of_mem _ he));have J:=h e (List.mem_cons_self ..);have I:CT ((e::l).map (yP tq))=tq / e.1+CT (l.map (yP tq)):=rfl;have p:0<e.1⁻¹:=Rat.inv_pos.2 (by grind)
  have O:=Rat.mul_inv_cancel e.1 (by grind)
  have Y:=Rat.mul_le_mul_of_nonneg_right J (Rat.le_of_lt p);have t1:tq=1000000:=rfl;have e2:(((e::l).length:Nat):Int)=(((l.length:Nat):Int))+1:=by simp
  rw [I,Rat.div_def,t1,e2,Rat.intCast_add,Rat.intCast_one];constructor <;> grind
theorem GI {N n:Nat}{F:Nat->Nat}{l:List (Rat×Nat×Nat)} (h:PG N l) (hn:n<=23) (J:∀ i j,i<n->j<n->F i=F j->i=j):
  Nb n (L_ F l) (λi=>uH (F i) l) (λi c=>uH (F i) l*gS ((l.map (yP tq)).map (pj F)) i c+dl i c) (λi=>uH (F i) l*(4*CT (l.map (yP tq)))+1):=by
 have Z:=h.ll;have I:∀ e ∈ l,1<=e.1:=λe he=>by have:=Aa h he; grind
 have ws:=H6 (N:=N) (λe he=>(Aa h he).2.1);have Y:(((l.length:Nat):Int):Rat)<=24:=WO.2 (show ((l.length:Nat):Int)<=24 by omega)
 refine ⟨Mp J ⟨_,rfl⟩ Lm (λe he=>⟨(Aa h he).1,I e he⟩),?_,λi _=>Rat.le_trans (FI I) (Hi h).2⟩;have a:=Pa (n:=n) (F:=F) (l:=l) (s:=4*CT (l.map (yP tq))) (w:=192000) J I (by grind) (by grind)
 have b:=Hi h;have c:pr n (λ_=>(192000:Rat)+1)<=wq 13:=NH (a:=18) (by grind) (by
  have:((192001:Int):Rat)<=(((2 ^ 18:Nat):Int):Rat):=WO.2 (by decide)
  have e:(192000:Rat)+1=((192001:Int):Rat):=by grind
  rw [e]; exact this) n (by omega)
 have d:wE l*wE l<=wq 36:=by
  rw [<- wC 18 18];exact qL b.2 b.2 (by grind) (by grind)
 have O:0<=pr n (λ_=>(192000:Rat)+1):=mL (λ_ _=>by grind)
 have f:wE l*wE l*pr n (λ_=>(192000:Rat)+1)<=wq 49:=by
  rw [<- wC 36 13];exact qL d c (Rat.mul_nonneg (by grind) (by grind)) O
 exact WT a (WT f (yD (by omega)))
theorem Kj (I:List Int):∀ i:Nat,∃ r,r<=i/\I[r]? = I[i]? /\ ∀ j,j<r->I[j]? ≠ I[i]? := by
 intro i
 induction i using Nat.strongRecOn with
 | ind i ih=>
  by_cases h:∃ j,j<i/\I[j]? = I[i]?
  ·obtain ⟨j,J,e⟩:=h
   obtain ⟨r,h1,O,Y⟩:=ih j J;exact ⟨r,by omega,O.trans e,λq hq Z=>Y q hq (Z.trans e.symm)⟩
  ·exact ⟨i,Rq _,rfl,λj J e=>h ⟨j,J,e⟩⟩
theorem LS {n:Net}{t:aY}{u v:Int} (h:xT (n.aK.map (JP n t.ql)) u v):Lk ((AV n t.ql).map (yP tq)) u.toNat v.toNat:=by
 induction h with
 | refl=>exact .refl
 | snoc _ I ih=>
  obtain ⟨e,he,O⟩:=I;obtain ⟨b,J,rfl⟩:=RY.1 he;have hm:yP tq (Hl n t.ql b) ∈ (AV n t.ql).map (yP tq):=RY.2 ⟨_,RY.2 ⟨b,J,rfl⟩,rfl⟩;rcases O with ⟨rfl,rfl⟩ | ⟨rfl,rfl⟩
  ·exact .step ih (.inl hm)
  ·exact .step ih (.inr hm)
theorem GJ {n:Net} (h:po n) (hn:pF n) {t:aY} (ht:vF n t):Pd (fr t.bR).length (L_ (CY t.bR) (AV n t.ql)):=by
 have hE:=BZ h hn ht;obtain ⟨c,hc⟩:=ht.comp;refine Pe (λe he=>?_) (λi j hi Y e=>zI hi Y e) (λi hi=>?_)
 ·obtain ⟨d,hd,rfl⟩:=RY.1 he
  have:=Aa hE hd;show 0<tq / d.1;rw [Rat.div_def];exact Rat.mul_pos Lm (Rat.inv_pos.2 (by grind))
 ·have hm:=Gt.1 (D4 hi)
  obtain ⟨r,h1,O,h3⟩:=Kj t.bR (CY t.bR i);refine ⟨r,λj Y e=>?_,?_⟩
  ·have J:=Gt.1 (D4 Y)
   rw [e] at J;obtain ⟨_,q,hq,Z⟩:=J;exact h3 q hq (Z.trans O)
  ·have hl:∀ (a:Nat),a<t.bR.length->lb t.bR (a:Int)=t.bR[a]! := λa ha=>by
    rw [Cf ha]; simp [ha]
   have I:xT (n.aK.map (JP n t.ql)) ((CY t.bR i:Nat):Int) ((r:Nat):Int):=by
    refine (hc.iff _ _ (by omega) (by omega) (by omega) (by omega)).1 ?_
    have hr:r<t.bR.length:=by omega
    rw [Cf hm.1,Cf hr];rw [Q4 hr,Q4 hm.1] at O;exact (Q8 O).symm
   have:=LS I;simpa using this
structure Md (n:Net) (t:aY) (M:aX):Prop where
 top:M.wh=t
 md:Ju M (fr t.bR).length t.bR.length (CY t.bR) (AV n t.ql) tq
 DT:M.C.length=n.aK.length
 c:∀ (k:Nat) (y:LR),M.C[k]? = some y->∃ b,n.aK[k]? = some b/\o9 y/\RL y 4/\rv y=(tq / ((b.X*b.CW:Int):Rat))*(((0-b.Shift:Int):Rat) / ((1000:Int):Rat))
 inv:Nq M.ry (fr t.bR).length (L_ (CY t.bR) (AV n t.ql))
theorem HY {α Y:Type}{P:α->Y->Prop}{l:List α}{m:List Y} (hl:l.length=m.length) (h:∀ (k:Nat) (y:α),l[k]? = some y->∃ b,m[k]? = some b/\P y b) {x:α}{b:Y} (hx:P x b):∀ (k:Nat) (y:α),(l++[x])[k]? = some y->∃ J,(m++[b])[k]? = some J/\P y J:=by
 intro k y I
 by_cases e:k<l.length
 ·rw [Sk e] at I
  obtain ⟨J,Z,h2⟩:=h k y I;exact ⟨J,by rw [Sk (by omega)]; exact Z,h2⟩
 ·have O:=(Q7.1 I).1
  rw [Ro,Sa] at O;obtain rfl:k=l.length:=by omega
  rw [RN (Rq _),Sq] at I;obtain rfl:=Q8 I;exact ⟨b,by rw [hl,RN (Rq _),Sq]; rfl,hx⟩
theorem F_ {n:Net} (hn:pF n) {t:aY} (ht:vF n t) {k:Nat} (J:k<n.bH.length):∃ v:Nat,t.ql[k]? = some (v:Int)/\v=(t.ql.getD k 0).toNat:=by
 have I:k<t.ql.length:=by rw [ht.bl]; exact J
 have O:=ht.bi _ (RI I);refine ⟨(t.ql[k]).toNat,?_,?_⟩
 ·rw [Q4 I]; congr 1; omega
 ·rw [RM,Q4 I]; rfl
theorem KL {n:Net} (h:po n) (hn:pF n) {t:aY} (hg:dY n=some t) (ht:vF n t):Gd (wK n) (λo=>∃ M,o=some M/\Md n t M):=by
 have hE:=BZ h hn ht;have hll:=h.l3;have hN:=ht.LB;unfold wK;refine Gd.bind_eq hg ?_;refine Gd.dM (λk ys s=>∃ pre,n.aK=pre++ys/\pre.length=k/\s.1=pre.map (λb=>((Hl n t.ql b).2.1:Int))/\s.2.1=pre.map (λb=>((Hl n t.ql b).2.2:Int))/\s.2.2.1.length=pre.length/\s.2.2.2.length=pre.length /\
  (∀ (k:Nat) (y:LR),s.2.2.1[k]? = some y->∃ b,pre[k]? = some b/\(o9 y/\RL y 2/\rv y=tq / ((b.X*b.CW:Int):Rat))) /\
  (∀ (k:Nat) (y:LR),s.2.2.2[k]? = some y->∃ b,pre[k]? = some b/\(o9 y/\RL y 4/\rv y=(tq / ((b.X*b.CW:Int):Rat))*(((0-b.Shift:Int):Rat) / ((1000:Int):Rat))))) ?_ ?_ n.aK 0 _
  ⟨[],rfl,rfl,rfl,rfl,rfl,rfl,λk y hy=>by simp at hy,λk y hy=>by simp at hy⟩
 ·rintro k b ys ⟨l1,l2,l3,l4⟩ nx ⟨pre,J,hpk,e1,e2,e3,e4,hB,hC⟩ hnx
  simp only at e1 e2 e3 e4 hB hC;subst e1 e2;have hb:b ∈ n.aK:=by rw [J]; simp
  have hkl:pre.length<24:=by
   have:n.aK.length=pre.length+(ys.length+1):=by rw [J]; simp
   omega
  obtain ⟨_,m1,m2,_⟩:=h.vb b hb;obtain ⟨p1,p2⟩:=Vb m1;obtain ⟨q1,q2⟩:=Vb m2;obtain ⟨u,u1,u2⟩:=F_ hn ht p2;obtain ⟨v,v1,v2⟩:=F_ hn ht q2;have V:=Ip h hb;have hq:=V.q;have hx:=V.x; have htp:=V.t; have hs:=V.s
  unfold xg;have w1:i64.wrap (b.X*b.CW)=b.X*b.CW:=bJ ⟨by omega,by omega⟩
  have w2:i64.wrap (0-b.Shift)=0-b.Shift:=bJ ⟨by omega,by omega⟩
  rw [w1,w2];refine Gd.bind_eq p1 (Gd.ix (by omega) (by rw [Q5]; exact u1) (Gd.nd (by simp; omega) (Gd.bind_eq q1 (Gd.ix (by omega) (by rw [Q5]; exact v1) (Gd.nd (by simp; omega) ?_)))))
  refine Gd.eN (Hs (by omega) (by omega) (by omega)) (λs Y=>Gd.nd (by simp; omega) (Gd.eN (Hs (by omega) (by omega) (by omega)) (λf hf=>Gd.eN (Ac Y.1 hf.1 Y.2.1 hf.2.1 (by omega)) (λc hc=>Gd.nd (by simp; omega) ?_))))
  refine hnx _ ⟨pre++[b],by rw [J]; simp,by simp [hpk],?_,?_,by simp [e3],by simp [e4],?_,?_⟩
  ·simp only [Ss,Te,U6]
   rw [u2]; rfl
  ·simp only [Ss,Te,U6]
   rw [v2]; rfl
  ·exact HY e3 hB ⟨Y.1,Y.2.1,Y.2.2⟩
  ·exact HY e4 hC ⟨hc.1,hc.2.1,by rw [hc.2.2,Y.2.2,hf.2.2]⟩
 ·rintro k ⟨l1,l2,l3,l4⟩ ⟨pre,J,hpk,e1,e2,e3,e4,hB,hC⟩
  simp only at e1 e2 e3 e4 hB hC;rw [RR] at J;subst J;subst e1 e2;refine Gd.dM (λi ys s=>∃ pre,t.bR=pre++ys/\pre.length=i/\EG s.1/\(∀ k:Int,(rS s.1 k).getD false=true↔k ∈ pre) /\
   s.2=((List.range i).filter (λi=>(List.range i).any (λj=>decide (t.bR[j]? = t.bR[i]?)))).map (λx:Nat=>(x:Int))) ?_ ?_ t.bR 0 _
   ⟨[],rfl,rfl,EG.nil,λk=>by simp [rS,wY],rfl⟩
  ·rintro i y ys ⟨seen,free⟩ nx ⟨pre,J,Z,hk,hs,e⟩ hnx
   simp only at hk hs e;subst e;have hi:t.bR[i]? = some y:=by rw [J,RN (by omega),Z,Sq]; rfl
   have hil:=(Q7.1 hi).1;have hmem:y ∈ pre↔(List.range i).any (λj=>decide (t.bR[j]? = t.bR[i]?))=true:=by
    rw [List.any_eq_true];constructor
    ·intro hy
     obtain ⟨j,hj,he⟩:=Sm.1 hy;refine ⟨j,R5.2 (by omega),?_⟩
     rw [hi,J,Sk hj,Q4 hj,he]; simp
    ·rintro ⟨j,hj,he⟩
     have hj:=R5.1 hj;have he:=Q_ he;rw [hi,J,Sk (by omega)] at he
     exact Rg he
   have hfl:((List.range i).filter (λi=>(List.range i).any (λj=>decide (t.bR[j]? = t.bR[i]?)))).length<=i:=by
    have:=Wb (λi=>(List.range i).any (λj=>decide (t.bR[j]? = t.bR[i]?))) (List.range i);simpa using this
   have O:EG (vJ seen y true)/\∀ k:Int,(rS (vJ seen y true) k).getD false=true↔k ∈ pre++[y]:=by
    refine ⟨(hk.put y true).1,λk=>?_⟩;rw [hk.Ht,Rh,Rz]
    split
    ·rename_i e; simp [e]
    ·rename_i e; rw [hs k]; simp [e]
   unfold xh;refine Gd.ite (λhc=>?_) (λhc=>?_)
   ·have hc2:=hmem.1 ((hs y).1 hc)
    unfold rA;refine Gd.nd (by simp only [S2,Sa]; omega) (hnx _ ⟨pre++[y],by rw [J]; simp,by simp [Z],O.1,O.2,?_⟩)
    simp only;rw [Uw,TQ,Ss,V7,Rb hc2]
    rfl
   ·have hc2:¬ (List.range i).any (λj=>decide (t.bR[j]? = t.bR[i]?))=true:=λhh=>by
     have:=(hs y).2 (hmem.2 hh);rw [this] at hc; cases hc
    unfold rA;refine hnx _ ⟨pre++[y],by rw [J]; simp,by simp [Z],O.1,O.2,?_⟩
    simp only;rw [Uw,TQ,Ss,V7,Ra hc2];simp
  ·rintro i ⟨seen,free⟩ ⟨pre,J,Z,hk,hs,e⟩
   simp only at e;rw [RR] at J;subst e;have hi:i=t.bR.length:=by rw [<- Z,<- J]
   subst hi;have I:Ju (aX.mk t (n.aK.map (λb=>((Hl n t.ql b).2.1:Int))) (n.aK.map (λb=>((Hl n t.ql b).2.2:Int))) l3 l4 ((fr t.bR).map (λx:Nat=>(x:Int))) []) (fr t.bR).length t.bR.length (CY t.bR) (AV n t.ql) tq:=by
    refine ⟨D5 hN,O2 _,λi j hi hj e=>zI hi hj e,λi hi=>(Gt.1 (D4 hi)).1,hN,hE.ll,hE.el,?_,?_,by show l3.length=_; rw [e3]; simp [AV],λk y hy=>?_⟩
    ·simp [AV]
    ·simp [AV]
    ·obtain ⟨b,hb,y1,y2,y3⟩:=hB k y hy
     exact ⟨Hl n t.ql b,by unfold AV; rw [RH,hb]; rfl,y1,y2,y3⟩
   have hinv:=IQ I (GJ h hn ht) (GI hE (D5 hN) (λi j hi hj e=>zI hi hj e));refine Gd.eN hinv ?_;rintro _ ⟨rows,rfl,hI⟩;refine Gd.ret ⟨_,rfl,⟨rfl,?_,e4,hC,hI⟩⟩;exact ⟨I.hn,I.free,I.inj,I.lt,I.hN,I.ll,I.el,I.fr,I.to,I.bl,I.b⟩
def NL (l:List LR) (N:Nat) (P:Nat->LR->Prop):Prop:=l.length=N/\∀ (b:Nat) (y:LR),l[b]? = some y->P b y
theorem NL.mono {l:List LR}{N:Nat}{P P':Nat->LR->Prop} (h:NL l N P) (k:∀ b y,b<N->P b y->P' b y):NL l N P':=
 ⟨h.1,λb y I=>k b y (by rw [<- h.1]; exact (Q7.1 I).1) (h.2 b y I)⟩
theorem NL.set {l:List LR}{N:Nat}{P:Nat->LR->Prop} (h:NL l N P) {b:Nat}{y:LR} (O:P b y):NL (l.set b y) N P:=by
 refine ⟨by rw [Sr]; exact h.1,λJ Y I=>?_⟩
 by_cases e:b=J
 ·subst e
  have hl:b<l.length:=by
   have:=(Q7.1 I).1
   rwa [Sr] at this
  rw [RF hl] at I;obtain rfl:=Q8 I;exact O
 ·rw [Ry e] at I
  exact h.2 J Y I
theorem NL.snoc {l:List LR}{N:Nat}{P:Nat->LR->Prop} (h:NL l N P) {y:LR} (O:P N y):NL (l++[y]) (N+1) P:=by
 refine ⟨by simp [h.1],λb Y I=>?_⟩
 by_cases e:b<l.length
 ·rw [Sk e] at I
  exact h.2 b Y I
 ·have J:=(Q7.1 I).1
  rw [Ro,Sa] at J;obtain rfl:b=l.length:=by omega
  rw [RN (Rq _),Sq] at I;obtain rfl:=Q8 I;rw [h.1]; exact O
theorem NL.get {R:Type}{Q:R->Prop}{l:List LR}{N:Nat}{P:Nat->LR->Prop} (h:NL l N P) {b:Nat} (I:b<N) {f:LR->Option R} (J:∀ y,P b y->Gd (f y) Q):Gd (idx l (b:Int) f) Q:=by
 have hl:b<l.length:=by rw [h.1]; exact I
 exact Gd.gK hl (J _ (h.2 b _ (Q4 hl)))
theorem MM {n:Net}{t:aY}{M:aX} (hM:Md n t M) (ht:vF n t) (hn:pF n) {p:List Int} (hp:p.length=n.bH.length) (hb:∀ z ∈ p,-100000<=z/\z<=100000):
  Gd (oF M p) (λr=>NL r t.bR.length (λ_ y=>o9 y/\RL y 2/\∃ z:Int,rv y=(z:Rat)/\-2400000<=z/\z<=2400000)):=by
 have h24:=hn.l1;have hN:=ht.LB;unfold oF fM;rw [hM.top];refine Gd.nd (by omega) ?_
 rw [Q5];refine Gd.dM (λi ys s=>∃ pre,p=pre++ys/\pre.length=i/\s.length=t.bR.length/\∀ z ∈ s,-100000*(i:Int)<=z/\z<=100000*(i:Int)) ?_ ?_ p 0 _ ⟨[],rfl,rfl,by simp,λz hz=>by
  have:=V6 hz;omega⟩
 ·rintro i y ys s nx ⟨pre,I,Y,hsl,hs⟩ O
  have hi:i<n.bH.length:=by rw [<- hp,I]; simp; omega
  have hy:=hb y (by rw [I]; simp)
  obtain ⟨v,v1,v2⟩:=F_ hn ht hi;have hv:v<t.bR.length:=by
   have:=ht.bi _ (Rg v1);omega
  have hvs:v<s.length:=by omega
  unfold ra;rw [hM.top];refine Gd.ix (by omega) (by rw [Q5]; exact v1) (Gd.gK hvs (Gd.gK hvs ?_))
  have hz:=hs _ (RI hvs);have hw:i64.wrap (s[v]+y)=s[v]+y:=bJ ⟨by omega,by omega⟩
  rw [hw,Q5];refine O _ ⟨pre++[y],by rw [I]; simp,by simp [Y],by rw [Sr]; exact hsl,λz hz'=>?_⟩
  rcases We hz' with h1 | h1
  ·have:=hs z h1; omega
  ·subst h1; omega
 ·rintro i s ⟨pre,I,Y,hsl,hs⟩
  rw [RR] at I;have hil:i<=24:=by rw [<- Y,<- I,hp]; exact h24
  refine Gd.dM (λk ys r=>∃ pre,s=pre++ys/\pre.length=k/\NL r k (λ_ y=>o9 y/\RL y 2/\∃ z:Int,rv y=(z:Rat)/\-2400000<=z/\z<=2400000)) ?_ ?_ s 0 _ ⟨[],rfl,rfl,rfl,λb y hb=>by simp at hb⟩
  ·rintro k y ys r nx ⟨pre,J,Z,hr⟩ O
   have hy:=hs y (by rw [J]; simp)
   have hkl:s.length=pre.length+(ys.length+1):=by rw [J]; simp
   have hrl:=hr.1;unfold re;refine Gd.eN (vE (by omega)) (λw hw=>Gd.nd (by simp; omega) (O _ ⟨pre++[y],by rw [J]; simp,by simp [Z],hr.snoc ⟨hw.1,hw.2.1,y,hw.2.2,by omega,by omega⟩⟩))
  ·rintro k r ⟨pre,J,Z,hr⟩
   rw [RR] at J;have hkn:k=t.bR.length:=by rw [<- Z,<- J,hsl]
   subst hkn;exact Gd.ret hr
theorem NZ {a b:List LR}{n W:Nat}{A B:Nat->Rat} (hn:n<=24) (hW:W<=6000) (ha:NL a n (λj y=>o9 y/\RL y W/\rv y=A j)) (hb:NL b n (λj y=>o9 y/\RL y W/\rv y=B j)):
  Gd (uf a b) (λr=>o9 r/\rv r=sm n (λj=>A j*B j)):=by
 unfold uf;refine Gd.eN (vE (n:=0) (by omega)) (λz hz=>?_)
 rw [ha.1,Q5];refine Gd.jW (λm k s=>k+m=n/\∃ r:LR,s=(r.N.minus,r.N.words,r.D.minus,r.D.words)/\o9 r/\RL r (2+(2*W+1)*k)/\rv r=sm k (λj=>A j*B j)) ?_ ?_ n 0 _ ⟨by omega,z,rfl,hz.1,hz.2.1,by rw [hz.2.2]; rfl⟩
 ·rintro m k _ nx ⟨hk,r,rfl,hr,J,hv⟩ Z
  have I:k<n:=by omega
  have hbig:(2*W+1)*k<=(2*W+1)*23:=Wx _ (by omega)
  have hsucc:(2*W+1)*(k+1)=(2*W+1)*k+(2*W+1):=Nat.mul_succ _ _;unfold vf;refine ha.get I (λy hy=>?_);have skip:A k*B k=0->Gd (mo nx r.N.minus r.N.words r.D.minus r.D.words) (λr=>o9 r/\rv r=sm n (λj=>A j*B j)):=λh0=>by
   unfold mo;refine Z _ ⟨by omega,r,rfl,hr,J.mono (by omega),?_⟩
   rw [hv];show _=sm k (λj=>A j*B j)+A k*B k;rw [h0]; grind
  rw [yu hy.1,hy.2.2];refine Gd.ite (λh=>skip (by rw [of_decide_eq_true h]; grind)) (λ_=>hb.get I (λu hu=>?_))
  rw [yu hu.1,hu.2.2];refine Gd.ite (λ_=>ha.get I (λy2 Y=>hb.get I (λu2 O=>?_))) (λh=>skip (by
   have h1:decide (B k=0)=true:=by simpa using h
   rw [of_decide_eq_true h1]; grind))
  refine Gd.eN (Ac Y.1 O.1 Y.2.1 O.2.1 (by omega)) (λc hc=>Gd.eN (xv (a:=⟨⟨r.N.minus,r.N.words⟩,⟨r.D.minus,r.D.words⟩⟩) hr hc.1 J hc.2.1 (by omega)) (λd hd=>?_))
  unfold mo;refine Z _ ⟨by omega,d,rfl,hd.1,hd.2.1.mono (by omega),?_⟩
  rw [hd.2.2,hc.2.2,Y.2.2,O.2.2];show rv r+_=sm k (λj=>A j*B j)+A k*B k;rw [hv]
 ·rintro k _ ⟨hk,r,rfl,hr,J,hv⟩
  obtain rfl:k=n:=by omega
  exact Gd.ret ⟨hr,hv⟩
theorem LO {q s:Int} (hq:500<=q) (hs:-1000<=s/\s<=1000):-2000<=(tq / (q:Rat))*((s:Rat) / ((1000:Int):Rat))/\(tq / (q:Rat))*((s:Rat) / ((1000:Int):Rat))<=2000/\(tq / (q:Rat))*((s:Rat) / ((1000:Int):Rat))=(((1000*s:Int):Rat)) / (q:Rat):=by
 have J:((500:Int):Rat)<=(q:Rat):=WO.2 hq;have Z:((-1000:Int):Rat)<=(s:Rat):=WO.2 hs.1;have h3:(s:Rat)<=((1000:Int):Rat):=WO.2 hs.2;have O:((500:Int):Rat)=500:=rfl;have e2:((-1000:Int):Rat) = -1000:=by rw [WR]; rfl
 have e3:((1000:Int):Rat)=1000:=rfl;have Y:tq=1000000:=rfl;rw [O] at J; rw [e2] at Z; rw [e3] at h3 ⊢
 have p:0<((q:Rat))⁻¹:=Rat.inv_pos.2 (by grind)
 have i1:=Rat.mul_inv_cancel (q:Rat) (by grind)
 have i2:=Rat.mul_le_mul_of_nonneg_right J (Rat.le_of_lt p);have i3:(q:Rat)⁻¹<=1 / 500:=by grind
 have I:(tq / (q:Rat))*((s:Rat) / 1000)=(1000*(s:Rat))*(q:Rat)⁻¹:=by rw [Y,Rat.div_def,Rat.div_def]; grind
 have m:=BI (x:=1000*(s:Rat)) (y:=(q:Rat)⁻¹) (a:=1000000) (b:=1 / 500) (by grind) (by grind) (by grind) i3
 refine ⟨by rw [I]; grind,by rw [I]; grind,?_⟩
 rw [I,WQ,e3,WN]
def Lg (l:List (Rat×Nat×Nat)) (W:Nat) (C:Rat) (b:Nat) (y:LR):Prop:=o9 y/\RL y W/\uO (uH b l*rv y)/\-C<=rv y/\rv y<=C
theorem Lg.mono {l:List (Rat×Nat×Nat)}{W J:Nat}{C I:Rat}{b:Nat}{y:LR} (h:Lg l W C b y) (O:W<=J) (Y:C<=I):Lg l J I b y:=
 ⟨h.1,h.2.1.mono O,h.2.2.1,by have:=h.2.2.2.1; grind,by have:=h.2.2.2.2; grind⟩
theorem Hv {a:Rat} (h:uO a):uO (-a):=by
 obtain ⟨z,rfl⟩:=h;exact ⟨-z,by rw [WR]⟩
theorem Lg.sub {l:List (Rat×Nat×Nat)}{W:Nat}{C:Rat}{b:Nat}{y c:LR} (h:Lg l W C b y) (Z:Lg l 4 2000 b c) (hW:W<=1000):Gd (jK y c) (Lg l (W+5) (C+2000) b):=by
 obtain ⟨a1,a2,a3,a4,a5⟩:=h;obtain ⟨J,O,Y,c4,c5⟩:=Z;refine (yC a1 J a2 O (by omega)).mono (λr I=>⟨I.1,I.2.1.mono (by omega),?_,?_,?_⟩)
 ·rw [I.2.2]
  have e:uH b l*(rv y-rv c)=uH b l*rv y+-(uH b l*rv c):=by grind
  rw [e]; exact zJ a3 (Hv Y)
 ·rw [I.2.2]; grind
 ·rw [I.2.2]; grind
theorem Lg.add {l:List (Rat×Nat×Nat)}{W:Nat}{C:Rat}{b:Nat}{y c:LR} (h:Lg l W C b y) (Z:Lg l 4 2000 b c) (hW:W<=1000):Gd (gW y c) (Lg l (W+5) (C+2000) b):=by
 obtain ⟨a1,a2,a3,a4,a5⟩:=h;obtain ⟨J,O,Y,c4,c5⟩:=Z;refine (xv a1 J a2 O (by omega)).mono (λr I=>⟨I.1,I.2.1.mono (by omega),?_,?_,?_⟩)
 ·rw [I.2.2]
  have e:uH b l*(rv y+rv c)=uH b l*rv y+uH b l*rv c:=by grind
  rw [e]; exact zJ a3 Y
 ·rw [I.2.2]; grind
 ·rw [I.2.2]; grind
theorem KH {n:Net}{t:aY}{M:aX} (I:Md n t M) {k:Nat}{b:aR} (J:n.aK[k]? = some b):
  M.pO[k]? = some ((Hl n t.ql b).2.1:Int)/\M.To[k]? = some ((Hl n t.ql b).2.2:Int)/\(AV n t.ql)[k]? = some (Hl n t.ql b):=by
 have e:(AV n t.ql)[k]? = some (Hl n t.ql b):=by unfold AV; rw [RH,J]; rfl
 refine ⟨?_,?_,e⟩
 ·rw [I.md.fr]; exact DR (λe:Rat×Nat×Nat=>(e.2.1:Int)) e
 ·rw [I.md.to]; exact DR (λe:Rat×Nat×Nat=>(e.2.2:Int)) e
theorem PX {n:Net}{t:aY}{M:aX} (h:po n) (hn:pF n) (hM:Md n t M) (ht:vF n t) {k:Nat}{c:LR} (hc:M.C[k]? = some c):
  ∃ b,n.aK[k]? = some b/\Lg (AV n t.ql) 4 2000 (Hl n t.ql b).2.1 c/\Lg (AV n t.ql) 4 2000 (Hl n t.ql b).2.2 c:=by
 obtain ⟨b,J,O,Y,c3⟩:=hM.c k c hc;have V:=Ip h (Rg J);have Z:=BZ h hn ht;obtain ⟨_,_,e⟩:=KH hM J;have hm:=Rg e;have hs:=V.s;obtain ⟨d1,d2,d3⟩:=LO (q:=b.X*b.CW) (s:=0-b.Shift) V.q.1 (by omega)
 rw [<- c3] at d1 d2 d3;have I:=λ(u:Nat) hu=>Ey (u:=u) (l:=AV n t.ql) (λe he=>⟨(Aa Z he).1,by have:=(Aa Z he).2.1; grind⟩) _ hm hu (((1000*(0-b.Shift):Int)):Rat) ⟨_,rfl⟩
 refine ⟨b,J,⟨O,Y,?_,d1,d2⟩,⟨O,Y,?_,d1,d2⟩⟩
 ·rw [d3]; exact I _ (.inl rfl)
 ·rw [d3]; exact I _ (.inr rfl)
theorem Aq (k:Nat):(((k+1:Nat):Int):Rat)=((k:Int):Rat)+1:=by rw [VX,Rat.intCast_add]; rfl
theorem Mf {n:Net}{t:aY}{M:aX} (h:po n) (hn:pF n) (hM:Md n t M) (ht:vF n t) {p:List LR}
  (hp:NL p t.bR.length (λ_ y=>o9 y/\RL y 2/\∃ z:Int,rv y=(z:Rat)/\-2400000<=z/\z<=2400000)) {Q:List LR->Prop}{K:List LR->Option (List LR)} (hK:∀ s,NL s t.bR.length (Lg (AV n t.ql) 300 2500000)->Gd (K s) Q):
  Gd (dM (λk y s n=>ny M k y s n) K 0 M.C p) Q:=by
 have hE:=BZ h hn ht;have hcl:=hM.DT;have h24:=h.l3;refine Gd.dM (λk ys s=>∃ pre,M.C=pre++ys/\pre.length=k/\NL s t.bR.length (Lg (AV n t.ql) (2+10*k) (2400000+4000*((k:Int):Rat)))) ?_ ?_ M.C 0 p ⟨[],rfl,rfl,hp.mono (λb y hb Y=>?_)⟩
 ·rintro k c ys s nx ⟨pre,J,O,hs⟩ hnx
  have hck:M.C[k]? = some c:=by rw [J,RN (by omega),O,Sq]; rfl
  obtain ⟨b,hb,g1,g2⟩:=PX h hn hM ht hck;obtain ⟨f1,f2,f3⟩:=KH hM hb;have I:=hE.el _ (Rg f3);have hk24:k<24:=by have:=(Q7.1 hck).1; omega
  generalize Hl n t.ql b=e at g1 g2 f1 f2 f3 I;unfold ny;refine Gd.ix (by omega) (by rw [Q5]; exact f1) (Gd.ix (by omega) (by rw [Q5]; exact f1) (hs.get I.1 (λy Y=>Gd.eN (Y.sub g1 (by omega)) (λr hr=>hs.get I.1 (λ_ _=>?_)))))
  have c0:(2400000+4000*((k:Int):Rat))<=(2400000+4000*((k:Int):Rat))+2000:=by grind
  have Z:=(hs.mono (P':=Lg (AV n t.ql) (2+10*k+5) (2400000+4000*((k:Int):Rat)+2000)) (λb y _ Y=>Y.mono (by omega) c0)).set (b:=e.2.1) hr
  refine Gd.ix (by omega) (by rw [Q5]; exact f2) (Gd.ix (by omega) (by rw [Q5]; exact f2) ?_)
  rw [Q5,Q5];refine Z.get I.2 (λy2 hy2=>Gd.eN (hy2.add g2 (by omega)) (λr2 hr2=>Z.get I.2 (λ_ _=>?_)))
  have c1:(2400000+4000*((k:Int):Rat))+2000<=2400000+4000*(((k+1:Nat):Int):Rat):=by rw [Aq]; grind
  have c2:(2400000+4000*((k:Int):Rat))+2000+2000<=2400000+4000*(((k+1:Nat):Int):Rat):=by rw [Aq]; grind
  exact hnx _ ⟨pre++[c],by rw [J]; simp,by simp [O],(Z.mono (λb y _ Y=>Y.mono (by omega) c1)).set (hr2.mono (by omega) c2)⟩
 ·rintro k s ⟨pre,J,O,hs⟩
  rw [RR] at J;have hk24:k<=24:=by rw [<- O,<- J]; omega
  have hc:((k:Int):Rat)<=((24:Int):Rat):=WO.2 (by omega)
  have e24:((24:Int):Rat)=24:=rfl;rw [e24] at hc;exact hK s (hs.mono (λb y _ Y=>Y.mono (by omega) (by grind)))
 ·obtain ⟨y1,y2,z,y3,y4,y5⟩:=Y
  have e0:(((0:Nat):Int):Rat)=0:=rfl;have a:=WO.2 y4;have b:=WO.2 y5;have e1:((2400000:Int):Rat)=2400000:=rfl;rw [WR,e1] at a;rw [e1] at b;refine ⟨y1,y2,?_,?_,?_⟩
  ·rw [y3]
   exact sN (Bi (λe he=>(Aa hE he).1)) ⟨z,rfl⟩
  ·rw [y3,e0]; grind
  ·rw [y3,e0]; grind
def An (D:Rat) (y:LR):Prop:=o9 y/\∃ T,uO T/\-wq 140<=T/\T<=wq 140/\rv y=T / D
structure Dv (D:Rat):Prop where
 i:uO D
 z:D≠0
 a:-wq 60<=D
 b:D<=wq 60
theorem Kt:uO 0:=⟨0,rfl⟩
theorem An.rb {D:Rat} (I:Dv D) {y:LR} (h:An D y):RB (rv y) 141:=by
 obtain ⟨_,T,t1,t2,t3,e⟩:=h;rw [e];have:=yD (show 60<=140 by omega)
 have J:=I.a;have O:=I.b;exact Ab t1 I.i t2 t3 (by grind) (by grind) I.z (by omega)
theorem An.zero {D:Rat}{y:LR} (J:o9 y) (I:rv y=0):An D y:=⟨J,0,Kt,by have:=wD 140; grind,by have:=wD 140; grind,by rw [I,Rat.div_def]; grind⟩
theorem NK {f:Nat->Rat}{b:Rat} (I:0<=b):∀ {n:Nat},(∀ i,i<n->-b<=f i/\f i<=b)->-(((n:Int):Rat)*b)<=sm n f/\sm n f<=((n:Int):Rat)*b
 | 0,_=>by
  show -((((0:Nat):Int):Rat)*b)<=0/\0<=((((0:Nat):Int):Rat)*b);have e:((((0:Nat):Int)):Rat)=0:=rfl;rw [e]; grind
 | n+1,h=>by
  have J:=NK I (n:=n) (λi hi=>h i (by omega))
  have O:=h n (by omega)
  rw [Aq];show _<=sm n f+f n/\sm n f+f n<=_
  grind
theorem JL {n:Nat}{A B m:Mt}{L R:Nat->Rat} (h:Nb n A L B R) (J:Pd n A) (hn:n<=23) (hG:Gj n A n m) {i:Nat} (hi:i<n) {x:Nat->Rat} (hx:∀ p,p<n->uO (L p*x p)/\-2500000<=x p/\x p<=2500000) {y:LR} (hy:o9 y)
  (e:rv y=sm n (λp=>m i (n+p)*x p)):An (Dk A L n) y:=by
 have d0:=(h.D0 J (Rq n)).1;have key:∀ p,p<n->∃ T,uO T/\-wq 139<=T/\T<=wq 139/\m i (n+p)*x p=T*(Dk A L n)⁻¹:=λp I=>by
  obtain ⟨N,n1,n2,n3,O⟩:=hG.num h.s (Rq n) hi I;rw [Ra (by omega)] at O
  have Z:m i (n+p)*Dk A L n=N*L p:=by
   have e2:1*m i (n+p)*Dk A L n=N*L p:=O
   grind
  obtain ⟨x1,x2,x3⟩:=hx p I;have hP:=h.hP;have p1:1<=pr n R:=Er (λj hj=>h.s.R1 hj);have r1:=h.s.R1 hi;have r2:=h.R hi;have hNb:pr n R*R i<=wq 120:=by
   rw [<- wC 60 60];exact qL hP r2 (by grind) (by grind)
  have l1:=h.s.l1 p I;have l2:=h.hL p I;have w1:(2500000:Rat)<=wq 1:=by
   have:((2500000:Int):Rat)<=(((WB ^ 1:Nat):Int):Rat):=WO.2 (by decide)
   exact this
  have q1:=BI (x:=L p) (y:=x p) (a:=wq 18) (b:=wq 1) (by have:=wD 18; grind) l2 (by grind) (by grind)
  rw [wC] at q1;have q2:=BI (x:=N) (y:=L p*x p) (a:=wq 120) (b:=wq (18+1)) (by grind) (by grind) q1.1 q1.2
  rw [wC] at q2;refine ⟨N*(L p*x p),sN n1 x1,q2.1,q2.2,?_⟩;have i1:=Rat.mul_inv_cancel _ d0;have e3:m i (n+p)=N*L p*(Dk A L n)⁻¹:=by rw [<- Z]; grind
  rw [e3]; grind
 have:∃ T:Nat->Rat,∀ p,p<n->uO (T p)/\-wq 139<=T p/\T p<=wq 139/\m i (n+p)*x p=(Dk A L n)⁻¹*T p:=by
  refine ⟨λp=>m i (n+p)*x p*Dk A L n,λp I=>?_⟩;obtain ⟨T,t1,t2,t3,t4⟩:=key p I;have i1:=Rat.mul_inv_cancel _ d0;have e2:m i (n+p)*x p*Dk A L n=T:=by rw [t4]; grind
  simp only;rw [e2];exact ⟨t1,t2,t3,by rw [t4]; grind⟩
 obtain ⟨T,Y⟩:=this;have hs:sm n (λp=>m i (n+p)*x p)=(Dk A L n)⁻¹*sm n T:=by
  rw [<- rU];exact oX (λp J=>(Y p J).2.2.2)
 have hb:=NK (f:=T) (b:=wq 139) (by have:=wD 139; grind) (n:=n) (λp J=>⟨(Y p J).2.1,(Y p J).2.2.1⟩)
 have hn2:((n:Int):Rat)*wq 139<=wq 140:=by
  have O:wq 1*wq 139=wq 140:=wC 1 139;rw [<- O];have h1:((n:Int):Rat)<=wq 1:=WO.2 (show (n:Int)<=((WB ^ 1:Nat):Int) by
   have:((WB ^ 1:Nat):Int)=4294967296:=by decide
   rw [this]; omega)
  exact Rat.mul_le_mul_of_nonneg_right h1 (by have:=wD 139; grind)
 refine ⟨hy,sm n T,Gz (λp J=>(Y p J).1),by grind,by grind,?_⟩
 rw [e,hs,Rat.div_def]; grind
theorem An.mk' {D:Rat} (I:Dv D) {y z:LR} (h:An D y) (k:An D z):RB (rv y-rv z) 142:=by
 obtain ⟨_,T,t1,t2,t3,e⟩:=h;obtain ⟨_,U,u1,u2,Z,f⟩:=k;have O:rv y-rv z=(T+-U) / D:=by rw [e,f,Rat.div_def,Rat.div_def,Rat.div_def]; grind
 have w:wq 140+wq 140<=wq 141:=by
  have e2:wq 1*wq 140=wq 141:=wC 1 140;rw [<- e2];have J:((2:Int):Rat)<=wq 1:=WO.2 (by decide)
  have Y:((2:Int):Rat)=2:=rfl;rw [Y] at J;have:=Rat.mul_le_mul_of_nonneg_right J (show 0<=wq 140 by have:=wD 140; grind)
  grind
 rw [O];have w2:=yD (show 60<=141 by omega)
 have d1:=I.a;have d2:=I.b;exact Ab (zJ t1 (Hv u1)) I.i (by grind) (by grind) (by grind) (by grind) I.z (by omega)
def OZ (n:Net) (t:aY):Rat:=Dk (L_ (CY t.bR) (AV n t.ql)) (λi=>uH (CY t.bR i) (AV n t.ql)) (fr t.bR).length
theorem J2 {n:Net} (h:po n) (hn:pF n) {t:aY} (ht:vF n t):Dv (OZ n t):=by
 have J:=BZ h hn ht;have I:=GI J (D5 ht.LB) (λi j hi O e=>zI hi O e);have Y:=GJ h hn ht;obtain ⟨a,b,c⟩:=I.Db (Rq _);exact ⟨a,(I.D0 Y (Rq _)).1,b,c⟩
theorem Ij {n:Net}{t:aY}{M:aX} (h:po n) (hn:pF n) (hM:Md n t M) (ht:vF n t) {s:List LR} (hs:NL s t.bR.length (Lg (AV n t.ql) 300 2500000)):
  Gd (mX M s) (λr=>NL r t.bR.length (λ_ y=>An (OZ n t) y)):=by
 have hE:=BZ h hn ht;have hnf:=D5 ht.LB;have hNb:=GI hE hnf (λi j hi O e=>zI hi O e);have hp:=GJ h hn ht;have hfl:M.qZ.length=(fr t.bR).length:=by rw [hM.md.free]; simp
 have hfr:∀ k (y:Int),M.qZ[k]? = some y->k<(fr t.bR).length/\y=(CY t.bR k:Int):=λk y Y=>by
  have hk1:=(Q7.1 Y).1;rw [hM.md.free,RH,S_ (by omega)] at Y
  exact ⟨by omega,(Q8 Y).symm⟩
 obtain ⟨m,hG,hR⟩:=hM.inv.ex;unfold mX;rw [hfl,Q5];refine Gd.nd (by omega) ?_
 refine Gd.dM (λk ys r=>∃ pre,M.qZ=pre++ys/\pre.length=k/\r.length=(fr t.bR).length/\∀ j,j<k->r[j]? = s[CY t.bR j]?) ?_ ?_ M.qZ 0 _ ⟨[],rfl,rfl,by simp,λj O=>by omega⟩
 ·rintro k y ys r nx ⟨pre,I,J,hrl,hr⟩ hnx
  obtain ⟨Y,rfl⟩:=hfr k y (by rw [I,RN (by omega),J,Sq]; rfl)
  have Z:=hM.md.lt k Y;unfold pT;refine Gd.gK (by rw [hs.1]; exact Z) (Gd.gK (by omega) ?_)
  rw [Q5];refine hnx _ ⟨pre++[(CY t.bR k:Int)],by rw [I]; simp,by simp [J],by rw [Sr]; exact hrl,λj O=>?_⟩
  by_cases e:k=j
  ·subst e
   rw [RF (by omega),Q4]
  ·rw [Ry e]; exact hr j (by omega)
 ·rintro k r ⟨pre,I,J,hrl,hr⟩
  rw [RR] at I;have Y:k=(fr t.bR).length:=by rw [<- J,<- I,hfl]
  subst Y;unfold fM;rw [hM.top];refine Gd.eN (Ai (by have:=ht.LB; omega)) ?_
  rintro _ ⟨z,rfl,z1,z2,z3⟩;have hx:∀ j,j<(fr t.bR).length->∃ y,r[j]? = some y/\Lg (AV n t.ql) 300 2500000 (CY t.bR j) y:=λj O=>by
   have Z:=hM.md.lt j O;have hl:CY t.bR j<s.length:=by rw [hs.1]; exact Z
   have hsj:=Q4 hl;exact ⟨s[CY t.bR j],by rw [hr j O,hsj],hs.2 _ _ hsj⟩
  have hb:NL r (fr t.bR).length (λj y=>o9 y/\RL y 6000/\rv y=((r[j]?).map rv).getD 0):=⟨hrl,λj y O=>by
   have hj1:=(Q7.1 O).1;obtain ⟨y2,e,g⟩:=hx j (by omega)
   rw [O] at e;obtain rfl:=Q8 e;exact ⟨g.1,g.2.1.mono (by omega),by rw [O]; rfl⟩⟩
  have hxx:∀ p,p<(fr t.bR).length->uO (uH (CY t.bR p) (AV n t.ql)*((r[p]?).map rv).getD 0)/\-2500000<=((r[p]?).map rv).getD 0/\((r[p]?).map rv).getD 0<=2500000:=λp hp=>by
   obtain ⟨y2,e,g⟩:=hx p hp;rw [e];exact ⟨g.2.2.1,g.2.2.2.1,g.2.2.2.2⟩
  refine Gd.dM (λk ys o=>∃ pre,M.qZ=pre++ys/\pre.length=k/\NL o t.bR.length (λ_ y=>An (OZ n t) y)) ?_ ?_ M.qZ 0 _ ⟨[],rfl,rfl,⟨by simp,λb y hb=>by
   have:=V6 (Rg hb);subst this;exact An.zero z1 z3⟩⟩
  ·rintro k y ys o nx ⟨pre,I,J,ho⟩ hnx
   obtain ⟨Y,rfl⟩:=hfr k y (by rw [I,RN (by omega),J,Sq]; rfl)
   have Z:=hM.md.lt k Y;obtain ⟨row,w1,w2,w3⟩:=hR.row k Y;have ha:NL row (fr t.bR).length (λj y=>o9 y/\RL y 6000/\rv y=m k ((fr t.bR).length+j)):=⟨w2,λj y O=>by
    have hj1:=(Q7.1 O).1;obtain ⟨y2,e,g⟩:=w3 j (by omega)
    rw [O] at e;obtain rfl:=Q8 e;exact g⟩
   unfold pU;refine Gd.ix (by omega) (by rw [Q5]; exact w1) (Gd.eN (NZ (by omega) (by omega) ha hb) (λd hd=>ho.get Z (λ_ _=>?_)))
   rw [Q5];exact hnx _ ⟨pre++[(CY t.bR k:Int)],by rw [I]; simp,by simp [J],ho.set (JL hNb hp hnf hG Y hxx hd.1 hd.2)⟩
  ·rintro k o ⟨_,_,_,ho⟩
   exact Gd.ret ho
theorem H7 {n:Net}{t:aY}{M:aX} (h:po n) (hn:pF n) (I:Md n t M) (ht:vF n t) {p:List LR}
  (J:NL p t.bR.length (λ_ y=>o9 y/\RL y 2/\∃ z:Int,rv y=(z:Rat)/\-2400000<=z/\z<=2400000)):Gd (mW M p) (λr=>NL r t.bR.length (λ_ y=>An (OZ n t) y)):=by
 have Y:=ht.LB;have Z:=J.1;unfold mW;exact Gd.nd (by omega) (Mf h hn I ht J (λs hs=>Gd.eN (Ij h hn I ht hs) (λr O=>Gd.ret O)))
theorem Jq {n:Net}{t:aY}{M:aX} (h:po n) (hn:pF n) (O:Md n t M) (ht:vF n t) {a:List LR} (ha:NL a t.bR.length (λ_ y=>An (OZ n t) y)):
  Gd (nP M a) (λr=>NL r n.aK.length (λ_ y=>o9 y/\fits (rv y))):=by
 have hE:=BZ h hn ht;have hD:=J2 h hn ht;have hcl:=O.DT;have h24:=h.l3;unfold nP;refine Gd.dM (λk ys r=>∃ pre,M.C=pre++ys/\pre.length=k/\NL r k (λ_ y=>o9 y/\fits (rv y))) ?_ ?_ M.C 0 _ ⟨[],rfl,rfl,rfl,λb y hb=>by simp at hb⟩
 ·rintro k c ys r nx ⟨pre,I,J,hr⟩ hnx
  have Z:M.C[k]? = some c:=by rw [I,RN (by omega),J,Sq]; rfl
  have hk24:k<24:=by have:=(Q7.1 Z).1; omega
  obtain ⟨b,hb,c1,c2,c3⟩:=O.c k c Z;obtain ⟨f1,f2,f3⟩:=KH O hb;have hlt:=hE.el _ (Rg f3);have Y:k<M.B_.length:=by rw [O.md.bl]; exact (Q7.1 f3).1
  obtain ⟨e,e1,b1,b2,b3⟩:=O.md.b k M.B_[k] (Q4 Y);rw [f3] at e1;obtain rfl:=Q8 e1;obtain ⟨q,q1,q2,q3⟩:=hE.q _ (Rg f3);have hBR:RB (rv M.B_[k]) 1:=by
   rw [b3,q1];exact RB.P1 (by decide) (by omega) (by omega)
  have hrl:=hr.1;unfold qK;refine Gd.ix (by omega) (by rw [Q5]; exact Q4 Y) (Gd.ix (by omega) (by rw [Q5]; exact f1) (ha.get hlt.1 (λy hy=>Gd.ix (by omega) (by rw [Q5]; exact f2) (ha.get hlt.2 (λz hz=>?_)))))
  refine Gd.eN (yC hy.1 hz.1 (hy.1.rb (hy.rb hD)) (hz.1.rb (hz.rb hD)) (by omega)) (λd hd=>?_)
  have hdR:RB (rv d) 142:=by rw [hd.2.2]; exact hy.mk' hD hz
  refine Gd.eN (Ac b1 hd.1 (b1.rb hBR) (hd.1.rb hdR) (by omega)) (λf hf=>?_)
  refine Gd.eN (xv hf.1 c1 hf.2.1 c2 (by omega)) (λg hg=>Gd.nd (by simp; omega) (hnx _ ⟨pre++[c],by rw [I]; simp,by simp [J],hr.snoc ⟨hg.1,?_⟩⟩))
  exact RB.fits ⟨g,hg.1,hg.2.1,rfl⟩ (by omega)
 ·rintro k r ⟨pre,I,J,hr⟩
  rw [RR] at I;have hk:k=n.aK.length:=by rw [<- J,<- I,hcl]
  subst hk;exact Gd.ret hr
theorem FP {l:List LR} (hl:l.length<=1000) (h:∀ y ∈ l,o9 y/\fits (rv y)):Gd (nL l) (λr=>r=(l.map (λy=>ctext (rv y)),0)):=by
 unfold nL;refine Gd.eN (P:=λr=>r=(l.map (λy=>ctext (rv y)),true)) ?_ (λr O=>by subst O; exact Gd.ite (λh=>by simp at h) (λ_=>Gd.ret rfl))
 unfold tS;refine Gd.nd (by omega) ?_
 rw [Q5];refine Gd.dM (λk ys s=>∃ pre,l=pre++ys/\pre.length=k/\s=pre.map (λy=>ctext (rv y))++List.replicate ys.length (⟨#[]⟩:Q1)) ?_ ?_ l 0 _ ⟨[],rfl,rfl,by simp⟩
 ·rintro k y ys _ nx ⟨pre,J,I,rfl⟩ Y
  obtain ⟨y1,y2⟩:=h y (by rw [J]; simp)
  unfold tI;refine Gd.eN (K8 y1) (λr O=>?_);have Z:=O.1.2 y2;refine Gd.ite (λhh=>by rw [Z] at hh; simp at hh) (λ_=>?_)
  refine Gd.ix (y:=⟨#[]⟩) (by omega) ?_ (Y _ ⟨pre++[y],by rw [J]; simp,by simp [I],?_⟩)
  ·rw [Q5,RN (by simp [I]),S2,I,Sq,Rd,Ta]; rfl
  ·rw [Q5,Wh _ _ (by simp [I]),S2,I,Sq,Rd,Ta,Wj,O.2 Z]
   simp
 ·rintro k _ ⟨pre,J,I,rfl⟩
  rw [RR] at J;subst J;exact Gd.ret (by simp)
structure OQ (n:Net) (t:aY) (s:cI):Prop where
 al:s.fU.length=t.bR.length
 fl:s.iP.length=n.aK.length
 a:∀ x ∈ s.fU,∃ q,fits q/\x=ctext q
 f:∀ x ∈ s.iP,∃ q,fits q/\x=ctext q
theorem NL.all {l:List LR}{N:Nat}{P:LR->Prop} (h:NL l N (λ_ y=>P y)):∀ y ∈ l,P y:=λy I=>by
 obtain ⟨i,hi,rfl⟩:=Sm.1 I;exact h.2 i _ (Q4 hi)
theorem Ld {n:Net}{p:List Int} (h:po n) (hn:pF n) {t:aY} (hg:dY n=some t) (ht:vF n t) (hp:p.length=n.bH.length) (hb:∀ z ∈ p,-100000<=z/\z<=100000) (hc:pS n p=some 0):
  Gd (pW n p) (λr=>r.2=0/\OQ n t r.1):=by
 have hN:=ht.LB;have h24:=h.l3;unfold pW;refine Gd.bind_eq hc (Gd.ite (λh=>by simp at h) (λ_=>?_))
 refine Gd.eN (KL h hn hg ht) ?_;rintro _ ⟨M,rfl,O⟩;simp only [C8];refine Gd.eN (MM O ht hn hp hb) (λsm hsm=>Gd.eN (H7 h hn O ht hsm) (λa J=>?_));have hD:=J2 h hn ht;have Z:=J.1;refine Gd.eN (FP (by omega) (λy I=>⟨(J.all y I).1,(An.rb hD (J.all y I)).fits (by omega)⟩)) ?_
 rintro _ rfl;refine Gd.eN (Jq h hn O ht J) (λf Y=>?_);have hl2:=Y.1;refine Gd.eN (FP (by omega) (λy I=>Y.all y I)) ?_
 rintro _ rfl;refine Gd.ite (λh=>by simp at h) (λ_=>Gd.ret ⟨rfl,by simp [Z],by simp [hl2],λx hx=>?_,λx hx=>?_⟩)
 ·obtain ⟨y,I,rfl⟩:=RY.1 hx
  exact ⟨_,(An.rb hD (J.all y I)).fits (by omega),rfl⟩
 ·obtain ⟨y,I,rfl⟩:=RY.1 hx
  exact ⟨_,(Y.all y I).2,rfl⟩
def acc {α:Type} (f:α->Int) (p:α->Nat) (k:Nat):List α->Int
 | []=>0
 | x::xs=>(if p x=k then f x else 0)+acc f p k xs
theorem DQ {α:Type}{f:α->Int}{p:α->Nat}{k:Nat}:∀ {l:List α},(∀ x ∈ l,0<=f x)->0<=acc f p k l
 | [],_=>Tu _
 | x::xs,h=>by
  have J:=h x (Q9 ..);have O:=DQ (f:=f) (p:=p) (k:=k) (l:=xs) λy I=>h y (Rc _ I);unfold acc
  split <;> omega
theorem F7 {α:Type}{f:α->Int}{p:α->Nat}{k:Nat}{B:Int} (I:0<=B):∀ {l:List α},(∀ x ∈ l,f x<=B)->acc f p k l<=B*l.length
 | [],_=>by simp [acc]
 | x::xs,h=>by
  have O:=h x (Q9 ..);have Y:=F7 (f:=f) (p:=p) (k:=k) (B:=B) I (l:=xs) λy J=>h y (Rc _ J);unfold acc;rw [Rd,VX,VU]
  split <;> omega
theorem Hg {α:Type}{f:α->Int}{p:α->Nat}{k:Nat}:∀ (a b:List α),acc f p k (a++b)=acc f p k a+acc f p k b
 | [],b=>by show acc f p k b=0+acc f p k b; omega
 | x::xs,b=>by
  have:=Hg (f:=f) (p:=p) (k:=k) xs b;show (if p x=k then f x else 0)+acc f p k (xs++b)=(if p x=k then f x else 0)+acc f p k xs+acc f p k b
  omega
theorem zB {α:Type}{f:α->Int}{p:α->Nat}{k:Nat} (a:List α) (x:α):acc f p k (a++[x])=acc f p k a+(if p x=k then f x else 0):=by
 rw [Hg];show _+((if p x=k then f x else 0)+0)=_
 omega
def tM (I:Nat->Nat) (k:Nat):Nat->List Int->Int
 | _,[]=>0
 | i,x::xs=>(if I i=k then x else 0)+tM I k (i+1) xs
theorem Fu (I:Nat->Nat) (k:Nat):∀ (a b:List Int) (i:Nat),tM I k i (a++b)=tM I k i a+tM I k (i+a.length) b
 | [],b,i=>by show tM I k i b=0+tM I k (i+0) b; rw [SH]; omega
 | x::xs,b,i=>by
  have:=Fu I k xs b (i+1);have e:i+(x::xs).length=i+1+xs.length:=by simp; omega
  rw [e];show (if I i=k then x else 0)+tM I k (i+1) (xs++b)=(if I i=k then x else 0)+tM I k (i+1) xs+_
  omega
theorem Cs (I:Nat->Nat) (k:Nat) (y:Int):∀ (l:List Int) (i j:Nat) (h:j<l.length),tM I k i (l.set j y)=tM I k i l+(if I (i+j)=k then y-l[j] else 0)
 | [],_,_,h=>by simp at h
 | x::xs,i,0,_=>by
  rw [Wj,SH,List.getElem_cons_zero];show (if I i=k then y else 0)+tM I k (i+1) xs=(if I i=k then x else 0)+tM I k (i+1) xs+_
  split <;> omega
 | x::xs,i,j+1,h=>by
  have J:j<xs.length:=by simpa using h
  have:=Cs I k y xs (i+1) j J;have e:i+1+j=i+(j+1):=by omega
  rw [e] at this;rw [List.set_cons_succ,List.getElem_cons_succ];show (if I i=k then x else 0)+tM I k (i+1) (xs.set j y)=(if I i=k then x else 0)+tM I k (i+1) xs+_
  rw [this]; omega
theorem Fv (I:Nat->Nat) (k:Nat):∀ (m i:Nat),tM I k i (List.replicate m 0)=0
 | 0,_=>rfl
 | m+1,i=>by
  show (if I i=k then (0:Int) else 0)+tM I k (i+1) (List.replicate m 0)=0
  rw [Fv I k m (i+1)]; split <;> rfl
theorem HE (I:Nat->Nat) (k:Nat) {B:Int} (J:0<=B):∀ (l:List Int) (i:Nat),(∀ z ∈ l,-B<=z/\z<=B)->-(B*l.length)<=tM I k i l/\tM I k i l<=B*l.length
 | [],_,_=>by simp [tM]
 | x::xs,i,h=>by
  have Y:=h x (Q9 ..);have Z:=HE I k J xs (i+1) (λz O=>h z (Rc _ O));show -(B*(x::xs).length)<=(if I i=k then x else 0)+tM I k (i+1) xs/\(if I i=k then x else 0)+tM I k (i+1) xs<=B*(x::xs).length
  rw [Rd,VX,VU]
  split <;> omega
def En (t:aY) (i:Nat):Nat:=((t.bR[((t.ql[i]?).getD 0).toNat]?).getD 0).toNat
theorem GN {n:Net}{t:aY} (ht:vF n t) {i:Nat} (hi:i<n.bH.length):∃ v:Nat,t.ql[i]? = some (v:Int)/\v<t.bR.length/\t.bR[v]? = some (En t i:Int)/\En t i<t.bR.length:=by
 have I:i<t.ql.length:=by rw [ht.bl]; exact hi
 have h1:=ht.bi _ (RI I);obtain ⟨c,Y⟩:=ht.comp;have J:(t.ql[i]).toNat<t.bR.length:=by omega
 have O:t.ql[i]? = some (((t.ql[i]).toNat:Nat):Int):=by rw [Q4 I]; congr 1; omega
 have Z:=Y.all ((t.ql[i]).toNat:Int) (by omega) (by omega)
 rw [Cf J] at Z;have hm:=Y.mN;refine ⟨(t.ql[i]).toNat,O,J,?_,?_⟩
 ·unfold En
  rw [O,S9,Q5,Q4 J,S9]
  congr 1; omega
 ·unfold En
  rw [O,S9,Q5,Q4 J,S9];omega
def yO (n:Net) (t:aY) (s:BA):Nat:=En t (pos n s)
theorem CG {n:Net}{t:aY} (ht:vF n t) {s:BA} (hs:s ∈ n.bH):mP n t s=some (yO n t s:Int)/\yO n t s<t.bR.length:=by
 obtain ⟨p1,p2⟩:=Vb hs;obtain ⟨v,v1,v2,v3,v4⟩:=GN ht p2;refine ⟨?_,v4⟩;rw [<- Gd.eq];unfold mP;exact Gd.bind_eq p1 (Gd.ix (by omega) (by rw [Q5]; exact v1) (Gd.ix (by omega) (by rw [Q5]; exact v3) (Gd.ret rfl)))
theorem IY {n:Net}{t:aY} (hg:dY n=some t) (ht:vF n t):∃ N:Nat,lZ n=some (N:Int)/\N<=24/\∀ s ∈ n.bH,yO n t s<N:=by
 obtain ⟨c,O⟩:=ht.comp;have hm:=O.mN;have I:Bb t.bR.length t.bR:=λa ha=>by
  obtain ⟨k,hk,rfl⟩:=Sm.1 ha;have:=O.all (k:Int) (by omega) (by omega)
  rw [Cf hk] at this;omega
 have h:Gd (lZ n) (λr=>∃ N:Nat,r=N/\N<=24/\Bb N t.bR):=by
  unfold lZ;refine Gd.bind_eq hg (Ml t.bR.length ht.LB _ (λk y n nx=>by unfold rK; rfl) _ t.bR I (λm hm J=>Gd.ret ⟨m,rfl,by have:=ht.LB; omega,J⟩))
 obtain ⟨r,hr,N,rfl,Y,Z⟩:=h;refine ⟨N,hr,Y,λs hs=>?_⟩;obtain ⟨v,_,_,v3,_⟩:=GN ht (Vb hs).2;have:=Z _ (Rg v3);show En t (pos n s)<N;omega
abbrev ID (n:Net) (t:aY) (k:Nat):Int:=acc aH.dA (λl:aH=>yO n t l.Node) k n.bF
theorem J3 {n:Net} (hn:pF n) (t:aY) (k:Nat):0<=ID n t k/\ID n t k<=1200000:=by
 have I:=DQ (f:=aH.dA) (p:=λl:aH=>yO n t l.Node) (k:=k) (l:=n.bF) (λl hl=>(hn.ld l hl).2.1);have J:=F7 (f:=aH.dA) (p:=λl:aH=>yO n t l.Node) (k:=k) (B:=100000) (by omega) (l:=n.bF) (λl hl=>(hn.ld l hl).2.2)
 have:=hn.l5;have O:ID n t k<=100000*(n.bF.length:Int):=J;exact ⟨I,by omega⟩
theorem Ku {n:Net}{t:aY} (hn:pF n) (hg:dY n=some t) (ht:vF n t) {N:Nat} (hN:lZ n=some (N:Int)) (h24:N<=24) (hpl:∀ s ∈ n.bH,yO n t s<N):
  Gd (ri n) (λr=>r.length=N/\∀ k (I:k<r.length),r[k].dA=ID n t k):=by
 have h4:=hn.l4;have h5:=hn.l5;unfold ri;refine Gd.bind_eq hg (Gd.bind_eq hN (Gd.nd ⟨by omega,by omega⟩ ?_))
 rw [Q5];refine Gd.dM (λi ys s=>(∀ y ∈ ys,y ∈ n.dS)/\s.length=N/\∀ k (I:k<s.length),s[k].dA=0) ?_ ?_ _ _ _ ⟨λ_ h=>h,by simp,?_⟩
 ·rintro i y ys s nx ⟨hm,hl,I⟩ Z
  have hy:=hm y (Q9 ..);obtain ⟨Y,_⟩:=CG ht (hn.gn y hy).1;have J:yO n t y.Node<s.length:=by have:=hpl _ (hn.gn y hy).1; omega
  unfold sR;refine Gd.bind_eq Y (Gd.gK J ?_);rw [Q5,List.set_set];refine Z _ ⟨λz hz=>hm z (Rc _ hz),by simp [hl],λk O=>?_⟩
  rw [Sr] at O;rw [V8]
  split
  ·exact I _ J
  ·exact I k O
 ·rintro i s ⟨_,hl,I⟩
  refine Gd.dM (λi ys s=>∃ pre,n.bF=pre++ys/\s.length=N/\∀ k (I:k<s.length),s[k].dA=acc aH.dA (λl:aH=>yO n t l.Node) k pre) ?_ ?_ _ _ _ ⟨[],rfl,hl,I⟩
  ·rintro i y ys s nx ⟨pre,Y,hl,I⟩ Z
   have hy:y ∈ n.bF:=by rw [Y]; simp
   obtain ⟨hpp,_⟩:=CG ht (hn.ld y hy).1;have J:yO n t y.Node<s.length:=by have:=hpl _ (hn.ld y hy).1; omega
   have hyd:=hn.ld y hy;have hb1:=DQ (f:=aH.dA) (p:=λl:aH=>yO n t l.Node) (k:=yO n t y.Node) (l:=pre) (λl hl=>(hn.ld l (by rw [Y]; simp [hl])).2.1)
   have hb2:=F7 (f:=aH.dA) (p:=λl:aH=>yO n t l.Node) (k:=yO n t y.Node) (B:=100000) (by omega) (l:=pre) (λl hl=>(hn.ld l (by rw [Y]; simp [hl])).2.2)
   have hpre:pre.length<=12:=by
    have:n.bF.length=pre.length+(ys.length+1):=by rw [Y]; simp
    omega
   have hkk:=I _ J;have hw1:i64.wrap (s[yO n t y.Node].dA+y.dA)=s[yO n t y.Node].dA+y.dA:=bJ ⟨by omega,by omega⟩
   unfold sS;refine Gd.bind_eq hpp (Gd.gK J (Gd.gK J ?_));rw [hw1,Q5];refine Z _ ⟨pre++[y],by rw [Y]; simp,by simp [hl],λk O=>?_⟩
   rw [Sr] at O;rw [V8,zB]
   by_cases e:yO n t y.Node=k
   ·subst e
    rw [Rb rfl,Rb rfl,hkk]
   ·rw [Ra e,Ra e,I k O]; omega
  ·rintro i s ⟨pre,Y,hl,I⟩
   rw [RR] at Y;subst Y;exact Gd.ret ⟨hl,I⟩
 ·intro k I
  have e:(List.replicate N ({ iX:=0,q9:=0,dA:=0 }:bN))[k]={ iX:=0,q9:=0,dA:=0 }:=List.getElem_replicate _;rw [e]
theorem L6 (l:List Int):Gd (dL l) (λb=>b=true↔∃ v ∈ l,0<v):=by
 unfold dL eO;refine Gd.eN (P:=λr=>0<=r↔∃ v ∈ l,0<v) ?_ (λr J=>Gd.ret (by simpa using J))
 refine Gd.jW (λm i _=>i+m=l.length/\∀ v ∈ l.take i,v<=0) ?_ ?_ (l.length:Int).toNat 0 () ⟨by omega,by simp⟩
 ·intro m i _ O ⟨hi,hno⟩ hnx
  unfold fN oG;refine Gd.gK (by omega) (Gd.ite (λh=>Gd.ret ⟨λ_=>⟨l[i],RI _,by simpa using h⟩,λ_=>by omega⟩) (λh=>hnx () ⟨by omega,?_⟩))
  rw [RD (by omega)]
  intro v I;rcases Rh.1 I with I | I
  ·exact hno v I
  ·simp at I; subst I; simpa using h
 ·intro i _ ⟨hi,hno⟩
  rw [Ri (by omega)] at hno
  exact Gd.ret ⟨λh=>by omega,λ⟨v,I,h⟩=>by have:=hno v I; omega⟩
abbrev Fg (n:Net) (t:aY) (k:Nat) (l:List (bK×Int)):Int:=acc (λz:bK×Int=>z.2) (λz:bK×Int=>yO n t z.1.Node) k l
structure PV (n:Net) (t:aY) (p:List Int):Prop where
 len:p.length=n.dS.length
 each:∀ z ∈ n.dS.zip p,0<=z.2/\z.2<=100000/\(z.2=0\/z.1.iX<=z.2/\z.2<=z.1.q9)
 PW:∀ k,Fg n t k (n.dS.zip p)=ID n t k
theorem IS {n:Net}{t:aY} (hn:pF n) (hg:dY n=some t) (ht:vF n t) (hc:bZ n=some 0):
  Gd (mO n) (λx=>(x.2=14/\x.1=[])\/(x.2=0/\PV n t x.1)):=by
 obtain ⟨N,hN,h24,Y⟩:=IY hg ht;have h4:=hn.l4;have h5:=hn.l5;obtain ⟨r,hr,hlen,hk⟩:=Ku hn hg ht hN h24 Y;unfold mO;refine Gd.bind_eq hc (Gd.ite (λh=>by simp at h) (λ_=>Gd.bind_eq hg (Gd.bind_eq hr ?_)))
 refine Gd.dM (λi ys s=>i+ys.length=r.length/\ys=r.drop i/\s=(r.take i).map bN.dA) ?_ ?_ _ _ _ ⟨by simp,by simp,by simp⟩
 ·rintro i y ys s nx ⟨hi,hys,rfl⟩ hnx
  simp only [Rd] at hi;have hlt:i<r.length:=by omega
  rw [RK hlt] at hys;obtain ⟨rfl,rfl⟩:=V3 hys;unfold sq;refine Gd.nd (by simp; omega) (hnx _ ⟨by omega,rfl,?_⟩)
  rw [RD hlt,Ss]; rfl
 rintro i s ⟨hi,_,rfl⟩;rw [Ri (by simp at hi; omega)]
 refine Gd.dM (λi ys (s:List Int×List Int)=>∃ pre,n.dS=pre++ys/\pre.length=i/\s.1.length=N/\s.2.length=pre.length/\(∀ v ∈ s.1,0<=v)/\(∀ z ∈ pre.zip s.2,0<=z.2/\z.2<=100000/\(z.2=0\/z.1.iX<=z.2/\z.2<=z.1.q9)) /\
   (∀ k (hk:k<s.1.length),s.1[k]+Fg n t k (pre.zip s.2)=ID n t k)) ?_ ?_ _ _ _
  ⟨[],rfl,rfl,by simp [hlen],rfl,?_,by simp,?_⟩
 ·rintro i y ys ⟨rest,out⟩ nx ⟨pre,hp,hpi,O,I,h0,he,hb⟩ hnx
  simp only at O I h0 he hb;have hy:y ∈ n.dS:=by rw [hp]; simp
  obtain ⟨hpp,_⟩:=CG ht (hn.gn y hy).1;have hlp:yO n t y.Node<rest.length:=by have:=Y _ (hn.gn y hy).1; omega
  have hgy:=hn.gn y hy;have hr0:=h0 rest[yO n t y.Node] (RI _);have hb0:=hb _ hlp;have hd:=J3 hn t (yO n t y.Node);have hge:0<=Fg n t (yO n t y.Node) (pre.zip out):=DQ (λz hz=>(he z hz).1);have hpl10:pre.length<10:=by
   have:n.dS.length=pre.length+(ys.length+1):=by rw [hp]; simp
   omega
  have step:∀ p:Int,0<=p->p<=rest[yO n t y.Node]->p<=y.q9->(p=0\/y.iX<=p/\p<=y.q9) ->
    Gd (l7 rest out nx (yO n t y.Node:Int) rest[yO n t y.Node] p) (λx=>(x.2=14/\x.1=[])\/(x.2=0/\PV n t x.1)):=by
   intro p p0 pr pm pe;have hw:i64.wrap (rest[yO n t y.Node]-p)=rest[yO n t y.Node]-p:=bJ ⟨by omega,by omega⟩
   have hz:(pre++[y]).zip (out++[p])=pre.zip out++[(y,p)]:=by rw [List.zip_append I.symm]; rfl
   unfold l7;rw [hw,Q5];refine Gd.nd (by simp; omega) (hnx _ ⟨pre++[y],by rw [hp]; simp,by simp [hpi],by simp [O],by simp [I],?_,?_,?_⟩)
   ·intro v Z
    rcases We Z with Z | rfl
    ·exact h0 v Z
    ·omega
   ·simp only
    rw [hz];intro z hzz;rcases Rh.1 hzz with h1 | h1
    ·exact he z h1
    ·rw [Rz] at h1
     subst h1;exact ⟨p0,by simp only; omega,pe⟩
   ·intro k J
    simp only [Sr] at J;simp only;rw [hz];unfold Fg;rw [zB,V8];have hbk:=hb k J;unfold Fg at hbk
    by_cases e:yO n t y.Node=k
    ·subst e
     rw [Rb rfl,Rb rfl];simp only; omega
    ·rw [Ra e,Ra e]; omega
  unfold sr;refine Gd.bind_eq hpp (Gd.gK hlp (Gd.ite (λhle=>?_) (λ_=>step 0 (by omega) (by omega) (by omega) (.inl rfl))))
  have hle:y.iX<=rest[yO n t y.Node]:=by simpa using hle
  exact step (min y.q9 rest[yO n t y.Node]) (by omega) (by omega) (by omega) (.inr ⟨by omega,by omega⟩)
 ·rintro i ⟨rest,out⟩ ⟨pre,hp,hpi,O,I,h0,he,hb⟩
  simp only at O I h0 he hb;rw [RR] at hp;subst hp;refine Gd.eN (L6 rest) (λb hb2=>Gd.ite (λ_=>Gd.ret (.inl ⟨rfl,rfl⟩)) (λh=>Gd.ret (.inr ⟨rfl,I,he,λk=>?_⟩)));have hno:∀ v ∈ rest,v=0:=λv Z=>by
   have h1:=h0 v Z
   by_cases e:0<v
   ·have:=hb2.2 ⟨v,Z,e⟩
    rw [this] at h; cases h
   ·omega
  by_cases hkN:k<rest.length
  ·have:=hb k hkN
   rw [hno _ (RI _)] at this;show Fg n t k (n.dS.zip out)=_;omega
  ·have none:∀ {α:Type} (f:α->Int) (p:α->Nat) (l:List α),(∀ x ∈ l,p x<N)->acc f p k l=0:=by
    intro α f p l
    induction l with
    | nil=>intro _; rfl
    | cons x l ih=>
     intro hx;have h1:=hx x (Q9 ..);have h2:=ih (λx h=>hx x (Rc _ h));show (if p x=k then f x else 0)+acc f p k l=0
     rw [Ra (by omega),h2]; rfl
   rw [show ID n t k=0 from none _ _ _ (λl hl=>Y _ (hn.ld l hl).1)];exact none _ _ _ (λz hz=>Y _ (hn.gn _ (List.of_mem_zip hz).1).1)
 ·intro v Z
  obtain ⟨s,hs,rfl⟩:=RY.1 Z;obtain ⟨k,hk2,rfl⟩:=Sm.1 hs;rw [hk k hk2]; exact (J3 hn t k).1
 ·intro k J
  simp only [S2] at J;simp only [Tk];rw [hk k J];show ID n t k+0=_;omega
theorem FX {α I:Type}{y:α}{v:I}:∀ {pre:List α}{p:List I},p[pre.length]? = some v->(pre++[y]).zip p=pre.zip p++[(y,v)]
 | [],[],h=>by simp at h
 | [],b::p,h=>by
  have:b=v:=by simpa using h
  subst this;simp
 | a::pre,[],h=>by simp at h
 | a::pre,b::p,h=>by
  have J:p[pre.length]? = some v:=by simpa using h
  have:=FX (y:=y) J;simp [this]
structure Jr (n:Net) (t:aY) (p:List Int):Prop where
 len:p.length=n.bH.length
 LC:∀ z ∈ p,-100000<=z/\z<=100000
 PW:∀ k,tM (En t) k 0 p=0
theorem Gr {n:Net}{t:aY} (h:po n) (hn:pF n) (hg:dY n=some t) (ht:vF n t) (hc:bZ n=some 0) {p:List Int} (hp:PV n t p):
  Gd (rX n p (List.replicate n.bY.length 0)) (λx=>(x.2=4/\x.1=[])\/(x.2=0/\Jr n t x.1)):=by
 have l1:=hn.l1;have l4:=hn.l4;have l5:=hn.l5;have l6:=h.l6;unfold rX;refine Gd.bind_eq hc (Gd.ite (λh=>by simp at h) (λ_=>?_))
 refine Gd.ite (λh=>absurd h (by simp [hp.len])) (λ_=>Gd.nd (by omega) ?_)
 rw [Q5];refine Gd.dM (λi ys s=>∃ pre,n.dS=pre++ys/\pre.length=i/\s.length=n.bH.length/\(∀ k,tM (En t) k 0 s=Fg n t k (pre.zip p))/\∀ z ∈ s,-(100000*(i:Int))<=z/\z<=100000*(i:Int)) ?_ ?_ n.dS 0 _
  ⟨[],rfl,rfl,by simp,λk=>Fv _ _ _ _,λz hz=>by have:=V6 hz; omega⟩
 ·rintro i y ys s nx ⟨pre,I,O,hsl,hb,hs⟩ Z
  have hy:y ∈ n.dS:=by rw [I]; simp
  obtain ⟨q1,q2⟩:=Vb (hn.gn y hy).1;have hil:i<n.dS.length:=by rw [I]; simp; omega
  have hip:i<p.length:=by rw [hp.len]; exact hil
  have hpi2:=Q4 hip;have hzip:=FX (y:=y) (pre:=pre) (p:=p) (v:=p[i]) (by rw [O]; exact hpi2)
  have hmem:(y,p[i]) ∈ n.dS.zip p:=by
   refine Sm.2 ⟨i,by simp [hp.len]; omega,?_⟩
   rw [List.getElem_zip]
   congr 1
   have:n.dS[i]? = some y:=by rw [I,RN (by omega),O,Sq]; rfl
   rw [Q4 hil] at this;exact Q8 this
  have he:=hp.each _ hmem;simp only at he;have J:pos n y.Node<s.length:=by omega
  have hz:=hs _ (RI J);have fin:Gd (nx (s.set ((pos n y.Node:Int)).toNat (i64.wrap (s[pos n y.Node]+p[i])))) (λx=>(x.2=4/\x.1=[])\/(x.2=0/\Jr n t x.1)):=by
   have hw:i64.wrap (s[pos n y.Node]+p[i])=s[pos n y.Node]+p[i]:=bJ ⟨by omega,by omega⟩
   rw [hw,Q5];refine Z _ ⟨pre++[y],by rw [I]; simp,by simp [O],by simp [hsl],λk=>?_,λz hz2=>?_⟩
   ·rw [Cs _ _ _ _ _ _ J,hb k,hzip]
    unfold Fg;rw [zB,Rv];show _+(if yO n t y.Node=k then _ else _)=_
    split <;> omega
   ·rcases We hz2 with Y | Y
    ·have:=hs z Y; omega
    ·subst Y; omega
  unfold tD;refine Gd.gK hip (Gd.ite (λh0=>?_) (λh0=>?_))
  ·exact Gd.bind_eq q1 (Gd.gK J (Gd.gK hip (Gd.gK J fin)))
  ·have h0:p[i]≠0:=Rf h0
   refine Gd.gK hip (Gd.ite (λY=>?_) (λ_=>Gd.gK hip (Gd.ite (λY=>?_) (λ_=>Gd.bind_eq q1 (Gd.gK J (Gd.gK hip (Gd.gK J fin)))))))
   ·have:=Q_ Y; omega
   ·have:=Q_ Y; omega
 ·rintro i s ⟨pre,I,O,hsl,hb,hs⟩
  rw [RR] at I;subst I;have hb2:∀ k,tM (En t) k 0 s=ID n t k:=λk=>(hb k).trans (hp.PW k);have hs2:∀ z ∈ s,-1000000<=z/\z<=1000000:=λz hz=>by have:=hs z hz; omega
  clear hb hs;refine Gd.dM (λi ys s'=>∃ pre,n.bY=pre++ys/\pre.length=i/\s'=s) ?_ ?_ n.bY 0 _ ⟨[],rfl,rfl,rfl⟩
  ·rintro i y ys s nx ⟨pre,I,O,rfl⟩ Z
   have hy:y ∈ n.bY:=by rw [I]; simp
   obtain ⟨_,v2,v3⟩:=h.vt y hy;obtain ⟨q1,q2⟩:=Vb v2;have hil:i<n.bY.length:=by rw [I]; simp; omega
   have hst:(List.replicate n.bY.length (0:Int))[i]? = some 0:=by rw [TB,Rb hil]
   have J:pos n y.Node<s.length:=by omega
   have hz:=hs2 _ (RI J);have hch:0<=y.sK/\y.sK<=100000/\0<=y.Discharge/\y.Discharge<=100000:=by
    simp [Dz,aW,bL] at v3;omega
   have hw:i64.wrap (0-y.sK)=0-y.sK:=bJ ⟨by omega,by omega⟩
   have hw2:i64.wrap (s[pos n y.Node]+0)=s[pos n y.Node]:=by rw [bJ ⟨by omega,by omega⟩]; omega
   unfold tE;rw [hw];refine Gd.ix (by omega) (by rw [Q5]; exact hst) (Gd.ite (λY=>?_) (λ_=>Gd.ix (by omega) (by rw [Q5]; exact hst) (Gd.ite (λY=>?_) (λ_=>Gd.bind_eq q1 (Gd.gK J (Gd.ix (by omega) (by rw [Q5]; exact hst) (Gd.gK J ?_)))))))
   ·have:=Q_ Y; omega
   ·have:=Q_ Y; omega
   ·rw [hw2,Q5]
    exact Z _ ⟨pre++[y],by rw [I]; simp,by simp [O],CM (Q4 J)⟩
  ·rintro i _ ⟨_,_,_,rfl⟩
   refine Gd.dM (λi ys s'=>∃ pre,n.bF=pre++ys/\pre.length=i/\s'.length=n.bH.length/\(∀ k,tM (En t) k 0 s'=ID n t k-acc aH.dA (λl:aH=>yO n t l.Node) k pre)/\∀ z ∈ s',-(1000000+100000*(i:Int))<=z/\z<=1000000) ?_ ?_ n.bF 0 _
    ⟨[],rfl,rfl,hsl,λk=>by rw [hb2 k]; show _=ID n t k-0; omega,λz hz=>by have:=hs2 z hz; omega⟩
   ·rintro i y ys s' nx ⟨pre,I,O,hsl',hb',hs'⟩ Z
    have hy:y ∈ n.bF:=by rw [I]; simp
    obtain ⟨q1,q2⟩:=Vb (hn.ld y hy).1;have hd:=(hn.ld y hy).2;have hil:i<n.bF.length:=by rw [I]; simp; omega
    have J:pos n y.Node<s'.length:=by omega
    have hz:=hs' _ (RI J);have hw:i64.wrap (s'[pos n y.Node]-y.dA)=s'[pos n y.Node]-y.dA:=bJ ⟨by omega,by omega⟩
    unfold tF;refine Gd.bind_eq q1 (Gd.gK J (Gd.gK J ?_));rw [hw,Q5];refine Z _ ⟨pre++[y],by rw [I]; simp,by simp [O],by simp [hsl'],λk=>?_,λz hz2=>?_⟩
    ·rw [Cs _ _ _ _ _ _ J,hb' k,zB,Rv]
     show _+(if yO n t y.Node=k then _ else _)=_
     split <;> omega
    ·rcases We hz2 with Y | Y
     ·have:=hs' z Y; omega
     ·subst Y; omega
   ·rintro i s' ⟨pre,I,O,hsl',hb',hs'⟩
    rw [RR] at I;subst I;refine Gd.dM (λi ys _=>∃ pre,s'=pre++ys/\∀ z ∈ pre,-100000<=z/\z<=100000) ?_ ?_ s' 0 _ ⟨[],rfl,λz hz=>by simp at hz⟩
    ·rintro i y ys _ nx ⟨pre,I,hr⟩ Z
     unfold tG;refine Gd.ite (λ_=>Gd.ret (.inl ⟨rfl,rfl⟩)) (λY=>Z () ⟨pre++[y],by rw [I]; simp,λz hz=>?_⟩)
     simp only [VS,WZ] at Y;rcases Rh.1 hz with h2 | h2
     ·exact hr z h2
     ·rw [Rz] at h2
      subst h2; omega
    ·rintro i _ ⟨pre,I,hr⟩
     rw [RR] at I;subst I;exact Gd.ret (.inr ⟨rfl,hsl',hr,λk=>by rw [hb' k]; show ID n t k-ID n t k=0; omega⟩)
theorem IP {n:Net}{t:aY} (h:po n) (hn:pF n) (O:dY n=some t) (ht:vF n t) (J:bZ n=some 0):
  Gd (f_ n) (λx=>(x.2≠0/\x.1=[])\/(x.2=0/\Jr n t x.1)):=by
 have l6:=h.l6;unfold f_;refine Gd.eN (IS hn O ht J) (λx Z=>?_);rcases Z with ⟨e,_⟩ | ⟨e,Y⟩
 ·rw [e]
  exact Gd.ite (λ_=>Gd.ret (.inl ⟨by simp,rfl⟩)) (λh=>by simp at h)
 ·rw [e]
  refine Gd.ite (λh=>by simp at h) (λ_=>Gd.nd (by omega) ?_)
  rw [Q5];refine Gd.eN (Gr h hn O ht J Y) (λy I=>Gd.ret ?_);rcases I with ⟨e1,e2⟩ | I
  ·exact .inl ⟨by simp only; omega,e2⟩
  ·exact .inr I
theorem II {n:Net}{t:aY} (hg:dY n=some t) (ht:vF n t) (hn:pF n) (hc:bZ n=some 0) {p:List Int} (hp:Jr n t p):pS n p=some 0:=by
 have l1:=hn.l1;rw [<- Gd.eq];unfold pS;refine Gd.bind_eq hc (Gd.ite (λh=>by simp at h) (λ_=>Gd.ite (λh=>absurd h (by simp [hp.len])) (λ_=>Gd.bind_eq hg ?_)))
 refine Gd.dM (λi ys (l:List (Int×Int))=>∃ pre,p=pre++ys/\pre.length=i/\EG l/\(∀ z ∈ l,∃ k:Nat,z.1=(k:Int))/\∀ k:Nat,(rS l (k:Int)).getD 0=tM (En t) k 0 pre) ?_ ?_ p 0 _ ⟨[],rfl,rfl,EG.nil,λz O=>by simp at O,λk=>by simp [rS,wY,tM]⟩
 ·rintro i y ys l nx ⟨pre,I,Y,hk,J,hs⟩ hnx
  have hy:=hp.LC y (by rw [I]; simp)
  have hpl:p.length=pre.length+(ys.length+1):=by rw [I]; simp
  have hpn:=hp.len;obtain ⟨v,v1,v2,v3,v4⟩:=GN ht (show i<n.bH.length by omega)
  have hbd:=HE (En t) (En t i) (B:=100000) (by omega) pre 0 (λz O=>hp.LC z (by rw [I]; simp [O]))
  have hw:i64.wrap ((rS l (En t i:Int)).getD 0+y)=(rS l (En t i:Int)).getD 0+y:=by
   rw [hs (En t i)];exact bJ ⟨by omega,by omega⟩
  unfold ur;refine Gd.ite (λh=>?_) (λ_=>Gd.ix (by omega) (by rw [Q5]; exact v1) (Gd.ix (by omega) (by rw [Q5]; exact v3) ?_))
  ·exfalso
   simp only [SP,RS] at h;omega
  ·rw [hw]
   refine hnx _ ⟨pre++[y],by rw [I]; simp,by simp [Y],(hk.put _ _).1,λz O=>?_,λk=>?_⟩
   ·rcases ((hk.put _ _).2 z).1 O with Z | Z
    ·exact ⟨En t i,by rw [Z]⟩
    ·exact J z Z.1
   ·rw [hk.Ht,Fu]
    show _=_+((if En t (0+pre.length)=k then y else 0)+0)
    rw [Rv,Y]
    by_cases e:En t i=k
    ·subst e
     rw [Rb rfl,Rb rfl,S9,hs]; omega
    ·rw [Ra (by omega),Ra e,hs]; omega
 ·rintro i l ⟨pre,I,Y,hk,J,hs⟩
  rw [RR] at I;subst I;have:(l.any λp=>!decide (p.2=0))=false:=by
   rw [List.any_eq_false];intro z O;obtain ⟨k,hk2⟩:=J z O;have Z:rS l (k:Int)=some z.2:=hk.find.2 (by rw [<- hk2]; exact O)
   have h2:=hs k;rw [Z,S9,hp.PW k] at h2;simp [h2]
  rw [this];exact Gd.ret rfl
theorem J1 {s:Q1} (h:∃ q,fits q/\s=ctext q):s.size<=maxLen:=by
 obtain ⟨q,I,rfl⟩:=h;have:=Gg I;unfold maxLen; omega
theorem xf (n:Net) (hz:qp n):(∃ e,e≠0/\f_ n=some ([],e)) \/
  (∃ t p s,po n/\pF n/\dY n=some t/\vF n t/\Jr n t p/\f_ n=some (p,0)/\pS n p=some 0/\pW n p=some (s,0)/\OQ n t s/\True):=by
 obtain ⟨e,he,hok⟩:=VL n hz
 by_cases Y:e=0
 ·subst Y
  have Z:=hok rfl;have hn:=Z.ok hz;obtain ⟨t,hg,ht⟩:=MO hn;obtain ⟨⟨p,x⟩,hi,hx⟩:=IP Z hn hg ht he;rcases hx with ⟨J,hp⟩ | ⟨hx,I⟩
  ·left
   simp only at J hp;subst hp;exact ⟨x,J,hi⟩
  ·right
   simp only at hx I;subst hx;have hc:=II hg ht hn he I;obtain ⟨⟨s,y⟩,hs,hy,O⟩:=Ld Z hn hg ht I.len I.LC hc;simp only at hy O;subst hy;exact ⟨t,p,s,Z,hn,hg,ht,I,hi,hc,hs,O,Q3⟩
 ·left
  refine ⟨e,Y,?_⟩;have hsh:mO n=some ([],e):=by
   rw [<- Gd.eq];unfold mO;exact Gd.bind_eq he (Gd.ite (λ_=>Gd.ret rfl) (λh=>absurd (by simpa using h) Y))
  rw [<- Gd.eq];unfold f_;exact Gd.bind_eq hsh (Gd.ite (λ_=>Gd.ret rfl) (λh=>absurd (by simpa using h) Y))
instance P7 (p:Q1) (l:List Q1):Decidable (p ∈ l):=@List.instDecidableMemOfLawfulBEq _ instBEqOfDecidableEq inferInstance p l
theorem r9 (l:List Q1) (p:Q1):bM l p=some (decide (p ∈ l)):=by
 obtain ⟨b,e,h⟩:=uR l p;rw [e]
 congr 1
 cases b <;> simp_all
theorem BV {α:Type} (p:α->Option Bool) (kp:α->Bool) (hp:∀ x,p x=some (!kp x)) (z:α) (A:List α) (hA:A.length<=100000):
  Gd ((jW (λk (_:Unit) n=>idx A (k:Int) λy=>(p y).bind λr=>if r then (some (k:Int)) else (n ())) (λ_=>some (-1)) ((A.length:Int)).toNat 0 ()).bind λr=>
   if decide (r=(-1)) then (some A) else (fX (λ(s:List α×Int×Int) n=>if decide (s.2.2<(s.1.length:Int)) then (idx s.1 s.2.2 λy=>(p y).bind λr=>if !r then (idx s.1 s.2.1 λ_=>n (s.1.set (s.2.1).toNat y,i64.wrap (s.2.1+1),i64.wrap (s.2.2+1))) else (n (s.1,s.2.1,i64.wrap (s.2.2+1))))
    else (cK (0<=s.2.1/\s.2.1<=(s.1.length:Int)) (cK (0<=s.2.1/\s.2.1<=((s.1.take (s.2.1).toNat++List.replicate (s.1.length-(s.2.1).toNat) z).length:Int)) (some (sJ (s.1.take (s.2.1).toNat++List.replicate (s.1.length-(s.2.1).toNat) z) 0 (s.2.1).toNat))))) eY (A,r,i64.wrap (r+1)))) (λr=>r=A.filter kp):=by
 refine Gd.eN (P:=λr=>(r = -1/\∀ x ∈ A,kp x=true)\/∃ (i:Nat) (h:i<A.length),r=i/\kp A[i]=false/\∀ x ∈ A.take i,kp x=true) ?_ (λr hr=>?_)
 ·refine Gd.jW (λm i _=>i+m=A.length/\∀ x ∈ A.take i,kp x=true) ?_ ?_ (A.length:Int).toNat 0 () ⟨by omega,by simp⟩
  ·intro m i _ nx ⟨hi,hno⟩ hnx
   have hlt:i<A.length:=by omega
   refine Gd.gK hlt ?_;rw [hp];refine Gd.ite (λh=>Gd.ret (.inr ⟨i,hlt,rfl,by simpa using h,hno⟩)) (λh=>hnx () ⟨by omega,?_⟩)
   rw [RD hlt];intro x hx;rcases Rh.1 hx with hx | hx
   ·exact hno x hx
   ·simp at hx; subst hx; simpa using h
  ·intro i _ ⟨hi,hno⟩
   rw [Ri (by omega)] at hno
   exact Gd.ret (.inl ⟨rfl,hno⟩)
 ·rcases hr with ⟨rfl,hall⟩ | ⟨i,hi,rfl,hki,hpre⟩
  ·exact Gd.ite (λ_=>Gd.ret (VG.2 hall).symm) (λh=>by simp at h)
  ·refine Gd.ite (λh=>by simp at h) (λ_=>?_)
   have hw0:i64.wrap ((i:Int)+1)=((i+1:Nat):Int):=by rw [bJ ⟨by omega,by omega⟩]; omega
   rw [hw0];have Y:A.take i=(A.take (i+1)).filter kp:=by
    rw [RD hi,TQ,VG.2 hpre];simp [V7,hki]
   refine Gd.fX (λ(s:List α×Int×Int)=>∃ p q:Nat,s.2.1=p/\s.2.2=q/\p<q/\q<=A.length/\s.1.length=A.length/\s.1.take p=(A.take q).filter kp/\s.1.drop q=A.drop q) (λs=>A.length-s.2.2.toNat) ?_ eY _ ⟨i,i+1,rfl,rfl,by omega,by omega,rfl,Y,rfl⟩ (by unfold eY; omega)
   rintro ⟨l,n1,n2⟩ nx ⟨p,q,h1,h2,hpq,hqA,hl,I,O⟩ hn;simp only at h1 h2 hl I O;subst h1; subst h2
   have hwq:i64.wrap ((q:Int)+1)=((q+1:Nat):Int):=by rw [bJ ⟨by omega,by omega⟩]; omega
   have hwp:i64.wrap ((p:Int)+1)=((p+1:Nat):Int):=by rw [bJ ⟨by omega,by omega⟩]; omega
   rw [hwq];refine Gd.ite (λh=>?_) (λh=>?_)
   ·have hq:q<l.length:=by
     have:(q:Int)<((l.length:Nat):Int):=by simpa using h
     omega
    have hqa:q<A.length:=by omega
    have hv:l[q]=A[q]:=by
     have e1:=RK hq;have e2:=RK hqa;rw [O,e2] at e1;exact (V3 e1).1.symm
    have hd2:l.drop (q+1)=A.drop (q+1):=by
     have:=Rn (List.drop 1) O;simpa [SV] using this
    have J:(A.take (q+1)).filter kp=(A.take q).filter kp++(if kp A[q] then [A[q]] else []):=by
     rw [RD hqa,TQ]
     congr 1
     simp only [V7,List.filter_nil]
    refine Gd.gK hq ?_;rw [hp,hv];refine Gd.ite (λZ=>Gd.gK (show p<l.length by omega) ?_) (λZ=>?_)
    ·have Z:kp A[q]=true:=by simpa using Z
     rw [hwp,Q5];refine hn _ ⟨p+1,q+1,rfl,rfl,by omega,by omega,by simpa using hl,?_,?_⟩ (by simp only [Q5]; omega)
     ·simp only
      have hp:p<(l.set p A[q]).length:=by simp; omega
      rw [RD hp,List.getElem_set_self,J,Rb Z,TX (Rq p),I]
     ·simp only
      rw [TG (by omega),hd2]
    ·have Z:kp A[q]=false:=by simpa using Z
     refine hn _ ⟨p,q+1,rfl,rfl,by omega,by omega,hl,?_,hd2⟩ (by simp only [Q5]; omega)
     simp only;rw [J,Ra (by simp [Z]),RR,I]
   ·have hq:l.length<=q:=by
     have:((l.length:Nat):Int)<=(q:Int):=by simpa using h
     omega
    have hqe:q=A.length:=by omega
    refine Gd.nd ⟨VY p,show (p:Int)<=((l.length:Nat):Int) by omega⟩ (Gd.nd ⟨VY p,?_⟩ (Gd.ret ?_))
    ·simp only [Q5,Ro,RC,So]; omega
    ·unfold sJ
     rw [Su,T7,Q5,List.take_append_of_le_length (by simp; omega),Vd,Nat.min_self,I,hqe,SW]
def Fk (W:List BA) (x:aH):Bool:=decide (x.Name ∈ W)
theorem del_eq (W:List BA) (x:aH):mc x W=some (!Fk W x):=by
 unfold mc;rw [r9]; rfl
theorem Gh (W:List BA) (A:List aH) (hA:A.length<=1000):Gd (dQ A W) (λr=>r=A.filter (Fk W)):=
 BV (λy=>mc y W) (Fk W) (del_eq W) (aH.mk ⟨#[]⟩ ⟨#[]⟩ 0) A (by omega)
theorem Je {l:List Q1}{k:Nat}:sJ l 0 k=l.take k:=by unfold sJ; simp
theorem Jk {n:Net} (O:qp n) (on:List Q1):Gd (d_ n on) (λe=>e=0->bZ n=some 0):=by
 obtain ⟨e,he,_⟩:=VL n O;unfold d_;refine Gd.bind_eq he (Gd.ite (λh=>Gd.ret (λJ=>by subst J; simp at h)) (λh=>?_))
 have J:e=0:=by simpa using h
 subst J;refine Gd.dM (Q:=λe=>e=0->bZ n=some 0) (λi (ys:List Q1) (_:Unit)=>i+ys.length=on.length) ?_ (λ_ _ _=>Gd.ret (λ_=>he)) on 0 () (by simp)
 intro i y ys _ Y hi I;simp only [Rd] at hi;unfold qb;refine Gd.eN (P:=λ_=>True) ?_ (λb _=>Gd.ite (λ_=>Gd.ret (λh=>by simp at h)) (λ_=>?_))
 ·unfold cJ cO
  refine Gd.eN (P:=λ_=>True) ?_ (λ_ _=>Gd.ret Q3);refine Gd.jW (Q:=λ_=>True) (λm i (_:Unit)=>i+m=n.bF.length) ?_ (λ_ _ _=>Gd.ret Q3) ((n.bF.length:Int)).toNat 0 () (by omega)
  intro m i _ Y hi I;unfold dH;exact Gd.gK (by omega) (Gd.ite (λ_=>Gd.ret Q3) (λ_=>I () (by omega)))
 ·refine Gd.nd (by omega) ?_
  rw [r9];exact Gd.ite (λ_=>Gd.ret (λh=>by simp at h)) (λ_=>I () (by omega))
def rH (n:Net) (on:List Q1):Net:=aF.mk n.bH n.aN n.aK n.dS (n.bF.filter (Fk on)) n.bY
theorem H4 {n:Net} (h:po n) (on:List Q1):pA n on=some (rH n on):=by
 have:=h.l1; have:=h.l2; have:=h.l3; have:=h.l4; have:=h.l5; have:=h.l6
 rw [<- Gd.eq];unfold pA kC;refine Gd.eN (P:=λr=>r=n) (Gd.nd (by omega) (Gd.nd (by omega) (Gd.nd (by omega) (Gd.nd (by omega) (Gd.nd (by omega) (Gd.nd (by omega) (Gd.ret rfl))))))) (λr I=>?_)
 subst I;refine Gd.eN (Gh on r.bF (by omega)) (λl hl=>Gd.ret ?_)
 rw [hl]; rfl
theorem qp.rH {n:Net} (h:qp n) (on:List Q1):qp (rH n on):=
 ⟨h.nd,h.sw,h.br,h.gn,λx I=>h.ld x (Sg.1 I).1,h.st⟩
theorem LK {n:Net}{on:List Q1}{e:Int} (h:d_ n on=some e) (I:e≠0):nW n on=some (aF.mk [] [] [] [] [] [],e):=by
 rw [<- Gd.eq];unfold nW;exact Gd.bind_eq h (Gd.ite (λ_=>Gd.ret rfl) (λk=>absurd (by simpa using k) I))
theorem DP {n:Net} (I:po n) {on:List Q1} (h:d_ n on=some 0):nW n on=some (rH n on,0):=by
 rw [<- Gd.eq];unfold nW;exact Gd.bind_eq h (Gd.ite (λk=>by simp at k) (λ_=>Gd.bind_eq (H4 I on) (Gd.ret rfl)))
def Au (z:aR×Rat):Prop:=(z.1.tY:Rat)<Ol z.2
open Classical in
noncomputable def yT (z:aR×Rat):List Q1:=if Au z then [z.1.Name] else []
theorem AG {z:aR×Rat} (h:Au z):yT z=[z.1.Name]:=Rb h
theorem CF {z:aR×Rat} (h:¬ Au z):yT z=[]:=Ra h
theorem HP:∀ {l:List Q1},(∀ x ∈ l,∃ q,fits q/\x=ctext q)->∃ qs:List Rat,l=qs.map ctext/\∀ q ∈ qs,fits q
 | [],_=>⟨[],rfl,λq h=>by cases h⟩
 | x::l,h=>by
  obtain ⟨q,O,rfl⟩:=h x (Q9 ..);obtain ⟨qs,rfl,J⟩:=HP (l:=l) (λy Y=>h y (Rc _ Y));refine ⟨q::qs,rfl,λp I=>?_⟩;rcases RU.1 I with rfl | I
  ·exact O
  ·exact J p I
theorem Lz {I:List aR}{qs:List Rat}{i:Nat} (h:i<I.length) (O:i<qs.length):
  ((I.zip qs).take (i+1)).flatMap yT=((I.zip qs).take i).flatMap yT++yT (I[i],qs[i]):=by
 have J:i<(I.zip qs).length:=by simp; omega
 rw [RD J,Uo,List.getElem_zip];simp
theorem Ej {n:Net} (hV:po n) {qs:List Rat} (hl:qs.length=n.aK.length) (hf:∀ q ∈ qs,fits q):
  nX n (qs.map ctext)=some ((n.aK.zip qs).flatMap yT):=by
 have h3:=hV.l3;rw [<- Gd.eq];unfold nX;refine Gd.dM (λi (ys:List aR) (w:List Q1)=>i+ys.length=n.aK.length/\n.aK.drop i=ys/\w.length<=i/\w=((n.aK.zip qs).take i).flatMap yT) ?_ ?_ n.aK 0 [] ⟨by simp,rfl,by simp,by simp⟩
 ·rintro i y ys w nx ⟨hi,hd,hw,hv⟩ hnx
  simp only [Rd] at hi;have J:i<n.aK.length:=by omega
  have O:i<qs.length:=by omega
  have hy:n.aK[i]=y:=by
   have e:=RK J;rw [hd] at e; exact (V3 e).1.symm
  have Z:n.aK.drop (i+1)=ys:=by
   have:=Rn (List.drop 1) hd;simpa [SV] using this
  have hL:=(Ip hV (RI J)).l;have Y:=Lz J O;rw [<- hv] at Y;unfold sZ oT;refine Gd.gK (by simpa using O) ?_
  rw [Tk];refine Gd.eN (FC (hf _ (RI O))) (λa ha=>Gd.eN (HQ ha.1 ha.2.1 (by omega)) (λb hb=>?_))
  rw [<- hy];refine Gd.eN (vE ⟨by omega,by omega⟩) (λc hc=>Gd.eN (Et hb.1 hc.1 hb.2.1 hc.2.1 (by omega)) (λd I=>?_))
  rw [hb.2.2,hc.2.2,ha.2.2] at I;have hov:0<d↔Au (n.aK[i],qs[i]):=I.1;clear I;refine Gd.ite (λh=>Gd.nd ?_ (hnx _ ⟨by omega,Z,?_,?_⟩)) (λh=>hnx _ ⟨by omega,Z,by omega,?_⟩)
  ·simp only [Rd,Wc]; omega
  ·simp; omega
  ·rw [Y,AG (hov.1 (Q_ h))]
  ·rw [Y,CF (λk=>Rf h (hov.2 k)),RR]
 ·rintro i w ⟨hi,_,_,hv⟩
  rw [Ri (by simp at hi ⊢; omega)] at hv
  exact Gd.ret hv
theorem GL {c:Net} (hz:qp c):∃ e,lK c=some e:=by
 suffices h:Gd (lK c) (λ_=>True) by
  obtain ⟨e,he,_⟩:=h;exact ⟨e,he⟩
 unfold lK;refine Gd.eN (P:=λ_=>True) ?_ (λr _=>Gd.ite (λ_=>Gd.ret Q3) (λ_=>Gd.ret Q3));unfold fT;rcases xf c hz with ⟨x,hx,hi⟩ | ⟨t,p,s,hV,hn,hg,ht,hb,hi,hfc,hs,I,hv⟩
 ·exact Gd.bind_eq hi (Gd.ite (λ_=>Gd.ret Q3) (λk=>absurd (by simpa using k) hx))
 ·obtain ⟨qs,Z,J⟩:=HP I.f
  have O:qs.length=c.aK.length:=by
   have:=I.fl;rw [Z,S2] at this;exact this
  have Y:=Ej hV (qs:=qs) O J;rw [<- Z] at Y;exact Gd.bind_eq hi (Gd.ite (λk=>by simp at k) (λ_=>Gd.bind_eq hs (Gd.ite (λk=>by simp at k) (λ_=>Gd.bind_eq Y (Gd.ret Q3)))))
def CC (n:Net) (l:List Q1):Prop:=lK (rH n l)=some 0
def nm (n:Net):List Q1:=n.bF.map (·.Name)
theorem KP {n:Net} (h:po n):(nm n).Nodup:=by
 have:=h.nd;unfold names at this;exact (R6.1 (R6.1 this).1).2.1
theorem zn (n:Net):(nm n).length=n.bF.length:=by simp [nm]
theorem La (l:List Q1):sJ l 0 ((l.length:Int)).toNat=l:=by simp [sJ]
structure Found (n:Net) (l out:List Q1):Prop where
 ext:out.take l.length=l
 len:out.length=n.bF.length
 ok:∀ k,l.length<=k->k<=out.length->CC n (out.take k)
 set:l.Nodup->(∀ x ∈ l,x ∈ nm n)->out.Nodup/\∀ x ∈ out,x ∈ nm n

theorem Jz {n:Net}{on:List Q1}{e:Int} (h:d_ n on=some e) (I:e≠0):dV n on=some (cI.mk [] [],[],e):=by
 rw [<- Gd.eq];unfold dV;exact Gd.bind_eq (LK h I) (Gd.ite (λ_=>Gd.ret rfl) (λk=>absurd (by simpa using k) I))
theorem Ia {n:Net} (J:po n) {on:List Q1} (h:d_ n on=some 0) {e:Int} (I:e≠0) (hi:f_ (rH n on)=some ([],e)):
  dV n on=some (cI.mk [] [],[],e):=by
 rw [<- Gd.eq];unfold dV fT;exact Gd.bind_eq (DP J h) (Gd.ite (λk=>by simp at k) (λ_=>Gd.eN (P:=λr=>r=(cI.mk [] [],[],e)) (Gd.bind_eq hi (Gd.ite (λ_=>Gd.ret rfl) (λk=>absurd (by simpa using k) I))) (λr O=>by subst O; exact Gd.ret rfl)))
theorem JA {n:Net} (I:po n) {on:List Q1} (h:d_ n on=some 0) {p:List Int}{s:cI}{ov:List Q1}
  (hi:f_ (rH n on)=some (p,0)) (hs:pW (rH n on) p=some (s,0)) (J:nX (rH n on) s.iP=some ov):
  dV n on=some (s,ov,0):=by
 rw [<- Gd.eq];unfold dV fT;exact Gd.bind_eq (DP I h) (Gd.ite (λk=>by simp at k) (λ_=>Gd.eN (P:=λr=>r=(s,ov,0)) (Gd.bind_eq hi (Gd.ite (λk=>by simp at k) (λ_=>Gd.bind_eq hs (Gd.ite (λk=>by simp at k) (λ_=>Gd.bind_eq J (Gd.ret rfl)))))) (λr O=>by subst O; exact Gd.ret rfl)))
theorem seq_eq (l:List Q1):gZ l l=some true:=by
 rw [<- Gd.eq];unfold gZ;refine Gd.ite (λh=>by simp at h) (λ_=>?_)
 refine Gd.jW (Q:=λx=>x=true) (λm i (_:Unit)=>i+m=l.length) ?_ (λ_ _ _=>Gd.ret rfl) ((l.length:Int)).toNat 0 () (by omega)
 intro m i _ J hi I;unfold lM;exact Gd.gK (by omega) (Gd.gK (by omega) (Gd.ite (λh=>by simp at h) (λ_=>I () (by omega))))
theorem Jl {n:Net} (hc:bZ n=some 0) (l:List Q1) (hl:l.length<=1000) (hnd:l.Nodup) (hs:∀ x ∈ l,x ∈ nm n):d_ n l=some 0:=by
 rw [<- Gd.eq];unfold d_;refine Gd.bind_eq hc (Gd.ite (λh=>by simp at h) (λ_=>?_))
 refine Gd.dM (Q:=λe=>e=0) (λi (ys:List Q1) (_:Unit)=>i+ys.length=l.length/\l.drop i=ys) ?_ (λ_ _ _=>Gd.ret rfl) l 0 () ⟨by simp,rfl⟩
 rintro i y ys _ nx ⟨hi,hd⟩ I;simp only [Rd] at hi;have O:i<l.length:=by omega
 have hy:l[i]=y:=by
  have e:=RK O;rw [hd] at e; exact (V3 e).1.symm
 have hd':l.drop (i+1)=ys:=by
  have:=Rn (List.drop 1) hd;simpa [SV] using this
 have Y:y ∈ nm n:=hs y (hy▸RI O);obtain ⟨q,hq,J⟩:=Sm.1 Y;rw [zn] at hq;have J:n.bF[q].Name=y:=by simpa [nm] using J
 unfold qb;refine Gd.eN (P:=λb=>b=true) ?_ (λb hb=>?_)
 ·unfold cJ cO
  refine Gd.eN (P:=λr=>(0:Int)<=r) ?_ (λr hr=>Gd.ret (by simpa using hr))
  refine Gd.jW (Q:=λr=>(0:Int)<=r) (λm i (_:Unit)=>i+m=n.bF.length/\i<=q) ?_ (λi _ h=>by omega) ((n.bF.length:Int)).toNat 0 () ⟨by omega,by omega⟩
  rintro m i _ nx ⟨hi,hiq⟩ I;unfold dH;refine Gd.gK (by omega) (Gd.ite (λ_=>Gd.ret (by omega)) (λh=>I () ⟨by omega,?_⟩))
  refine Nat.lt_of_le_of_ne hiq (λe=>?_);subst e;simp [oS,J] at h
 ·subst hb
  refine Gd.ite (λh=>by simp at h) (λ_=>Gd.nd (by omega) ?_)
  rw [r9,Je,Q5];refine Gd.ite (λh=>?_) (λ_=>I () ⟨by omega,hd'⟩)
  exfalso;have h:=Q_ h;obtain ⟨p,hp,Z⟩:=List.mem_take_iff_getElem.1 h;rw [<- hy] at Z;have:p=i:=(List.getElem_inj hnd).1 Z;omega
def xq (off:List BA) (x:BA):Bool:=!decide (x ∈ off)
theorem Mr (off:List BA) (x:BA):jI x off=some (!xq off x):=by
 unfold jI xq;rw [r9,Bool.not_not]; rfl
theorem I7 (off A:List BA) (hA:A.length<=1000):Gd (dR A off) (λr=>r=A.filter (xq off)):=
 BV (λy=>jI y off) (xq off) (Mr off) ⟨#[]⟩ A (by omega)
def C3 (n:Net) (names off:List BA):Prop:=CC n (names.filter (xq off))
theorem Ih {n:Net} (O:qp n) (I:po n) (names off:List BA) (hl:names.length<=1000):Gd (nV off names n) (λb=>b=true↔C3 n names off):=by
 unfold nV;refine Gd.nd (by omega) (Gd.eN (I7 off names hl) (λr J=>?_))
 subst J;obtain ⟨e,he⟩:=GL (O.rH (names.filter (xq off)));refine Gd.bind_eq (H4 I _) (Gd.bind_eq he (Gd.ret ?_));unfold C3 CC;rw [he];constructor
 ·intro h; rw [Q_ h]
 ·intro h; exact W0 (Q8 h)
theorem Le {y:BA}{s L:List BA}{m:Nat} (h:s.Sublist (y::L)) (hl:s.length=m+1):s.Sublist L\/∃ I,s=y::I/\I.Sublist L/\I.length=m:=by
 cases h with
 | cons _ h=>exact .inl h
 | cons_cons _ h=>exact .inr ⟨_,rfl,h,by simpa using hl⟩
theorem BR {n:Net} (hz:qp n) (hV:po n) (names:List BA) (hl:names.length<=12):∀ (m:Nat) (off:List BA) (i:Nat),off.length+m<=1000->i<=names.length->∀ f,m<f ->
  Gd (dJ f names off (i:Int) (m:Int) names n) (λr=>
   (r.2=true->∃ s,r.1=off++s/\s.Sublist (names.drop i)/\s.length=m/\C3 n names r.1) /\
   (r.2=false->∀ s,s.Sublist (names.drop i)->s.length=m->¬ C3 n names (off++s)))
 | m,off,i,ho,hi,0,hf=>by omega
 | m,off,i,ho,hi,f+1,hf=>by
  show Gd (eC (dJ f) names off i m names n) _;unfold eC;refine Gd.ite (λh=>?_) (λh=>?_)
  ·have hm:m=0:=by have:=Q_ h; omega
   subst hm;refine Gd.eN (Ih hz hV names off (by omega)) (λb hb=>Gd.ret ⟨λh=>⟨[],by simp,by simp,rfl,hb.1 h⟩,λh s hs h0 Y=>?_⟩)
   have hs0:=RA h0;subst hs0;rw [RR] at Y;have:=hb.2 Y;simp only at h;rw [h] at this; cases this
  ·obtain ⟨k,rfl⟩:∃ k,m=k+1:=⟨m-1,by have:=Rf h; omega⟩
   have hwm:i64.wrap (((k+1:Nat):Int)-1)=(k:Int):=by rw [bJ ⟨by omega,by omega⟩]; omega
   refine Gd.fX (λ(s:Int)=>∃ j:Nat,s=j/\i<=j/\j<=names.length/\∀ s,s.Sublist (names.drop i)->s.length=k+1->¬ C3 n names (off++s)\/s.Sublist (names.drop j)) (λs=>names.length-s.toNat) ?_ eY _ ⟨i,rfl,Rq _,hi,λs hs _=>.inr hs⟩ (by unfold eY; omega)
   rintro _ nx ⟨j,rfl,hij,hj,hI⟩ hn;unfold jJ;refine Gd.ite (λh=>?_) (λh=>Gd.ret ⟨λh=>by simp at h,λ_ s hs J Y=>?_⟩)
   ·have I:j<names.length:=by have:=Q_ h; omega
    have hwj:i64.wrap ((j:Int)+1)=((j+1:Nat):Int):=by rw [bJ ⟨by omega,by omega⟩]; omega
    have hd:=RK I;rw [hwj,hwm];refine Gd.nd (by omega) (Gd.gK I ?_)
    rw [La];refine Gd.nd (by simp only [Rd,Wc]; omega) ?_
    refine Gd.eN (BR hz hV names hl k (off++[names[j]]) (j+1) (by simp; omega) I f (by omega)) (λr hr=>Gd.ite (λh=>Gd.ret ⟨λ_=>?_,λh=>by simp at h⟩) (λh=>hn _ ⟨j+1,rfl,by omega,I,λs hs J=>?_⟩ (by simp only [Q5]; omega)))
    ·obtain ⟨s,h1,Z,h3,h4⟩:=hr.1 h
     refine ⟨names[j]::s,by simp [h1],?_,by simp [h3],h4⟩
     refine (Z.cons_cons _).trans ?_;rw [<- hd];obtain ⟨d,rfl⟩:∃ d,j=i+d:=⟨j-i,by omega⟩
     rw [<- SV];exact List.drop_sublist _ _
    ·rcases hI s hs J with O | O
     ·exact .inl O
     ·rw [hd] at O
      rcases Le O J with O | ⟨s',rfl,Z,h3⟩
      ·exact .inr O
      ·have:=hr.2 h s' Z h3
       rw [RG] at this;exact .inl this
   ·have I:j=names.length:=by have:=Rf h; omega
    rcases hI s hs J with O | O
    ·exact O Y
    ·rw [I,TY] at O
     rw [List.sublist_nil.1 O] at J;simp at J
theorem H_ {n:Net} (hz:qp n) (hV:po n) (on:List BA) (hc:d_ n on=some 0) (hl:on.length<=5) (names:List BA) (O:names=(nm n).filter (λx=>decide (x ∈ on))):
  Gd (mb n on) (λr=>(r.2=0/\r.1.Sublist names/\C3 n names r.1/\∀ s,s.Sublist names->s.length<r.1.length->¬ C3 n names s) \/
   (r=([],8)/\∀ s,s.Sublist names->¬ C3 n names s)):=by
 have hnl:=zn n;have h5:=hV.l5;have J:names.length<=12:=by
  rw [O]; exact Sb (Wb _ _) (by omega)
 unfold mb;refine Gd.bind_eq hc (Gd.ite (λh=>by simp at h) (λ_=>Gd.ite (λh=>?_) (λ_=>?_)))
 ·have:=Q_ h
  omega
 refine Gd.dM (λi (ys:List aH) (w:List BA)=>i+ys.length=n.bF.length/\n.bF.drop i=ys/\w=((nm n).take i).filter (λx=>decide (x ∈ on))/\w.length<=i) ?_ ?_ n.bF 0 [] ⟨by simp,rfl,by simp,by simp⟩
 ·rintro i y ys w nx ⟨hi,hd,hw,hwl⟩ Y
  simp only [Rd] at hi;have hil:i<n.bF.length:=by omega
  have hy:n.bF[i]=y:=by
   have e:=RK hil;rw [hd] at e; exact (V3 e).1.symm
  have I:n.bF.drop (i+1)=ys:=by
   have:=Rn (List.drop 1) hd;simpa [SV] using this
  have uX:i<(nm n).length:=by omega
  have hny:(nm n)[i]=y.Name:=by simp [nm,hy]
  have Z:((nm n).take (i+1)).filter (λx=>decide (x ∈ on))=w++(if decide (y.Name ∈ on) then [y.Name] else []):=by
   rw [RD uX,TQ,<- hw,hny]
   congr 1
   simp only [V7,List.filter_nil]
  unfold rQ nf;rw [r9];refine Gd.ite (λh=>Gd.nd (by simp only [Rd,Wc]; omega) (Y _ ⟨by omega,I,?_,by simp; omega⟩)) (λh=>Y _ ⟨by omega,I,?_,by omega⟩)
  ·rw [Z,Rb h]
  ·rw [Z,Ra (by rw [h]; simp),RR]
 ·rintro i w ⟨hi,_,hw,_⟩
  rw [Ri (by simp at hi; omega),<- O] at hw
  subst hw;refine Gd.fX (λ(s:Int)=>∃ k:Nat,s=k/\k<=w.length+1/\∀ s,s.Sublist w->s.length<k->¬ C3 n w s) (λs=>w.length+1-s.toNat) ?_ eY _ ⟨0,rfl,by omega,λs _ h=>by omega⟩ (by unfold eY; simp; omega)
  rintro _ nx ⟨k,rfl,hk,hI⟩ hn;unfold rR;refine Gd.ite (λh=>?_) (λh=>Gd.ret (.inr ⟨rfl,λs hs=>hI s hs ?_⟩))
  ·have hkw:k<=w.length:=by have:=Q_ h; omega
   have hwk:i64.wrap ((k:Int)+1)=((k+1:Nat):Int):=by rw [bJ ⟨by omega,by omega⟩]; omega
   unfold kA;rw [hwk];refine Gd.eN (BR hz hV w J k [] 0 (by simp; omega) (Nat.zero_le _) eY (by unfold eY; omega)) (λr hr=>Gd.ite (λh=>Gd.ret (.inl ?_)) (λh=>hn _ ⟨k+1,rfl,by omega,λs hs hs1=>?_⟩ (by simp only [Q5]; omega)))
   ·obtain ⟨s,h1,h2,h3,h4⟩:=hr.1 h
    rw [SJ] at h1;rw [Su,<- h1] at h2;exact ⟨rfl,h2,h4,λs' hs hl'=>hI s' hs (by rw [h1] at hl'; omega)⟩
   ·by_cases e:s.length=k
    ·have:=hr.2 h s (by rw [Su]; exact hs) e
     rwa [SJ] at this
    ·exact hI s hs (by omega)
  ·have:=hs.length_le
   have:=Rf h;omega
theorem G1 {c:Net} (hz:qp c):∃ r,fT c=some r:=by
 suffices h:Gd (fT c) (λ_=>True) by
  obtain ⟨e,he,_⟩:=h;exact ⟨e,he⟩
 unfold fT;rcases xf c hz with ⟨x,hx,hi⟩ | ⟨t,p,s,hV,hn,hg,ht,hb,hi,hfc,hs,I,hv⟩
 ·exact Gd.bind_eq hi (Gd.ite (λ_=>Gd.ret Q3) (λk=>absurd (by simpa using k) hx))
 ·obtain ⟨qs,Z,J⟩:=HP I.f
  have O:qs.length=c.aK.length:=by
   have:=I.fl;rw [Z,S2] at this;exact this
  have Y:=Ej hV (qs:=qs) O J;rw [<- Z] at Y;exact Gd.bind_eq hi (Gd.ite (λk=>by simp at k) (λ_=>Gd.bind_eq hs (Gd.ite (λk=>by simp at k) (λ_=>Gd.bind_eq Y (Gd.ret Q3)))))
theorem Jy {n:Net} (I:po n) {l:List BA} (h:d_ n l=some 0) {r:cI×List Q1×Int} (hs:fT (rH n l)=some r):dV n l=some r:=by
 rw [<- Gd.eq];unfold dV;exact Gd.bind_eq (DP I h) (Gd.ite (λk=>by simp at k) (λ_=>Gd.bind_eq hs (Gd.ret rfl)))
theorem IZ {n:Net}{l:List BA}{r:cI×List Q1×Int} (hs:fT (rH n l)=some r):CC n l↔r.2.2=0/\r.2.1=[]:=by
 unfold CC lK;rw [hs];show (if _ then _ else _)=_↔_
 by_cases I:r.2.2=0
 ·by_cases J:r.2.1=[]
  ·simp [I,J]
  ·have:0<r.2.1.length:=Wd.2 J
   simp [I,J]
 ·simp [I]
abbrev Node:=bO
abbrev DH:=bA
abbrev Sw:=aM
theorem wi {α:Type}{l:List α}{i:Nat} (h:i<l.length):∃ x,l[i]? = some x:=⟨_,Q4 h⟩
theorem Dp {α:Type}{l:List α}{i:Nat}{x:α} (h:l[i]? = some x):i<l.length:=(Q7.1 h).1
theorem drop_cons {α:Type}{l:List α}{k:Nat}{y:α}{ys:List α} (h:y::ys=l.drop k):l[k]? = some y/\ys=l.drop (k+1):=by
 constructor
 ·have:=Rn (·[0]?) h
  simpa [RT] using this.symm
 ·have:=Rn (List.drop 1) h
  simpa using this
theorem yA (s:Q1) (h:s.size<=maxLen):Gd (bC s) (λ_=>True):=by
 unfold bC;refine Gd.nd h (Gd.dM (λ_ _ _=>True) (λi y ys s n _ hn=>?_) (λi s _=>Gd.ret Q3) _ _ _ Q3);unfold l_;exact Gd.ite (λ_=>Gd.ret Q3) (λ_=>hn _ Q3)
structure At (l:List Sw) (name:Q1) (r:Int):Prop where
 no:r<0->∀ x ∈ l,x.Name≠name
 yes:0<=r->∃ x,l[r.toNat]? = some x/\x.Name=name
theorem B7 (l:List Sw) (name:Q1):Gd (kZ l name) (At l name):=by
 unfold kZ;refine Gd.eN (P:=At l name) ?_ (λa h=>Gd.ret h);unfold cB;refine Gd.jW (λm i _=>i+m=l.length/\∀ x ∈ l.take i,x.Name≠name) ?_ ?_ (l.length:Int).toNat 0 () ⟨by omega,by simp⟩
 ·intro m i _ J ⟨hi,hno⟩ hnx
  unfold cQ;refine Gd.gK (by omega) ?_
  refine Gd.ite (λh=>Gd.ret ⟨λh=>by omega,λ_=>⟨l[i]'(by omega),by rw [show ((i:Int)).toNat=i by omega]; exact Q4 _,by simpa [ly] using h⟩⟩) (λh=>hnx () ⟨by omega,?_⟩)
  intro x I;rw [RD (by omega),Rh,Rz] at I
  rcases I with I | rfl
  ·exact hno x I
  ·simpa [ly] using h
 ·intro i _ ⟨hi,hno⟩
  refine Gd.ret ⟨λ_=>?_,λh=>by omega⟩
  rw [Ri (by omega)] at hno
  exact hno
def G_ (l:List Sw):Prop:=l.length<=32/\(∀ x ∈ l,bC x.Name=some true)/\(l.map (·.Name)).Nodup
theorem Jg (l:List Sw) (hl:∀ x ∈ l,x.Name.size<=maxLen):Gd (kJ l) (λe=>e=0↔G_ l):=by
 unfold kJ;refine Gd.ite (λh=>Gd.ret ?_) (λh=>?_)
 ·simp only [RS] at h
  exact ⟨λh=>by omega,λY=>by have:=Y.1; omega⟩
 ·simp only [WZ] at h
  refine Gd.dM (λk ys _=>ys=l.drop k/\k<=l.length/\(∀ x ∈ l.take k,bC x.Name=some true)/\((l.take k).map (·.Name)).Nodup) ?_ ?_ l 0 () ⟨by simp,by omega,by simp,by simp⟩
  ·rintro k y ys _ nx ⟨O,hk,hn,hd⟩ hnx
   obtain ⟨hy,hys'⟩:=drop_cons O;have hky:=Dp hy;have hym:=Rg hy;obtain ⟨b,hb,_⟩:=yA y.Name (hl y hym);have J:l.take (k+1)=l.take k++[y]:=by rw [Wl,hy]; rfl
   unfold nS;refine Gd.bind_eq hb (Gd.ite (λh=>Gd.ret ?_) (λh=>?_))
   ·refine ⟨λh=>by omega,λY=>?_⟩
    have:=Y.2.1 y hym;rw [hb] at this; cases this; simp at h
   ·have hbt:b=true:=by simpa using h
    subst hbt;refine Gd.nd (by omega) ?_
    refine Gd.eN (B7 _ _) (λr hr=>Gd.ite (λh=>Gd.ret ?_) (λh=>?_))
    ·refine ⟨λh=>by omega,λY=>?_⟩
     simp only [RS] at h;obtain ⟨x,I,hxn⟩:=hr.yes h;simp only [sJ,Su,T7,Q5] at I;have hnd:=Y.2.2;rw [RX] at I
     split at I
     case isFalse=>cases I
     rename_i hlt
     rw [<- SA k l,Ss,R6] at hnd;refine absurd hxn (hnd.2.2 _ (RY.2 ⟨x,?_,rfl⟩) _ (RY.2 ⟨y,?_,rfl⟩))
     ·exact Rg (i:=r.toNat) (by rw [RX,Rb hlt]; exact I)
     ·rw [<- O]; exact Q9 ..
    ·simp only [WZ] at h
     have hno:=hr.no (by omega)
     simp only [sJ,Su,T7,Q5] at hno;refine hnx () ⟨hys',by omega,?_,?_⟩
     ·rw [J]
      intro x I;rw [Rh,Rz] at I;rcases I with I | rfl
      ·exact hn x I
      ·exact hb
     ·rw [J,Ss,R6]
      refine ⟨hd,by simp,?_⟩
      rintro a ha b Z rfl;simp only [Te,U6,Rz] at Z;obtain ⟨x,I,rfl⟩:=RY.1 ha;exact hno x I Z
  ·rintro k _ ⟨O,hk,hn,hd⟩
   have:l.length<=k:=by
    have:=Rn List.length O;simp at this; omega
   rw [Ri this] at hn hd;exact Gd.ret ⟨λ_=>⟨by omega,hn,hd⟩,λ_=>rfl⟩
def F3 (k:Nat) (y:Node):Prop:=(y.Kind=4->0<=y.A/\y.A<k)/\((y.Kind=5\/y.Kind=6)->0<=y.A/\y.A<k/\0<=y.B_/\y.B_<k)
structure Bt (c:List Node):Prop where
 pos:0<c.length
 len:c.length<=40
 ok:∀ j y,c[j]? = some y->F3 j y
structure CI (c:List Node) (k:Nat) (l:List Int):Prop where
 len:l.length=c.length
 st:∀ (j:Nat) (v:Int),j<k->l[j]? = some v->0<=v/\v<=j
 ok:∀ j y,j<k->c[j]? = some y->F3 j y
theorem CI.next {c:List Node}{k:Nat}{l:List Int}{y:Node}{v:Int} (h:CI c k l) (Y:c[k]? = some y) (hn:F3 k y) (Z:0<=v) (h1:v<=k):CI c (k+1) (l.set k v):=by
 refine ⟨by simp [h.len],?_,?_⟩
 ·intro j w O I
  rw [UH] at I
  split at I
  ·rename_i e
   split at I
   ·cases I; omega
   ·cases I
  ·exact h.st j w (by omega) I
 ·intro j z O J
  by_cases e:j=k
  ·subst e; rw [Y] at J; cases J; exact hn
  ·exact h.ok j z (by omega) J
theorem JZ:jQ=eB:=rfl
theorem JN {c:List Node}{k:Nat}{l:List Int}{y:Node}{Q:Int->Prop}{nx:List Int->Option Int} (h:CI c k l) (hc:c.length<=40) (hy:c[k]? = some y) (I:Q 3) (J:∀ l',CI c (k+1) l'->Gd (nx l') Q)
  (b:Bool) (Y:y.Kind≠4) (hb:b=false->y.Kind≠5/\y.Kind≠6):Gd (eB l nx y k b) Q:=by
 have hk:=Dp hy;have hw:i64.wrap ((k:Int)-1)=(k:Int)-1:=bJ (by omega)
 have Z:((k:Int)).toNat=k:=by omega
 unfold eB dT;rw [hw,Z];refine Gd.ite (λ_=>?_) (λh0=>?_)
 ·refine Gd.ite (λ_=>Gd.ret I) (λh1=>?_)
  simp only [WZ] at h1;refine Gd.ite (λh2=>?_) (λ_=>Gd.ret I);simp only [RS] at h2;obtain ⟨p,hp⟩:=wi (l:=l) (i:=k-1) (by rw [h.len]; omega)
  have O:(l.set k (k:Int))[((k:Int)-1).toNat]? = some p:=by
   rw [show ((k:Int)-1).toNat=k-1 by omega,UH,Ra (by omega)]; exact hp
  have hpb:=h.st (k-1) p (by omega) hp
  refine Gd.ix (by omega) O (Gd.ite (λ_=>Gd.ret I) (λh3=>?_))
  simp only [WZ] at h3;refine Gd.ix (by omega) O ?_
  rw [bJ (n:=p-1) (by omega)]
  refine Gd.ite (λ_=>Gd.ret I) (λY=>?_);have Y:y.A=p-1:=by simpa using Y
  obtain ⟨q,hq⟩:=wi (l:=l) (i:=y.A.toNat) (by rw [h.len]; omega)
  have hq':(l.set k (k:Int))[y.A.toNat]? = some q:=by
   rw [UH,Ra (by omega)]; exact hq
  have hqb:=h.st y.A.toNat q (by omega) hq
  refine Gd.ix (by omega) hq' (Gd.gK (by simp [h.len]; omega) ?_)
  rw [List.set_set];exact J _ (h.next hy ⟨λe=>by omega,λ_=>⟨by omega,by omega,by omega,by omega⟩⟩ hqb.1 (by omega))
 ·refine Gd.ite (λ_=>Gd.ret I) (λh1=>?_)
  have:=hb h0;exact J _ (h.next hy ⟨λe=>absurd e Y,λe=>by omega⟩ (by omega) (by omega))
theorem xc (c:List Node) (hc:∀ x ∈ c,x.Name.size<=maxLen):Gd (jX c) (λe=>e=0->Bt c):=by
 unfold jX;refine Gd.ite (λ_=>Gd.ret (by omega)) (λh40=>?_)
 simp only [WZ] at h40;refine Gd.ite (λ_=>Gd.ret (by omega)) (λh1=>?_)
 simp only [WZ] at h1;refine Gd.nd (by omega) ?_
 refine Gd.dM (λk ys l=>ys=c.drop k/\CI c k l) ?_ ?_ c 0 _ ⟨by simp,by simp,λj v hj=>by omega,λj y hj=>by omega⟩
 ·rintro k y ys l nx ⟨Y,J⟩ hnx
  obtain ⟨hy,hys'⟩:=drop_cons Y;have hk:=Dp hy;have I:∀ l',CI c (k+1) l'->Gd (nx l') (λe=>e=0->Bt c):=λl' h=>hnx l' ⟨hys',h⟩;have hkn:((k:Int)).toNat=k:=by omega
  have hw:i64.wrap ((k:Int)-1)=(k:Int)-1:=bJ (by omega)
  have rest:Gd (idx l (k:Int) λy926=>if decide (y.Kind=4) then (if ((decide ((k:Int)=0)) || (!decide (y.A=(i64.wrap ((k:Int)-1))))) || (!decide (y.B_=0)) then (some 3) else (idx (l.set (((k:Int):Int).toNat) ((k:Int))) y.A λy939=>idx (l.set (((k:Int):Int).toNat) ((k:Int))) (k:Int) λy943=>dT nx ((l.set (((k:Int):Int).toNat) ((k:Int))).set (((k:Int):Int).toNat) y939))) else (if decide (y.Kind=5) then (eB l nx y k (decide (y.Kind=5))) else (eB l nx y k (decide (y.Kind=6)))))
    (λe=>e=0->Bt c):=by
   rw [hw,hkn];refine Gd.gK (by rw [J.len]; exact hk) ?_
   refine Gd.ite (λZ=>?_) (λZ=>?_)
   ·refine Gd.ite (λ_=>Gd.ret (by omega)) (λO=>?_)
    simp only [VS,WZ,VR,RS] at O;obtain ⟨q,hq⟩:=wi (l:=l) (i:=y.A.toNat) (by rw [J.len]; omega)
    have hq':(l.set k (k:Int))[y.A.toNat]? = some q:=by
     rw [UH,Ra (by omega)]; exact hq
    have hqb:=J.st y.A.toNat q (by omega) hq
    refine Gd.ix (by omega) hq' (Gd.gK (by simp [J.len]; omega) ?_)
    rw [List.set_set];simp only [RS] at Z;exact I _ (J.next hy ⟨λe=>by omega,λe=>by omega⟩ hqb.1 (by omega))
   ·simp only [WZ] at Z
    refine Gd.ite (λO=>?_) (λO=>?_)
    ·exact JN J (by omega) hy (by omega) I _ Z (λh=>by simp only [WZ] at h; simp only [RS] at O; exact absurd O h)
    ·exact JN J (by omega) hy (by omega) I _ Z (λh=>by simp only [WZ] at h O; exact ⟨O,h⟩)
  unfold od;rw [JZ];refine Gd.ite (λ_=>Gd.ret (by omega)) (λ_=>?_)
  refine Gd.ite (λ_=>?_) (λ_=>?_)
  ·refine Gd.eN (yA _ (hc y (Rg hy))) (λb _=>Gd.ite (λ_=>Gd.ret (by omega)) (λ_=>rest))
  ·exact Gd.ite (λ_=>Gd.ret (by omega)) (λ_=>rest)
 ·rintro k l ⟨Y,J⟩
  have hk:c.length<=k:=by
   have:=Rn List.length Y;simp at this; omega
  have hw:i64.wrap ((c.length:Int)-1)=(c.length:Int)-1:=bJ (by omega)
  rw [hw];obtain ⟨q,hq⟩:=wi (l:=l) (i:=((c.length:Int)-1).toNat) (by rw [J.len]; omega)
  refine Gd.ix (by omega) hq (Gd.ite (λ_=>Gd.ret (by omega)) (λ_=>Gd.ret λ_=>⟨by omega,by omega,λj y hj=>J.ok j y (by have:=Dp hj; omega) hj⟩))
def Jw (r:DH):Prop:=bC r.Switch=some true/\jX r.xF=some 0
def Bw (r:DH):Prop:=r.Switch.size<=maxLen/\∀ x ∈ r.xF,x.Name.size<=maxLen
def zx (l:List DH):Prop:=l.length<=24/\∀ r ∈ l,Jw r
theorem Dn (l:List DH) (hl:∀ r ∈ l,Bw r):Gd (mE l) (λe=>e=0↔zx l):=by
 unfold mE;refine Gd.ite (λh=>Gd.ret ?_) (λh=>?_)
 ·simp only [RS] at h
  exact ⟨λh=>by omega,λI=>by have:=I.1; omega⟩
 ·simp only [WZ] at h
  refine Gd.dM (λk ys _=>(∀ r ∈ ys,r ∈ l)/\∀ r ∈ l,r ∈ ys\/Jw r) ?_ ?_ l 0 () ⟨λr h=>h,λr h=>.inl h⟩
  ·rintro k y ys _ nx ⟨Y,Z⟩ hnx
   have O:=Y y (Q9 ..);unfold rf;obtain ⟨b,hb,_⟩:=yA y.Switch (hl y O).1;obtain ⟨e,he,_⟩:=xc y.xF (hl y O).2;refine Gd.bind_eq hb (Gd.ite (λh=>Gd.ret ?_) (λh=>Gd.bind_eq he (Gd.ite (λh=>Gd.ret ?_) (λI=>hnx () ⟨λr J=>Y r (Rc _ J),λr J=>?_⟩))))
   ·refine ⟨λh=>by omega,λI=>?_⟩
    have:=(I.2 y O).1;rw [hb] at this; cases this; simp at h
   ·have h:e≠0:=by simpa using h
    refine ⟨λI=>absurd I h,λI=>?_⟩;have:=(I.2 y O).2;rw [he] at this; cases this; simp at h
   ·have hbt:b=true:=by simpa using h
    have het:e=0:=by simpa using I
    subst hbt; subst het
    rcases Z r J with h | h
    ·rcases RU.1 h with rfl | h
     ·exact .inr ⟨hb,he⟩
     ·exact .inl h
    ·exact .inr h
  ·rintro k _ ⟨Y,Z⟩
   exact Gd.ret ⟨λ_=>⟨by omega,λr J=>(Z r J).resolve_left (by simp)⟩,λ_=>rfl⟩
theorem Ks {c:List Node} (hc:Bt c) (st:List Sw):Gd (mF c st) (λ_=>True):=by
 have hl:=hc.len;have hp:=hc.pos;unfold mF;refine Gd.nd (by omega) ?_
 refine Gd.dM (λk ys (l:List Bool)=>ys=c.drop k/\l.length=c.length) ?_ ?_ c 0 _ ⟨by simp,by simp⟩
 ·rintro k y ys l nx ⟨Z,J⟩ hnx
  obtain ⟨hy,hys'⟩:=drop_cons Z;have hk:=Dp hy;have hn:=hc.ok k y hy;have Y:∀ l':List Bool,l'.length=c.length->Gd (nx l') (λ_=>True):=λl' h=>hnx l' ⟨hys',h⟩;have I:∀ b:Bool,Gd (idx l (k:Int) λ_=>dE nx (l.set ((k:Int)).toNat b)) (λ_=>True):=λb=>
   Gd.gK (by omega) (Y _ (by simp [J]))
  unfold rh;refine Gd.eN (B7 st y.Name) (λr hr=>?_);refine Gd.ite (λ_=>I true) (λ_=>?_);refine Gd.ite (λ_=>Gd.ite (λh=>?_) (λ_=>I false)) (λ_=>?_)
  ·obtain ⟨x,O,_⟩:=hr.yes (by simpa using h)
   exact Gd.ix (by simpa using h) O (I _)
  refine Gd.ite (λ_=>Gd.ite (λh=>?_) (λ_=>I false)) (λ_=>?_)
  ·obtain ⟨x,O,_⟩:=hr.yes (by simpa using h)
   exact Gd.ix (by simpa using h) O (I _)
  refine Gd.ite (λh=>?_) (λ_=>?_)
  ·have hA:=hn.1 (by simpa using h)
   obtain ⟨x,O⟩:=wi (l:=l) (i:=y.A.toNat) (by omega)
   exact Gd.ix hA.1 O (I _)
  refine Gd.ite (λh=>?_) (λ_=>?_)
  ·have hA:=hn.2 (.inl (by simpa using h))
   obtain ⟨x,O⟩:=wi (l:=l) (i:=y.A.toNat) (by omega)
   obtain ⟨z,hz⟩:=wi (l:=l) (i:=y.B_.toNat) (by omega)
   exact Gd.ix hA.1 O (Gd.ite (λ_=>Gd.ix hA.2.2.1 hz (I _)) (λ_=>I _))
  refine Gd.ite (λh=>?_) (λ_=>Y _ J)
  ·have hA:=hn.2 (.inr (by simpa using h))
   obtain ⟨x,O⟩:=wi (l:=l) (i:=y.A.toNat) (by omega)
   obtain ⟨z,hz⟩:=wi (l:=l) (i:=y.B_.toNat) (by omega)
   exact Gd.ix hA.1 O (Gd.ite (λ_=>I _) (λ_=>Gd.ix hA.2.2.1 hz (I _)))
 ·rintro k l ⟨Z,J⟩
  rw [bJ (n:=(c.length:Int)-1) (by omega)]
  obtain ⟨q,hq⟩:=wi (l:=l) (i:=((c.length:Int)-1).toNat) (by omega)
  exact Gd.ix (by omega) hq (Gd.ret Q3)
def x_ (st:List Sw) (I:Bool) (name:Q1) (r:DH):Prop:=r.Close=I->r.Switch=name->mF r.xF st=some true
theorem Gp {l:List DH} (hl:zx l) (hz:∀ r ∈ l,Bw r) {st:List Sw} (hs:G_ st) (hsz:∀ x ∈ st,x.Name.size<=maxLen) (I:Bool) {name:Q1} (hn:∃ x ∈ st,x.Name=name):
  Gd (mZ l st I name) (λr=>r.2=0/\(r.1=[]↔∀ r ∈ l,x_ st I name r)):=by
 unfold mZ;obtain ⟨e,he,heq⟩:=Dn l hz;obtain ⟨f,hf,hfq⟩:=Jg st hsz;have e0:=heq.2 hl;have f0:=hfq.2 hs;subst e0; subst f0
 refine Gd.bind_eq he (Gd.ite (λh=>by simp at h) (λ_=>Gd.bind_eq hf (Gd.ite (λh=>by simp at h) (λ_=>?_))))
 refine Gd.eN (B7 st name) (λi hi=>Gd.ite (λh=>?_) (λ_=>?_))
 ·obtain ⟨x,hx,hxn⟩:=hn
  exact absurd hxn (hi.no (by simpa using h) x hx)
 have h24:=hl.1;refine Gd.dM (λk ys (out:List Int)=>ys=l.drop k/\out.length<=k/\(out=[]↔∀ r ∈ l.take k,x_ st I name r)) ?_ ?_ l 0 [] ⟨by simp,by simp,by simp⟩
 ·rintro k y ys out nx ⟨hys,hlen,hq⟩ hnx
  obtain ⟨hy,Z⟩:=drop_cons hys;have hk:=Dp hy;have htake:l.take (k+1)=l.take k++[y]:=by rw [Wl,hy]; rfl
  have O:(∀ r ∈ l.take (k+1),x_ st I name r)↔(∀ r ∈ l.take k,x_ st I name r)/\x_ st I name y:=by
   rw [htake];constructor
   ·intro h; exact ⟨λr Y=>h r (Q6 _ Y),h y (by simp)⟩
   ·rintro ⟨h1,h2⟩ r Y
    rcases Rh.1 Y with Y | Y
    ·exact h1 r Y
    ·rw [Rz] at Y; subst Y; exact h2
  have J:x_ st I name y->Gd (nx out) (λr=>r.2=0/\(r.1=[]↔∀ r ∈ l,x_ st I name r)):=λha=>
   hnx out ⟨Z,by omega,by rw [O,hq]; exact ⟨λh=>⟨h,ha⟩,λh=>h.1⟩⟩
  have hcond:Bt y.xF:=by
   obtain ⟨e,he,hq⟩:=xc y.xF (hz y (Rg hy)).2;have:=(hl.2 y (Rg hy)).2;rw [he] at this; cases this; exact hq rfl
  obtain ⟨b,hb,_⟩:=Ks hcond st;unfold pY gQ;refine Gd.ite (λh1=>Gd.ite (λh2=>Gd.bind_eq hb (Gd.ite (λh3=>?_) (λh3=>J ?_))) (λh2=>J ?_)) (λh1=>J ?_)
  ·refine Gd.nd (by simp; omega) (hnx _ ⟨Z,by simp; omega,?_⟩)
   constructor
   ·intro h; simp at h
   ·intro h
    have:=(O.1 h).2 (by simpa using h1) (by simpa using h2)
    rw [hb] at this; cases this; simp at h3
  ·intro _ _; rw [hb]; simpa using h3
  ·intro _ h; exact absurd h (by simpa using h2)
  ·intro h _; exact absurd h (by simpa using h1)
 ·rintro k out ⟨hys,hlen,hq⟩
  have hk:l.length<=k:=by
   have:=Rn List.length hys;simp at this; omega
  rw [Ri hk] at hq;exact Gd.ret ⟨rfl,hq⟩
theorem Em {l:List DH} (hl:zx l) (Y:∀ r ∈ l,Bw r) {st:List Sw} (hs:G_ st) (O:∀ x ∈ st,x.Name.size<=maxLen) (I:Bool) {name:Q1} (hn:∃ x ∈ st,x.Name=name):
  Gd (lQ l st I name) (λr=>r.2=0/\(r.1=true↔∀ r ∈ l,x_ st I name r)):=by
 unfold lQ;refine Gd.eN (Gp hl Y hs O I hn) (λr J=>Gd.ret ⟨J.1,?_⟩);rw [J.1,<- J.2];cases r.1 <;> simp <;> omega
structure Ns (n:Net) (on:List BA) (s:cI) (ov:List BA):Prop where
 OW:d_ n on=some 0
 cn:bZ n=some 0
 v:po n
 al:s.fU.length<=100000
 fl:s.iP.length=n.aK.length
 ff:∀ x ∈ s.iP,∃ q,fits q/\x=ctext q
 oe:nX n s.iP=some ov
 ol:ov.length<=24
 om:∀ x ∈ ov,∃ b ∈ n.aK,b.Name=x
 QK:∃ p,f_ (rH n on)=some (p,0)/\True
theorem I0 {l:List (aR×Rat)}:∀ {x:BA},x ∈ l.flatMap yT->∃ z ∈ l,z.1.Name=x:=by
 intro x I;obtain ⟨z,J,I⟩:=S6.1 I;refine ⟨z,J,?_⟩
 by_cases h:Au z
 ·rw [AG h] at I
  simp at I;exact I.symm
 ·rw [CF h] at I
  simp at I
theorem Ds:∀ (l:List (aR×Rat)),(l.flatMap yT).length<=l.length
 | []=>by simp
 | z::l=>by
  have:=Ds l;have:(yT z).length<=1:=by
   by_cases h:Au z
   ·rw [AG h]; simp
   ·rw [CF h]; simp
  simp only [Sp,Ro,Rd];omega
theorem Bx {n:Net} (O:qp n) (on:List BA):Gd (dV n on) (λr=>(r.2.2≠0->r=(cI.mk [] [],[],r.2.2))/\(r.2.2=0->Ns n on r.1 r.2.1)):=by
 obtain ⟨e,he,hok⟩:=Jk O on
 by_cases h0:e=0
 ·subst h0
  have J:=hok rfl;have Y:po n:=by
   obtain ⟨f,hf,hs⟩:=VL n O;rw [J] at hf;exact hs (Q8 hf).symm
  rcases xf (rH n on) (O.rH on) with ⟨x,Z,hi⟩ | ⟨t,p,s,hV',hn,hg,ht,hb,hi,hfc,hs,I,hv⟩
  ·rw [Ia Y he Z hi]
   exact Gd.ret ⟨λ_=>rfl,λh=>absurd h Z⟩
  ·obtain ⟨qs,hq,hqf⟩:=HP I.f
   have hql:qs.length=(rH n on).aK.length:=by
    have:=I.fl;rw [hq,S2] at this;exact this
   have ho:=Ej hV' (qs:=qs) hql hqf;rw [<- hq] at ho;rw [JA Y he hi hs ho];refine Gd.ret ⟨λh=>absurd rfl h,λ_=>⟨he,J,Y,?_,I.fl,I.f,ho,?_,?_,p,hi,hv⟩⟩
   ·have:=I.al
    have:=ht.LB;show s.fU.length<=100000;omega
   ·refine Sb (Ds _) ?_
    rw [List.length_zip];exact Sb (Nat.min_le_left _ _) Y.l3
   ·intro x Z
    obtain ⟨z,O,he⟩:=I0 Z;exact ⟨z.1,(List.of_mem_zip O).1,he⟩
 ·rw [Jz he h0]
  exact Gd.ret ⟨λ_=>rfl,λh=>absurd h h0⟩
def ON {α:Type} (p:α->Bool) (l:List α) (r:Int):Prop:=(r = -1/\∀ x ∈ l,p x=false)\/∃ i,∃ h:i<l.length,r=(i:Int)/\p l[i]=true/\∀ x ∈ l.take i,p x=false
theorem Hx {α:Type} (p:α->Bool) (l:List α):
  Gd (jW (λk (_:Unit) n=>idx l (k:Int) λy=>if p y then (some (k:Int)) else (n ())) (λ_=>some (-1)) ((l.length:Int):Int).toNat 0 ()) (ON p l):=by
 refine Gd.jW (λm i _=>i+m=l.length/\∀ x ∈ l.take i,p x=false) ?_ ?_ (l.length:Int).toNat 0 () ⟨by omega,by simp⟩
 ·intro m i _ O ⟨hi,hno⟩ hnx
  have I:i<l.length:=by omega
  refine Gd.gK I (Gd.ite (λh=>Gd.ret (.inr ⟨i,I,rfl,h,hno⟩)) (λh=>hnx () ⟨by omega,?_⟩))
  rw [RD I];intro x J;rcases Rh.1 J with J | J
  ·exact hno x J
  ·rw [Rz.1 J]; exact h
 ·intro i _ ⟨hi,hno⟩
  refine Gd.ret (.inl ⟨rfl,?_⟩);have:l.take i=l:=Ri (by omega)
  rw [this] at hno;exact hno
theorem N8 (l:List aH) (e:aE):Gd (dI l e) (ON (λx=>decide (x.Name=e.Name)) l):=Hx _ l
theorem N7 (l:List bK) (e:aE):Gd (dP l e) (ON (λx=>decide (x.Name=e.Name)) l):=Hx _ l
theorem N_ (l:List a_) (e:aE):Gd (cV l e) (ON (λx=>decide (x.Name=e.Name)) l):=Hx _ l
theorem N9 (l:List aH) (x:BA):Gd (dC l x) (ON (λy=>decide (y.Name=x)) l):=Hx _ l
theorem AK (n:Net) (hl:n.bF.length<=12):qi n=some (nm n):=by
 rw [<- Gd.eq];unfold qi;refine Gd.dM (λi (ys:List aH) (w:List BA)=>i+ys.length=n.bF.length/\n.bF.drop i=ys/\w=(n.bF.take i).map (·.Name)) ?_ ?_ n.bF 0 [] ⟨by simp,rfl,by simp⟩
 ·rintro i y ys w nx ⟨hi,J,O⟩ Y
  simp only [Rd] at hi;unfold uz;have I:i<n.bF.length:=by omega
  have Z:n.bF[i]=y:=by
   rw [RK I] at J;exact (V3 J).1
  refine Gd.nd ?_ (Y _ ⟨by omega,?_,?_⟩)
  ·rw [O]; simp; omega
  ·rw [RK I] at J
   exact (V3 J).2
  ·rw [O,RD I,Z]; simp
 ·rintro i w ⟨hi,J,O⟩
  refine Gd.ret ?_;rw [O,Ri (by simp at hi; omega)]
  rfl
abbrev Ev:=aE
def EM (e:Ev):Prop:=e.Kind.size<=maxLen/\e.Name.size<=maxLen
theorem L9 (s:BA) (h:s.size<=maxLen):Gd (fY s) (λ_=>True):=by
 unfold fY;refine Gd.nd h (Gd.dM (λ_ _ _=>True) (λi y ys s I _ hn=>?_) (λ_ _ _=>Gd.ret Q3) _ _ _ Q3);unfold qM;exact Gd.ite (λ_=>Gd.ret Q3) (λ_=>hn _ Q3)
theorem Ii {e:Ev} (h:EM e):Gd (dD e) (λr=>r=0->0<=e.Time/\e.Time<=200000):=by
 unfold dD;refine Gd.ite (λ_=>Gd.ret (λh=>by simp at h)) (λht=>Gd.eN (L9 e.Kind h.1) (λb _=>Gd.ite (λ_=>?_) (λ_=>Gd.ret (λh=>by simp at h))))
 refine Gd.eN (yA e.Name h.2) (λb _=>Gd.ite (λ_=>Gd.ret (λh=>by simp at h)) (λ_=>Gd.ite (λ_=>Gd.ret (λh=>by simp at h)) (λ_=>Gd.ret (λ_=>?_))))
 simp at ht;omega
theorem BJ {t v:Int}{k s:BA} (ht:0<=t/\t<=200000) (I:fY k=some true) (hs:bC s=some true) (J:-1000000<=v/\v<=1000000):
  dD (aE.mk t k s v)=some 0:=by
 rw [<- Gd.eq];unfold dD;refine Gd.ite (λk=>?_) (λ_=>Gd.bind_eq I (Gd.ite (λ_=>Gd.bind_eq hs (Gd.ite (λk=>by simp at k) (λ_=>Gd.ite (λk=>?_) (λ_=>Gd.ret rfl)))) (λk=>by simp at k)))
 ·simp at k; omega
 ·simp at k; omega
theorem Ja:fY (⟨#[115,104,101,100]⟩)=some true:=by kernel_rfl
theorem GP:fY (⟨#[112,114,111,111,102]⟩)=some true:=by kernel_rfl
theorem append_eq {l:List Ev}{e:Ev} (hl:l.length<300) (ht:∀ x ∈ l,x.Time<=e.Time) (I:dD e=some 0):
  ∃ k,eU (bG.mk l) e=some (k,0,bG.mk (l++[e])):=by
 suffices h:Gd (eU (bG.mk l) e) (λr=>∃ k,r=(k,0,bG.mk (l++[e]))) by
  obtain ⟨r,O,k,rfl⟩:=h;exact ⟨k,O⟩
 unfold eU;refine Gd.bind_eq I (Gd.ite (λk=>by simp at k) (λ_=>Gd.ite (λJ=>?_) (λ_=>?_)))
 ·have Z:0<l.length:=by simpa using J
  have Y:i64.wrap ((l.length:Int)-1)=((l.length-1:Nat):Int):=by
   rw [bJ ⟨by omega,by omega⟩]; omega
  rw [Y];refine Gd.gK (by simp; omega) (Gd.ite (λk=>?_) (λ_=>?_))
  ·have:=ht _ (RI (by omega:l.length-1<l.length))
   simp at k;omega
  ·refine Gd.ite (λk=>?_) (λ_=>Gd.nd ?_ (Gd.ret ⟨_,rfl⟩))
   ·simp at k; omega
   ·simp; omega
 ·refine Gd.ite (λk=>?_) (λ_=>Gd.nd ?_ (Gd.ret ⟨_,rfl⟩))
  ·simp at k; omega
  ·simp; omega
theorem JT {n:Net} (h:po n) {b:aR} (J:b ∈ n.aK):0<=b.xV/\b.xV<=200000:=by
 obtain ⟨_,_,_,_,I⟩:=h.vb b J;unfold iK at I
 split at I
 ·omega
 ·rename_i h6
  simp [bL] at h6;omega
theorem copy_eq {n:Net} (h:po n):kC n=some n:=by
 have:=h.l1; have:=h.l2; have:=h.l3; have:=h.l4; have:=h.l5; have:=h.l6
 rw [<- Gd.eq];unfold kC;exact Gd.nd (by omega) (Gd.nd (by omega) (Gd.nd (by omega) (Gd.nd (by omega) (Gd.nd (by omega) (Gd.nd (by omega) (Gd.ret rfl))))))
structure xA (n:Net) (w:bS):Prop where
 b:w.kV=n.aK
 f:w.mh.length=n.aK.length
 a:w.sF.length=n.aK.length
 o:w.over.length=n.aK.length
theorem FT {n:Net}{w:bS} (h:xA n w) (hl:n.aK.length<=24):Gd (jR w) (λr=>r.length<=24):=by
 unfold jR;rw [h.b];refine Gd.dM (λi (ys:List aR) (s:List BA)=>i+ys.length=n.aK.length/\s.length<=i) ?_ ?_ n.aK 0 [] ⟨by simp,by simp⟩
 ·rintro i y ys s J ⟨hi,hs⟩ I
  simp only [Rd] at hi;unfold p_ lf;refine Gd.gK (by rw [h.o]; omega) (Gd.ite (λ_=>Gd.nd ?_ (I _ ⟨by omega,?_⟩)) (λ_=>I _ ⟨by omega,by omega⟩))
  ·simp only [Rd,Wc]; omega
  ·simp; omega
 ·rintro i s ⟨hi,hs⟩
  exact Gd.ret (by simp at hi; omega)
theorem Lv {n:Net}{w:bS} (h:xA n w) (hV:po n) {fl:List BA} (hl:fl.length=n.aK.length) (hf:∀ x ∈ fl,∃ q,fits q/\x=ctext q) (d:Int):
  Gd (lF w fl d) (λr=>xA n r.2.2):=by
 have I:=hV.l3;unfold lF;refine Gd.eN (P:=λ_=>True) ?_ (λr _=>Gd.ite (λ_=>Gd.ret h) (λ_=>Gd.ite (λ_=>Gd.ret h) (λ_=>Gd.ite (λ_=>Gd.ret h) (λ_=>?_))))
 ·unfold qW
  exact Gd.ite (λ_=>Gd.ret Q3) (λ_=>Gd.eN (E6 (λs hs=>J1 (hf s hs))) (λ_ _=>Gd.ret Q3))
 ·rw [h.b]
  refine Gd.dM (λi (ys:List aR) (s:List aA×List Int×List Bool)=>i+ys.length=n.aK.length/\(∀ y ∈ ys,y ∈ n.aK)/\s.1.length=n.aK.length/\s.2.1.length=n.aK.length/\s.2.2.length=n.aK.length) ?_ ?_ n.aK 0 (w.mh,w.sF,w.over) ⟨by simp,λ_ h=>h,h.f,h.a,h.o⟩
  ·rintro i y ys ⟨s1,s2,s3⟩ nx ⟨hi,hd,Z,J,I⟩ Y
   simp only [Rd] at hi;simp only at Z J I;have hy:=Ip hV (hd y (Q9 ..));have hL:=hy.l;have hS:=JT hV (hd y (Q9 ..));have O:∀ z ∈ ys,z ∈ n.aK:=λz hz=>hd z (Rc _ hz);have hif:i<fl.length:=by omega
   obtain ⟨q,hq,hqe⟩:=hf _ (RI hif);unfold qa gR;refine Gd.gK hif ?_;rw [hqe];refine Gd.eN (FC hq) (λa ha=>Gd.eN (HQ ha.1 ha.2.1 (by omega)) (λb hb=>Gd.gK (by rw [Z]; omega) ?_))
   refine Gd.eN (vE ⟨by omega,by omega⟩) (λc hc=>Gd.eN (Et hb.1 hc.1 hb.2.1 hc.2.1 (by omega)) (λe _=>?_))
   refine Gd.ite (λ_=>Gd.gK (by rw [J]; omega) (Gd.gK (by rw [I]; omega) (Y _ ⟨by omega,O,by simpa using Z,by simpa using J,by simpa using I⟩))) (λ_=>?_)
   refine Gd.gK (by rw [J]; omega) (Gd.gK (by rw [J]; omega) (Gd.gK (by simp; omega) (Gd.ite (λ_=>Gd.gK (by rw [I]; omega) (Y _ ⟨by omega,O,by simpa using Z,by simpa using J,by simpa using I⟩)) (λ_=>?_))))
   refine Gd.eN (vE ⟨by omega,by omega⟩) (λc2 hc2=>Gd.eN (Et hb.1 hc2.1 hb.2.1 hc2.2.1 (by omega)) (λe2 _=>?_))
   exact Gd.ite (λ_=>Gd.gK (by rw [I]; omega) (Y _ ⟨by omega,O,by simpa using Z,by simpa using J,by simpa using I⟩)) (λ_=>Y _ ⟨by omega,O,by simpa using Z,by simpa using J,by simpa using I⟩)
  ·rintro i ⟨s1,s2,s3⟩ ⟨hi,hd,Z,J,I⟩
   have hw:xA n (bS.mk n.aK s1 s2 s3 (i64.wrap (w.time+d))):=⟨rfl,Z,J,I⟩;exact Gd.eN (FT hw hV.l3) (λr _=>Gd.ret hw)
theorem MG {n:Net} (O:bZ n=some 0) (J:po n):∃ w,pZ n=some (some w,0)/\xA n w:=by
 suffices h:Gd (pZ n) (λr=>∃ w,r=(some w,0)/\xA n w) by
  obtain ⟨r,I,w,rfl,Y⟩:=h;exact ⟨w,I,Y⟩
 have:=J.l3;unfold pZ;refine Gd.bind_eq O (Gd.ite (λk=>by simp at k) (λ_=>Gd.bind_eq (copy_eq J) ?_))
 refine Gd.eN (Ai (by omega)) (λr I=>Gd.nd (by omega) (Gd.nd (by omega) (Gd.ret ⟨_,rfl,?_⟩)))
 obtain ⟨z,rfl,_⟩:=I;exact ⟨rfl,by simp,by simp,by simp⟩
abbrev Rm:=aP
abbrev BL:BA:=⟨#[111,112,101,110]⟩
abbrev y0:BA:=⟨#[99,108,111,115,101]⟩
abbrev Hj:BA:=⟨#[98,97,99,107]⟩
abbrev AS:BA:=⟨#[115,104,101,100]⟩
abbrev ya:BA:=⟨#[112,114,111,111,102]⟩
structure Nt (held:List BA) (n:Net) (e:Ev) (l:List a_):Prop where
 k:e.Kind=BL\/e.Kind=y0
 h:e.Name ∉ held
 s:∃ i,∃ h:i<n.aN.length,n.aN[i].Name=e.Name/\∃ b,l=n.aN.set i (a_.mk n.aN[i].Name n.aN[i].A n.aN[i].B_ n.aN[i].wZ b)
structure PH (held:List BA) (n:Net) (on:List BA) (e:Ev) (c:cS):Prop where
 sz:qp c.n
 br:c.n.aK=n.aK
 ln:nm c.n=nm n
 sw:c.n.aN=n.aN\/Nt held n e c.n.aN
 on:e.Kind≠Hj/\c.on=on\/e.Kind=Hj/\e.Name ∈ nm n/\e.Name ∉ on/\c.on=on++[e.Name]
 ks:e.Kind≠AS/\e.Kind≠ya
 hn:e.Kind=BL\/e.Kind=y0->e.Name ∉ held
structure F4 (l:List DH):Prop where
 ok:zx l
 sz:∀ r ∈ l,Bw r
theorem Li {n:Net} (h:po n):(n.aN.map (·.Name)).Nodup:=by
 have:=h.nd;unfold names at this;simp only [R6,RG] at this;exact this.2.1.1
theorem GK {r:Rm}{n:Net} (O:qp n) (hV:po n) (hr:F4 r.rules) {on:List BA}{e:Ev} (he:EM e) (hk:e.Kind=BL\/e.Kind=y0):
  Gd (nh r (cS.mk n on) e) (λc=>c.1=0->PH r.held n on e c.2):=by
 have h2:=hV.l2;unfold nh;refine Gd.eN (N_ _ e) (λi hi=>Gd.ite (λ_=>Gd.ret (λh=>by simp at h)) (λh0=>Gd.ite (λ_=>Gd.ret (λh=>by simp at h)) (λ_=>?_)))
 rcases hi with ⟨rfl,_⟩ | ⟨i,I,rfl,hp,_⟩
 ·simp at h0
 have hp:n.aN[i].Name=e.Name:=by simpa using hp
 refine Gd.gK I (Gd.ite (λ_=>Gd.ret (λh=>by simp at h)) (λ_=>?_))
 rw [r9];refine Gd.ite (λ_=>Gd.ret (λh=>by simp at h)) (λhh=>?_)
 have hh:e.Name ∉ r.held:=by simpa using hh
 refine Gd.dM (λj (ys:List a_) (s:List aM)=>j+ys.length=n.aN.length/\n.aN.drop j=ys/\s=(n.aN.take j).map (λy=>aM.mk y.Name (!y.Open))) ?_ ?_ n.aN 0 [] ⟨by simp,rfl,by simp⟩
 ·rintro j y ys s nx ⟨hj,Z,hs⟩ hnx
  simp only [Rd] at hj;unfold qd;have Y:j<n.aN.length:=by omega
  have hy:n.aN[j]=y:=by
   rw [RK Y] at Z;exact (V3 Z).1
  refine Gd.nd ?_ (hnx _ ⟨by omega,?_,?_⟩)
  ·rw [hs]; simp; omega
  ·rw [RK Y] at Z
   exact (V3 Z).2
  ·rw [hs,RD Y,hy]; simp
 ·rintro j s ⟨hj,Z,hs⟩
  rw [Ri (by simp at hj; omega)] at hs
  have hso:G_ s:=by
   refine ⟨by rw [hs]; simpa using h2,?_,?_⟩
   ·intro x J
    rw [hs] at J;obtain ⟨y,hy,rfl⟩:=RY.1 J;exact (hV.vs y hy).1
   ·rw [hs,List.map_map]
    exact Li hV
  have hsz:∀ x ∈ s,x.Name.size<=maxLen:=by
   intro x J;rw [hs] at J;obtain ⟨y,hy,rfl⟩:=RY.1 J;exact O.sw y hy
  have uX:∃ x ∈ s,x.Name=e.Name:=by
   refine ⟨aM.mk n.aN[i].Name (!n.aN[i].Open),?_,hp⟩;rw [hs];exact RY.2 ⟨n.aN[i],RI I,rfl⟩
  refine Gd.eN (Em hr.ok hr.sz hso hsz _ uX) (λb _=>Gd.ite (λ_=>Gd.ret (λh=>by simp at h)) (λ_=>Gd.gK I (Gd.ret (λ_=>?_))))
  refine ⟨⟨O.nd,?_,O.br,O.gn,O.ld,O.st⟩,rfl,rfl,.inr ⟨hk,hh,i,I,hp,_,rfl⟩,.inl ⟨?_,rfl⟩,?_,λ_=>hh⟩
  ·intro x J
   rcases We J with J | rfl
   ·exact O.sw x J
   ·show (n.aN[i]).Name.size<=maxLen
    exact O.sw _ (RI I)
  ·rcases hk with h | h <;> rw [h] <;> decide
  ·rcases hk with h | h <;> rw [h] <;> decide
theorem Og (n:Net) (i:Nat) (h:i<n.bF.length) (v:Int):(n.bF.set i (aH.mk n.bF[i].Name n.bF[i].Node v)).map (·.Name)=nm n:=by
 unfold nm;rw [List.map_set];show (n.bF.map (·.Name)).set i (n.bF[i].Name)=_;have:(n.bF.map (·.Name))[i]'(by simpa using h)=n.bF[i].Name:=by simp
 rw [<- this];exact Vt (by simpa using h)
theorem IF {r:Rm}{n:Net} (O:qp n) (hV:po n) (hr:F4 r.rules) {on:List BA} (ho:on.length<=1000) {e:Ev} (he:EM e):
  Gd (nY r (cS.mk n on) e) (λc=>c.1=0->PH r.held n on e c.2):=by
 unfold nY;refine Gd.eN (N8 _ e) (λi hi=>Gd.eN (N7 _ e) (λj hj=>?_));have Z:∀ c:Bool,(c=true->e.Kind=BL\/e.Kind=y0)->(e.Kind=BL\/e.Kind=y0->c=true)->Gd (jY r (cS.mk n on) e i j c) (λc=>c.1=0->PH r.held n on e c.2):=by
  intro c hc hc2;unfold jY iF;refine Gd.ite (λh=>Gd.eN (GK O hV hr he (hc h)) (λa ha=>Gd.ret ha)) (λhno=>?_);have Y:e.Kind=BL\/e.Kind=y0->e.Name ∉ r.held:=λh=>by rw [hc2 h] at hno; cases hno
  refine Gd.ite (λJ=>?_) (λhk1=>Gd.ite (λJ=>?_) (λhk2=>Gd.ite (λJ=>?_) (λhk3=>Gd.ite (λJ=>?_) (λ_=>Gd.ret (λh=>by simp at h)))))
  ·refine Gd.ite (λ_=>Gd.ret (λh=>by simp at h)) (λh0=>Gd.ite (λ_=>Gd.ret (λh=>by simp at h)) (λ_=>?_))
   have J:=Q_ J;rcases hi with ⟨rfl,_⟩ | ⟨i,I,rfl,hp,_⟩
   ·simp at h0
   refine Gd.gK I (Gd.ret (λ_=>⟨⟨O.nd,O.sw,O.br,O.gn,?_,O.st⟩,rfl,Og n i I _,.inl rfl,.inl ⟨by rw [J]; decide,rfl⟩,by rw [J]; decide,Y⟩))
   intro x hx;rcases We hx with hx | rfl
   ·exact O.ld x hx
   ·show (n.bF[i]).Name.size<=maxLen
    exact O.ld _ (RI I)
  ·refine Gd.ite (λ_=>Gd.ret (λh=>by simp at h)) (λh0=>?_)
   have J:=Q_ J;rcases hj with ⟨rfl,_⟩ | ⟨j,I,rfl,hp,_⟩
   ·simp at h0
   refine Gd.gK I (Gd.ite (λ_=>Gd.ret (λh=>by simp at h)) (λ_=>Gd.gK I (Gd.ret (λ_=>⟨⟨O.nd,O.sw,O.br,?_,O.ld,O.st⟩,rfl,rfl,.inl rfl,.inl ⟨by rw [J]; decide,rfl⟩,by rw [J]; decide,Y⟩))))
   intro x hx;rcases We hx with hx | rfl
   ·exact O.gn x hx
   ·show (n.dS[j]).Name.size<=maxLen
    exact O.gn _ (RI I)
  ·refine Gd.ite (λ_=>Gd.ret (λh=>by simp at h)) (λh0=>?_)
   have J:=Q_ J;rcases hi with ⟨rfl,_⟩ | ⟨i,I,rfl,hp,_⟩
   ·simp at h0
   have hp:n.bF[i].Name=e.Name:=by simpa using hp
   rw [r9];refine Gd.ite (λ_=>Gd.ret (λh=>by simp at h)) (λhh=>Gd.gK I (Gd.ite (λ_=>Gd.ret (λh=>by simp at h)) (λ_=>Gd.nd ?_ (Gd.ret (λ_=>?_)))))
   ·simp; omega
   ·have hh:e.Name ∉ on:=by simpa using hh
    exact ⟨O,rfl,rfl,.inl rfl,.inr ⟨J,RY.2 ⟨_,RI I,hp⟩,hh,rfl⟩,by rw [J]; decide,Y⟩
  ·have J:=Q_ J
   exact Gd.ite (λ_=>Gd.ret (λh=>by simp at h)) (λ_=>Gd.ret (λ_=>⟨O,rfl,rfl,.inl rfl,.inl ⟨by rw [J]; decide,rfl⟩,by rw [J]; decide,Y⟩))
 refine Gd.ite (λh=>Z _ (λ_=>.inl (Q_ h)) (λ_=>h)) (λh=>Z _ (λh=>.inr (Q_ h)) (λk=>?_));rcases k with k | k
 ·exact absurd k (Rf h)
 ·exact W0 k
theorem MD (off:List BA) (x:BA):iG x off=some (!xq off x):=by
 unfold iG xq;rw [r9];simp
theorem ME (off A:List BA) (hA:A.length<=1000):Gd (dO A off) (λr=>r=A.filter (xq off)):=
 BV (λx=>iG x off) (xq off) (MD off) _ A (by omega)
theorem MH (ex:List BA) (x:BA):kF x ex=some (!decide (x ∈ ex)):=by
 unfold kF;rw [r9];simp
theorem MI (ex A:List BA) (hA:A.length<=1000):Gd (dW A ex) (λr=>r=A.filter (λx=>decide (x ∈ ex))):=
 BV (λx=>kF x ex) (λx=>decide (x ∈ ex)) (MH ex) _ A (by omega)
structure C0 (n:Net) (on:List BA):Prop where
 nd:on.Nodup
 s:∀ x ∈ on,x ∈ nm n
theorem C0.len {n:Net}{on:List BA} (h:C0 n on):on.length<=n.bF.length:=by
 have:=Fz on (nm n) h.nd h.s;rw [zn] at this;exact this
theorem C0.OW {n:Net}{on:List BA} (h:C0 n on) (I:bZ n=some 0) (hl:n.bF.length<=12):d_ n on=some 0:=
 Jl I on (Sb h.len (by omega)) h.nd h.s
theorem C0.filter {n:Net}{on:List BA} (h:C0 n on) (p:BA->Bool):C0 n (on.filter p):=
 ⟨h.nd.sublist List.filter_sublist,λx I=>h.s x ((Sg.1 I).1)⟩
theorem FR {n:Net}{a b:List BA} (h:∀ x ∈ nm n,x ∈ a↔x ∈ b):rH n a=rH n b:=by
 unfold rH
 congr 1
 refine List.filter_congr (λx I=>?_);unfold Fk;have:=h x.Name (RY.2 ⟨x,I,rfl⟩);exact WX.2 this
structure Own (k:BA) (t:Int) (names:List BA) (l:List Ev):Prop where
 n:l.map (·.Name)=names
 k:∀ e ∈ l,e.Kind=k/\e.Time=t
 c:∀ e ∈ l,dD e=some 0
theorem Own.add {k:BA}{t v:Int}{names:List BA}{l:List Ev} (h:Own k t names l) (s:BA) (I:dD (aE.mk t k s v)=some 0):Own k t (names++[s]) (l++[aE.mk t k s v]):=
 ⟨by simp [h.n],λe he=>by
  rcases Rh.1 he with he | he
  ·exact h.k e he
  ·rw [Rz.1 he]; exact ⟨rfl,rfl⟩,λe he=>by
  rcases Rh.1 he with he | he
  ·exact h.c e he
  ·rw [Rz.1 he]; exact I⟩
theorem Own.len {k:BA}{t:Int}{names:List BA}{l:List Ev} (h:Own k t names l):l.length=names.length:=by
 rw [<- h.n]; simp
theorem GS {r:Rm} (hz:qp r.cH) (hV:po r.cH) (hc:bZ r.cH=some 0) (hl:r.cH.bF.length<=5) (hon:C0 r.cH r.on)
  (ht:0<=r.time/\r.time<=200000) (hlog:∀ x ∈ r.log.jL,x.Time<=r.time) (hll:r.log.jL.length<=200) {over:List BA} (ho:over.length<=24) (hov:∀ x ∈ over,∃ b ∈ r.cH.aK,b.Name=x):
  Gd (ni r over) (λr'=>
   (mb r.cH r.on=some ([],8)/\∃ ev,Own ya r.time over ev/\r'=aP.mk r.cH r.rules r.on r.held r.watch r.state r.time (bG.mk (r.log.jL++ev)) over) \/
   ∃ off st ev,Own AS r.time off ev/\Ns r.cH (r.on.filter (xq off)) st []/\(∀ x ∈ off,x ∈ r.on)/\off.length<=5 /\
    r'=aP.mk r.cH r.rules (r.on.filter (xq off)) r.held r.watch st r.time (bG.mk (r.log.jL++ev)) r.over):=by
 have h5:=hV.l5;have hol:=hon.len;have hck:=hon.OW hc h5;have hnl:=zn r.cH;obtain ⟨⟨off,e⟩,hre,hrs⟩:=H_ hz hV r.on hck (by omega) _ rfl
 unfold ni;refine Gd.bind_eq hre (Gd.ite (λh=>?_) (λh=>?_))
 ·rcases hrs with ⟨h0,_⟩ | ⟨h8,_⟩
  ·exact absurd h0 (by simpa using h)
  refine Gd.dM (λi (ys:List BA) (s:List Ev)=>i+ys.length=over.length/\over.drop i=ys/\∃ ev,Own ya r.time (over.take i) ev/\s=r.log.jL++ev) ?_ ?_ over 0 r.log.jL ⟨by simp,rfl,[],⟨by simp,by simp,by simp⟩,by simp⟩
  ·rintro i y ys s nx ⟨hi,hd,ev,I,rfl⟩ hnx
   simp only [Rd] at hi;have Y:i<over.length:=by omega
   have O:=hd;rw [RK Y] at O;have hy:over[i]=y:=(V3 O).1;have hel:=I.len;unfold qe;obtain ⟨b,hb,hbn⟩:=hov y (hy▸RI Y);have hac:dD (aE.mk r.time ya y 0)=some 0:=BJ ht GP (by rw [<- hbn]; exact (hV.vb b hb).1) (by omega)
   obtain ⟨k,hk⟩:=append_eq (l:=r.log.jL++ev) (e:=aE.mk r.time ya y 0) (by simp only [Ro,hel,RC]; omega) (by
    intro x J;rcases Rh.1 J with J | J
    ·exact hlog x J
    ·exact Int.le_of_eq (I.k x J).2) hac
   refine Gd.bind_eq hk (hnx _ ⟨by omega,(V3 O).2,ev++[aE.mk r.time ya y 0],?_,by simp⟩)
   rw [RD Y,hy];exact I.add y hac
  ·rintro i s ⟨hi,hd,ev,I,rfl⟩
   rw [Ri (by simp at hi; omega)] at I
   exact Gd.ret (.inl ⟨by rw [hre,h8],ev,I,rfl⟩)
 ·have h0:e=0:=by simpa using h
  subst h0;rcases hrs with ⟨_,hsub,Z,_⟩ | ⟨h8,_⟩
  ·simp only at hsub Z
   have uX:∀ x ∈ off,x ∈ nm r.cH/\x ∈ r.on:=λx J=>by
    have:=hsub.subset J;rw [Sg] at this;exact ⟨this.1,by simpa using this.2⟩
   have hofl:off.length<=5:=by
    refine Sb hsub.length_le (Sb (Wb _ _) (by omega))
   refine Gd.dM (λi (ys:List BA) (s:List Ev)=>i+ys.length=off.length/\off.drop i=ys/\∃ ev,Own AS r.time (off.take i) ev/\s=r.log.jL++ev) ?_ ?_ off 0 r.log.jL ⟨by simp,rfl,[],⟨by simp,by simp,by simp⟩,by simp⟩
   ·rintro i y ys s nx ⟨hi,hd,ev,I,rfl⟩ hnx
    simp only [Rd] at hi;have Y:i<off.length:=by omega
    have O:=hd;rw [RK Y] at O;have hy:off[i]=y:=(V3 O).1;have hel:=I.len;unfold qh;obtain ⟨b,hb,hbn⟩:=RY.1 (uX y (hy▸RI Y)).1;refine Gd.eN (N9 _ y) (λj hj=>?_);rcases hj with ⟨_,hno⟩ | ⟨j,hjl,rfl,hp,_⟩
    ·have:=hno b hb
     simp [hbn] at this
    have hld:=hV.vl _ (RI hjl);have hdm:0<=r.cH.bF[j].dA/\r.cH.bF[j].dA<=100000:=by
     have:=hld.2.2;simp [aW,bL] at this;omega
    refine Gd.gK hjl ?_;have hac:dD (aE.mk r.time AS y r.cH.bF[j].dA)=some 0:=BJ ht Ja (by rw [<- hbn]; exact (hV.vl b hb).1) (by omega)
    obtain ⟨k,hk⟩:=append_eq (l:=r.log.jL++ev) (e:=aE.mk r.time AS y r.cH.bF[j].dA) (by simp only [Ro,hel,RC]; omega) (by
     intro x J;rcases Rh.1 J with J | J
     ·exact hlog x J
     ·exact Int.le_of_eq (I.k x J).2) hac
    refine Gd.bind_eq hk (hnx _ ⟨by omega,(V3 O).2,ev++[aE.mk r.time AS y r.cH.bF[j].dA],?_,by simp⟩)
    rw [RD Y,hy];exact I.add y hac
   ·rintro i s ⟨hi,hd,ev,I,rfl⟩
    rw [Ri (by simp at hi; omega)] at I
    refine Gd.eN (ME off r.on (by omega)) (λon' hon'=>?_)
    subst hon';have hon2:=hon.filter (xq off);have hck2:=hon2.OW hc h5;obtain ⟨s,hs,hsg⟩:=Bx hz (r.on.filter (xq off));obtain ⟨q,hq⟩:=G1 (hz.rH (r.on.filter (xq off)));have hqs:=Jy hV hck2 hq;rw [hs] at hqs;have hqs:=Q8 hqs;subst hqs;have hw:rH r.cH (((nm r.cH).filter (λx=>decide (x ∈ r.on))).filter (xq off))=rH r.cH (r.on.filter (xq off)):=FR (λx J=>by
     simp only [Sg,J,true_and,RS])
    have hord:CC r.cH (r.on.filter (xq off)):=by
     unfold C3 CC at Z;rw [hw] at Z;exact Z
    obtain ⟨e0,e1⟩:=(IZ hq).1 hord;have hst:=hsg.2 e0;rw [e1] at hst;exact Gd.bind_eq hs (Gd.ret (.inr ⟨off,s.1,ev,I,hst,λx J=>(uX x J).2,hofl,rfl⟩))
  ·simp at h8
structure Inv (r:Rm):Prop where
 sz:qp r.cH
 ru:F4 r.rules
 on:C0 r.cH r.on
 ll:r.cH.bF.length<=5
 st:∃ ov,Ns r.cH r.on r.state ov
 w:xA r.cH r.watch
 tm:0<=r.time/\r.time<=200000
 lt:∀ x ∈ r.log.jL,x.Time<=r.time
 lc:r.log.jL.length<=250
 ol:r.over.length<=24
 lk:∀ x ∈ r.log.jL,dD x=some 0
def Ah (r:Rm) (e:Ev):Option bS:=
 if 1<=e.Time-r.time then (lF r.watch r.state.iP (e.Time-r.time)).map (·.2.2) else some r.watch
structure PF (r:Rm) (e:Ev) (r':Rm):Prop where
  c:dD e=some 0
  t:r.time<=e.Time
  t':r'.time=e.Time
  ru:r'.rules=r.rules
  he:r'.held=r.held
  k:e.Kind≠AS/\e.Kind≠ya
  sw:r'.cH.aN=r.cH.aN\/Nt r.held r.cH e r'.cH.aN
  hn:e.Kind=BL\/e.Kind=y0->e.Name ∉ r.held
  ln:nm r'.cH=nm r.cH
  wa:Ah r e=some r'.watch
  x:∃ on1,(e.Kind≠Hj/\on1=r.on\/e.Kind=Hj/\e.Name ∈ nm r.cH/\e.Name ∉ r.on/\on1=r.on++[e.Name]) /\
    ∃ st1 ov1 ex,Ns r'.cH on1 st1 ov1/\jR r'.watch=some ex /\
    ((ov1.filter (λx=>decide (x ∈ ex))=[]/\r'.on=on1/\r'.state=st1/\r'.over=[]/\r'.log.jL=r.log.jL++[e]) \/
     (mb r'.cH on1=some ([],8)/\r'.on=on1/\r'.state=st1/\r'.over=ov1.filter (λx=>decide (x ∈ ex))/\∃ ev,Own ya e.Time r'.over ev/\r'.log.jL=r.log.jL++[e]++ev) \/
     (∃ off ev,Own AS e.Time off ev/\r'.on=on1.filter (xq off)/\Ns r'.cH r'.on r'.state []/\(∀ x ∈ off,x ∈ on1)/\r'.over=[]/\r'.log.jL=r.log.jL++[e]++ev))
theorem xA.Qq {n m:Net}{w:bS} (h:xA n w) (e:m.aK=n.aK):xA m w:=⟨by rw [h.b,e],by rw [h.f,e],by rw [h.a,e],by rw [h.o,e]⟩
theorem ML {r:Rm} (h:Inv r) {e:Ev} (hc:dD e=some 0) (ht:r.time<=e.Time) (ht2:0<=e.Time/\e.Time<=200000) (hl:r.log.jL.length<200)
  {c:cS} (I:PH r.held r.cH r.on e c) {st:cI}{ov:List BA} (hs:Ns c.n c.on st ov) {w:bS} (hw:xA c.n w) (hwe:Ah r e=some w):
  Gd (jS r e (0,c) (st,ov,0) w.kV w.mh w.sF w.over w.time) (λq=>q.1=0/\Inv q.2/\PF r e q.2):=by
 have hll:c.n.bF.length=r.cH.bF.length:=by
  have:=Rn List.length I.ln
  rwa [zn,zn] at this
 have h5:=h.ll;have hon:C0 c.n c.on:=by
  rcases I.on with ⟨_,ho⟩ | ⟨_,hm,hno,ho⟩
  ·rw [ho]; exact ⟨h.on.nd,λx J=>by rw [I.ln]; exact h.on.s x J⟩
  ·rw [ho]
   refine ⟨?_,λx J=>?_⟩
   ·rw [R6]
    refine ⟨h.on.nd,by simp,λa ha b hb=>?_⟩
    rw [Rz.1 hb];intro k; rw [k] at ha; exact hno ha
   ·rw [I.ln]
    rcases Rh.1 J with J | J
    ·exact h.on.s x J
    ·rw [Rz.1 J]; exact hm
 have Z:∀ x ∈ r.log.jL++[e],x.Time<=e.Time:=λx J=>by
  rcases Rh.1 J with J | J
  ·exact Int.le_trans (h.lt x J) ht
  ·rw [Rz.1 J]; exact Tu _
 have hlk:∀ x ∈ r.log.jL++[e],dD x=some 0:=λx J=>by
  rcases Rh.1 J with J | J
  ·exact h.lk x J
  ·rw [Rz.1 J]; exact hc
 unfold jS ng;obtain ⟨k,hk⟩:=append_eq (l:=r.log.jL) (e:=e) (by omega) (λx J=>Int.le_trans (h.lt x J) ht) hc
 refine Gd.bind_eq hk ?_;obtain ⟨ex,Y,hexl⟩:=FT hw hs.v.l3;refine Gd.bind_eq Y (Gd.eN (MI ex ov (Sb hs.ol (by omega))) (λov' ho'=>?_))
 subst ho';have hol:(ov.filter (λx=>decide (x ∈ ex))).length<=24:=Sb (Wb _ _) hs.ol;refine Gd.ite (λhp=>?_) (λhp=>?_)
 ·refine Gd.eN (GS (r:=aP.mk c.n r.rules c.on r.held w st e.Time (bG.mk (r.log.jL++[e])) []) I.sz hs.v hs.cn (by simp only; omega) hon ht2 Z (by simp; omega) hol (λx J=>hs.om x (Sg.1 J).1)) (λq hq=>Gd.ret ⟨rfl,?_⟩)
  rcases hq with ⟨hre,ev,O,rfl⟩ | ⟨off,st',ev,O,hst,hoff,hofl,rfl⟩
  ·have hel:ev.length<=24:=by rw [O.len]; exact hol
   refine ⟨⟨I.sz,h.ru,hon,by simp only; omega,⟨ov,hs⟩,hw,ht2,?_,?_,hol,?_⟩,⟨hc,ht,rfl,rfl,rfl,I.ks,I.sw,I.hn,I.ln,hwe,c.on,I.on,st,ov,ex,hs,Y,.inr (.inl ⟨hre,rfl,rfl,rfl,ev,O,rfl⟩)⟩⟩
   ·intro x J
    rcases Rh.1 J with J | J
    ·exact Z x J
    ·exact Int.le_of_eq (O.k x J).2
   ·simp only [Ro,Rd,Wc]; omega
   ·intro x J
    rcases Rh.1 J with J | J
    ·exact hlk x J
    ·exact O.c x J
  ·have hel:=O.len
   refine ⟨⟨I.sz,h.ru,hon.filter _,by simp only; omega,⟨[],hst⟩,hw,ht2,?_,?_,by simp,?_⟩,⟨hc,ht,rfl,rfl,rfl,I.ks,I.sw,I.hn,I.ln,hwe,c.on,I.on,st,ov,ex,hs,Y,.inr (.inr ⟨off,ev,O,rfl,hst,hoff,rfl,rfl⟩)⟩⟩
   ·intro x J
    rcases Rh.1 J with J | J
    ·exact Z x J
    ·exact Int.le_of_eq (O.k x J).2
   ·simp only [Ro,Rd,Wc,hel]; omega
   ·intro x J
    rcases Rh.1 J with J | J
    ·exact hlk x J
    ·exact O.c x J
 ·have h0:ov.filter (λx=>decide (x ∈ ex))=[]:=by
   simp only [WZ] at hp;exact List.length_eq_zero_iff.1 (Nat.le_zero.1 (Nat.not_lt.1 (λk=>hp (Int.ofNat_lt.2 k))))
  refine Gd.ret ⟨rfl,⟨I.sz,h.ru,hon,by simp only; omega,⟨ov,hs⟩,hw,ht2,Z,by simp; omega,by simp,hlk⟩,⟨hc,ht,rfl,rfl,rfl,I.ks,I.sw,I.hn,I.ln,hwe,c.on,I.on,st,ov,ex,hs,Y,.inl ⟨h0,rfl,rfl,rfl,rfl⟩⟩⟩
theorem HZ {r:Rm} (h:Inv r) {e:Ev} (he:EM e):Gd (gB r e) (λq=>Inv q.2/\(q.1≠0->q.2=r)/\(q.1=0->PF r e q.2)):=by
 obtain ⟨ov0,O⟩:=h.st;have hV:=O.v;have hol:=h.on.len;have h5:=h.ll;have no:∀ k:Int,k≠0->Gd (some (k,r)) (λq:Int×Rm=>Inv q.2/\(q.1≠0->q.2=r)/\(q.1=0->PF r e q.2)):=λk hk=>Gd.ret ⟨h,λ_=>rfl,λI=>absurd I hk⟩;unfold gB;obtain ⟨k,hk,hkt⟩:=Ii he;refine Gd.bind_eq hk (Gd.ite (λI=>no k (by simpa using I)) (λI=>?_))
 have I:k=0:=by simpa using I
 subst I;have ht2:=hkt rfl;refine Gd.ite (λ_=>no _ (by decide)) (λht=>?_)
 have ht:r.time<=e.Time:=by simpa using ht
 have htm:=h.tm;have hlc:=h.lc;refine Gd.eN (P:=λx=>x=r.log.jL) (by unfold lP; exact Gd.nd (by omega) (Gd.ret rfl)) (λal hal=>?_)
 subst hal;refine Gd.ite (λ_=>no _ (by decide)) (λhl=>Gd.bind_eq (copy_eq hV) (Gd.nd (by omega) (Gd.eN (IF h.sz hV h.ru (by omega) he) (λc hce=>?_))))
 have hl:r.log.jL.length<200:=by
  simp at hl; omega
 obtain ⟨f,c⟩:=c;refine Gd.ite (λI=>no f (by simpa using I)) (λI=>?_)
 have I:f=0:=by simpa using I
 subst I;have J:=hce rfl;refine Gd.eN (Bx J.sz c.on) (λs hs=>?_);obtain ⟨st,ov,g⟩:=s;refine Gd.ite (λI=>no g (by simpa using I)) (λI=>?_)
 have I:g=0:=by simpa using I
 subst I;have hst:=hs.2 rfl;have hw0:=h.w.Qq J.br;have hd:i64.wrap (e.Time-r.time)=e.Time-r.time:=bJ ⟨by omega,by omega⟩
 refine Gd.ite (λ_=>no _ (by decide)) (λ_=>?_)
 rw [hd];have Z:∀ w,xA c.n w->Ah r e=some w->Gd (jS r e (0,c) (st,ov,0) w.kV w.mh w.sF w.over w.time) (λq=>Inv q.2/\(q.1≠0->q.2=r)/\(q.1=0->PF r e q.2)):=λw hw hwe=>
  (ML h hk ht ht2 hl J hst hw hwe).mono (λq Y=>⟨Y.2.1,λk=>absurd Y.1 k,λ_=>Y.2.2⟩)
 refine Gd.ite (λh1=>?_) (λh1=>?_)
 ·obtain ⟨q,Y,hqw⟩:=Lv h.w hV O.fl O.ff (e.Time-r.time)
  refine Gd.bind_eq Y (Z q.2.2 (hqw.Qq J.br) ?_);unfold Ah;rw [Rb (Q_ h1),Y]
  rfl
 ·refine Z r.watch hw0 ?_
  unfold Ah;rw [Ra (Rf h1)]
end Go.Sim
