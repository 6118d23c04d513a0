/-
  The proof, part F2.
-/
import Derived.Test.YtkpbgofhndmbnaaGreatDoorSqF1
set_option linter.unusedVariables false
set_option linter.unusedSimpArgs false
set_option linter.unusedSectionVars false
set_option linter.unnecessarySimpa false
namespace Go.Sim
abbrev Vm := @Int.natCast_nonneg
abbrev Vr := @List.cons.inj
abbrev Vu := @List.eq_of_mem_replicate
abbrev Vv := @List.filter_cons
abbrev Vw := @List.getElem_set
abbrev VA := @List.length_filter_le
abbrev VF := @List.set_append_right
abbrev Wb := @Rat.intCast_le_intCast
end Go.Sim
namespace Go.Sim
open Go
open _root_.Go.IntKind (i64 u64 u32 u8)
def FC (n i:Nat):List Nat:=(List.range i).map (·+1)++List.replicate (n-i) 0
theorem Bi (n:Nat):FC n 0=List.replicate n 0:=by simp [FC]
theorem Bh (n:Nat):FC n n=yx n:=by simp [FC,yx]
theorem FO {n i:Nat} (hi:i<n):(FC n i)[i]? = some 0:=by
 unfold FC;rw [Q2 (by simp),SS,Qx (by simp; omega)]
theorem AF {n i:Nat} (hi:i<n):(FC n i).set i (i+1)=FC n (i+1):=by
 unfold FC;rw [VF _ _ (by simp)]
 have e:n-i=(n-(i+1))+1:=by omega
 rw [e,SZ,TV];simp
theorem Ll {n i:Nat} (hi:i<n):(FC n (i+1))[i]? = some (i+1):=by
 rw [<- AF hi,QU (by simp [FC]; omega)]
theorem Cf {n:Nat}{rows:List (List LR)} (h:rows.length=n):rI (yx n) ([]::rows)=rows:=by
 apply Sa;intro i;unfold rI;rw [QW]
 by_cases hi:i<n
 ·rw [DV hi,RV,Hf,Qp (by omega)]; rfl
 ·rw [Rn (by rw [w8]; omega),Rn (by omega)]; rfl
theorem Lq {rows:List (List LR)}{n:Nat} (hl:rows.length=n) (hn:n<=1000) (Y:∀ y ∈ rows,y.length<=1000):Gd (u6 rows) (λr=>r=(yx n,[]::rows)):=by
 unfold u6;rw [hl];refine Gd.nd (by omega) ?_
 rw [Qr];refine Gd.dO (λi l s=>∃ pre,rows=pre++l/\pre.length=i/\s=(FC n i,[]::pre)) ?_ ?_ rows 0 _ ⟨[],rfl,rfl,by rw [Bi]⟩
 ·rintro i y ys _ nx ⟨pre,J,I,rfl⟩ O
  have hi:i<n:=by rw [<- hl,J,QJ,QA]; omega
  have Z:=Y y (by rw [J]; simp)
  unfold vM;refine Gd.nd (by simp; omega) (Gd.ix (by omega) (by rw [Qr]; exact FO hi) (O _ ⟨pre++[y],by rw [J]; simp,by simp [I],?_⟩))
  rw [Qr,QA,I,AF hi];simp
 ·rintro i _ ⟨pre,J,I,rfl⟩
  rw [Q8] at J;subst J;refine Gd.ret ?_;rw [<- I,hl,Bh]
theorem uH.short {rows:List (List LR)}{n w W:Nat}{m:Mt} (h:uH rows n w W m) (Y:w<=1000):∀ y ∈ rows,y.length<=1000:=by
 intro y J;obtain ⟨i,hi,he⟩:=RG.1 J;obtain ⟨l,I,O,_⟩:=h.row i (by rw [<- h.len]; exact hi)
 rw [Qp hi] at I;have:=Qs I;rw [<- he,this]; omega
theorem IA {rows:List (List LR)}{n W:Nat}{A m0:Mt} (hn:n<=400) (hW:W<=100000) (hp:Pd n A) (h0:Gj n A 0 m0) (hM:uH rows n (2*n) W m0)
  (hB:∀ k m,k<=n->Gj n A k m->∀ i c,i<n->c<2*n->RB (m i c) W):
  Gd (rl rows (n:Int)) (λr=>∃ I m,r.1=(yx n,[]::I)/\r.2.length=n/\Gj n A n m/\uH I n (2*n) W m):=by
 unfold rl;refine Gd.eM (Lq hM.len (by omega) (hM.short (by omega))) (λr hr=>?_)
 subst hr;refine Gd.iL (λs=>∃ (k:Nat) (l:List Int) (I:List (List LR)) (m:Mt),s=(l,(k:Int),yx n,[]::I)/\l.length=k/\k<=n/\Gj n A k m/\uH I n (2*n) W m) (λs=>((n:Int)-s.2.1).toNat) ?_ fT _
  ⟨0,[],rows,m0,rfl,rfl,by omega,h0,hM⟩ (by simp only [fT]; omega)
 rintro _ nx ⟨k,l,I,m,rfl,hl,hk,Y,Z⟩ O;show Gd (mS (n:Int) l (k:Int) (yx n) ([]::I) nx) _
 by_cases h:k<n
 ·have hd:=Y.MO hp h
  refine Iz hl h (by omega) (by omega) (by omega) (by omega) hW hd Z (λc hc=>?_) (λi c hi hc=>hB (k+1) _ (by omega) (Y.step h hd) i c hi hc) (λJ hM''=>?_)
  ·rw [Y.left k c h (by omega) hc,qv (by omega)]
  ·exact O _ ⟨k+1,_,J,_,rfl,by simp [hl],by omega,Y.step h hd,hM''⟩ (by simp only; omega)
 ·obtain rfl:k=n:=by omega
  unfold mS;refine Gd.ite (λh=>absurd h (by simp)) (λ_=>Gd.ret ⟨I,m,rfl,hl,Y,Z⟩)
theorem zD {n:Nat} (hn:n<=1000):Gd (nN (n:Int)) (λr=>∃ z,r=List.replicate n z/\py z/\RL z 2/\rv z=0):=by
 unfold nN;refine Gd.eM (vj (n:=0) (by omega)) (λz I=>Gd.nd (by simp; omega) (Gd.ret ⟨z,xO _ _,I.1,I.2.1,by rw [I.2.2]; rfl⟩))
theorem uH.snoc {rows:List (List LR)}{n w W:Nat}{m:Mt} (h:uH rows n w W m) {l:List LR} (I:l.length=w) (J:∀ c,c<w->∃ y,l[c]? = some y/\py y/\RL y W/\rv y=m n c):uH (rows++[l]) (n+1) w W m:=by
 refine ⟨by simp [h.len],λi hi=>?_⟩
 by_cases e:i<n
 ·obtain ⟨l',a,b,c⟩:=h.row i e
  exact ⟨l',by rw [RF (by rw [h.len]; exact e)]; exact a,b,c⟩
 ·obtain rfl:i=n:=by omega
  exact ⟨l,by rw [Q2 (by rw [h.len]; omega),h.len,RK]; rfl,I,J⟩
def Dr (n:Nat) (A:Mt):Mt:=λi c=>if c<n then A i c else dl i (c-n)
theorem JS (n:Nat) (A:Mt):Gj n A 0 (Dr n A):=by
 have e:∀ i j,Dr n A i (n+j)=dl i j:=λi j=>by unfold Dr; rw [Qw (by omega)]; congr 1; omega
 refine ⟨λi c hi O=>?_,λi j _ _ _=>e i j,λi c _ _ h=>by omega⟩
 have J:sm n (λj=>Dr n A i (n+j)*A j c)=Dr n A i (n+i)*A i c:=Ca (p:=i) hi (λj Y I=>by rw [e,qv (λx=>I x.symm)]; grind)
 rw [J,e,re];unfold Dr;rw [if_pos O]; grind
theorem Lx {n k W:Nat}{y:List LR}{z one:LR}{A:Mt} (hk:k<n) (hy:y.length=n) (O:∀ c,c<n->∃ v,y[c]? = some v/\py v/\RL v W/\rv v=A k c) (Y:py z/\RL z 2/\rv z=0) (J:py one/\RL one 2/\rv one=1) (Z:2<=W):
  ((([]++y)++List.replicate n z).set (n+k) one).length=2*n/\∀ c,c<2*n->∃ v,((([]++y)++List.replicate n z).set (n+k) one)[c]? = some v/\py v/\RL v W/\rv v=Dr n A k c:=by
 refine ⟨by simp [hy]; omega,λc hc=>?_⟩
 rw [R7];unfold Dr
 by_cases I:c<n
 ·obtain ⟨v,a,b,d,e⟩:=O c I
  refine ⟨v,?_,b,d,by rw [Qx I]; exact e⟩
  rw [QQ (by omega),RF (by omega)]; exact a
 ·by_cases h2:c=n+k
  ·subst h2
   refine ⟨one,by rw [QU (by simp [hy]; omega)],J.1,J.2.1.mono Z,?_⟩
   rw [Qw I,J.2.2,SD,re]
  ·refine ⟨z,?_,Y.1,Y.2.1.mono Z,?_⟩
   ·rw [QQ (by omega),Q2 (by omega),SS,Qx (by omega)]
   ·rw [Qw I,Y.2.2,qv (by omega)]
theorem Ga {rows:List (List LR)}{n W:Nat}{A:Mt} (hn:n<=400) (hW:W<=100000) (hW2:2<=W) (hp:Pd n A) (hM:uH rows n n W A)
  (hB:∀ k m,k<=n->Gj n A k m->∀ i c,i<n->c<2*n->RB (m i c) W):
  Gd (qE rows) (λr=>r.2=true/\∃ m,Gj n A n m/\uH r.1 n n W (λi c=>m i (n+c))):=by
 unfold qE;rw [hM.len];refine Gd.nd (by omega) ?_
 rw [Qr];refine Gd.kW (λM i s=>i+M=n/\∃ pre:List (List LR),s=(FC n i,[]::pre)/\uH pre i (2*n) W (Dr n A)) ?_ ?_ n 0 _ ⟨by omega,[],by rw [Bi],⟨rfl,λi hi=>by omega⟩⟩
 ·rintro M i _ nx ⟨hiM,pre,rfl,I⟩ hnx
  have hi:i<n:=by omega
  obtain ⟨y,y1,y2,y3⟩:=hM.row i hi;unfold tA;rw [hM.len];refine Gd.ix (y:=y) (by omega) (by rw [Qr]; exact y1) (Gd.nd (by simp; omega) (Gd.eM (zD (by omega)) ?_))
  rintro _ ⟨z,rfl,hz⟩;refine Gd.nd (by simp; omega) (Gd.ix (by omega) (by rw [Qr]; exact FO hi) ?_)
  have hlen:([]::pre:List (List LR)).length=i+1:=by simp [I.len]
  rw [hlen,Qr,AF hi];refine Gd.ix (by omega) (by rw [Qr]; exact Ll hi) (Gd.eM (vj (n:=1) (by omega)) (λone ho=>?_))
  have ho2:py one/\RL one 2/\rv one=1:=⟨ho.1,ho.2.1,by rw [ho.2.2]; rfl⟩
  have Z:=Lx hi y2 y3 hz ho2 hW2;have hat:((([]::pre++[([]++y)++List.replicate n z]:List (List LR))[i+1]?).getD [])=([]++y)++List.replicate n z:=by
   rw [SL,List.getElem?_cons_succ,Q2 (by rw [I.len]; omega),I.len,RK]; rfl
  rw [hat];have hwr:i64.wrap ((n:Int)+(i:Int))=((n+i:Nat):Int):=by rw [bT ⟨by omega,by omega⟩]; omega
  rw [hwr];refine Gd.ix (y:=z) (by omega) ?_ (hnx _ ⟨by omega,pre++[(([]++y)++List.replicate n z).set (n+i) one],?_,I.snoc Z.1 Z.2⟩)
  ·rw [Qr,R7,Q2 (by omega),SS,Qx (by omega)]
  ·rw [Qr,SL,List.set_cons_succ,VF _ _ (by rw [I.len]; omega),I.len,RK]
   rfl
 ·rintro i _ ⟨hi,pre,rfl,I⟩
  obtain rfl:i=n:=by omega
  show Gd ((rl (rI (FC i i) ([]::pre)) (i:Int)).bind _) _;rw [Bh,Cf I.len];refine Gd.eM (IA hn hW hp (JS i A) I hB) ?_;rintro ⟨⟨sg,ls⟩,pv⟩ ⟨J,m,he,hpl,hG,hM'⟩;obtain ⟨rfl,rfl⟩:=Prod.mk.inj he;simp only at hpl ⊢;rw [hpl];refine Gd.ite (λh=>absurd (Qv h) (by omega)) (λ_=>?_)
  rw [w8];refine Gd.nd (by omega) ?_
  rw [Qr];refine Gd.kW (λM k s=>k+M=i/\∃ rs:List (List LR),s=(yx i,[]::rs)/\rs.length=i/\∀ q,q<i->rs[q]? = if q<k then (J[q]?).map (·.drop i) else J[q]?) ?_ ?_ i 0 _
   ⟨by omega,J,rfl,hM'.len,λq _=>by rw [Qw (by omega)]⟩
  ·rintro M k _ nx ⟨hkM,rs,rfl,O,Y⟩ hnx
   have hk:k<i:=by omega
   obtain ⟨l,l1,l2,l3⟩:=hM'.row k hk;have hat:rs[k]? = some l:=by rw [Y k hk,Qw (by omega),l1]
   unfold tB;rw [hM.len];refine pR hk ?_;rw [Hf,hat,Su];refine Gd.nd (by omega) (pR hk (Gd.nd ?_ ?_))
   ·rw [Qr]
    refine LL (λj hj=>?_);have hjn:j<i:=by
     have:=(Qt.1 hj).1
     rwa [w8] at this
    rw [DV hjn] at hj;have:=Qs hj;omega
   ·rw [Qr,Qr,AM hk,Nv]
    refine hnx _ ⟨by omega,_,rfl,by rw [RM]; exact O,λq hq=>?_⟩
    by_cases e:k=q
    ·subst e
     rw [QU (by omega),Qx (by omega),l1]; rfl
    ·rw [QQ e,Y q hq]
     by_cases e2:q<k
     ·rw [Qx e2,Qx (by omega)]
     ·rw [Qw e2,Qw (by omega)]
  ·rintro k _ ⟨hk,rs,rfl,O,Y⟩
   refine Gd.ret ⟨rfl,m,hG,?_⟩;show uH (rI (yx i) ([]::rs)) i i W _;rw [Cf O];refine ⟨O,λq hq=>?_⟩;obtain ⟨l,l1,l2,l3⟩:=hM'.row q hq;refine ⟨l.drop i,by rw [Y q hq,Qx (by omega),l1]; rfl,by rw [R3]; omega,λc hc=>?_⟩
   obtain ⟨v,a,b,d,e⟩:=l3 (i+c) (by omega)
   exact ⟨v,by rw [Q_]; exact a,b,d,e⟩
def wq (k:Nat):Rat:=(((WB ^ k:Nat):Int):Rat)
theorem vV (a b:Nat):wq a*wq b=wq (a+b):=by unfold wq; rw [VT,Rg,Wc]
theorem vW (a:Nat):1<=wq a:=by
 unfold wq;have h:(1:Nat)<=WB ^ a:=Nat.one_le_pow _ _ (by decide)
 have I:(1:Int)<=((WB ^ a:Nat):Int):=by omega
 have:=Wb.2 I
 rwa [Rat.intCast_one] at this
theorem yb {a b:Nat} (h:a<=b):wq a<=wq b:=by
 unfold wq;have h:WB ^ a<=WB ^ b:=VV (by decide) h
 exact Wb.2 (by omega)
theorem A_ {x y a b:Rat} (O:-a<=x) (Y:x<=a) (Z:-b<=y) (h4:y<=b):-(a*b)<=x*y/\x*y<=a*b:=by
 have e1:=Rat.mul_nonneg (show 0<=a-x by grind) (show 0<=b+y by grind)
 have e2:=Rat.mul_nonneg (show 0<=a+x by grind) (show 0<=b-y by grind)
 have I:=Rat.mul_nonneg (show 0<=a-x by grind) (show 0<=b-y by grind)
 have J:=Rat.mul_nonneg (show 0<=a+x by grind) (show 0<=b+y by grind)
 constructor <;> grind
theorem Kj {z:Int}{k:Nat} (I:-wq k<=(z:Rat)) (J:(z:Rat)<=wq k):z.natAbs<WB ^ (k+1):=by
 unfold wq at I J;rw [<- Wd] at I;have a1:=Wb.1 I;have O:=Wb.1 J;have Y:WB ^ k<WB ^ (k+1):=Nat.pow_lt_pow_right (by decide) (by omega)
 omega
theorem zy {p q:Rat}{k:Nat} (I:uC p) (J:uC q) (p1:-wq k<=p) (p2:p<=wq k) (Y:-wq k<=q) (q2:q<=wq k) (O:q≠0) (Z:k<=186):RB (p / q) (k+1):=by
 obtain ⟨a,rfl⟩:=I;obtain ⟨b,rfl⟩:=J;exact RB.ratio (Kj p1 p2) (Kj Y q2) (λe=>O (by rw [e]; rfl)) (by omega)
theorem RB.zero:RB 0 1:=by
 have:=RB.small (m:=0) (by decide)
 simpa using this
theorem RB.one:RB 1 1:=by
 have:=RB.small (m:=1) (by decide)
 simpa using this
theorem RB.dl (i j:Nat):RB (dl i j) 1:=by
 rcases xb i j with h | h <;> rw [h]
 ·exact RB.zero
 ·exact RB.one
theorem RB.sm {f:Nat->Rat}{a:Nat}:∀ {n:Nat},n*(a+1)+1<=700000->(∀ j,j<n->RB (f j) a)->RB (sm n f) (n*(a+1)+1)
 | 0,_,_=>RB.zero.mono (by omega)
 | n+1,hn,h=>by
  have e:(n+1)*(a+1)=n*(a+1)+(a+1):=Nat.succ_mul _ _;have I:=RB.sm (n:=n) (by omega) (λj J=>h j (by omega))
  exact (I.add (h n (by omega)) (by omega)).mono (by omega)
structure Nb (n:Nat) (A:Mt) (L:Nat->Rat) (B:Mt) (R:Nat->Rat):Prop where
 s:I8 n A L B R
 hP:pr n R<=wq 60
 hL:∀ i,i<n->L i<=wq 18
theorem Nb.R {n:Nat}{A B:Mt}{L R:Nat->Rat} (h:Nb n A L B R) {i:Nat} (hi:i<n):R i<=wq 60:=by
 have key:∀ {m:Nat},(∀ j,j<m->1<=R j)->i<m->R i<=pr m R:=by
  intro m
  induction m with
  | zero=>intro _ h; omega
  | succ m ih=>
   intro I hi;have p1:1<=pr m R:=DQ (λj J=>I j (by omega))
   show R i<=pr m R*R m
   by_cases e:i=m
   ·subst e
    have:=Rat.mul_le_mul_of_nonneg_right p1 (show 0<=R i by have:=I i hi; grind)
    grind
   ·have a:=ih (λj J=>I j (by omega)) (by omega)
    have:=Rat.mul_le_mul_of_nonneg_left (I m (by omega)) (show 0<=pr m R by grind)
    grind
 exact Wg (key (λj J=>h.s.R1 J) hi) h.hP
theorem Nb.L0 {n:Nat}{A B:Mt}{L R:Nat->Rat} (h:Nb n A L B R) {i:Nat} (hi:i<n):L i≠0:=λe=>by
 have:=h.s.l1 i hi; rw [e] at this; exact absurd this (by decide)
theorem Nb.ab {n:Nat}{A B:Mt}{L R:Nat->Rat} (h:Nb n A L B R) {i c:Nat} (hi:i<n) (I:c<n):-wq 60<=L i*A i c/\L i*A i c<=wq 60:=by
 have J:=h.s.ab i c hi I;have O:=MT (f:=B i) (h.s.b0 i) I;have Y:=h.s.rs i hi;have Z:=h.R hi;constructor <;> grind
theorem Nb.A {n:Nat}{A B:Mt}{L R:Nat->Rat} (h:Nb n A L B R) {i c:Nat} (hi:i<n) (I:c<n):RB (A i c) 61:=by
 have e:A i c=(L i*A i c) / L i:=by
  rw [Wa];have:=Wj (L i) (h.L0 hi)
  grind
 rw [e];have l1:=h.s.l1 i hi;have l2:=h.hL i hi;have l3:=yb (show 18<=60 by omega)
 have w:=vW 60;exact zy (h.s.ai i c hi I) (h.s.li i hi) (h.ab hi I).1 (h.ab hi I).2 (by grind) (by grind) (h.L0 hi) (by omega)
def Dk (A:Mt) (L:Nat->Rat) (k:Nat):Rat:=qW k (λr c=>L r*A r c)
theorem Nb.D0 {n:Nat}{A B:Mt}{L R:Nat->Rat} (h:Nb n A L B R) (Z:Pd n A):∀ {k:Nat},k<=n->Dk A L k≠0/\∃ m,Gj n A k m
 | 0,_=>⟨by show (1:Rat)≠0; decide,_,JS n A⟩
 | k+1,hk=>by
  obtain ⟨d,m,O⟩:=h.D0 Z (k:=k) (by omega)
  have Y:=O.MO Z (by omega)
  refine ⟨?_,_,O.step (by omega) Y⟩
  have e:=O.qW (k:=k) (by omega) (L:=L) (λi hi=>h.L0 hi)
  show Sim.qW (k+1) (λr c=>L r*A r c)≠0;rw [e];intro h0;rcases Wh.1 h0 with I | I
  ·rcases Wh.1 I with J | J
   ·exact h.L0 (by omega) J
   ·exact Y J
  ·exact d I
theorem Nb.Db {n:Nat}{A B:Mt}{L R:Nat->Rat} (h:Nb n A L B R) {k:Nat} (I:k<=n):uC (Dk A L k)/\-wq 60<=Dk A L k/\Dk A L k<=wq 60:=by
 obtain ⟨a,b,c⟩:=h.s.qW I;have:=h.hP;refine ⟨a,?_,?_⟩ <;> unfold Dk <;> grind
theorem Nb.num {n:Nat}{A B m:Mt}{L R:Nat->Rat} (h:Nb n A L B R) (hp:Pd n A) {k:Nat} (hG:Gj n A k m) (O:k<=n) {i p:Nat} (hi:i<n) (Y:p<k):RB (m i (n+p)) 140:=by
 obtain ⟨N,n1,n2,n3,e⟩:=hG.num h.s O hi Y;obtain ⟨d1,d2,d3⟩:=h.Db O;have d0:=(h.D0 hp O).1;have hP:=h.hP;have p1:1<=pr n R:=DQ (λj hj=>h.s.R1 hj);have r1:=h.s.R1 hi;have r2:=h.R hi;have hNb:pr n R*R i<=wq 120:=by
  rw [<- vV 60 60];exact qI hP r2 (by grind) (by grind)
 have lp:=h.s.l1 p (by omega)
 have Z:=h.hL p (by omega)
 have t:=A_ (x:=N) (y:=L p) (a:=wq 120) (b:=wq 18) (by grind) (by grind) (by have:=vW 18; grind) Z
 rw [vV] at t;have s0:(if k<=i then L i else 1)≠0:=by
  split
  ·exact h.L0 hi
  ·decide
 have s1:uC (if k<=i then L i else 1):=by
  split
  ·exact h.s.li i hi
  ·exact ⟨1,rfl⟩
 have s2:1<=(if k<=i then L i else 1)/\(if k<=i then L i else 1)<=wq 18:=by
  split
  ·exact ⟨h.s.l1 i hi,h.hL i hi⟩
  ·exact ⟨We,vW 18⟩
 generalize (if k<=i then L i else 1)=s at e s0 s1 s2
 have u:=A_ (x:=s) (y:=Dk A L k) (a:=wq 18) (b:=wq 60) (by have:=vW 18; grind) s2.2 d2 d3
 rw [vV] at u;have e2:m i (n+p)=(N*L p) / (s*Dk A L k):=by
  have e3:s*m i (n+p)*Dk A L k=N*L p:=e;rw [<- e3,Wa];have h3:s*Dk A L k≠0:=λJ=>by
   rcases Wh.1 J with I | I
   ·exact s0 I
   ·exact d0 I
  have:=Wj _ h3
  grind
 rw [e2];have w1:=yb (show 18+60<=139 by omega)
 have w2:=yb (show 120+18<=139 by omega)
 refine zy (sD n1 (h.s.li p (by omega))) (sD s1 d1) (by grind) (by grind) (by grind) (by grind) ?_ (by omega)
 intro J;rcases Wh.1 J with I | I
 ·exact s0 I
 ·exact d0 I
theorem Nb.rb {n:Nat}{A B:Mt}{L R:Nat->Rat} (h:Nb n A L B R) (hp:Pd n A) (hn:n<=24) (k:Nat) (m:Mt) (Y:k<=n) (J:Gj n A k m) (i c:Nat) (hi:i<n) (hc:c<2*n):RB (m i c) 6000:=by
 have right:∀ p,p<n->RB (m i (n+p)) 140:=λp O=>by
  by_cases e:p<k
  ·exact h.num hp J Y hi e
  ·rw [J.right i p hi O (by omega)]
   exact (RB.dl i p).mono (by omega)
 by_cases I:c<n
 ·rw [J.M9 Y hi I]
  have Z:RB (sm k (λj=>m i (n+j)*A j c)) (k*202+1):=RB.sm (a:=201) (by omega) (λj hj=>(right j (by omega)).mul (h.A (by omega) I) (by omega))
  have h2:RB (if k<=i then A i c else 0) 61:=by
   split
   ·exact h.A hi I
   ·exact RB.zero.mono (by omega)
  exact (Z.add h2 (by omega)).mono (by omega)
 ·have e:c=n+(c-n):=by omega
  rw [e];exact (right (c-n) (by omega)).mono (by omega)
theorem Ii (l:List Int) (p:Int):Gd (lP l p) (λr=>(r = -1/\p ∉ l)\/∃ (k:Nat) (h:k<l.length),r=k/\l[k]=p):=by
 unfold lP;refine Gd.kW (λm i _=>i+m=l.length/\p ∉ l.take i) ?_ ?_ (l.length:Int).toNat 0 () ⟨by omega,by simp⟩
 ·intro m i _ J ⟨hi,hno⟩ hnx
  unfold oF;refine Gd.iP (by omega) (Gd.ite (λh=>Gd.ret (.inr ⟨i,by omega,rfl,?_⟩)) (λh=>hnx () ⟨by omega,?_⟩))
  ·have:p=l[i]:=by simpa using h
   exact this.symm
  ·rw [QS (by omega),QG,QY]
   rintro (I | I)
   ·exact hno I
   ·simp [I] at h
 ·intro i _ ⟨hi,hno⟩
  rw [QH (by omega)] at hno
  exact Gd.ret (.inl ⟨rfl,hno⟩)
structure I5 (M:bA) (n N:Nat) (F:Nat->Nat) (l:List (Rat×Nat×Nat)) (t:Rat):Prop where
 hn:n<=23
 free:M.qT=(List.range n).map (λi=>(F i:Int))
 inj:∀ i j,i<n->j<n->F i=F j->i=j
 lt:∀ i,i<n->F i<N
 hN:N<=24
 ll:l.length<=24
 el:∀ e ∈ l,e.2.1<N/\e.2.2<N
 fr:M.pQ=l.map (λe=>(e.2.1:Int))
 to:M.To=l.map (λe=>(e.2.2:Int))
 bl:M.B_.length=l.length
 b:∀ (k:Nat) (y:LR),M.B_[k]? = some y->∃ e,l[k]? = some e/\py y/\RL y 2/\rv y=t / e.1
def LY:Option Nat->Int
 | none=>-1
 | some i=>(i:Int)
def eo (o:Option Nat) (r:Nat):Rat:=if o=some r then 1 else 0
theorem uA (i r:Nat):eo (some i) r=dl i r:=by
 unfold eo dl
 by_cases e:i=r
 ·subst e; rw [Qx rfl,Qx rfl]
 ·rw [Qw (λh=>e (Qs h)),Qw e]
theorem uz (r:Nat):eo none r=0:=Qw (by simp)
theorem Fg {M:bA}{n N:Nat}{F:Nat->Nat}{l:List (Rat×Nat×Nat)}{t:Rat} (h:I5 M n N F l t) (u:Nat):
  Gd (mi M (u:Int)) (λr=>∃ o:Option Nat,r=LY o/\(∀ i,o=some i->i<n/\F i=u)/\∀ r,r<n->eo o r=dl (F r) u):=by
 unfold mi;refine Gd.eM (Ii _ _) (λr I=>Gd.ret ?_);rw [h.free] at I;rcases I with ⟨rfl,Y⟩ | ⟨k,Z,rfl,e⟩
 ·refine ⟨none,rfl,λi hi=>by simp at hi,λr I=>?_⟩
  rw [uz,qv];intro e;exact Y (Rd.2 ⟨r,Ri.2 I,by rw [e]⟩)
 ·have J:k<n:=by simpa using Z
  have e2:F k=u:=by simp at e; omega
  refine ⟨some k,rfl,λi hi=>by obtain rfl:=Qs hi; exact ⟨J,e2⟩,λr I=>?_⟩
  rw [uA]
  by_cases O:k=r
  ·subst O; rw [re,e2,re]
  ·rw [qv O,qv]
   intro e4;exact O (h.inj k r J I (by omega))
theorem uH.Em {rows:List (List LR)}{n w W:Nat}{m:Mt} (h:uH rows n w W m) {p q:Nat} (J:p<n) (O:q<w) {e:LR}{d:Rat} (he:py e) (I:RL e W) (Y:rv e=m p q+d):
  uH (rows.set p (((rows[p]?).getD []).set q e)) n w W (λr c=>m r c+d*(dl p r*dl q c)):=by
 refine (h.set J O he I).congr (λr c _ _=>?_)
 by_cases e1:r=p/\c=q
 ·obtain ⟨rfl,rfl⟩:=e1
  rw [if_pos ⟨rfl,rfl⟩,re,re,Y]; grind
 ·rw [Qw e1]
  by_cases e2:p=r
  ·rw [qv (i:=q) (λe=>e1 ⟨e2.symm,e.symm⟩)]; grind
  ·rw [qv e2]; grind
abbrev I4:=List (List LR)->Option bA
theorem ML {n W:Nat}{nx:I4}{b:LR}{oi oj:Option Nat}{rows:List (List LR)}{m:Mt}{Q:bA->Prop} (Y:uH rows n n W m) (hW:W<=1000) (hb:py b) (Z:RL b 2)
  (hi:∀ i,oi=some i->i<n) (J:∀ j,oj=some j->j<n) (hne:∀ i,oi=some i->oj≠some i)
  (O:∀ I,uH I n n (W+3) (λr c=>m r c-rv b*(eo oi r*eo oj c)-rv b*(eo oj r*eo oi c))->Gd (nx ([]::I)) Q):
  Gd (jL (yx n) nx b (LY oi) (LY oj) ([]::rows)) Q:=by
 unfold jL gO;cases oi with
 | none=>
  refine Gd.ite (λh=>absurd h (by simp [LY])) (λ_=>O rows ((Y.mono (by omega)).congr (λr c _ _=>?_)))
  rw [uz,uz]; grind
 | some i=>
  cases oj with
  | none=>
   refine Gd.ite (λh=>absurd h (by simp [LY])) (λ_=>O rows ((Y.mono (by omega)).congr (λr c _ _=>?_)))
   rw [uz,uz]; grind
  | some j=>
   have hi:=hi i rfl;have J:=J j rfl;have hij:i≠j:=λe=>hne i rfl (by rw [e])
   show Gd (if ((decide (0<=(i:Int)) && decide (0<=(j:Int)))=true) then _ else _) Q
   refine Gd.ite (λ_=>?_) (λh=>absurd h (by simp))
   show Gd (idx (yx n) (i:Int) _) Q;refine pR hi (pR J (pR hi (s8 Y hi J (λy1 a1 a2 a3=>Gd.eM (x_ a1 hb a2 Z (by omega)) (λr1 b1=>?_)))))
   show Gd (idx (yx n) (j:Int) _) Q;refine pR J (s8 Y J hi (λy2 c1 c2 c3=>Gd.eM (x_ c1 hb c2 Z (by omega)) (λr2 d1=>?_)))
   show Gd (idx ((([]::rows:List (List LR))[i+1]?).getD []) (j:Int) _) Q;refine s8 Y hi J (λ_ _ _ _=>?_);have h2:=(Y.mono (show W<=W+3 by omega)).Em hi J (d:=-rv b) b1.1 (b1.2.1.mono (by omega)) (by rw [b1.2.2,a3]; grind)
   show Gd (idx ((([]::(rows.set i (((rows[i]?).getD []).set j r1)):List (List LR))[j+1]?).getD []) (i:Int) _) Q;refine s8 h2 J hi (λ_ _ _ _=>?_);have h3:=h2.Em J hi (d:=-rv b) d1.1 (d1.2.1.mono (by omega)) (by
    rw [d1.2.2,c3,qv hij]; grind)
   refine O _ (h3.congr (λr c _ _=>?_));rw [uA,uA,uA,uA]; grind
theorem MM {n W:Nat}{nx:I4}{b:LR}{oi oj:Option Nat}{rows:List (List LR)}{m:Mt}{Q:bA->Prop} (hM:uH rows n n W m) (hW:W<=900) (hb:py b) (O:RL b 2)
  (hi:∀ i,oi=some i->i<n) (hj:∀ j,oj=some j->j<n) (Y:∀ i,oi=some i->oj≠some i)
  (Z:∀ I,uH I n n (W+6) (λr c=>m r c+rv b*(eo oj r*eo oj c)-rv b*(eo oi r*eo oj c)-rv b*(eo oj r*eo oi c))->Gd (nx ([]::I)) Q):
  Gd (jM (yx n) nx b (LY oi) (LY oj) ([]::rows)) Q:=by
 unfold jM;cases oj with
 | none=>
  refine Gd.ite (λh=>absurd h (by simp [LY])) (λ_=>ML (oj:=none) (hM.mono (show W<=W+3 by omega)) (by omega) hb O hi hj Y (λI h'=>Z I (h'.congr (λr c _ _=>?_))))
  rw [uz,uz]; grind
 | some j=>
  have J:=hj j rfl;show Gd (if (decide (0<=(j:Int))=true) then _ else _) Q
  refine Gd.ite (λ_=>?_) (λh=>absurd h (by simp))
  show Gd (idx (yx n) (j:Int) _) Q;refine pR J (pR J (s8 hM J J (λy1 a1 a2 a3=>Gd.eM (w6 a1 hb a2 O (by omega)) (λr1 b1=>s8 hM J J (λ_ _ _ _=>?_)))))
  have h2:=(hM.mono (show W<=W+3 by omega)).Em J J (d:=rv b) b1.1 (b1.2.1.mono (by omega)) (by rw [b1.2.2,a3])
  refine ML (oj:=some j) h2 (by omega) hb O hi hj Y (λI h'=>Z I (h'.congr (λr c _ _=>?_)))
  rw [uA,uA]
theorem Gc (l:List (Rat×(Nat->Rat))) (e:Rat×(Nat->Rat)) (r c:Nat):iK (l++[e]) r c=iK l r c+e.1*e.2 r*e.2 c:=by
 induction l with
 | nil=>show e.1*e.2 r*e.2 c+0=0+_; grind
 | cons a l ih=>show a.1*a.2 r*a.2 c+iK (l++[e]) r c=a.1*a.2 r*a.2 c+iK l r c+_; rw [ih]; grind
theorem De {α:Type}{l:List α}{k:Nat}{e:α} (f:α->Int) (h:l[k]? = some e):(l.map f)[k]? = some (f e):=by rw [QW,h]; rfl
theorem Oj {M:bA}{n N:Nat}{F:Nat->Nat}{l:List (Rat×Nat×Nat)}{t:Rat} (h:I5 M n N F l t) {k W:Nat}{e:Rat×Nat×Nat} (he:l[k]? = some e) {b:LR} (hb:py b) (J:RL b 2) (hbv:rv b=t / e.1)
  {nx:I4}{rows:List (List LR)}{pre:List (Rat×Nat×Nat)}{Q:bA->Prop} (hW:W<=800) (hM:uH rows n n W (iK ((pre.map (yn t)).map (nF F))))
  (hnx:∀ I,uH I n n (W+9) (iK (((pre++[e]).map (yn t)).map (nF F)))->Gd (nx ([]::I)) Q):
  Gd (lu M (yx n) k b ([]::rows) nx) Q:=by
 obtain ⟨q,u,v⟩:=e;unfold lu;rw [h.fr,h.to];have f1:=De (λe:Rat×Nat×Nat=>(e.2.1:Int)) he;have f2:=De (λe:Rat×Nat×Nat=>(e.2.2:Int)) he;have new:∀ r c,iK (((pre++[(q,u,v)]).map (yn t)).map (nF F)) r c=iK ((pre.map (yn t)).map (nF F)) r c+rv b*(dl (F r) u-dl (F r) v)*(dl (F c) u-dl (F c) v):=λr c=>by
  rw [RP,RP];show iK (_++[_]) r c=_;rw [Gc,hbv]; rfl
 refine Gd.ix (by omega) (by rw [Qr]; exact f1) ?_
 refine Gd.eM (Fg h u) ?_;rintro _ ⟨oi,rfl,i1,i2⟩;refine Gd.ix (by omega) (by rw [Qr]; exact f2) ?_
 refine Gd.eM (Fg h v) ?_;rintro _ ⟨oj,rfl,j1,j2⟩;refine Gd.ix (by omega) (by rw [Qr]; exact f1) (Gd.ix (by omega) (by rw [Qr]; exact f2) ?_)
 refine Gd.ite (λO=>?_) (λO=>?_)
 ·have e1:u=v:=by have:=Qv O; simp only at this; omega
  subst e1;unfold gO;refine hnx rows ((hM.mono (by omega)).congr (λr c _ _=>?_))
  rw [new]; grind
 ·have e1:u≠v:=λe=>by subst e; simp at O
  have hne:∀ i,oi=some i->oj≠some i:=λi hi hj=>by
   have:=(i1 i hi).2;have:=(j1 i hj).2;omega
  have Y:∀ I,uH I n n (W+9) (λr c=>iK ((pre.map (yn t)).map (nF F)) r c+rv b*(eo oi r*eo oi c)+rv b*(eo oj r*eo oj c)-rv b*(eo oi r*eo oj c)-rv b*(eo oj r*eo oi c))->Gd (nx ([]::I)) Q:=λI Z=>
   hnx I (Z.congr (λr c hr hc=>by rw [new,i2 r hr,i2 c hc,j2 r hr,j2 c hc]; grind))
  cases oi with
  | none=>
   refine Gd.ite (λh=>absurd h (by simp [LY])) (λ_=>MM (oi:=none) (hM.mono (show W<=W+3 by omega)) (by omega) hb J (λi hi=>(i1 i hi).1) (λj hj=>(j1 j hj).1) hne (λI Z=>Y I ((Z.mono (by omega)).congr (λr c _ _=>?_))))
   rw [uz,uz]; grind
  | some i=>
   have hi:=(i1 i rfl).1;show Gd (if (decide (0<=(i:Int))=true) then _ else _) Q
   refine Gd.ite (λ_=>?_) (λh=>absurd h (by simp))
   show Gd (idx (yx n) (i:Int) _) Q;refine pR hi (pR hi (s8 hM hi hi (λy1 a1 a2 a3=>Gd.eM (w6 a1 hb a2 J (by omega)) (λr1 b1=>s8 hM hi hi (λ_ _ _ _=>?_)))))
   have h2:=(hM.mono (show W<=W+3 by omega)).Em hi hi (d:=rv b) b1.1 (b1.2.1.mono (by omega)) (by rw [b1.2.2,a3])
   refine MM (oi:=some i) h2 (by omega) hb J (λi hi=>(i1 i hi).1) (λj hj=>(j1 j hj).1) hne (λI Z=>Y I ((Z.mono (by omega)).congr (λr c _ _=>?_)))
   rw [uA,uA]
structure MB (rows:List (List LR)) (n:Nat) (A:Mt):Prop where
 ex:∃ m,Gj n A n m/\uH rows n n 6000 (λi c=>m i (n+c))
theorem Ik {M:bA}{n N:Nat}{F:Nat->Nat}{l:List (Rat×Nat×Nat)}{t:Rat} (h:I5 M n N F l t) {B:Mt}{L R:Nat->Rat} (hp:Pd n (iK ((l.map (yn t)).map (nF F)))) (hB:Nb n (iK ((l.map (yn t)).map (nF F))) L B R):
  Gd (ni M) (λM'=>∃ rows,M'={ M with rh:=rows }/\MB rows n (iK ((l.map (yn t)).map (nF F)))):=by
 have hn:=h.hn;have hfl:M.qT.length=n:=by rw [h.free]; simp
 unfold ni;rw [hfl,Qr,RI];refine Gd.nd (by omega) (Gd.nd (by omega) ?_)
 rw [Qr];refine Gd.kW (λm i s=>i+m=n/\∃ pre:List (List LR),s=(FC n i,[]::pre)/\uH pre i n 2 (λ_ _=>0)) ?_ ?_ n 0 _ ⟨by omega,[],by rw [Bi],⟨rfl,λi hi=>by omega⟩⟩
 ·rintro m i _ nx ⟨him,pre,rfl,I⟩ Z
  have hi:i<n:=by omega
  unfold p_;rw [hfl];refine Gd.eM (zD (by omega)) ?_
  rintro _ ⟨z,rfl,hz⟩;refine Gd.ix (by omega) (by rw [Qr]; exact FO hi) (Z _ ⟨by omega,pre++[List.replicate n z],?_,I.snoc (by simp) (λc hc=>⟨z,by rw [SS,Qx hc],hz.1,hz.2.1,hz.2.2⟩)⟩)
  rw [Qr,QA,I.len,AF hi]; rfl
 ·rintro i _ ⟨hi,pre,rfl,I⟩
  obtain rfl:i=n:=by omega
  show Gd (dO (λk y s1523 n=>lu M (FC i i) k y s1523 n) _ 0 M.B_ ([]::pre)) _;rw [Bh];refine Gd.dO (λk ys s=>∃ (bs:List LR) (rows:List (List LR)),M.B_=bs++ys/\bs.length=k/\s=[]::rows/\uH rows i i (2+9*k) (iK (((l.take k).map (yn t)).map (nF F)))) ?_ ?_ M.B_ 0 _ ⟨[],pre,rfl,rfl,rfl,by rw [UA]; exact I⟩
  ·rintro k y ys _ nx ⟨bs,rows,J,O,rfl,hM⟩ Z
   have hy:M.B_[k]? = some y:=by rw [J,Q2 (by omega),O,RK]; rfl
   obtain ⟨e,he,y1,y2,y3⟩:=h.b k y hy;have Y:=(Qt.1 he).1;have hll:=h.ll;have e2:l.take (k+1)=l.take k++[e]:=by
    rw [QS Y,(Qt.1 he).2]
   refine Oj h he y1 y2 y3 (by omega) hM (λrows' h'=>Z _ ⟨bs++[y],rows',by rw [J]; simp,by simp [O],rfl,?_⟩)
   rw [e2];exact h'.mono (by omega)
  ·rintro k _ ⟨bs,rows,J,O,rfl,hM⟩
   have hll:=h.ll;have hbl:=h.bl;rw [Q8] at J;have Y:k=l.length:=by rw [<- hbl,J,O]
   rw [Y,Sh] at hM;show Gd ((qE (rI (yx i) ([]::rows))).bind _) _;rw [Cf hM.len];refine Gd.eM (Ga (by omega) (by omega) (by omega) hp (hM.mono (by omega)) (hB.rb hp (by omega))) (λr hr=>Gd.ret ⟨r.1,rfl,⟨hr.2⟩⟩)
abbrev Net:=aE
theorem Gd.forAll {R α σ:Type}{Q:R->Prop}{I:Nat->α->σ->(σ->Option R)->Option R}{k:σ->Option R}{l:List α} (P:α->Prop) (J:σ->Prop)
  (hb:∀ i y s n,y ∈ l->J s->(P y->∀ s',J s'->Gd (n s') Q)->Gd (I i y s n) Q) (hk:(∀ x ∈ l,P x)->∀ s,J s->Gd (k s) Q) (s:σ) (hs:J s):Gd (Sim.dO I k 0 l s) Q:=by
 have key:∀ (ys pre:List α) (i:Nat) (s:σ),l=pre++ys->(∀ x ∈ pre,P x)->J s->Gd (Sim.dO I k i ys s) Q:=by
  intro ys
  induction ys with
  | nil=>intro pre i s hl Y hs; exact hk (by rw [hl,Q8]; exact Y) s hs
  | cons y ys ih=>
   intro pre i s hl Y hs;refine hb i y s _ (by rw [hl]; exact Rs _ (Qu ..)) hs (λhP s' Z=>?_)
   exact ih (pre++[y]) (i+1) s' (by rw [hl]; simp) (λx O=>by
    rcases QG.1 O with O | O
    ·exact Y x O
    ·simp at O; subst O; exact hP) Z
 exact key l [] 0 s rfl (by simp) hs
theorem E_ (s:Qm) (h:s.size<=maxLen):Gd (bL s) (λ_=>True):=by
 unfold bL;refine Gd.nd h (Gd.dO (λ_ _ _=>True) (λi y ys s n _ hn=>?_) (λi s _=>Gd.ret Qo) _ _ _ Qo);unfold oa;exact Gd.ite (λ_=>Gd.ret Qo) (λ_=>hn _ Qo)
theorem CS (l:List Qm) (p:Qm):Gd (bH l p) (λr=>(r = -1/\p ∉ l)\/∃ (k:Nat) (h:k<l.length),r=k/\l[k]=p):=by
 unfold bH;refine Gd.kW (λm i _=>i+m=l.length/\p ∉ l.take i) ?_ ?_ (l.length:Int).toNat 0 () ⟨by omega,by simp⟩
 ·intro m i _ J ⟨hi,hno⟩ hnx
  unfold l_;refine Gd.iP (by omega) (Gd.ite (λh=>Gd.ret (.inr ⟨i,by omega,rfl,?_⟩)) (λh=>hnx () ⟨by omega,?_⟩))
  ·have:p=l[i]:=by simpa using h
   exact this.symm
  ·rw [QS (by omega),QG,QY]
   rintro (I | I)
   ·exact hno I
   ·simp [I] at h
 ·intro i _ ⟨hi,hno⟩
  rw [QH (by omega)] at hno
  exact Gd.ret (.inl ⟨rfl,hno⟩)
theorem yS {l:List Qm}{p:Qm} (h:p ∈ l):∃ k:Nat,bH l p=some (k:Int)/\∃ J:k<l.length,l[k]=p:=by
 obtain ⟨r,Y,O⟩:=CS l p;rcases O with ⟨_,I⟩ | ⟨k,J,rfl,e⟩
 ·exact absurd h I
 ·exact ⟨k,Y,J,e⟩
theorem uF (l:List Qm) (p:Qm):Gd (bG l p) (λb=>b=true↔p ∈ l):=by
 unfold bG;refine Gd.eM (CS l p) (λr J=>Gd.ret ?_);rcases J with ⟨rfl,I⟩ | ⟨k,O,rfl,e⟩
 ·simp [I]
 ·have:p ∈ l:=e▸Q3 _
  simp [this]
theorem uJ (c:aV) (name:Qm) (nodes:List Qm) (h:name.size<=maxLen):
  Gd (cI c name nodes) (λr=>r.1=0->∀ x ∈ nodes,x ∈ c.nodes):=by
 unfold cI;refine Gd.eM (E_ name h) (λa _=>Gd.ite (λ_=>Gd.ret (λh=>by simp at h)) (λ_=>Gd.ite (λ_=>Gd.ret (λh=>by simp at h)) (λ_=>?_)))
 refine Gd.forAll (λx=>x ∈ c.nodes) (λ_=>True) ?_ ?_ () Qo
 ·intro i y s n Y _ hn
  unfold iT;refine Gd.eM (uF c.nodes y) (λb J=>Gd.ite (λ_=>Gd.ret (λh=>by simp at h)) (λh=>hn (J.1 (by simpa using h)) _ Qo))
 ·intro I s _
  refine Gd.ite (λh=>?_) (λ_=>Gd.ret (λ_=>I));have O:nodes.length=2:=by
   have:((nodes.length:Nat):Int)=2:=by simpa using h
   omega
  have e1:(0:Int)=((0:Nat):Int):=rfl;have e2:(1:Int)=((1:Nat):Int):=rfl;rw [e1,e2];exact Gd.iP (by omega) (Gd.iP (by omega) (Gd.ite (λ_=>Gd.ret (λh=>by simp at h)) (λ_=>Gd.ret (λ_=>I))))
structure pG (n:Net):Prop where
 nd:∀ x ∈ n.bD,x.size<=maxLen
 sw:∀ x ∈ n.aL,x.Name.size<=maxLen
 br:∀ x ∈ n.aH,x.Name.size<=maxLen
 gn:∀ x ∈ n.cR,x.Name.size<=maxLen
 ld:∀ x ∈ n.bB,x.Name.size<=maxLen
 st:∀ x ∈ n.bM,x.Name.size<=maxLen
structure pF (n:Net):Prop where
 l1:n.bD.length<=24
 l2:n.aL.length<=32
 l3:n.aH.length<=24
 l4:n.cR.length<=10
 l5:n.bB.length<=12
 sw:∀ x ∈ n.aL,x.A ∈ n.bD/\x.B_ ∈ n.bD
 br:∀ x ∈ n.aH,x.pQ ∈ n.bD/\x.To ∈ n.bD
 gn:∀ x ∈ n.cR,x.Node ∈ n.bD/\0<=x.jJ/\x.jJ<=x.qU/\x.qU<=100000
 ld:∀ x ∈ n.bB,x.Node ∈ n.bD/\0<=x.dB/\x.dB<=100000
theorem Lu (c:aV) (n:Net) (Z:pG n):
  Gd (gR c n) (λr=>r.1=0->(∀ x ∈ n.cR,x.Node ∈ c.nodes/\0<=x.jJ/\x.jJ<=x.qU/\x.qU<=100000)/\(∀ x ∈ n.bB,x.Node ∈ c.nodes/\0<=x.dB/\x.dB<=100000)):=by
 unfold gR;refine Gd.forAll (λx=>x.Node ∈ c.nodes/\0<=x.jJ/\x.jJ<=x.qU/\x.qU<=100000) (λ_=>True) ?_ ?_ _ Qo
 ·intro i y s nx J _ hn
  unfold jV;refine Gd.eM (uJ _ _ _ (Z.gn y J)) (λr O=>Gd.ite (λh=>Gd.ret (λI=>absurd I (by simpa using h))) (λh=>Gd.ite (λ_=>Gd.ret (λI=>by simp at I)) (λI=>hn ?_ _ Qo)))
  have Y:r.1=0:=by simpa using h
  have:=O Y y.Node (by simp)
  simp [aZ,bO] at I;exact ⟨this,by omega,by omega,by omega⟩
 ·intro hg s _
  refine Gd.forAll (λx=>x.Node ∈ c.nodes/\0<=x.dB/\x.dB<=100000) (λ_=>True) ?_ ?_ _ Qo
  ·intro i y s nx J _ hn
   unfold jW;refine Gd.eM (uJ _ _ _ (Z.ld y J)) (λr O=>Gd.ite (λh=>Gd.ret (λI=>absurd I (by simpa using h))) (λh=>Gd.ite (λ_=>Gd.ret (λI=>by simp at I)) (λI=>hn ?_ _ Qo)))
   have Y:r.1=0:=by simpa using h
   have:=O Y y.Node (by simp)
   simp [aZ,bO] at I;exact ⟨this,by omega,by omega⟩
  ·intro hl s _
   refine Gd.forAll (λ_=>True) (λ_=>True) ?_ ?_ _ Qo
   ·intro i y s nx J _ hn
    unfold jX;refine Gd.eM (uJ _ _ _ (Z.st y J)) (λr O=>Gd.ite (λh=>Gd.ret (λI=>absurd I (by simpa using h))) (λh=>Gd.ite (λ_=>Gd.ret (λI=>by simp at I)) (λ_=>hn Qo _ Qo)))
   ·intro _ s _
    exact Gd.ret λ_=>⟨hg,hl⟩
theorem Jx (n:Net) (Z:pG n):Gd (bV n) (λe=>e=0->pF n):=by
 unfold bV;refine Gd.ite (λ_=>Gd.ret (λh=>by simp at h)) (λhl=>?_)
 simp only [Vg,Wo,Int.not_lt] at hl;refine Gd.forAll (λ_=>True) (λ_=>True) ?_ ?_ _ Qo
 ·intro i y s nx Y _ hn
  unfold np;exact Gd.eM (uJ _ _ _ (Z.nd y Y)) (λr I=>Gd.ite (λh=>Gd.ret (λJ=>absurd J (by simpa using h))) (λh=>hn Qo _ Qo))
 intro _ s _;refine Gd.forAll (λx=>x.A ∈ n.bD/\x.B_ ∈ n.bD) (λ_=>True) ?_ ?_ _ Qo
 ·intro i y s nx Y _ hn
  unfold nq;refine Gd.eM (uJ _ _ _ (Z.sw y Y)) (λr I=>Gd.ite (λh=>Gd.ret (λJ=>absurd J (by simpa using h))) (λh=>hn ?_ _ Qo))
  have O:r.1=0:=by simpa using h
  exact ⟨I O y.A (by simp),I O y.B_ (by simp)⟩
 intro hsw s _;refine Gd.forAll (λx=>x.pQ ∈ n.bD/\x.To ∈ n.bD) (λ_=>True) ?_ ?_ _ Qo
 ·intro i y s nx Y _ hn
  unfold nr;refine Gd.eM (uJ _ _ _ (Z.br y Y)) (λr I=>Gd.ite (λh=>Gd.ret (λJ=>absurd J (by simpa using h))) (λh=>Gd.ite (λh=>Gd.ret (λJ=>absurd J (by simpa using h))) (λ_=>hn ?_ _ Qo)))
  have O:r.1=0:=by simpa using h
  exact ⟨I O y.pQ (by simp),I O y.To (by simp)⟩
 intro hbr s _;refine Gd.eM (Lu _ n Z) (λr I=>Gd.ret (λh=>?_));obtain ⟨hg,hl2⟩:=I h;exact ⟨by omega,by omega,by omega,by omega,by omega,hsw,hbr,hg,hl2⟩
def Eo (N:Nat) (l:List b_):Prop:=∀ e ∈ l,0<=e.a0/\e.a0<N/\0<=e.a1/\e.a1<N
structure y6 (N:Nat) (many:Int) (out:List Int):Prop where
 len:out.length=N
 K7:∀ v ∈ out,-1<=v/\v<many
def AE (N:Nat) (l:List Int):Prop:=∀ a ∈ l,0<=a/\a<(N:Int)
def sq (out:List Int):Nat:=out.countP (λv=>decide (v<0))
theorem y6.set {N:Nat}{many:Int}{out:List Int} (h:y6 N many out) {v:Int} (J:0<=v/\v<many) (i:Nat):y6 N many (out.set i v):=
 ⟨by simp [h.len],λx I=>by
  rcases VD I with I | rfl
  ·exact h.K7 x I
  ·omega⟩
theorem E7 {out:List Int}{i:Nat} (hi:i<out.length) (hn:out[i]<0) {v:Int} (Y:0<=v):sq (out.set i v)+1=sq out:=by
 unfold sq;rw [List.countP_set hi];have I:decide (out[i]<0)=true:=Wq hn;have O:decide (v<0)=false:=Wn (by omega)
 rw [I,O];have J:0<out.countP (λv=>decide (v<0)):=List.countP_pos_iff.2 ⟨_,Q3 hi,I⟩;simp;omega
def yo (a b:List Int):Prop:=∀ (i:Nat) (v:Int),a[i]? = some v->0<=v->∃ w,b[i]? = some w/\0<=w
theorem yo.refl (a:List Int):yo a a:=λi v h I=>⟨v,h,I⟩
theorem yo.set {a b:List Int} (h:yo a b) (i:Nat) {v:Int} (Y:0<=v):yo a (b.set i v):=by
 intro j w O Z;obtain ⟨u,J,I⟩:=h j w O Z
 by_cases e:i=j
 ·subst e
  exact ⟨v,by simp [(Qt.1 J).1],Y⟩
 ·exact ⟨u,by rw [QQ e]; exact J,I⟩
theorem Kv (N:Nat) (hN:N<=24) (l:List b_) (hl:Eo N l) (hll:l.length<=64) (wo:Int):Gd (pz N l wo) (λr=>r.length=N/\∀ v ∈ r,0<=v/\v<N):=by
 unfold pz;refine Gd.nd ⟨rfl,by omega,by omega⟩ (Gd.nd (by omega) ?_)
 rw [xO];refine Gd.kW (λm i s=>i+m=N/\0<=s.2/\s.2<=(i:Int)/\y6 N s.2 s.1/\∀ (j:Nat) (v:Int),j<i->s.1[j]? = some v->0<=v) ?_ ?_ (N:Int).toNat 0 (List.replicate N (-1),0) ⟨by omega,by simp,by simp,⟨by simp,by simp⟩,by simp⟩
 ·rintro m i ⟨out,many⟩ nx ⟨hi,h0,hmi,hp,hk⟩ hn
  simp only at h0 hmi hp hk;have hilt:i<out.length:=by rw [hp.len]; omega
  unfold qK;refine Gd.iP hilt (Gd.ite (λh=>?_) (λh=>?_))
  ·have hge:0<=out[i]:=by simpa using h
   unfold kL;refine hn _ ⟨by omega,h0,by show many<=((i+1:Nat):Int); omega,hp,λj v hj hv=>?_⟩
   by_cases e:j=i
   ·subst e
    rw [Qp hilt] at hv;cases hv; exact hge
   ·exact hk j v (by omega) hv
  ·have hneg:out[i]<0:=by simpa using h
   refine Gd.iP hilt ?_;rw [Qr];have hw:i64.wrap (many+1)=many+1:=bT ⟨by omega,by omega⟩
   have hp1:y6 N (many+1) out:=⟨hp.len,λv hv=>by have:=hp.K7 v hv; omega⟩
   have Z:2*sq (out.set i many)+[(i:Int)].length<=2*N+1:=by
    have hc:sq (out.set i many)<=N:=by unfold sq; rw [<- hp.len,<- RM (as:=out) (i:=i) (a:=many)]; exact Ta
    simp only [Ro]; omega
   refine Gd.iL (λ(s:List Int×List Int)=>y6 N (many+1) s.1/\yo (out.set i many) s.1/\AE N s.2/\2*sq s.1+s.2.length<=2*N+1) (λs=>2*sq s.1+s.2.length) ?_ fT _ ⟨hp1.set ⟨h0,by omega⟩ i,yo.refl _,by intro a ha; simp at ha; omega,Z⟩ ?_
   ·rintro ⟨o,todo⟩ nx2 ⟨hq,hkp,htd,htot⟩ hn2
    simp only at hq hkp htd htot;unfold qL;refine Gd.ite (λhne=>?_) (λ_=>?_)
    ·have hne:0<todo.length:=by
      have:(0:Int)<((todo.length:Nat):Int):=by simpa using hne
      omega
     obtain ⟨at_,ts,rfl⟩:∃ a ts,todo=a::ts:=by
      cases todo with
      | nil=>simp at hne
      | cons a ts=>exact ⟨a,ts,rfl⟩
     refine Gd.ix (y:=at_) (by decide) rfl (Gd.nd ⟨by omega,by simp only [QA]; omega⟩ ?_)
     have hat:=htd at_ (Qu ..);have hsl:rJ (at_::ts) (1:Int).toNat (at_::ts).length=ts:=by
      unfold rJ;rw [show (1:Int).toNat=1 from rfl,U5,RN,QH (by simp)]
     rw [hsl];simp only [QA] at htot;have push:∀ (b:List Int) (td:List Int) (q:Int) (nn:(List Int×List Int)->Option (List Int)),0<=q->q<N->y6 N (many+1) b->yo (out.set i many) b->AE N td->2*sq b+td.length<=2*sq o+ts.length ->
       (∀ s',(y6 N (many+1) s'.1/\yo (out.set i many) s'.1/\AE N s'.2/\2*sq s'.1+s'.2.length<=2*sq o+ts.length)->Gd (nn s') (λr=>r.length=N/\∀ v ∈ r,0<=v/\v<N)) ->
       Gd (Sim.idx b q λy7689=>if decide (y7689<0) then (Sim.idx b q λy7694=>cW ((td.length+([q]).length)*8<=140737488355328) (eK nn (b.set (q:Int).toNat many) (td++([q])))) else (eK nn b td)) (λr=>r.length=N/\∀ v ∈ r,0<=v/\v<N):=by
      intro b td q nn q0 qN hb J I O Y;have hql:q.toNat<b.length:=by rw [hb.len]; omega
      have hget:b[q.toNat]? = some b[q.toNat]:=Qp hql;unfold eK;refine Gd.ix q0 hget (Gd.ite (λh=>Gd.ix q0 hget (Gd.nd ?_ (Y _ ⟨hb.set ⟨h0,by omega⟩ _,J.set _ h0,?_,?_⟩))) (λh=>Y _ ⟨hb,J,I,O⟩))
      ·have h1:b[q.toNat]<0:=by simpa using h
       have hc:sq o<=N:=by unfold sq; rw [<- hq.len]; exact Ta
       simp;omega
      ·intro a ha
       rcases QG.1 ha with ha | ha
       ·exact I a ha
       ·simp at ha; omega
      ·have h1:b[q.toNat]<0:=by simpa using h
       have:=E7 hql h1 h0;simp;omega
     have hc:sq o<=N:=by unfold sq; rw [<- hq.len]; exact Ta
     ·refine Gd.forAll (λ_=>True) (λ(s:List Int×List Int)=>y6 N (many+1) s.1/\yo (out.set i many) s.1/\AE N s.2/\2*sq s.1+s.2.length<=2*sq o+ts.length) ?_ ?_ _ ⟨hq,hkp,(λa ha=>htd a (Qy _ ha):AE N ts),QM (2*sq o+ts.length)⟩
      ·rintro k e ⟨b,td⟩ nn he ⟨hb,J,I,O⟩ Y
       simp only at hb J I O;obtain ⟨e1,e2,e3,e4⟩:=hl e he;have hw1:i64.wrap (e.a0+e.a1)=e.a0+e.a1:=bT ⟨by omega,by omega⟩
       have hw2:i64.wrap (e.a0+e.a1-at_)=e.a0+e.a1-at_:=bT ⟨by omega,by omega⟩
       unfold qM;rw [hw1,hw2];refine Gd.ite (λ_=>Y Qo _ ⟨hb,J,I,O⟩) (λ_=>Gd.ite (λh=>?_) (λ_=>Gd.ite (λ_=>Y Qo _ ⟨hb,J,I,O⟩) (λh=>?_)))
       ·have h:e.a0=at_:=by simpa using h
        exact push b td _ nn (by omega) (by omega) hb J I O (λs' hs'=>Y Qo s' hs')
       ·have h:e.a1=at_:=by simpa using h
        exact push b td _ nn (by omega) (by omega) hb J I O (λs' hs'=>Y Qo s' hs')
      ·rintro _ ⟨b,td⟩ ⟨hb,J,I,O⟩
       simp only at hb J I O;exact hn2 _ ⟨hb,J,I,by show 2*sq b+td.length<=2*N+1; omega⟩ (by simp only [QA]; omega)
    ·unfold kL
     rw [hw];refine hn _ ⟨by omega,by show (0:Int)<=many+1; omega,by show many+1<=((i+1:Nat):Int); omega,hq,λj v hj hv=>?_⟩
     have hjl:j<out.length:=by omega
     have hbase:∃ w,(out.set i many)[j]? = some w/\0<=w:=by
      by_cases e:i=j
      ·subst e; exact ⟨many,by simp [hilt],h0⟩
      ·exact ⟨out[j],by rw [QQ e]; exact Qp hjl,hk j _ (by omega) (Qp hjl)⟩
     obtain ⟨w,hw1,hw0⟩:=hbase;obtain ⟨u,hu,hu0⟩:=hkp j w hw1 hw0;simp only at hv;rw [hu] at hv; cases hv; exact hu0
   ·refine Tq Z ?_
    unfold fT; omega
 ·rintro i ⟨out,many⟩ ⟨hi,h0,hmi,hp,hk⟩
  simp only at h0 hmi hp hk;refine Gd.ret ⟨hp.len,λv hv=>?_⟩;obtain ⟨j,hj,hje⟩:=RG.1 hv;have hj:j<out.length:=hj;have h1:=hp.K7 v hv;have h2:=hk j v (by have:=hp.len; omega) (by rw [Qp hj]; exact Q9 some hje)
  omega
theorem CN (N:Nat) (hN:N<=24) (l:List b_) (hl:Eo N l) (I:l.length<=64):rR N l=some 0:=by
 rw [<- Gd.eq];unfold rR;refine Gd.ite (λh=>?_) (λ_=>Gd.forAll (Q:=λx=>x=0) (λ_=>True) (λ_=>True) ?_ (λ_ _ _=>Gd.ret rfl) _ Qo)
 ·simp at h; omega
 ·intro i e s n he _ hn
  obtain ⟨e1,e2,J,O⟩:=hl e he;unfold tw;exact Gd.ite (λh=>by simp at h; omega) (λ_=>Gd.ite (λh=>by simp at h; omega) (λ_=>Gd.ite (λh=>by simp at h; omega) (λ_=>Gd.ite (λh=>by simp at h; omega) (λ_=>hn Qo _ Qo))))
theorem Jz (N:Nat) (hN:N<=24) (l:List b_) (hl:Eo N l) (I:l.length<=64):Gd (jS N l) (λr=>r.1.length=N/\AE N r.1):=by
 unfold jS;refine Gd.bind_eq (CN N hN l hl I) (Gd.ite (λh=>by simp at h) (λ_=>Gd.eM (Kv N hN l hl I (-1)) (λr J=>Gd.ret J)))
theorem JR (n:Net) (hn:pF n) (o:Bool):Gd (qy n o) (λr=>r.1.length<=32/\Eo n.bD.length r.1):=by
 unfold qy;refine Gd.dO (λi ys s=>i+ys.length=n.aL.length/\(∀ y ∈ ys,y ∈ n.aL)/\s.1.length<=i/\s.2.length<=i/\Eo n.bD.length s.1) ?_ ?_ _ _ _ ⟨by simp,λ_ h=>h,by simp,by simp,by intro e he; simp at he⟩
 ·rintro i y ys ⟨a,b⟩ nx ⟨hi,hm,Z,hb,he⟩ J
  simp only [QA] at hi Z hb he;have h2:=hn.l2;have O:∀ z ∈ ys,z ∈ n.aL:=λz hz=>hm z (Qy _ hz);unfold so ou;refine Gd.ite (λ_=>?_) (λ_=>J _ ⟨by omega,O,by simp only; omega,by simp only; omega,he⟩)
  obtain ⟨h1,Y⟩:=hn.sw y (hm y (Qu ..));obtain ⟨p,hp,hpl,_⟩:=yS h1;obtain ⟨q,hq,hql,_⟩:=yS Y;refine Gd.bind_eq hp (Gd.bind_eq hq (Gd.nd (by simp; omega) (Gd.nd (by simp; omega) (J _ ⟨by omega,O,by simp; omega,by simp; omega,?_⟩))))
  intro e I;rcases QG.1 I with I | I
  ·exact he e I
  ·simp at I; subst I
   exact ⟨by simp only; omega,by simp only; omega,by simp only; omega,by simp only; omega⟩
 ·rintro i ⟨a,b⟩ ⟨hi,hm,Z,hb,he⟩
  have h2:=hn.l2;simp only [VB] at hi Z;exact Gd.ret ⟨by simp only; omega,he⟩
theorem Jw (n:Net) (hn:pF n):Gd (oM n) (λr=>r.length=n.bD.length/\AE n.bD.length r):=by
 unfold oM;refine Gd.eM (JR n hn false) (λr I=>?_);have J:=hn.l1;exact Gd.eM (Jz n.bD.length hn.l1 r.1 I.2 (by omega)) (λr I=>Gd.ret I)
structure PC (n:Net) (t:a_):Prop where
 bl:t.qp.length=n.bD.length
 bi:AE t.bR.length t.qp
 ii:AE t.bR.length t.bR
 il:t.bR.length<=24
theorem LN {R:Type}{Q:R->Prop} (N:Nat) (hN:N<=24) (I:Nat->Int->Int->(Int->Option R)->Option R) (hb:∀ k y n Z,I k y n Z=Z (max n (i64.wrap (y+1)))) (K:Int->Option R) (l:List Int) (hl:AE N l)
  (hk:∀ m:Nat,m<=N->AE m l->Gd (K (m:Int)) Q):Gd (dO I K 0 l 0) Q:=by
 have key:∀ (ys pre:List Int) (i m:Nat),l=pre++ys->m<=N->AE m pre->Gd (dO I K i ys (m:Int)) Q:=by
  intro ys
  induction ys with
  | nil=>intro pre i m e hm Y; rw [Q8] at e; subst e; exact hk m hm Y
  | cons y ys ih=>
   intro pre i m e hm Y;have hy:=hl y (by rw [e]; exact Rs _ (Qu ..))
   show Gd (I i y (m:Int) (λs=>dO I K (i+1) ys s)) Q;rw [hb,bT ⟨by omega,by omega⟩]
   have O:max (m:Int) (y+1)=((max m (y+1).toNat:Nat):Int):=by omega
   rw [O];refine ih (pre++[y]) (i+1) _ (by rw [e]; simp) (by omega) (λa J=>?_)
   rcases QG.1 J with J | J
   ·have:=Y a J; omega
   ·simp at J; subst J; omega
 have:=key l [] 0 0 rfl (by omega) (by intro a J; simp at J)
 exact this
abbrev BA:=Qm
abbrev Seen:=List (Qm×Bool)
theorem Kg (l:List (Qm×Bool)) (k I:Qm):(rH (vp l k true) I).getD false=((rH l I).getD false || decide (k=I)):=by
 have key:∀ (l:List (Qm×Bool)) (i:Nat),(∀ p,wI l I i=some p->wI (l++[(k,true)]) I i=some p)/\(wI l I i=none->wI (l++[(k,true)]) I i=if k=I then some (i+l.length,true) else none):=by
  intro l
  induction l with
  | nil=>intro i; refine ⟨λp h=>by simp [wI] at h,λ_=>?_⟩; simp [wI]
  | cons q l ih=>
   obtain ⟨a,b⟩:=q;intro i;simp only [SL,wI]
   by_cases h:a=I
   ·simp [h]
   ·simp only [h,Sc]
    refine ⟨(ih (i+1)).1,λhn=>?_⟩;rw [(ih (i+1)).2 hn];simp; split
    ·simp; omega
    ·rfl
 have J:∀ (l:List (Qm×Bool)) (i j:Nat) (v:Bool),wI l k i=some (j,v)->rH (l.set (j-i) (k,true)) I=if k=I then some true else rH l I:=by
  intro l;unfold rH;have:∀ (l:List (Qm×Bool)) (i j:Nat) (v:Bool) (q:Nat),wI l k i=some (j,v)->((wI (l.set (j-i) (k,true)) I q).map (·.2))=if k=I then some true else (wI l I q).map (·.2):=by
   intro l
   induction l with
   | nil=>intro i j v q h; simp [wI] at h
   | cons p l ih=>
    obtain ⟨a,b⟩:=p;intro i j v q h;simp only [wI] at h
    split at h
    ·rename_i e
     simp only [QL,SG] at h;obtain ⟨rfl,rfl⟩:=h;subst e;rw [RK,List.set_cons_zero];simp only [wI]
     by_cases e:a=I <;> simp [e]
    ·rename_i e
     obtain ⟨Z,O,_⟩:=Gg h;rw [show j-i=(j-(i+1))+1 by omega,List.set_cons_succ]
     simp only [wI];have:=ih (i+1) j v (q+1) h
     by_cases e2:a=I
     ·subst e2
      have Y:k≠a:=λx=>e x.symm;simp [Y]
     ·simp only [e2,Sc]; exact this
  intro i j v h;exact this l i j v 0 h
 unfold vp;cases h:wI l k 0 with
 | none=>
  simp only;unfold rH;cases O:wI l I 0 with
  | none=>
   rw [(key l 0).2 O]
   by_cases e:k=I <;> simp [e]
  | some p=>
   rw [(key l 0).1 p O]
   by_cases e:k=I
   ·subst e; rw [h] at O; cases O
   ·simp [e]
 | some p=>
  obtain ⟨j,v⟩:=p;simp only;have:=J l 0 j v h;rw [Tr] at this;rw [this]
  by_cases e:k=I <;> simp [e]
def pW (P:List BA) (s:Seen):Prop:=∀ k:BA,(rH s k).getD false=true↔k ∈ P
theorem pW.nil:pW [] ([]:Seen):=λk=>by simp [rH,wI]
theorem pW.put {P:List BA}{s:Seen} (h:pW P s) (k:BA):pW (P++[k]) (vp s k true):=λI=>by
 rw [Kg,R6,h I,QG,QY,Rb];exact or_congr Iff.rfl ⟨λe=>e.symm,λe=>e.symm⟩
structure N1 (ns P:List BA) (name:BA) (nodes:List BA):Prop where
 nm:bL name=some true
 nw:name ∉ P
 at_:∀ x ∈ nodes,x ∈ ns
 two:∀ a b,nodes=[a,b]->a≠b
theorem uI {c:aV}{P:List BA} (hs:pW P c.seen) {name:BA} (nodes:List BA) (h:name.size<=maxLen):
  Gd (cI c name nodes) (λr=>r.1=0->N1 c.nodes P name nodes/\pW (P++[name]) r.2.seen):=by
 unfold cI;obtain ⟨b,Y,_⟩:=E_ name h;refine Gd.bind_eq Y (Gd.ite (λ_=>Gd.ret (λh=>by simp at h)) (λJ=>Gd.ite (λ_=>Gd.ret (λh=>by simp at h)) (λhsn=>?_)))
 have J:b=true:=by simpa using J
 subst J;have Z:name ∉ P:=λhm=>by rw [(hs name).2 hm] at hsn; cases hsn
 refine Gd.forAll (λx=>x ∈ c.nodes) (λ_=>True) ?_ ?_ () Qo
 ·intro i y s n hy _ hn
  unfold iT;refine Gd.eM (uF c.nodes y) (λb Y=>Gd.ite (λ_=>Gd.ret (λh=>by simp at h)) (λh=>hn (Y.1 (by simpa using h)) _ Qo))
 ·intro I s _
  refine Gd.ite (λh=>?_) (λh2=>Gd.ret (λ_=>⟨⟨Y,Z,I,λa b e=>?_⟩,hs.put name⟩))
  ·have h2:nodes.length=2:=by
    have:((nodes.length:Nat):Int)=2:=by simpa using h
    omega
   obtain ⟨a,b,rfl⟩:∃ a b,nodes=[a,b]:=by
    match nodes,h2 with
    | [a,b],_=>exact ⟨a,b,rfl⟩
   refine Gd.ix (y:=a) (by decide) rfl (Gd.ix (y:=b) (by decide) rfl (Gd.ite (λ_=>Gd.ret (λh=>by simp at h)) (λO=>Gd.ret (λ_=>⟨⟨Y,Z,I,λp q e=>?_⟩,hs.put name⟩))))
   have O:a≠b:=by simpa using O
   simp at e;rw [<- e.1,<- e.2]; exact O
  ·subst e
   simp at h2
theorem v_ {c:aV}{P:List BA} (hs:pW P c.seen) {name:BA}{nodes:List BA} (h:N1 c.nodes P name nodes):
  cI c name nodes=some (0,⟨vp c.seen name true,c.nodes⟩):=by
 rw [<- Gd.eq];unfold cI;refine Gd.bind_eq h.nm (Gd.ite (λh=>by simp at h) (λ_=>Gd.ite (λY=>absurd ((hs name).1 Y) h.nw) (λ_=>?_)))
 refine Gd.forAll (λ_=>True) (λ_=>True) ?_ ?_ () Qo
 ·intro i y s n hy _ hn
  unfold iT;refine Gd.eM (uF c.nodes y) (λb Z=>Gd.ite (λJ=>?_) (λ_=>hn Qo _ Qo));have:=Z.2 (h.at_ y hy);simp [this] at J
 ·intro _ s _
  refine Gd.ite (λI=>?_) (λ_=>Gd.ret rfl);have I:nodes.length=2:=by
   have:((nodes.length:Nat):Int)=2:=by simpa using I
   omega
  obtain ⟨a,b,rfl⟩:∃ a b,nodes=[a,b]:=by
   match nodes,I with
   | [a,b],_=>exact ⟨a,b,rfl⟩
  have O:=h.two a b rfl;exact Gd.ix (y:=a) (by decide) rfl (Gd.ix (y:=b) (by decide) rfl (Gd.ite (λe=>absurd (by simpa using e) O) (λ_=>Gd.ret rfl)))
def names (n:Net):List BA:=n.bD++n.aL.map (·.Name)++n.aH.map (·.Name)++n.cR.map (·.Name)++n.bB.map (·.Name)++n.bM.map (·.Name)
theorem uL {R α:Type}{Q:R->Prop}{I:Nat->α->Seen->(Seen->Option R)->Option R}{k:Seen->Option R}{l:List α} (nm:α->BA) (P:List BA)
  (Y:∀ (i:Nat) (y:α) (s:Seen) (n:Seen->Option R) (pre:List α),(∃ O,l=pre++y::O)->pW (P++pre.map nm) s->Gd (n (vp s (nm y) true)) Q->Gd (I i y s n) Q) (Z:∀ s,pW (P++l.map nm) s->Gd (k s) Q) (s:Seen) (hs:pW P s):Gd (dO I k 0 l s) Q:=by
 refine Gd.seen (λpre s=>pW (P++pre.map nm) s) ?_ Z s (by simpa using hs)
 intro i y s n pre J hs hn;refine Y i y s n pre J hs (hn _ ?_);have:=hs.put (nm y);rw [RP,<- QV]; exact this
theorem tj {R α:Type}{Q:R->Prop}{I:Nat->α->Seen->(Seen->Option R)->Option R}{k:Seen->Option R}{l:List α} (nm:α->BA) (P:List BA) (C:α->Prop)
  (Z:∀ (i:Nat) (y:α) (s:Seen) (n:Seen->Option R) (pre:List α),y ∈ l->pW (P++pre.map nm) s->(nm y ∉ P++pre.map nm->C y->∀ s',pW (P++pre.map nm++[nm y]) s'->Gd (n s') Q)->Gd (I i y s n) Q)
  (hk:∀ s,pW (P++l.map nm) s->(∀ x ∈ l,C x)->(P.Nodup->(P++l.map nm).Nodup)->Gd (k s) Q) (s:Seen) (hs:pW P s):Gd (dO I k 0 l s) Q:=by
 refine Gd.seen (λpre s=>pW (P++pre.map nm) s/\(∀ x ∈ pre,C x)/\(P.Nodup->(P++pre.map nm).Nodup)) ?_ (λs h=>hk s h.1 h.2.1 h.2.2) s ⟨by simpa using hs,by simp,λh=>by simpa using h⟩
 rintro i y s n pre Y ⟨h1,h2,h3⟩ hn;refine Z i y s n pre (vU Y).2.1 h1 (λO hC s' hs'=>hn s' ⟨by rw [RP,<- QV]; exact hs',λx J=>?_,λhP=>?_⟩)
 ·rcases QG.1 J with J | J
  ·exact h2 x J
  ·simp at J; subst J; exact hC
 ·rw [RP,<- QV,Rj]
  refine ⟨h3 hP,by simp,λa ha b Z=>?_⟩
  simp at Z; subst Z
  intro e; subst e; exact O ha
def ER (g:bE):Bool:=!(((!(aZ g.jJ)) || (bO g.qU g.jJ 100000)) || (!(aZ g.AX)))
def CZ (s:bS):Bool:=!(((!(aZ s.r8)) || (!(aZ s.Discharge))) || (!(aZ s.tM)))
structure px (n:Net):Prop where
 l1:n.bD.length<=24
 l2:n.aL.length<=32
 l3:n.aH.length<=24
 l4:n.cR.length<=10
 l5:n.bB.length<=12
 l6:n.bM.length<=4
 nd:(names n).Nodup
 vn:∀ x ∈ n.bD,bL x=some true
 vs:∀ x ∈ n.aL,bL x.Name=some true/\x.A ∈ n.bD/\x.B_ ∈ n.bD/\x.A≠x.B_
 vb:∀ x ∈ n.aH,bL x.Name=some true/\x.pQ ∈ n.bD/\x.To ∈ n.bD/\x.pQ≠x.To/\jF x=0
 vg:∀ x ∈ n.cR,bL x.Name=some true/\x.Node ∈ n.bD/\ER x=true
 vl:∀ x ∈ n.bB,bL x.Name=some true/\x.Node ∈ n.bD/\aZ x.dB=true
 vt:∀ x ∈ n.bM,bL x.Name=some true/\x.Node ∈ n.bD/\CZ x=true
theorem UI (n:Net) (hz:pG n):Gd (bV n) (λe=>e=0->px n):=by
 unfold bV;refine Gd.ite (λ_=>Gd.ret (λh=>by simp at h)) (λhl=>?_)
 simp only [Vg,Wo,Int.not_lt] at hl;refine tj (id:BA->BA) [] (λx=>bL x=some true) ?_ ?_ _ pW.nil
 ·intro i y s nx pre Y hs hn
  unfold np;exact Gd.eM (uI (c:=⟨s,n.bD⟩) hs [] (hz.nd y Y)) (λr O=>Gd.ite (λh=>Gd.ret (λI=>absurd I (by simpa using h))) (λh=>by
   obtain ⟨J,I⟩:=O (by simpa using h)
   exact hn J.nw J.nm _ I))
 intro s hs hvn hnd1;simp only [List.map_id,R7] at hs hnd1;refine tj (λx:aS=>x.Name) _ (λx=>bL x.Name=some true/\x.A ∈ n.bD/\x.B_ ∈ n.bD/\x.A≠x.B_) ?_ ?_ _ hs
 ·intro i y s nx pre Y hs hn
  unfold nq;exact Gd.eM (uI (c:=⟨s,n.bD⟩) hs [y.A,y.B_] (hz.sw y Y)) (λr O=>Gd.ite (λh=>Gd.ret (λI=>absurd I (by simpa using h))) (λh=>by
   obtain ⟨J,I⟩:=O (by simpa using h)
   exact hn J.nw ⟨J.nm,J.at_ _ (by simp),J.at_ _ (by simp),J.two _ _ rfl⟩ _ I))
 intro s hs hvs hnd2;refine tj (λx:aK=>x.Name) _ (λx=>bL x.Name=some true/\x.pQ ∈ n.bD/\x.To ∈ n.bD/\x.pQ≠x.To/\jF x=0) ?_ ?_ _ hs
 ·intro i y s nx pre Y hs hn
  unfold nr;exact Gd.eM (uI (c:=⟨s,n.bD⟩) hs [y.pQ,y.To] (hz.br y Y)) (λr O=>Gd.ite (λh=>Gd.ret (λI=>absurd I (by simpa using h))) (λh=>Gd.ite (λZ=>Gd.ret (λI=>absurd I (by simpa using Z))) (λZ=>by
   obtain ⟨J,I⟩:=O (by simpa using h)
   exact hn J.nw ⟨J.nm,J.at_ _ (by simp),J.at_ _ (by simp),J.two _ _ rfl,by simpa using Z⟩ _ I)))
 intro s hs hvb hnd3;refine Gd.eM (P:=λr=>r.1=0->(∀ x ∈ n.cR,bL x.Name=some true/\x.Node ∈ n.bD/\ER x=true)/\(∀ x ∈ n.bB,bL x.Name=some true/\x.Node ∈ n.bD/\aZ x.dB=true) /\
  (∀ x ∈ n.bM,bL x.Name=some true/\x.Node ∈ n.bD/\CZ x=true)/\(names n).Nodup) ?_ (λr O=>Gd.ret (λh=>by
   obtain ⟨a,b,c,d⟩:=O h;exact ⟨by omega,by omega,by omega,by omega,by omega,by omega,d,hvn,hvs,hvb,a,b,c⟩))
 unfold gR;refine tj (λx:bE=>x.Name) _ (λx=>bL x.Name=some true/\x.Node ∈ n.bD/\ER x=true) ?_ ?_ _ hs
 ·intro i y s nx pre Y hs hn
  unfold jV;exact Gd.eM (uI (c:=⟨s,n.bD⟩) hs [y.Node] (hz.gn y Y)) (λr O=>Gd.ite (λh=>Gd.ret (λI=>absurd I (by simpa using h))) (λh=>Gd.ite (λ_=>Gd.ret (λI=>by simp at I)) (λZ=>by
   obtain ⟨J,I⟩:=O (by simpa using h)
   exact hn J.nw ⟨J.nm,J.at_ _ (by simp),by unfold ER; rw [Z]; rfl⟩ _ I)))
 intro s hs hvg hnd4;refine tj (λx:aF=>x.Name) _ (λx=>bL x.Name=some true/\x.Node ∈ n.bD/\aZ x.dB=true) ?_ ?_ _ hs
 ·intro i y s nx pre Y hs hn
  unfold jW;exact Gd.eM (uI (c:=⟨s,n.bD⟩) hs [y.Node] (hz.ld y Y)) (λr O=>Gd.ite (λh=>Gd.ret (λI=>absurd I (by simpa using h))) (λh=>Gd.ite (λ_=>Gd.ret (λI=>by simp at I)) (λZ=>by
   obtain ⟨J,I⟩:=O (by simpa using h)
   exact hn J.nw ⟨J.nm,J.at_ _ (by simp),by simpa using Z⟩ _ I)))
 intro s hs hvl hnd5;refine tj (λx:bS=>x.Name) _ (λx=>bL x.Name=some true/\x.Node ∈ n.bD/\CZ x=true) ?_ ?_ _ hs
 ·intro i y s nx pre Y hs hn
  unfold jX;exact Gd.eM (uI (c:=⟨s,n.bD⟩) hs [y.Node] (hz.st y Y)) (λr O=>Gd.ite (λh=>Gd.ret (λI=>absurd I (by simpa using h))) (λh=>Gd.ite (λ_=>Gd.ret (λI=>by simp at I)) (λZ=>by
   obtain ⟨J,I⟩:=O (by simpa using h)
   exact hn J.nw ⟨J.nm,J.at_ _ (by simp),by unfold CZ; rw [Z]; rfl⟩ _ I)))
 intro s hs hvt hnd6;exact Gd.ret λ_=>⟨hvg,hvl,hvt,hnd6 (hnd5 (hnd4 (hnd3 (hnd2 (hnd1 List.nodup_nil)))))⟩
theorem Ir {A B C:List BA}{x:BA} (h:(A++(B++x::C)).Nodup):x ∉ A++B:=by
 rw [<- QV,Rj] at h;exact λhm=>h.2.2 x hm x (Qu ..) rfl
theorem fresh {P:List BA}{α:Type}{nm:α->BA}{l pre:List α}{y:α} (h:(P++l.map nm).Nodup) (J:∃ I,l=pre++y::I):nm y ∉ P++pre.map nm:=by
 obtain ⟨I,rfl⟩:=J;rw [RP,Te] at h;exact Ir h
theorem FT (n:Net) (h:px n):bV n=some 0:=by
 have J:=h.nd;unfold names at J;have n5:=(Rj.1 J).1;have n4:=(Rj.1 n5).1;have Z:=(Rj.1 n4).1;have Y:=(Rj.1 Z).1;have n1:=(Rj.1 Y).1;have g1:=h.l1; have g2:=h.l2; have g3:=h.l3; have g4:=h.l4; have g5:=h.l5; have g6:=h.l6
 rw [<- Gd.eq];unfold bV;refine Gd.ite (λhl=>?_) (λ_=>?_)
 ·simp only [R6,Rb] at hl
  omega
 refine uL (id:BA->BA) [] ?_ ?_ _ pW.nil
 ·intro i y s O pre I hs hn
  have hy:=(vU I).2.1;have hf:=fresh (P:=[]) (nm:=id) (by simpa using n1) I
  unfold np;exact Gd.bind_eq (v_ (c:=⟨s,n.bD⟩) hs ⟨h.vn y hy,hf,by simp,by simp⟩) (Gd.ite (λh=>by simp at h) (λ_=>hn))
 intro s hs;simp only [List.map_id,R7] at hs;refine uL (λx:aS=>x.Name) _ ?_ ?_ _ hs
 ·intro i y s O pre I hs hn
  obtain ⟨a,b,c,d⟩:=h.vs y (vU I).2.1;unfold nq;exact Gd.bind_eq (v_ (c:=⟨s,n.bD⟩) hs ⟨a,fresh Y I,by simp [b,c],λp q e=>by simp at e; rw [<- e.1,<- e.2]; exact d⟩) (Gd.ite (λh=>by simp at h) (λ_=>hn))
 intro s hs;refine uL (λx:aK=>x.Name) _ ?_ ?_ _ hs
 ·intro i y s O pre I hs hn
  obtain ⟨a,b,c,d,e⟩:=h.vb y (vU I).2.1;unfold nr;exact Gd.bind_eq (v_ (c:=⟨s,n.bD⟩) hs ⟨a,fresh Z I,by simp [b,c],λp q e=>by simp at e; rw [<- e.1,<- e.2]; exact d⟩) (Gd.ite (λh=>by simp at h) (λ_=>Gd.ite (λh=>by simp [e] at h) (λ_=>hn)))
 intro s hs;refine Gd.eM (P:=λr=>r.1=0) ?_ (λr hr=>Gd.ret hr);unfold gR;refine uL (λx:bE=>x.Name) _ ?_ ?_ _ hs
 ·intro i y s O pre I hs hn
  obtain ⟨a,b,c⟩:=h.vg y (vU I).2.1;unfold ER at c;unfold jV;exact Gd.bind_eq (v_ (c:=⟨s,n.bD⟩) hs ⟨a,fresh n4 I,by simp [b],by simp⟩) (Gd.ite (λh=>by simp at h) (λ_=>Gd.ite (λh=>by rw [h] at c; cases c) (λ_=>hn)))
 intro s hs;refine uL (λx:aF=>x.Name) _ ?_ ?_ _ hs
 ·intro i y s O pre I hs hn
  obtain ⟨a,b,c⟩:=h.vl y (vU I).2.1;unfold jW;exact Gd.bind_eq (v_ (c:=⟨s,n.bD⟩) hs ⟨a,fresh n5 I,by simp [b],by simp⟩) (Gd.ite (λh=>by simp at h) (λ_=>Gd.ite (λh=>by simp [c] at h) (λ_=>hn)))
 intro s hs;refine uL (λx:bS=>x.Name) _ ?_ ?_ _ hs
 ·intro i y s O pre I hs hn
  obtain ⟨a,b,c⟩:=h.vt y (vU I).2.1;unfold CZ at c;unfold jX;exact Gd.bind_eq (v_ (c:=⟨s,n.bD⟩) hs ⟨a,fresh J I,by simp [b],by simp⟩) (Gd.ite (λh=>by simp at h) (λ_=>Gd.ite (λh=>by rw [h] at c; cases c) (λ_=>hn)))
 intro s hs;exact Gd.ret rfl
def Lr (n:Net) (q:Nat):Net:={ n with aH:=n.aH.take q++n.aH.drop (q+1) }
theorem G1 {α:Type} (l:List α) (q:Nat):(l.take q++l.drop (q+1)).Sublist l:=by
 have I:(l.drop (q+1)).Sublist (l.drop q):=by rw [<- Sd]; exact List.drop_sublist _ _
 have:=(SI (l.take q)).append I
 rwa [RT] at this
theorem px.cut {n:Net} (h:px n) (q:Nat):px (Lr n q):=by
 have hs:=G1 n.aH q;have I:(names (Lr n q)).Sublist (names n):=by
  unfold names Lr;exact ((((SI _).append (hs.map _)).append (SI _)).append (SI _)).append (SI _)
 exact ⟨h.l1,h.l2,Rp hs.length_le h.l3,h.l4,h.l5,h.l6,I.nodup h.nd,h.vn,h.vs,λx J=>h.vb x (hs.subset J),h.vg,h.vl,h.vt⟩
theorem px.ok {n:Net} (h:px n) (J:pG n):pF n:=by
 obtain ⟨e,he,I⟩:=Jx n J;rw [FT n h] at he;exact I (Qs he).symm
theorem pG.cut {n:Net} (h:pG n) (q:Nat):pG (Lr n q):=
 ⟨h.nd,h.sw,λx I=>h.br x ((G1 n.aH q).subset I),h.gn,h.ld,h.st⟩
abbrev Ed:=b_
def lb (o:List Int) (u:Int):Int:=if 0<=u then (o[u.toNat]?).getD (-1) else -1
theorem Ka {o:List Int}{u:Int} (h:0<=lb o u):0<=u/\u<o.length:=by
 unfold lb at h
 split at h
 ·rename_i h0
  refine ⟨h0,?_⟩
  by_cases e:u.toNat<o.length
  ·omega
  ·rw [Rn (by omega)] at h; simp at h
 ·omega
theorem BG {o:List Int}{k:Nat} (h:k<o.length):lb o (k:Int)=o[k]:=by
 unfold lb; rw [Qx (by omega),Qr,Qp h]; rfl
theorem J_ {o:List Int}{u:Int} (I:0<=u) (h:u.toNat<o.length):lb o u=o[u.toNat]:=by
 unfold lb; rw [Qx I,Qp h]; rfl
theorem xE {o:List Int}{q:Int} (J:0<=q) (h:q.toNat<o.length) (m u:Int):lb (o.set q.toNat m) u=if u=q then m else lb o u:=by
 unfold lb
 by_cases e:u=q
 ·subst e
  rw [Qx J,Qx rfl,QU h]; rfl
 ·rw [Qw e]
  by_cases I:0<=u
  ·rw [Qx I,Qx I,QQ (by omega)]
  ·rw [Qw I,Qw I]
def K6 (l:List Ed) (u v:Int):Prop:=∃ e ∈ l,(e.a0=u/\e.a1=v)\/(e.a1=u/\e.a0=v)
theorem K6.symm {l:List Ed}{u v:Int} (h:K6 l u v):K6 l v u:=by
 obtain ⟨e,he,h | h⟩:=h
 ·exact ⟨e,he,.inr ⟨h.2,h.1⟩⟩
 ·exact ⟨e,he,.inl ⟨h.2,h.1⟩⟩
inductive xr (l:List Ed) (u:Int):Int->Prop
 | refl:xr l u u
 | snoc {v w:Int}:xr l u v->K6 l v w->xr l u w
theorem xr.trans {l:List Ed}{u v w:Int} (I:xr l u v) (J:xr l v w):xr l u w:=by
 induction J with
 | refl=>exact I
 | snoc _ h ih=>exact .snoc ih h
theorem xr.symm {l:List Ed}{u v:Int} (h:xr l u v):xr l v u:=by
 induction h with
 | refl=>exact .refl
 | snoc _ h ih=>exact (xr.snoc .refl h.symm).trans ih
structure OY (N:Nat) (l:List Ed) (many:Int) (out:List Int):Prop where
 pt:y6 N many out
 cls:∀ u v,K6 l u v->0<=lb out u->lb out v=lb out u
 PE:∀ u v,0<=lb out u->lb out u=lb out v->xr l u v
 Pl:∀ c,0<=c->c<many->∃ u,lb out u=c
theorem y6.lt {N:Nat}{many:Int}{out:List Int} (h:y6 N many out) (hm:0<=many) (u:Int):-1<=lb out u/\lb out u<many:=by
 by_cases I:0<=lb out u
 ·obtain ⟨a,b⟩:=Ka I
  have:u.toNat<out.length:=by omega
  rw [J_ a this];exact h.K7 _ (Q3 _)
 ·refine ⟨?_,by omega⟩
  unfold lb
  split
  ·by_cases e:u.toNat<out.length
   ·rw [Qp e]
    exact (h.K7 _ (Q3 e)).1
   ·rw [Rn (by omega)]; simp
  ·omega
structure Cl (N:Nat) (l:List Ed) (m:Int) (i:Int) (out o:List Int):Prop where
 pt:y6 N (m+1) o
 vh:∀ u,0<=lb out u->lb o u=lb out u
 new:∀ u,lb out u<0->0<=lb o u->lb o u=m/\xr l i u
 st:lb o i=m
theorem Cl.put {N:Nat}{l:List Ed}{m i:Int}{out o:List Int} (h:Cl N l m i out o) (hc:OY N l m out) (Z:0<=m) {a q:Int} (ha:lb o a=m) (J:K6 l a q) (Y:0<=q) (qN:q<N) (hq:lb o q<0):Cl N l m i out (o.set q.toNat m):=by
 have I:q.toNat<o.length:=by rw [h.pt.len]; omega
 have ca:xr l i a:=by
  by_cases e:0<=lb out a
  ·have h1:=h.vh a e
   have h2:=(hc.pt.lt Z a).2;omega
  ·exact (h.new a (by omega) (by omega)).2
 refine ⟨h.pt.set ⟨Z,by omega⟩ _,λu O=>?_,λu O hn=>?_,?_⟩
 ·rw [xE Y I]
  have h1:=h.vh u O;rw [Qw (λe=>by subst e; omega)]
  exact h1
 ·rw [xE Y I] at hn ⊢
  by_cases e:u=q
  ·subst e
   rw [Qx rfl];exact ⟨rfl,ca.snoc J⟩
  ·rw [Qw e] at hn ⊢
   exact h.new u O hn
 ·rw [xE Y I]
  split
  ·rfl
  ·exact h.st
theorem Cl.mono {N:Nat}{m:Int}{o:List Int} (hl:o.length=N) (I:0<=m) {q:Int} (O:0<=q) (Y:q<N) {u:Int} (J:0<=lb o u):0<=lb (o.set q.toNat m) u:=by
 rw [xE O (by omega)]
 split
 ·exact I
 ·exact J
theorem Cl.done {N:Nat}{l:List Ed}{m i:Int}{out o:List Int} (h:Cl N l m i out o) (J:OY N l m out) (h0:0<=m) (hp:∀ u,lb o u=m->∀ v,K6 l u v->0<=lb o v):OY N l (m+1) o:=by
 refine ⟨h.pt,λu v I Y=>?_,λu v Y I=>?_,λc c0 c1=>?_⟩
 ·by_cases e:0<=lb out u
  ·have Z:=h.vh u e
   have O:=J.cls u v I e;have h3:=h.vh v (by omega)
   omega
  ·obtain ⟨Z,_⟩:=h.new u (by omega) Y
   have O:=hp u Z v I
   by_cases e2:0<=lb out v
   ·have:=J.cls v u I.symm e2
    omega
   ·have:=(h.new v (by omega) O).1
    omega
 ·by_cases e:0<=lb out u
  ·have Z:=h.vh u e
   have O:=(J.pt.lt h0 u).2
   by_cases e2:0<=lb out v
   ·exact J.PE u v e (by have:=h.vh v e2; omega)
   ·have:=(h.new v (by omega) (by omega)).1
    omega
  ·obtain ⟨Z,O⟩:=h.new u (by omega) Y
   by_cases e2:0<=lb out v
   ·have h3:=h.vh v e2
    have h4:=(J.pt.lt h0 v).2;omega
   ·exact O.symm.trans (h.new v (by omega) (by omega)).2
 ·by_cases e:c<m
  ·obtain ⟨u,Y⟩:=J.Pl c c0 e
   exact ⟨u,by rw [h.vh u (by omega)]; exact Y⟩
  ·exact ⟨i,by rw [h.st]; omega⟩
structure HH (N:Nat) (l:List Ed) (r:List Int) (many:Nat):Prop where
 len:r.length=N
 all:∀ u:Int,0<=u->u<N->0<=lb r u/\lb r u<many
 mN:many<=N
 iff:∀ u v:Int,0<=u->u<N->0<=v->v<N->(lb r u=lb r v↔xr l u v)
 Pl:∀ c:Int,0<=c->c<many->∃ u:Int,0<=u/\u<N/\lb r u=c
theorem Gp (N:Nat) (hN:N<=24) (l:List Ed) (hl:Eo N l) (hll:l.length<=64):Gd (pz N l (-1)) (λr=>∃ many:Nat,HH N l r many):=by
 unfold pz;refine Gd.nd ⟨rfl,by omega,by omega⟩ (Gd.nd (by omega) ?_)
 rw [xO];have hrep:∀ u,lb (List.replicate N (-1)) u = -1:=λu=>by
  unfold lb
  split
  ·by_cases e:u.toNat<N
   ·rw [Qp (by simpa using e)]; simp
   ·rw [Rn (by simpa using e)]; rfl
  ·rfl
 refine Gd.kW (λm i (s:List Int×Int)=>i+m=N/\0<=s.2/\s.2<=(i:Int)/\OY N l s.2 s.1/\∀ j:Nat,j<i->0<=lb s.1 (j:Int)) ?_ ?_ (N:Int).toNat 0 (List.replicate N (-1),0)
  ⟨by omega,by simp,by simp,⟨⟨by simp,by simp⟩,λu v _ h=>by rw [hrep] at h; omega,λu v h _=>by rw [hrep] at h; omega,λc h1 h2=>by omega⟩,by simp⟩
 ·rintro m i ⟨out,many⟩ nx ⟨hi,h0,hmi,Z,hk⟩ hn
  simp only at h0 hmi Z hk;have hilt:i<out.length:=by rw [Z.pt.len]; omega
  have hwm:i64.wrap (many+1)=many+1:=bT ⟨by omega,by omega⟩
  unfold qK;refine Gd.iP hilt (Gd.ite (λh=>?_) (λh=>?_))
  ·have hge:0<=out[i]:=by simpa using h
   unfold kL;refine hn _ ⟨by omega,h0,by show many<=((i+1:Nat):Int); omega,Z,λj hj=>?_⟩
   by_cases e:j=i
   ·subst e; simp only; rw [BG hilt]; exact hge
   ·exact hk j (by omega)
  ·have hneg:out[i]<0:=by simpa using h
   refine Gd.iP hilt ?_;rw [Qr];have hnegl:lb out (i:Int)<0:=by rw [BG hilt]; exact hneg
   have hset:∀ u,lb (out.set i many) u=if u=(i:Int) then many else lb out u:=λu=>by
    have:=xE (o:=out) (q:=(i:Int)) (by omega) (by simpa using hilt) many u
    rwa [Qr] at this
   have hp1:y6 N (many+1) out:=⟨Z.pt.len,λv hv=>by have:=Z.pt.K7 v hv; omega⟩
   have hbase:2*sq (out.set i many)+[(i:Int)].length<=2*N+1:=by
    have hcn:sq (out.set i many)<=N:=by unfold sq; rw [<- Z.pt.len,<- RM (as:=out) (i:=i) (a:=many)]; exact Ta
    simp only [Ro]; omega
   have hf0:Cl N l many (i:Int) out (out.set i many):=by
    refine ⟨hp1.set ⟨h0,by omega⟩ i,λu O=>?_,λu O hn2=>?_,by rw [hset,Qx rfl]⟩
    ·rw [hset,Qw (λe=>by subst e; omega)]
    ·rw [hset] at hn2 ⊢
     by_cases e:u=(i:Int)
     ·subst e; rw [Qx rfl]; exact ⟨rfl,.refl⟩
     ·rw [Qw e] at hn2; omega
   refine Gd.iL (λ(s:List Int×List Int)=>Cl N l many (i:Int) out s.1/\(∀ a ∈ s.2,lb s.1 a=many)/\(∀ u,lb s.1 u=many->u ∉ s.2->∀ v,K6 l u v->0<=lb s.1 v)/\2*sq s.1+s.2.length<=2*N+1)
    (λs=>2*sq s.1+s.2.length) ?_ fT _ ⟨hf0,λa ha=>?_,λu O Y=>?_,hbase⟩ ?_
   ·rintro ⟨o,todo⟩ nx2 ⟨hf,htd,hpr,htot⟩ hn2
    simp only at hf htd hpr htot;have hol:=hf.pt.len;unfold qL;refine Gd.ite (λhne=>?_) (λhze=>?_)
    ·obtain ⟨at_,ts,rfl⟩:∃ a ts,todo=a::ts:=by
      cases todo with
      | nil=>simp at hne
      | cons a ts=>exact ⟨a,ts,rfl⟩
     simp only [QA] at htot;refine Gd.ix (y:=at_) (by decide) rfl (Gd.nd ⟨by omega,by simp only [QA]; omega⟩ ?_)
     have hat:=htd at_ (Qu ..);obtain ⟨at0,atN⟩:=Ka (by omega:0<=lb o at_)
     have hsl:rJ (at_::ts) (1:Int).toNat (at_::ts).length=ts:=by
      unfold rJ;rw [show (1:Int).toNat=1 from rfl,U5,RN,QH (by simp)]
     rw [hsl]
     let J:List Ed->List Int×List Int->Prop:=λpre s=>Cl N l many (i:Int) out s.1/\(∀ a ∈ s.2,lb s.1 a=many)/\lb s.1 at_=many/\(∀ u,lb s.1 u=many->u ∉ s.2->u≠at_->∀ v,K6 l u v->0<=lb s.1 v) /\
      (∀ e ∈ pre,(e.a0=at_->0<=lb s.1 e.a1)/\(e.a1=at_->0<=lb s.1 e.a0))/\2*sq s.1+s.2.length<=2*sq o+ts.length
     have push:∀ (pre:List Ed) (e:Ed) (b td:List Int) (q:Int) (nn:List Int×List Int->Option (List Int)),e ∈ l->J pre (b,td)->K6 l at_ q->0<=q->q<N->((e.a0=at_/\e.a1=q)\/(e.a1=at_/\e.a0=q)) ->
       (∀ s',J (pre++[e]) s'->Gd (nn s') (λr=>∃ many:Nat,HH N l r many)) ->
       Gd (Sim.idx b q λy7689=>if decide (y7689<0) then (Sim.idx b q λy7694=>cW ((td.length+([q]).length)*8<=140737488355328) (eK nn (b.set (q:Int).toNat many) (td++([q])))) else (eK nn b td)) (λr=>∃ many:Nat,HH N l r many):=by
      intro pre e b td q nn hel ⟨j1,j2,j3,j4,j5,j6⟩ hadj q0 qN hends hnn;simp only at j1 j2 j3 j4 j5 j6;have hbl:=j1.pt.len;have hql:q.toNat<b.length:=by omega
      have hget:b[q.toNat]? = some b[q.toNat]:=Qp hql;have hlq:lb b q=b[q.toNat]:=J_ q0 hql;have hno:sq o<=N:=by unfold sq; rw [<- hol]; exact Ta
      unfold eK;refine Gd.ix q0 hget (Gd.ite (λh=>Gd.ix q0 hget (Gd.nd ?_ (hnn _ ?_))) (λh=>hnn _ ⟨j1,j2,j3,j4,λd I=>?_,j6⟩))
      ·simp; omega
      ·have h1:b[q.toNat]<0:=by simpa using h
       have hlt:lb b q<0:=by omega
       have up:∀ {u:Int},0<=lb b u->0<=lb (b.set q.toNat many) u:=λ{u} O=>Cl.mono hbl h0 q0 qN O;have hqs:lb (b.set q.toNat many) q=many:=by rw [xE q0 hql,Qx rfl]
       have same:∀ {u:Int},lb b u=many->lb (b.set q.toNat many) u=many:=λ{u} O=>by
        rw [xE q0 hql]; split
        ·rfl
        ·exact O
       refine ⟨j1.put Z h0 j3 hadj q0 qN hlt,λa ha=>?_,same j3,λu O Y hua v hv=>?_,λd I=>?_,?_⟩
       ·rcases QG.1 ha with ha | ha
        ·exact same (j2 a ha)
        ·simp at ha; subst ha; exact hqs
       ·simp only at O Y
        by_cases e2:u=q
        ·subst e2
         exact absurd (Rs _ (List.mem_singleton_self _)) Y
        ·rw [xE q0 hql,Qw e2] at O
         exact up (j4 u O (λhm=>Y (Qq _ hm)) hua v hv)
       ·rcases QG.1 I with I | I
        ·obtain ⟨x1,x2⟩:=j5 d I
         exact ⟨λhh=>up (x1 hh),λhh=>up (x2 hh)⟩
        ·simp at I; subst I
         have hat2:0<=lb (b.set q.toNat many) at_:=up (by omega)
         have hq2:0<=lb (b.set q.toNat many) q:=by omega
         rcases hends with ⟨x1,x2⟩ | ⟨x1,x2⟩
         ·exact ⟨λ_=>by rw [x2]; exact hq2,λ_=>by rw [x1]; exact hat2⟩
         ·exact ⟨λ_=>by rw [x1]; exact hat2,λ_=>by rw [x2]; exact hq2⟩
       ·have:=E7 hql h1 h0
        simp only [QJ,Ro];omega
      ·have h1:0<=b[q.toNat]:=by simpa using h
       rcases QG.1 I with I | I
       ·exact j5 d I
       ·simp at I; subst I
        rcases hends with ⟨x1,x2⟩ | ⟨x1,x2⟩
        ·exact ⟨λ_=>by rw [x2]; simp only; omega,λ_=>by rw [x1]; simp only; omega⟩
        ·exact ⟨λ_=>by rw [x1]; simp only; omega,λ_=>by rw [x2]; simp only; omega⟩
     refine Gd.seen J ?_ ?_ _ ⟨hf,λa ha=>htd a (Qy _ ha),hat,λu O Y hua v hv=>hpr u O (λhm=>(Ra.1 hm).elim hua Y) v hv,by simp,QM (2*sq o+ts.length)⟩
     ·rintro k e ⟨b,td⟩ nn pre hpre hJ hnn
      obtain ⟨_,hel,_⟩:=vU hpre;obtain ⟨e1,e2,e3,e4⟩:=hl e hel;have hw1:i64.wrap (e.a0+e.a1)=e.a0+e.a1:=bT ⟨by omega,by omega⟩
      have hw2:i64.wrap (e.a0+e.a1-at_)=e.a0+e.a1-at_:=bT ⟨by omega,by omega⟩
      unfold qM;rw [hw1,hw2];refine Gd.ite (λh=>by simp at h) (λ_=>Gd.ite (λh=>?_) (λh=>Gd.ite (λh2=>?_) (λh2=>?_)))
      ·have h:e.a0=at_:=by simpa using h
       have hq:e.a0+e.a1-at_=e.a1:=by omega
       rw [hq];exact push pre e b td _ nn hel hJ ⟨e,hel,.inl ⟨h,rfl⟩⟩ e3 e4 (.inl ⟨h,rfl⟩) hnn
      ·have h1:e.a0≠at_:=by simpa using h
       have h2:e.a1≠at_:=by simpa using h2
       obtain ⟨j1,j2,j3,j4,j5,j6⟩:=hJ;refine hnn _ ⟨j1,j2,j3,j4,λd I=>?_,j6⟩;rcases QG.1 I with I | I
       ·exact j5 d I
       ·simp at I; subst I
        exact ⟨λhh=>absurd hh h1,λhh=>absurd hh h2⟩
      ·have h2:e.a1=at_:=by simpa using h2
       have hq:e.a0+e.a1-at_=e.a0:=by omega
       rw [hq];exact push pre e b td _ nn hel hJ ⟨e,hel,.inr ⟨h2,rfl⟩⟩ e1 e2 (.inr ⟨h2,rfl⟩) hnn
     ·rintro ⟨b,td⟩ ⟨j1,j2,j3,j4,j5,j6⟩
      simp only at j1 j2 j3 j4 j5 j6;refine hn2 _ ⟨j1,j2,λu O Y v hv=>?_,by show 2*sq b+td.length<=2*N+1; omega⟩ (by simp only [QA]; omega)
      by_cases e:u=at_
      ·subst e
       obtain ⟨d,I,hh | hh⟩:=hv
       ·have:=(j5 d I).1 hh.1
        rw [hh.2] at this; exact this
       ·have:=(j5 d I).2 hh.1
        rw [hh.2] at this; exact this
      ·exact j4 u O Y e v hv
    ·have htn:todo=[]:=by
      cases todo with
      | nil=>rfl
      | cons a ts=>simp at hze
     subst htn;unfold kL;rw [hwm];refine hn _ ⟨by omega,by show (0:Int)<=many+1; omega,by show many+1<=((i+1:Nat):Int); omega,hf.done Z h0 (λu O v hv=>hpr u O (by simp) v hv),λj hj=>?_⟩
     by_cases e:j=i
     ·subst e; show 0<=lb o (j:Int); rw [hf.st]; exact h0
     ·have h1:=hk j (by omega)
      show 0<=lb o (j:Int);rw [hf.vh _ h1]; exact h1
   ·simp only [QY] at ha
    subst ha;exact hf0.st
   ·exfalso
    rw [hset] at O
    by_cases e:u=(i:Int)
    ·subst e; simp at Y
    ·rw [Qw e] at O
     have:=(Z.pt.lt h0 u).2;omega
   ·refine Tq hbase ?_
    unfold fT; omega
 ·rintro i ⟨out,many⟩ ⟨hi,h0,hmi,Z,hk⟩
  simp only at h0 hmi Z hk;have hge:∀ u:Int,0<=u->u<N->0<=lb out u:=λu u0 uN=>by
   have:=hk u.toNat (by omega)
   rwa [show ((u.toNat:Nat):Int)=u by omega] at this
  refine Gd.ret ⟨many.toNat,Z.pt.len,λu u0 uN=>⟨hge u u0 uN,by have h1:=hge u u0 uN; have h2:=(Z.pt.lt h0 u).2; show lb out u<((many.toNat:Nat):Int); omega⟩,by omega,λu v u0 uN v0 vN=>⟨λe=>Z.PE u v (hge u u0 uN) e,λe=>?_⟩,λc c0 c1=>?_⟩
  ·clear vN v0
   induction e with
   | refl=>rfl
   | snoc _ h ih=>
    rename_i p q _
    have ih:lb out u=lb out p:=ih;have hp:0<=lb out p:=by have:=hge u u0 uN; omega
    show lb out u=lb out q;rw [ih];exact (Z.cls p q h hp).symm
  ·obtain ⟨u,O⟩:=Z.Pl c c0 (by omega)
   obtain ⟨a,b⟩:=Ka (by omega:0<=lb out u)
   exact ⟨u,a,by have:=Z.pt.len; omega,O⟩
theorem FV (N:Nat) (hN:N<=24) (l:List Ed) (hl:Eo N l) (I:l.length<=64):Gd (jS N l) (λr=>r.2=0/\∃ many:Nat,HH N l r.1 many):=by
 unfold jS;refine Gd.bind_eq (CN N hN l hl I) (Gd.ite (λh=>by simp at h) (λ_=>Gd.eM (Gp N hN l hl I) (λr J=>Gd.ret ⟨rfl,J⟩)))
theorem LM (N:Nat) (hN:N<=24) (l:List Int) (hl:AE N l):∃ m:Nat,m<=N/\AE m l/\(∀ c:Nat,AE c l->m<=c) /\
  ∀ {R:Type} (I:Nat->Int->Int->(Int->Option R)->Option R) (Z:∀ k y n nx,I k y n nx=nx (max n (i64.wrap (y+1)))) (K:Int->Option R),dO I K 0 l 0=K (m:Int):=by
 have key:∀ (ys pre:List Int) (m:Nat),l=pre++ys->m<=N->AE m pre->(∀ c:Nat,AE c pre->m<=c)->∃ Y:Nat,Y<=N/\AE Y l/\(∀ c:Nat,AE c l->Y<=c) /\
   ∀ {R:Type} (I:Nat->Int->Int->(Int->Option R)->Option R) (Z:∀ k y n nx,I k y n nx=nx (max n (i64.wrap (y+1)))) (K:Int->Option R) (i:Nat),dO I K i ys (m:Int)=K (Y:Int):=by
  intro ys
  induction ys with
  | nil=>
   intro pre m e hm hp J;rw [Q8] at e; subst e
   exact ⟨m,hm,hp,J,λ_ _ _ _=>rfl⟩
  | cons y ys ih=>
   intro pre m e hm hp J;have hy:=hl y (by rw [e]; exact Rs _ (Qu ..))
   have hw:i64.wrap (y+1)=y+1:=bT ⟨by omega,by omega⟩
   have hmx:max (m:Int) (y+1)=((max m (y+1).toNat:Nat):Int):=by omega
   obtain ⟨Y,h1,h2,h3,h4⟩:=ih (pre++[y]) (max m (y+1).toNat) (by rw [e]; simp) (by omega) (λa O=>by
    rcases QG.1 O with O | O
    ·have:=hp a O; omega
    ·simp at O; subst O; omega) (λc hc=>by
     have c1:=J c (λa O=>hc a (Qq _ O));have c2:=hc y (Rs _ (List.mem_singleton_self _));omega)
   refine ⟨Y,h1,h2,h3,λ{R} I Z K i=>?_⟩;show I i y (m:Int) (λs=>dO I K (i+1) ys s)=_;rw [Z,hw,hmx];exact h4 I Z K (i+1)
 obtain ⟨Y,h1,h2,h3,h4⟩:=key l [] 0 rfl (by omega) (by intro a O; simp at O) (λc _=>by omega)
 exact ⟨Y,h1,h2,h3,λ{R} I Z K=>h4 I Z K 0⟩
def pos (n:Net) (s:BA):Nat:=((bH n.bD s).getD 0).toNat
theorem Uy {n:Net}{s:BA} (h:s ∈ n.bD):bH n.bD s=some (pos n s:Int)/\pos n s<n.bD.length:=by
 obtain ⟨k,I,hl,_⟩:=yS h;unfold pos;rw [I];exact ⟨rfl,hl⟩
def Jo (n:Net) (I:List Int) (b:aK):Ed:=⟨I.getD (pos n b.pQ) 0,I.getD (pos n b.To) 0⟩
theorem Jp {n:Net} (hn:pF n) {I:List Int}{m:Nat} (hbl:I.length=n.bD.length) (hm:AE m I):Eo m (n.aH.map (Jo n I)):=λe he=>by
 obtain ⟨b,Z,rfl⟩:=Rd.1 he;obtain ⟨O,Y⟩:=hn.br b Z;have p1:=(Uy O).2;have p2:=(Uy Y).2;have q:∀ k,k<I.length->0<=I.getD k 0/\I.getD k 0<m:=λk J=>by
  rw [Q1,Qp J];exact hm _ (Q3 J)
 exact ⟨(q _ (by omega)).1,(q _ (by omega)).2,(q _ (by omega)).1,(q _ (by omega)).2⟩
theorem Lw {n:Net} (hn:pF n) {I:List Int} (Y:oM n=some I) (hbl:I.length=n.bD.length) {m:Nat} (Z:m<=24) (hm:AE m I)
  (O:∀ {R:Type} (J:Nat->Int->Int->(Int->Option R)->Option R) (hb:∀ k y n nx,J k y n nx=nx (max n (i64.wrap (y+1)))) (K:Int->Option R),dO J K 0 I 0=K (m:Int)):
  Gd (dZ n) (λt=>t.qp=I/\∃ c:Nat,HH m (n.aH.map (Jo n I)) t.bR c):=by
 have l3:=hn.l3;unfold dZ;refine Gd.bind_eq Y ?_;rw [O _ (λk y n nx=>by unfold sS; rfl)]
 refine Gd.seen (λpre out=>out=pre.map (Jo n I)) ?_ ?_ _ rfl
 ·rintro i y out nn pre hpre rfl hnx
  obtain ⟨hpl,hyl,_⟩:=vU hpre;obtain ⟨h1,h2⟩:=hn.br y hyl;obtain ⟨p1,p2⟩:=Uy h1;obtain ⟨q1,q2⟩:=Uy h2;have g:∀ k (hk:k<I.length),I[k]=I.getD k 0:=λk hk=>by
   rw [Q1,Qp hk]; rfl
  unfold sT;refine Gd.bind_eq p1 (Gd.iP (by omega) (Gd.bind_eq q1 (Gd.iP (by omega) (Gd.nd ?_ (hnx _ ?_)))))
  ·simp only [Sq,Ro]; omega
  ·rw [RP,g _ (by omega),g _ (by omega)]; rfl
 ·rintro out rfl
  exact Gd.eM (FV m Z _ (Jp hn hbl hm) (by simp; omega)) (λr ⟨_,hr⟩=>Gd.ret ⟨rfl,hr⟩)
section
variable {ν:Type}
def J7 (l:List (Int×ν)) (k:Int):Option ν:=(l.find? (λp=>p.1=k)).map (·.2)
theorem Gh (l:List (Int×ν)) (k:Int):rH l k=J7 l k:=by
 unfold rH J7;have:∀ (l:List (Int×ν)) (i:Nat),(wI l k i).map (·.2)=(l.find? (λp=>p.1=k)).map (·.2):=by
  intro l
  induction l with
  | nil=>intro i; rfl
  | cons p l ih=>
   obtain ⟨a,v⟩:=p;intro i;simp only [wI,List.find?_cons]
   by_cases e:a=k
   ·simp [e]
   ·simp only [e,Sc,UY]; exact ih (i+1)
 exact this l 0
theorem Kf {l:List (Int×ν)}{k:Int}:∀ {i j:Nat}{v:ν},wI l k i=some (j,v)->∃ q,j=i+q/\l[q]? = some (k,v):=by
 induction l with
 | nil=>intro i j v h; simp [wI] at h
 | cons p l ih=>
  obtain ⟨a,u⟩:=p;intro i j v h;simp only [wI] at h
  split at h
  ·rename_i e
   simp only [QL,SG] at h;obtain ⟨rfl,rfl⟩:=h;exact ⟨0,rfl,by rw [e]; rfl⟩
  ·obtain ⟨q,rfl,I⟩:=ih h
   exact ⟨q+1,by omega,I⟩
theorem Ke {l:List (Int×ν)}{k:Int}:∀ {i:Nat},wI l k i=none->∀ p ∈ l,p.1≠k:=by
 induction l with
 | nil=>intro i _ p J; cases J
 | cons p l ih=>
  obtain ⟨a,u⟩:=p;intro i h;simp only [wI] at h
  split at h
  ·cases h
  ·rename_i e
   intro q I;rcases Ra.1 I with rfl | I
   ·exact e
   ·exact ih h q I
def Ei (l:List (Int×ν)):Prop:=(l.map (·.1)).Nodup
theorem Ei.find {l:List (Int×ν)} (h:Ei l) {k:Int}{v:ν}:rH l k=some v↔(k,v) ∈ l:=by
 rw [Gh];unfold J7 Ei at *
 induction l with
 | nil=>simp
 | cons p l ih=>
  obtain ⟨a,u⟩:=p;simp only [Te,TU] at h;rw [List.find?_cons]
  by_cases e:a=k
  ·subst e
   simp only [decide_true,RV,QL,Ra,SG,true_and];constructor
   ·intro I; exact .inl I.symm
   ·rintro (I | I)
    ·exact I.symm
    ·exact absurd (Rd.2 ⟨_,I,rfl⟩) h.1
  ·simp only [e,UY,Ra,SG]
   rw [ih h.2];constructor
   ·exact λI=>.inr I
   ·rintro (⟨I,_⟩ | I)
    ·exact absurd I.symm e
    ·exact I
theorem Ei.put {l:List (Int×ν)} (h:Ei l) (k:Int) (v:ν):Ei (vp l k v)/\∀ p,p ∈ vp l k v↔p=(k,v)\/(p ∈ l/\p.1≠k):=by
 unfold vp;cases hm:wI l k 0 with
 | none=>
  have hno:=Ke hm;refine ⟨?_,λp=>?_⟩
  ·show ((l++[(k,v)]).map (·.1)).Nodup
   rw [RP,Rj];refine ⟨h,by simp,?_⟩
   intro a Y b hb;obtain ⟨p,hp,rfl⟩:=Rd.1 Y;simp at hb;subst hb;exact hno p hp
  ·simp only [QG,QY]
   constructor
   ·rintro (O | O)
    ·exact .inr ⟨O,hno p O⟩
    ·exact .inl O
   ·rintro (O | ⟨O,_⟩)
    ·exact .inr O
    ·exact .inl O
 | some q=>
  obtain ⟨j,u⟩:=q;obtain ⟨i,rfl,hi⟩:=Kf hm;obtain ⟨hil,Z⟩:=Qt.1 hi;simp only [QP];have hmap:(l.set i (k,v)).map (·.1)=l.map (·.1):=by
   rw [List.map_set];apply B6;rw [QW,hi]; rfl
  refine ⟨by unfold Ei; rw [hmap]; exact h,λp=>?_⟩
  have huniq:∀ (a:Nat) (x:Int×ν),l[a]? = some x->x.1=k->a=i:=λa x Y hx=>by
   obtain ⟨J,I⟩:=Qt.1 Y;unfold Ei at h;rw [List.nodup_iff_pairwise_ne,Ty] at h;rcases Tw a i with hlt | heq | hgt
   ·exact (h a i (by simpa using J) (by simpa using hil) hlt (by rw [SF,SF,I,Z,hx])).elim
   ·exact heq
   ·exact (h i a (by simpa using hil) (by simpa using J) hgt (by rw [SF,SF,I,Z,hx])).elim
  constructor
  ·intro hp
   obtain ⟨a,Y,I⟩:=RG.1 hp;rw [Vw] at I
   split at I
   ·exact .inl I.symm
   ·rename_i hne
    have J:a<l.length:=by simpa using Y
    refine .inr ⟨by rw [<- I]; exact Q3 J,λhk=>?_⟩
    exact hne (huniq a p (by rw [Qp J,I]) hk).symm
  ·rintro (rfl | ⟨hp,hk⟩)
   ·exact RG.2 ⟨i,by simpa using hil,by simp⟩
   ·obtain ⟨a,Y,I⟩:=RG.1 hp
    have hne:i≠a:=λe=>by
     subst e;rw [Z] at I;exact hk (by rw [<- I])
    exact RG.2 ⟨a,by simpa using Y,by rw [List.getElem_set_ne hne]; exact I⟩
theorem Ei.G6 {l:List (Int×ν)} (h:Ei l) (k I:Int) (v:ν):rH (vp l k v) I=if I=k then some v else rH l I:=by
 obtain ⟨J,O⟩:=h.put k v
 split
 ·rename_i e
  rw [J.find,O]; exact .inl (by rw [e])
 ·rename_i e
  cases Z:rH l I with
  | some u=>
   rw [J.find,O];exact .inr ⟨h.find.1 Z,e⟩
  | none=>
   cases hg2:rH (vp l k v) I with
   | none=>rfl
   | some u=>
    rcases (O _).1 (J.find.1 hg2) with Y | ⟨Y,_⟩
    ·exact absurd (Prod.mk.inj Y).1 e
    ·rw [h.find.2 Y] at Z; cases Z
theorem Ei.nil:Ei ([]:List (Int×ν)):=by unfold Ei; simp
end
structure uR (n:Net) (t:a_):Prop where
 bl:t.qp.length=n.bD.length
 I6:t.bR.length<=24
 bi:AE t.bR.length t.qp
 comp:∃ c:Nat,HH t.bR.length (n.aH.map (Jo n t.qp)) t.bR c
theorem Mi {n:Net} (hn:pF n):∃ t,dZ n=some t/\uR n t:=by
 have g1:=hn.l1;obtain ⟨bus,hbus,Z,Y⟩:=Jw n hn;obtain ⟨m,hm1,I,_,J⟩:=LM n.bD.length hn.l1 bus Y;obtain ⟨t,ht,O,c,hc⟩:=Lw hn hbus Z (by omega) I J
 have hl:=hc.len;refine ⟨t,ht,⟨by rw [O]; exact Z,by omega,by rw [O,hl]; exact I,c,?_⟩⟩
 rw [O,hl];exact hc
def fr (I:List Int):List Nat:=(List.range I.length).filter (λi=>(List.range i).any (λj=>decide (I[j]? = I[i]?)))
theorem F6 {I:List Int}{i:Nat}:i ∈ fr I↔i<I.length/\∃ j:Nat,j<i/\I[j]? = I[i]? := by
 unfold fr;simp
theorem JW (I:List Int):(fr I).Nodup:=List.Pairwise.filter _ List.nodup_range
theorem Dw {I:List Int} (h:I.length<=24):(fr I).length<=23:=by
 have O:(fr I).length<=((List.range I.length).filter (λi=>decide (0<i))).length:=by
  unfold fr;rw [<- List.countP_eq_length_filter,<- List.countP_eq_length_filter];refine List.countP_mono_left (λi _ hi=>?_);simp at hi;obtain ⟨j,Y,_⟩:=hi;simp; omega
 have J:∀ m,((List.range m).filter (λi=>decide (0<i))).length<=m-1:=by
  intro m
  induction m with
  | zero=>simp
  | succ m ih=>
   rw [TV,R4,QJ];cases m with
   | zero=>simp
   | succ m=>simp at ih ⊢; omega
 have:=J I.length;omega
def Cj (I:List Int) (i:Nat):Nat:=(fr I).getD i 0
theorem Dt {I:List Int}{i:Nat} (h:i<(fr I).length):(fr I)[i]? = some (Cj I i):=by
 unfold Cj;rw [Q1,Qp h]; rfl
theorem Du {I:List Int}{i:Nat} (h:i<(fr I).length):Cj I i ∈ fr I:=QB (Dt h)
theorem zk {I:List Int}{i j:Nat} (hi:i<(fr I).length) (Y:j<(fr I).length) (e:Cj I i=Cj I j):i=j:=by
 have a:=Dt hi;have b:=Dt Y;rw [e] at a;have nd:=JW I;obtain ⟨_,J⟩:=Qt.1 a;obtain ⟨_,O⟩:=Qt.1 b;exact (List.getElem_inj nd).1 (J.trans O.symm)
theorem Og (I:List Int):(fr I).map (λx:Nat=>(x:Int))=(List.range (fr I).length).map (λi=>(Cj I i:Int)):=by
 apply Sa;intro i;rw [QW,QW]
 by_cases h:i<(fr I).length
 ·rw [Dt h,Sv h]; rfl
 ·rw [Rn (by omega),Rn (by simp; omega)]; rfl
def GZ (n:Net) (I:List Int) (b:aK):Rat×Nat×Nat:=(((b.X*b.A0:Int):Rat),(Jo n I b).a0.toNat,(Jo n I b).a1.toNat)
def Ak (n:Net) (I:List Int):List (Rat×Nat×Nat):=n.aH.map (GZ n I)
structure O8 (b:aK):Prop where
 x:1<=b.X/\b.X<=10000
 t:500<=b.A0/\b.A0<=1500
 s:-1000<=b.Shift/\b.Shift<=1000
 l:0<=b.s6/\b.s6<=100000
theorem HR {n:Net} (h:px n) {b:aK} (J:b ∈ n.aH):O8 b:=by
 obtain ⟨_,_,_,_,I⟩:=h.vb b J;unfold jF at I
 split at I
 ·omega
 ·rename_i h6
  simp [bO] at h6;exact ⟨by omega,by omega,by omega,by omega⟩
theorem O8.q {b:aK} (h:O8 b):500<=b.X*b.A0/\b.X*b.A0<=15000000:=by
 have I:=h.x; have J:=h.t
 have a:1*500<=b.X*b.A0:=Int.mul_le_mul I.1 J.1 (by omega) (by omega)
 have c:b.X*b.A0<=10000*1500:=Int.mul_le_mul I.2 J.2 (by omega) (by omega)
 omega
structure OZ (N:Nat) (l:List (Rat×Nat×Nat)):Prop where
 ll:l.length<=24
 el:∀ e ∈ l,e.2.1<N/\e.2.2<N
 q:∀ e ∈ l,∃ z:Int,e.1=(z:Rat)/\500<=z/\z<=15000000
theorem Br {n:Net} (h:px n) (hn:pF n) {t:a_} (ht:uR n t):OZ t.bR.length (Ak n t.qp):=by
 refine ⟨by unfold Ak; rw [Sq]; exact h.l3,λe he=>?_,λe he=>?_⟩
 ·obtain ⟨b,I,rfl⟩:=Rd.1 he
  have:=Jp hn ht.bl ht.bi (Jo n t.qp b) (Rd.2 ⟨b,I,rfl⟩);show (Jo n t.qp b).a0.toNat<_/\(Jo n t.qp b).a1.toNat<_;omega
 ·obtain ⟨b,I,rfl⟩:=Rd.1 he
  exact ⟨_,rfl,(HR h I).q.1,(HR h I).q.2⟩
theorem zx {N:Nat}{l:List (Rat×Nat×Nat)} (h:OZ N l) {e:Rat×Nat×Nat} (he:e ∈ l):uC e.1/\500<=e.1/\e.1<=15000000:=by
 obtain ⟨z,I,J,O⟩:=h.q e he;have a:=Wb.2 J;have b:=Wb.2 O;rw [<- I] at a b;exact ⟨⟨z,I⟩,a,b⟩
abbrev tq:Rat:=((1000000:Int):Rat)
abbrev LC (F:Nat->Nat) (l:List (Rat×Nat×Nat)):Mt:=iK ((l.map (yn tq)).map (nF F))
theorem KW:0<tq:=by
 have:((0:Int):Rat)<((1000000:Int):Rat):=Rat.intCast_lt_intCast.2 (by decide)
 simpa using this
theorem Kx {a:Nat}{c:Rat} (I:0<=c) (h:c<=(((2 ^ a:Nat):Int):Rat)):∀ k:Nat,0<=pr k (λ_=>c)/\pr k (λ_=>c)<=(((2 ^ (a*k):Nat):Int):Rat)
 | 0=>by
  refine ⟨by show (0:Rat)<=1; decide,?_⟩
  show (1:Rat)<=_;rw [VS,V0];exact We
 | k+1=>by
  obtain ⟨J,O⟩:=Kx I h k;refine ⟨Wl J I,?_⟩;show pr k (λ_=>c)*c<=_;have e:a*(k+1)=a*k+a:=Nat.mul_succ a k;rw [e,VT,Rg,Wc];exact qI O h J I
theorem NH {a b:Nat} (h:a<=32*b):(((2 ^ a:Nat):Int):Rat)<=wq b:=by
 unfold wq;rw [A1];have:2 ^ a<=2 ^ (32*b):=VV (by decide) h
 exact Wb.2 (by omega)
theorem MP {a c:Nat}{x:Rat} (I:0<=x) (h:x<=(((2 ^ a:Nat):Int):Rat)) (k:Nat) (J:a*k<=32*c):pr k (λ_=>x)<=wq c:=
 Wg (Kx I h k).2 (NH J)
theorem GW {N:Nat}{l:List (Rat×Nat×Nat)} (h:OZ N l):1<=vZ l/\vZ l<=wq 18:=by
 have I:=h.ll;refine ⟨Bc (λe he=>by have:=zx h he; grind),?_⟩
 refine Rat.le_trans (GV (q:=15000000) (λe he=>by have:=zx h he; constructor <;> grind)) (MP (a:=24) (by decide) ?_ l.length (by omega))
 have:((15000000:Int):Rat)<=(((2 ^ 24:Nat):Int):Rat):=Wb.2 (by decide)
 exact this
theorem Fm {u:Nat}:∀ {l:List (Rat×Nat×Nat)},(∀ e ∈ l,1<=e.1)->uv u l<=vZ l
 | [],_=>We
 | e::l,h=>by
  have ih:=Fm (u:=u) (l:=l) (λe he=>h e (List.mem_cons_of_mem _ he));have I:=h e (List.mem_cons_self ..);have J:=zB (u:=u) (l:=l) (λe he=>h e (List.mem_cons_of_mem _ he));unfold uv vZ;refine qI ?_ ih ?_ (by grind)
  ·split <;> grind
  ·split <;> grind
theorem HE {N:Nat}:∀ {l:List (Rat×Nat×Nat)},(∀ e ∈ l,500<=e.1)->0<=Cg (l.map (yn tq))/\Cg (l.map (yn tq))<=2000*(((l.length:Nat):Int):Rat)
 | [],_=>⟨We,by
  show (0:Rat)<=2000*((((0:Nat):Int)):Rat);simp⟩
 | e::l,h=>by
  obtain ⟨a,b⟩:=HE (N:=N) (l:=l) (λe he=>h e (List.mem_cons_of_mem _ he));have I:=h e (List.mem_cons_self ..);have e1:Cg ((e::l).map (yn tq))=tq / e.1+Cg (l.map (yn tq)):=rfl;have p:0<e.1⁻¹:=Rat.inv_pos.2 (by grind)
  have J:=Rat.mul_inv_cancel e.1 (by grind)
  have O:=Rat.mul_le_mul_of_nonneg_right I (Rat.le_of_lt p);have t1:tq=1000000:=rfl;have e2:(((e::l).length:Nat):Int)=(((l.length:Nat):Int))+1:=by simp
  rw [e1,Rat.div_def,t1,e2,Rat.intCast_add,Rat.intCast_one];constructor <;> grind
theorem Gk {N n:Nat}{F:Nat->Nat}{l:List (Rat×Nat×Nat)} (h:OZ N l) (hn:n<=23) (J:∀ i j,i<n->j<n->F i=F j->i=j):
  Nb n (LC F l) (λi=>uv (F i) l) (λi c=>uv (F i) l*iK ((l.map (yn tq)).map (pD F)) i c+dl i c) (λi=>uv (F i) l*(4*Cg (l.map (yn tq)))+1):=by
 have Z:=h.ll;have I:∀ e ∈ l,1<=e.1:=λe he=>by have:=zx h he; grind
 have ws:=HE (N:=N) (λe he=>(zx h he).2.1);have Y:(((l.length:Nat):Int):Rat)<=24:=Wb.2 (show ((l.length:Nat):Int)<=24 by omega)
 refine ⟨LQ J ⟨_,rfl⟩ KW (λe he=>⟨(zx h he).1,I e he⟩),?_,λi _=>Rat.le_trans (Fm I) (GW h).2⟩;have a:=Ov (n:=n) (F:=F) (l:=l) (s:=4*Cg (l.map (yn tq))) (w:=192000) J I (by grind) (by grind)
 have b:=GW h;have c:pr n (λ_=>(192000:Rat)+1)<=wq 13:=MP (a:=18) (by grind) (by
  have:((192001:Int):Rat)<=(((2 ^ 18:Nat):Int):Rat):=Wb.2 (by decide)
  have e:(192000:Rat)+1=((192001:Int):Rat):=by grind
  rw [e]; exact this) n (by omega)
 have d:vZ l*vZ l<=wq 36:=by
  rw [<- vV 18 18];exact qI b.2 b.2 (by grind) (by grind)
 have O:0<=pr n (λ_=>(192000:Rat)+1):=mW (λ_ _=>by grind)
 have f:vZ l*vZ l*pr n (λ_=>(192000:Rat)+1)<=wq 49:=by
  rw [<- vV 36 13];exact qI d c (Rat.mul_nonneg (by grind) (by grind)) O
 exact Wg a (Wg f (yb (by omega)))
theorem JV (I:List Int):∀ i:Nat,∃ r,r<=i/\I[r]? = I[i]? /\ ∀ j,j<r->I[j]? ≠ I[i]? := by
 intro i
 induction i using Nat.strongRecOn with
 | ind i ih=>
  by_cases h:∃ j,j<i/\I[j]? = I[i]?
  ·obtain ⟨j,J,e⟩:=h
   obtain ⟨r,h1,O,Y⟩:=ih j J;exact ⟨r,by omega,O.trans e,λq hq Z=>Y q hq (Z.trans e.symm)⟩
  ·exact ⟨i,QM _,rfl,λj J e=>h ⟨j,J,e⟩⟩
theorem Lp {n:Net}{t:a_}{u v:Int} (h:xr (n.aH.map (Jo n t.qp)) u v):Lk ((Ak n t.qp).map (yn tq)) u.toNat v.toNat:=by
 induction h with
 | refl=>exact .refl
 | snoc _ I ih=>
  obtain ⟨e,he,O⟩:=I;obtain ⟨b,J,rfl⟩:=Rd.1 he;have hm:yn tq (GZ n t.qp b) ∈ (Ak n t.qp).map (yn tq):=Rd.2 ⟨_,Rd.2 ⟨b,J,rfl⟩,rfl⟩;rcases O with ⟨rfl,rfl⟩ | ⟨rfl,rfl⟩
  ·exact .step ih (.inl hm)
  ·exact .step ih (.inr hm)
theorem Gl {n:Net} (h:px n) (hn:pF n) {t:a_} (ht:uR n t):Pd (fr t.bR).length (LC (Cj t.bR) (Ak n t.qp)):=by
 have hE:=Br h hn ht;obtain ⟨c,hc⟩:=ht.comp;refine Ox (λe he=>?_) (λi j hi Y e=>zk hi Y e) (λi hi=>?_)
 ·obtain ⟨d,hd,rfl⟩:=Rd.1 he
  have:=zx hE hd;show 0<tq / d.1;rw [Rat.div_def];exact Rat.mul_pos KW (Rat.inv_pos.2 (by grind))
 ·have hm:=F6.1 (Du hi)
  obtain ⟨r,h1,O,h3⟩:=JV t.bR (Cj t.bR i);refine ⟨r,λj Y e=>?_,?_⟩
  ·have J:=F6.1 (Du Y)
   rw [e] at J;obtain ⟨_,q,hq,Z⟩:=J;exact h3 q hq (Z.trans O)
  ·have hl:∀ (a:Nat),a<t.bR.length->lb t.bR (a:Int)=t.bR[a]! := λa ha=>by
    rw [BG ha]; simp [ha]
   have I:xr (n.aH.map (Jo n t.qp)) ((Cj t.bR i:Nat):Int) ((r:Nat):Int):=by
    refine (hc.iff _ _ (by omega) (by omega) (by omega) (by omega)).1 ?_
    have hr:r<t.bR.length:=by omega
    rw [BG hm.1,BG hr];rw [Qp hr,Qp hm.1] at O;exact (Qs O).symm
   have:=Lp I;simpa using this
structure Md (n:Net) (t:a_) (M:bA):Prop where
 top:M.vI=t
 md:I5 M (fr t.bR).length t.bR.length (Cj t.bR) (Ak n t.qp) tq
 Di:M.C.length=n.aH.length
 c:∀ (k:Nat) (y:LR),M.C[k]? = some y->∃ b,n.aH[k]? = some b/\py y/\RL y 4/\rv y=(tq / ((b.X*b.A0:Int):Rat))*(((0-b.Shift:Int):Rat) / ((1000:Int):Rat))
 inv:MB M.rh (fr t.bR).length (LC (Cj t.bR) (Ak n t.qp))
theorem HC {α Y:Type}{P:α->Y->Prop}{l:List α}{m:List Y} (hl:l.length=m.length) (h:∀ (k:Nat) (y:α),l[k]? = some y->∃ b,m[k]? = some b/\P y b) {x:α}{b:Y} (hx:P x b):∀ (k:Nat) (y:α),(l++[x])[k]? = some y->∃ J,(m++[b])[k]? = some J/\P y J:=by
 intro k y I
 by_cases e:k<l.length
 ·rw [RF e] at I
  obtain ⟨J,Z,h2⟩:=h k y I;exact ⟨J,by rw [RF (by omega)]; exact Z,h2⟩
 ·have O:=(Qt.1 I).1
  rw [QJ,Ro] at O;obtain rfl:k=l.length:=by omega
  rw [Q2 (QM _),RK] at I;obtain rfl:=Qs I;exact ⟨b,by rw [hl,Q2 (QM _),RK]; rfl,hx⟩
theorem FP {n:Net} (hn:pF n) {t:a_} (ht:uR n t) {k:Nat} (J:k<n.bD.length):∃ v:Nat,t.qp[k]? = some (v:Int)/\v=(t.qp.getD k 0).toNat:=by
 have I:k<t.qp.length:=by rw [ht.bl]; exact J
 have O:=ht.bi _ (Q3 I);refine ⟨(t.qp[k]).toNat,?_,?_⟩
 ·rw [Qp I]; congr 1; omega
 ·rw [Q1,Qp I]; rfl
theorem E4 {n:Net} (h:px n) (hn:pF n) {t:a_} (hg:dZ n=some t) (ht:uR n t):Gd (uM n) (λo=>∃ M,o=some M/\Md n t M):=by
 have hE:=Br h hn ht;have hll:=h.l3;have hN:=ht.I6;unfold uM;refine Gd.bind_eq hg ?_;refine Gd.dO (λk ys s=>∃ pre,n.aH=pre++ys/\pre.length=k/\s.1=pre.map (λb=>((GZ n t.qp b).2.1:Int))/\s.2.1=pre.map (λb=>((GZ n t.qp b).2.2:Int))/\s.2.2.1.length=pre.length/\s.2.2.2.length=pre.length /\
  (∀ (k:Nat) (y:LR),s.2.2.1[k]? = some y->∃ b,pre[k]? = some b/\(py y/\RL y 2/\rv y=tq / ((b.X*b.A0:Int):Rat))) /\
  (∀ (k:Nat) (y:LR),s.2.2.2[k]? = some y->∃ b,pre[k]? = some b/\(py y/\RL y 4/\rv y=(tq / ((b.X*b.A0:Int):Rat))*(((0-b.Shift:Int):Rat) / ((1000:Int):Rat))))) ?_ ?_ n.aH 0 _
  ⟨[],rfl,rfl,rfl,rfl,rfl,rfl,λk y hy=>by simp at hy,λk y hy=>by simp at hy⟩
 ·rintro k b ys ⟨l1,l2,l3,l4⟩ nx ⟨pre,J,hpk,e1,e2,e3,e4,hB,hC⟩ hnx
  simp only at e1 e2 e3 e4 hB hC;subst e1 e2;have hb:b ∈ n.aH:=by rw [J]; simp
  have hkl:pre.length<24:=by
   have:n.aH.length=pre.length+(ys.length+1):=by rw [J]; simp
   omega
  obtain ⟨_,m1,m2,_⟩:=h.vb b hb;obtain ⟨p1,p2⟩:=Uy m1;obtain ⟨q1,q2⟩:=Uy m2;obtain ⟨u,u1,u2⟩:=FP hn ht p2;obtain ⟨v,v1,v2⟩:=FP hn ht q2;have V:=HR h hb;have hq:=V.q;have hx:=V.x; have htp:=V.t; have hs:=V.s
  unfold wQ;have w1:i64.wrap (b.X*b.A0)=b.X*b.A0:=bT ⟨by omega,by omega⟩
  have w2:i64.wrap (0-b.Shift)=0-b.Shift:=bT ⟨by omega,by omega⟩
  rw [w1,w2];refine Gd.bind_eq p1 (Gd.ix (by omega) (by rw [Qr]; exact u1) (Gd.nd (by simp; omega) (Gd.bind_eq q1 (Gd.ix (by omega) (by rw [Qr]; exact v1) (Gd.nd (by simp; omega) ?_)))))
  refine Gd.eM (G5 (by omega) (by omega) (by omega)) (λs Y=>Gd.nd (by simp; omega) (Gd.eM (G5 (by omega) (by omega) (by omega)) (λf hf=>Gd.eM (zz Y.1 hf.1 Y.2.1 hf.2.1 (by omega)) (λc hc=>Gd.nd (by simp; omega) ?_))))
  refine hnx _ ⟨pre++[b],by rw [J]; simp,by simp [hpk],?_,?_,by simp [e3],by simp [e4],?_,?_⟩
  ·simp only [RP,Te,UU]
   rw [u2]; rfl
  ·simp only [RP,Te,UU]
   rw [v2]; rfl
  ·exact HC e3 hB ⟨Y.1,Y.2.1,Y.2.2⟩
  ·exact HC e4 hC ⟨hc.1,hc.2.1,by rw [hc.2.2,Y.2.2,hf.2.2]⟩
 ·rintro k ⟨l1,l2,l3,l4⟩ ⟨pre,J,hpk,e1,e2,e3,e4,hB,hC⟩
  simp only at e1 e2 e3 e4 hB hC;rw [Q8] at J;subst J;subst e1 e2;refine Gd.dO (λi ys s=>∃ pre,t.bR=pre++ys/\pre.length=i/\Ei s.1/\(∀ k:Int,(rH s.1 k).getD false=true↔k ∈ pre) /\
   s.2=((List.range i).filter (λi=>(List.range i).any (λj=>decide (t.bR[j]? = t.bR[i]?)))).map (λx:Nat=>(x:Int))) ?_ ?_ t.bR 0 _
   ⟨[],rfl,rfl,Ei.nil,λk=>by simp [rH,wI],rfl⟩
  ·rintro i y ys ⟨seen,free⟩ nx ⟨pre,J,Z,hk,hs,e⟩ hnx
   simp only at hk hs e;subst e;have hi:t.bR[i]? = some y:=by rw [J,Q2 (by omega),Z,RK]; rfl
   have hil:=(Qt.1 hi).1;have hmem:y ∈ pre↔(List.range i).any (λj=>decide (t.bR[j]? = t.bR[i]?))=true:=by
    rw [List.any_eq_true];constructor
    ·intro hy
     obtain ⟨j,hj,he⟩:=RG.1 hy;refine ⟨j,Ri.2 (by omega),?_⟩
     rw [hi,J,RF hj,Qp hj,he]; simp
    ·rintro ⟨j,hj,he⟩
     have hj:=Ri.1 hj;have he:=Qv he;rw [hi,J,RF (by omega)] at he
     exact QB he
   have hfl:((List.range i).filter (λi=>(List.range i).any (λj=>decide (t.bR[j]? = t.bR[i]?)))).length<=i:=by
    have:=VA (λi=>(List.range i).any (λj=>decide (t.bR[j]? = t.bR[i]?))) (List.range i);simpa using this
   have O:Ei (vp seen y true)/\∀ k:Int,(rH (vp seen y true) k).getD false=true↔k ∈ pre++[y]:=by
    refine ⟨(hk.put y true).1,λk=>?_⟩;rw [hk.G6,QG,QY]
    split
    ·rename_i e; simp [e]
    ·rename_i e; rw [hs k]; simp [e]
   unfold wR;refine Gd.ite (λhc=>?_) (λhc=>?_)
   ·have hc2:=hmem.1 ((hs y).1 hc)
    unfold ri;refine Gd.nd (by simp only [Sq,Ro]; omega) (hnx _ ⟨pre++[y],by rw [J]; simp,by simp [Z],O.1,O.2,?_⟩)
    simp only;rw [TV,R4,RP,Vv,Qx hc2]
    rfl
   ·have hc2:¬ (List.range i).any (λj=>decide (t.bR[j]? = t.bR[i]?))=true:=λhh=>by
     have:=(hs y).2 (hmem.2 hh);rw [this] at hc; cases hc
    unfold ri;refine hnx _ ⟨pre++[y],by rw [J]; simp,by simp [Z],O.1,O.2,?_⟩
    simp only;rw [TV,R4,RP,Vv,Qw hc2];simp
  ·rintro i ⟨seen,free⟩ ⟨pre,J,Z,hk,hs,e⟩
   simp only at e;rw [Q8] at J;subst e;have hi:i=t.bR.length:=by rw [<- Z,<- J]
   subst hi;have I:I5 (bA.mk t (n.aH.map (λb=>((GZ n t.qp b).2.1:Int))) (n.aH.map (λb=>((GZ n t.qp b).2.2:Int))) l3 l4 ((fr t.bR).map (λx:Nat=>(x:Int))) []) (fr t.bR).length t.bR.length (Cj t.bR) (Ak n t.qp) tq:=by
    refine ⟨Dw hN,Og _,λi j hi hj e=>zk hi hj e,λi hi=>(F6.1 (Du hi)).1,hN,hE.ll,hE.el,?_,?_,by show l3.length=_; rw [e3]; simp [Ak],λk y hy=>?_⟩
    ·simp [Ak]
    ·simp [Ak]
    ·obtain ⟨b,hb,y1,y2,y3⟩:=hB k y hy
     exact ⟨GZ n t.qp b,by unfold Ak; rw [QW,hb]; rfl,y1,y2,y3⟩
   have hinv:=Ik I (Gl h hn ht) (Gk hE (Dw hN) (λi j hi hj e=>zk hi hj e));refine Gd.eM hinv ?_;rintro _ ⟨rows,rfl,hI⟩;refine Gd.ret ⟨_,rfl,⟨rfl,?_,e4,hC,hI⟩⟩;exact ⟨I.hn,I.free,I.inj,I.lt,I.hN,I.ll,I.el,I.fr,I.to,I.bl,I.b⟩
def NL (l:List LR) (N:Nat) (P:Nat->LR->Prop):Prop:=l.length=N/\∀ (b:Nat) (y:LR),l[b]? = some y->P b y
theorem NL.mono {l:List LR}{N:Nat}{P P':Nat->LR->Prop} (h:NL l N P) (k:∀ b y,b<N->P b y->P' b y):NL l N P':=
 ⟨h.1,λb y I=>k b y (by rw [<- h.1]; exact (Qt.1 I).1) (h.2 b y I)⟩
theorem NL.set {l:List LR}{N:Nat}{P:Nat->LR->Prop} (h:NL l N P) {b:Nat}{y:LR} (O:P b y):NL (l.set b y) N P:=by
 refine ⟨by rw [RM]; exact h.1,λJ Y I=>?_⟩
 by_cases e:b=J
 ·subst e
  have hl:b<l.length:=by
   have:=(Qt.1 I).1
   rwa [RM] at this
  rw [QU hl] at I;obtain rfl:=Qs I;exact O
 ·rw [QQ e] at I
  exact h.2 J Y I
theorem NL.snoc {l:List LR}{N:Nat}{P:Nat->LR->Prop} (h:NL l N P) {y:LR} (O:P N y):NL (l++[y]) (N+1) P:=by
 refine ⟨by simp [h.1],λb Y I=>?_⟩
 by_cases e:b<l.length
 ·rw [RF e] at I
  exact h.2 b Y I
 ·have J:=(Qt.1 I).1
  rw [QJ,Ro] at J;obtain rfl:b=l.length:=by omega
  rw [Q2 (QM _),RK] at I;obtain rfl:=Qs I;rw [h.1]; exact O
theorem NL.get {R:Type}{Q:R->Prop}{l:List LR}{N:Nat}{P:Nat->LR->Prop} (h:NL l N P) {b:Nat} (I:b<N) {f:LR->Option R} (J:∀ y,P b y->Gd (f y) Q):Gd (idx l (b:Int) f) Q:=by
 have hl:b<l.length:=by rw [h.1]; exact I
 exact Gd.iP hl (J _ (h.2 b _ (Qp hl)))
theorem Mg {n:Net}{t:a_}{M:bA} (hM:Md n t M) (ht:uR n t) (hn:pF n) {p:List Int} (hp:p.length=n.bD.length) (hb:∀ z ∈ p,-100000<=z/\z<=100000):
  Gd (oN M p) (λr=>NL r t.bR.length (λ_ y=>py y/\RL y 2/\∃ z:Int,rv y=(z:Rat)/\-2400000<=z/\z<=2400000)):=by
 have h24:=hn.l1;have hN:=ht.I6;unfold oN eT;rw [hM.top];refine Gd.nd (by omega) ?_
 rw [Qr];refine Gd.dO (λi ys s=>∃ pre,p=pre++ys/\pre.length=i/\s.length=t.bR.length/\∀ z ∈ s,-100000*(i:Int)<=z/\z<=100000*(i:Int)) ?_ ?_ p 0 _ ⟨[],rfl,rfl,by simp,λz hz=>by
  have:=Vu hz;omega⟩
 ·rintro i y ys s nx ⟨pre,I,Y,hsl,hs⟩ O
  have hi:i<n.bD.length:=by rw [<- hp,I]; simp; omega
  have hy:=hb y (by rw [I]; simp)
  obtain ⟨v,v1,v2⟩:=FP hn ht hi;have hv:v<t.bR.length:=by
   have:=ht.bi _ (QB v1);omega
  have hvs:v<s.length:=by omega
  unfold qY;rw [hM.top];refine Gd.ix (by omega) (by rw [Qr]; exact v1) (Gd.iP hvs (Gd.iP hvs ?_))
  have hz:=hs _ (Q3 hvs);have hw:i64.wrap (s[v]+y)=s[v]+y:=bT ⟨by omega,by omega⟩
  rw [hw,Qr];refine O _ ⟨pre++[y],by rw [I]; simp,by simp [Y],by rw [RM]; exact hsl,λz hz'=>?_⟩
  rcases VD hz' with h1 | h1
  ·have:=hs z h1; omega
  ·subst h1; omega
 ·rintro i s ⟨pre,I,Y,hsl,hs⟩
  rw [Q8] at I;have hil:i<=24:=by rw [<- Y,<- I,hp]; exact h24
  refine Gd.dO (λk ys r=>∃ pre,s=pre++ys/\pre.length=k/\NL r k (λ_ y=>py y/\RL y 2/\∃ z:Int,rv y=(z:Rat)/\-2400000<=z/\z<=2400000)) ?_ ?_ s 0 _ ⟨[],rfl,rfl,rfl,λb y hb=>by simp at hb⟩
  ·rintro k y ys r nx ⟨pre,J,Z,hr⟩ O
   have hy:=hs y (by rw [J]; simp)
   have hkl:s.length=pre.length+(ys.length+1):=by rw [J]; simp
   have hrl:=hr.1;unfold qZ;refine Gd.eM (vj (by omega)) (λw hw=>Gd.nd (by simp; omega) (O _ ⟨pre++[y],by rw [J]; simp,by simp [Z],hr.snoc ⟨hw.1,hw.2.1,y,hw.2.2,by omega,by omega⟩⟩))
  ·rintro k r ⟨pre,J,Z,hr⟩
   rw [Q8] at J;have hkn:k=t.bR.length:=by rw [<- Z,<- J,hsl]
   subst hkn;exact Gd.ret hr
theorem Na {a b:List LR}{n W:Nat}{A B:Nat->Rat} (hn:n<=24) (hW:W<=6000) (ha:NL a n (λj y=>py y/\RL y W/\rv y=A j)) (hb:NL b n (λj y=>py y/\RL y W/\rv y=B j)):
  Gd (tW a b) (λr=>py r/\rv r=sm n (λj=>A j*B j)):=by
 unfold tW;refine Gd.eM (vj (n:=0) (by omega)) (λz hz=>?_)
 rw [ha.1,Qr];refine Gd.kW (λm k s=>k+m=n/\∃ r:LR,s=(r.N.minus,r.N.words,r.D.minus,r.D.words)/\py r/\RL r (2+(2*W+1)*k)/\rv r=sm k (λj=>A j*B j)) ?_ ?_ n 0 _ ⟨by omega,z,rfl,hz.1,hz.2.1,by rw [hz.2.2]; rfl⟩
 ·rintro m k _ nx ⟨hk,r,rfl,hr,J,hv⟩ Z
  have I:k<n:=by omega
  have hbig:(2*W+1)*k<=(2*W+1)*23:=VR _ (by omega)
  have hsucc:(2*W+1)*(k+1)=(2*W+1)*k+(2*W+1):=Nat.mul_succ _ _;unfold uW;refine ha.get I (λy hy=>?_);have skip:A k*B k=0->Gd (mE nx r.N.minus r.N.words r.D.minus r.D.words) (λr=>py r/\rv r=sm n (λj=>A j*B j)):=λh0=>by
   unfold mE;refine Z _ ⟨by omega,r,rfl,hr,J.mono (by omega),?_⟩
   rw [hv];show _=sm k (λj=>A j*B j)+A k*B k;rw [h0]; grind
  rw [xR hy.1,hy.2.2];refine Gd.ite (λh=>skip (by rw [of_decide_eq_true h]; grind)) (λ_=>hb.get I (λu hu=>?_))
  rw [xR hu.1,hu.2.2];refine Gd.ite (λ_=>ha.get I (λy2 Y=>hb.get I (λu2 O=>?_))) (λh=>skip (by
   have h1:decide (B k=0)=true:=by simpa using h
   rw [of_decide_eq_true h1]; grind))
  refine Gd.eM (zz Y.1 O.1 Y.2.1 O.2.1 (by omega)) (λc hc=>Gd.eM (w6 (a:=⟨⟨r.N.minus,r.N.words⟩,⟨r.D.minus,r.D.words⟩⟩) hr hc.1 J hc.2.1 (by omega)) (λd hd=>?_))
  unfold mE;refine Z _ ⟨by omega,d,rfl,hd.1,hd.2.1.mono (by omega),?_⟩
  rw [hd.2.2,hc.2.2,Y.2.2,O.2.2];show rv r+_=sm k (λj=>A j*B j)+A k*B k;rw [hv]
 ·rintro k _ ⟨hk,r,rfl,hr,J,hv⟩
  obtain rfl:k=n:=by omega
  exact Gd.ret ⟨hr,hv⟩
theorem Lm {q s:Int} (hq:500<=q) (hs:-1000<=s/\s<=1000):-2000<=(tq / (q:Rat))*((s:Rat) / ((1000:Int):Rat))/\(tq / (q:Rat))*((s:Rat) / ((1000:Int):Rat))<=2000/\(tq / (q:Rat))*((s:Rat) / ((1000:Int):Rat))=(((1000*s:Int):Rat)) / (q:Rat):=by
 have O:((500:Int):Rat)<=(q:Rat):=Wb.2 hq;have Z:((-1000:Int):Rat)<=(s:Rat):=Wb.2 hs.1;have h3:(s:Rat)<=((1000:Int):Rat):=Wb.2 hs.2;have e1:((500:Int):Rat)=500:=rfl;have e2:((-1000:Int):Rat) = -1000:=by rw [Wd]; rfl
 have J:((1000:Int):Rat)=1000:=rfl;have Y:tq=1000000:=rfl;rw [e1] at O; rw [e2] at Z; rw [J] at h3 ⊢
 have p:0<((q:Rat))⁻¹:=Rat.inv_pos.2 (by grind)
 have i1:=Rat.mul_inv_cancel (q:Rat) (by grind)
 have i2:=Rat.mul_le_mul_of_nonneg_right O (Rat.le_of_lt p);have i3:(q:Rat)⁻¹<=1 / 500:=by grind
 have I:(tq / (q:Rat))*((s:Rat) / 1000)=(1000*(s:Rat))*(q:Rat)⁻¹:=by rw [Y,Rat.div_def,Rat.div_def]; grind
 have m:=A_ (x:=1000*(s:Rat)) (y:=(q:Rat)⁻¹) (a:=1000000) (b:=1 / 500) (by grind) (by grind) (by grind) i3
 refine ⟨by rw [I]; grind,by rw [I]; grind,?_⟩
 rw [I,Wc,J,Wa]
def Lg (l:List (Rat×Nat×Nat)) (W:Nat) (C:Rat) (b:Nat) (y:LR):Prop:=py y/\RL y W/\uC (uv b l*rv y)/\-C<=rv y/\rv y<=C
theorem Lg.mono {l:List (Rat×Nat×Nat)}{W J:Nat}{C I:Rat}{b:Nat}{y:LR} (h:Lg l W C b y) (O:W<=J) (Y:C<=I):Lg l J I b y:=
 ⟨h.1,h.2.1.mono O,h.2.2.1,by have:=h.2.2.2.1; grind,by have:=h.2.2.2.2; grind⟩
theorem G7 {a:Rat} (h:uC a):uC (-a):=by
 obtain ⟨z,rfl⟩:=h;exact ⟨-z,by rw [Wd]⟩
theorem Lg.sub {l:List (Rat×Nat×Nat)}{W:Nat}{C:Rat}{b:Nat}{y c:LR} (h:Lg l W C b y) (hc:Lg l 4 2000 b c) (hW:W<=1000):Gd (kz y c) (Lg l (W+5) (C+2000) b):=by
 obtain ⟨a1,J,O,a4,a5⟩:=h;obtain ⟨Y,Z,c3,c4,c5⟩:=hc;refine (x_ a1 Y J Z (by omega)).mono (λr I=>⟨I.1,I.2.1.mono (by omega),?_,?_,?_⟩)
 ·rw [I.2.2]
  have e:uv b l*(rv y-rv c)=uv b l*rv y+-(uv b l*rv c):=by grind
  rw [e]; exact zl O (G7 c3)
 ·rw [I.2.2]; grind
 ·rw [I.2.2]; grind
theorem Lg.add {l:List (Rat×Nat×Nat)}{W:Nat}{C:Rat}{b:Nat}{y c:LR} (h:Lg l W C b y) (hc:Lg l 4 2000 b c) (hW:W<=1000):Gd (iS y c) (Lg l (W+5) (C+2000) b):=by
 obtain ⟨a1,J,O,a4,a5⟩:=h;obtain ⟨Y,Z,c3,c4,c5⟩:=hc;refine (w6 a1 Y J Z (by omega)).mono (λr I=>⟨I.1,I.2.1.mono (by omega),?_,?_,?_⟩)
 ·rw [I.2.2]
  have e:uv b l*(rv y+rv c)=uv b l*rv y+uv b l*rv c:=by grind
  rw [e]; exact zl O c3
 ·rw [I.2.2]; grind
 ·rw [I.2.2]; grind
theorem Kd {n:Net}{t:a_}{M:bA} (I:Md n t M) {k:Nat}{b:aK} (J:n.aH[k]? = some b):
  M.pQ[k]? = some ((GZ n t.qp b).2.1:Int)/\M.To[k]? = some ((GZ n t.qp b).2.2:Int)/\(Ak n t.qp)[k]? = some (GZ n t.qp b):=by
 have e:(Ak n t.qp)[k]? = some (GZ n t.qp b):=by unfold Ak; rw [QW,J]; rfl
 refine ⟨?_,?_,e⟩
 ·rw [I.md.fr]; exact De (λe:Rat×Nat×Nat=>(e.2.1:Int)) e
 ·rw [I.md.to]; exact De (λe:Rat×Nat×Nat=>(e.2.2:Int)) e
theorem Ph {n:Net}{t:a_}{M:bA} (h:px n) (hn:pF n) (hM:Md n t M) (ht:uR n t) {k:Nat}{c:LR} (hc:M.C[k]? = some c):
  ∃ b,n.aH[k]? = some b/\Lg (Ak n t.qp) 4 2000 (GZ n t.qp b).2.1 c/\Lg (Ak n t.qp) 4 2000 (GZ n t.qp b).2.2 c:=by
 obtain ⟨b,J,O,Y,c3⟩:=hM.c k c hc;have V:=HR h (QB J);have Z:=Br h hn ht;obtain ⟨_,_,e⟩:=Kd hM J;have hm:=QB e;have hs:=V.s;obtain ⟨d1,d2,d3⟩:=Lm (q:=b.X*b.A0) (s:=0-b.Shift) V.q.1 (by omega)
 rw [<- c3] at d1 d2 d3;have I:=λ(u:Nat) hu=>DU (u:=u) (l:=Ak n t.qp) (λe he=>⟨(zx Z he).1,by have:=(zx Z he).2.1; grind⟩) _ hm hu (((1000*(0-b.Shift):Int)):Rat) ⟨_,rfl⟩
 refine ⟨b,J,⟨O,Y,?_,d1,d2⟩,⟨O,Y,?_,d1,d2⟩⟩
 ·rw [d3]; exact I _ (.inl rfl)
 ·rw [d3]; exact I _ (.inr rfl)
theorem zN (k:Nat):(((k+1:Nat):Int):Rat)=((k:Int):Rat)+1:=by rw [Vl,Rat.intCast_add]; rfl
theorem LH {n:Net}{t:a_}{M:bA} (h:px n) (hn:pF n) (hM:Md n t M) (ht:uR n t) {p:List LR}
  (hp:NL p t.bR.length (λ_ y=>py y/\RL y 2/\∃ z:Int,rv y=(z:Rat)/\-2400000<=z/\z<=2400000)) {Q:List LR->Prop}{K:List LR->Option (List LR)} (hK:∀ s,NL s t.bR.length (Lg (Ak n t.qp) 300 2500000)->Gd (K s) Q):
  Gd (dO (λk y s n=>nI M k y s n) K 0 M.C p) Q:=by
 have hE:=Br h hn ht;have hcl:=hM.Di;have h24:=h.l3;refine Gd.dO (λk ys s=>∃ pre,M.C=pre++ys/\pre.length=k/\NL s t.bR.length (Lg (Ak n t.qp) (2+10*k) (2400000+4000*((k:Int):Rat)))) ?_ ?_ M.C 0 p ⟨[],rfl,rfl,hp.mono (λb y hb Y=>?_)⟩
 ·rintro k c ys s nx ⟨pre,J,O,hs⟩ hnx
  have hck:M.C[k]? = some c:=by rw [J,Q2 (by omega),O,RK]; rfl
  obtain ⟨b,hb,g1,g2⟩:=Ph h hn hM ht hck;obtain ⟨f1,f2,f3⟩:=Kd hM hb;have I:=hE.el _ (QB f3);have hk24:k<24:=by have:=(Qt.1 hck).1; omega
  generalize GZ n t.qp b=e at g1 g2 f1 f2 f3 I;unfold nI;refine Gd.ix (by omega) (by rw [Qr]; exact f1) (Gd.ix (by omega) (by rw [Qr]; exact f1) (hs.get I.1 (λy Y=>Gd.eM (Y.sub g1 (by omega)) (λr hr=>hs.get I.1 (λ_ _=>?_)))))
  have c0:(2400000+4000*((k:Int):Rat))<=(2400000+4000*((k:Int):Rat))+2000:=by grind
  have Z:=(hs.mono (P':=Lg (Ak n t.qp) (2+10*k+5) (2400000+4000*((k:Int):Rat)+2000)) (λb y _ Y=>Y.mono (by omega) c0)).set (b:=e.2.1) hr
  refine Gd.ix (by omega) (by rw [Qr]; exact f2) (Gd.ix (by omega) (by rw [Qr]; exact f2) ?_)
  rw [Qr,Qr];refine Z.get I.2 (λy2 hy2=>Gd.eM (hy2.add g2 (by omega)) (λr2 hr2=>Z.get I.2 (λ_ _=>?_)))
  have c1:(2400000+4000*((k:Int):Rat))+2000<=2400000+4000*(((k+1:Nat):Int):Rat):=by rw [zN]; grind
  have c2:(2400000+4000*((k:Int):Rat))+2000+2000<=2400000+4000*(((k+1:Nat):Int):Rat):=by rw [zN]; grind
  exact hnx _ ⟨pre++[c],by rw [J]; simp,by simp [O],(Z.mono (λb y _ Y=>Y.mono (by omega) c1)).set (hr2.mono (by omega) c2)⟩
 ·rintro k s ⟨pre,J,O,hs⟩
  rw [Q8] at J;have hk24:k<=24:=by rw [<- O,<- J]; omega
  have hc:((k:Int):Rat)<=((24:Int):Rat):=Wb.2 (by omega)
  have e24:((24:Int):Rat)=24:=rfl;rw [e24] at hc;exact hK s (hs.mono (λb y _ Y=>Y.mono (by omega) (by grind)))
 ·obtain ⟨y1,y2,z,y3,y4,y5⟩:=Y
  have e0:(((0:Nat):Int):Rat)=0:=rfl;have a:=Wb.2 y4;have b:=Wb.2 y5;have e1:((2400000:Int):Rat)=2400000:=rfl;rw [Wd,e1] at a;rw [e1] at b;refine ⟨y1,y2,?_,?_,?_⟩
  ·rw [y3]
   exact sD (AL (λe he=>(zx hE he).1)) ⟨z,rfl⟩
  ·rw [y3,e0]; grind
  ·rw [y3,e0]; grind
def An (D:Rat) (y:LR):Prop:=py y/\∃ T,uC T/\-wq 140<=T/\T<=wq 140/\rv y=T / D
structure Dv (D:Rat):Prop where
 i:uC D
 z:D≠0
 a:-wq 60<=D
 b:D<=wq 60
theorem J3:uC 0:=⟨0,rfl⟩
theorem An.rb {D:Rat} (I:Dv D) {y:LR} (h:An D y):RB (rv y) 141:=by
 obtain ⟨_,T,t1,t2,t3,e⟩:=h;rw [e];have:=yb (show 60<=140 by omega)
 have J:=I.a;have O:=I.b;exact zy t1 I.i t2 t3 (by grind) (by grind) I.z (by omega)
theorem An.zero {D:Rat}{y:LR} (J:py y) (I:rv y=0):An D y:=⟨J,0,J3,by have:=vW 140; grind,by have:=vW 140; grind,by rw [I,Rat.div_def]; grind⟩
theorem MS {f:Nat->Rat}{b:Rat} (I:0<=b):∀ {n:Nat},(∀ i,i<n->-b<=f i/\f i<=b)->-(((n:Int):Rat)*b)<=sm n f/\sm n f<=((n:Int):Rat)*b
 | 0,_=>by
  show -((((0:Nat):Int):Rat)*b)<=0/\0<=((((0:Nat):Int):Rat)*b);have e:((((0:Nat):Int)):Rat)=0:=rfl;rw [e]; grind
 | n+1,h=>by
  have J:=MS I (n:=n) (λi hi=>h i (by omega))
  have O:=h n (by omega)
  rw [zN];show _<=sm n f+f n/\sm n f+f n<=_
  grind
theorem Jl {n:Nat}{A B m:Mt}{L R:Nat->Rat} (h:Nb n A L B R) (J:Pd n A) (hn:n<=23) (hG:Gj n A n m) {i:Nat} (hi:i<n) {x:Nat->Rat} (hx:∀ p,p<n->uC (L p*x p)/\-2500000<=x p/\x p<=2500000) {y:LR} (hy:py y)
  (e:rv y=sm n (λp=>m i (n+p)*x p)):An (Dk A L n) y:=by
 have d0:=(h.D0 J (QM n)).1;have key:∀ p,p<n->∃ T,uC T/\-wq 139<=T/\T<=wq 139/\m i (n+p)*x p=T*(Dk A L n)⁻¹:=λp I=>by
  obtain ⟨N,n1,n2,n3,e1⟩:=hG.num h.s (QM n) hi I;rw [Qw (by omega)] at e1
  have Y:m i (n+p)*Dk A L n=N*L p:=by
   have e2:1*m i (n+p)*Dk A L n=N*L p:=e1
   grind
  obtain ⟨x1,x2,x3⟩:=hx p I;have hP:=h.hP;have p1:1<=pr n R:=DQ (λj hj=>h.s.R1 hj);have r1:=h.s.R1 hi;have r2:=h.R hi;have hNb:pr n R*R i<=wq 120:=by
   rw [<- vV 60 60];exact qI hP r2 (by grind) (by grind)
  have l1:=h.s.l1 p I;have l2:=h.hL p I;have w1:(2500000:Rat)<=wq 1:=by
   have:((2500000:Int):Rat)<=(((WB ^ 1:Nat):Int):Rat):=Wb.2 (by decide)
   exact this
  have Z:=A_ (x:=L p) (y:=x p) (a:=wq 18) (b:=wq 1) (by have:=vW 18; grind) l2 (by grind) (by grind)
  rw [vV] at Z;have q2:=A_ (x:=N) (y:=L p*x p) (a:=wq 120) (b:=wq (18+1)) (by grind) (by grind) Z.1 Z.2
  rw [vV] at q2;refine ⟨N*(L p*x p),sD n1 x1,q2.1,q2.2,?_⟩;have i1:=Rat.mul_inv_cancel _ d0;have e3:m i (n+p)=N*L p*(Dk A L n)⁻¹:=by rw [<- Y]; grind
  rw [e3]; grind
 have:∃ T:Nat->Rat,∀ p,p<n->uC (T p)/\-wq 139<=T p/\T p<=wq 139/\m i (n+p)*x p=(Dk A L n)⁻¹*T p:=by
  refine ⟨λp=>m i (n+p)*x p*Dk A L n,λp I=>?_⟩;obtain ⟨T,t1,t2,t3,t4⟩:=key p I;have i1:=Rat.mul_inv_cancel _ d0;have e2:m i (n+p)*x p*Dk A L n=T:=by rw [t4]; grind
  simp only;rw [e2];exact ⟨t1,t2,t3,by rw [t4]; grind⟩
 obtain ⟨T,O⟩:=this;have hs:sm n (λp=>m i (n+p)*x p)=(Dk A L n)⁻¹*sm n T:=by
  rw [<- rK];exact pq (λp J=>(O p J).2.2.2)
 have hb:=MS (f:=T) (b:=wq 139) (by have:=vW 139; grind) (n:=n) (λp J=>⟨(O p J).2.1,(O p J).2.2.1⟩)
 have hn2:((n:Int):Rat)*wq 139<=wq 140:=by
  have e1:wq 1*wq 139=wq 140:=vV 1 139;rw [<- e1];have h1:((n:Int):Rat)<=wq 1:=Wb.2 (show (n:Int)<=((WB ^ 1:Nat):Int) by
   have:((WB ^ 1:Nat):Int)=4294967296:=by decide
   rw [this]; omega)
  exact Rat.mul_le_mul_of_nonneg_right h1 (by have:=vW 139; grind)
 refine ⟨hy,sm n T,Gb (λp J=>(O p J).1),by grind,by grind,?_⟩
 rw [e,hs,Rat.div_def]; grind
theorem An.mk' {D:Rat} (I:Dv D) {y z:LR} (h:An D y) (k:An D z):RB (rv y-rv z) 142:=by
 obtain ⟨_,T,t1,t2,t3,e⟩:=h;obtain ⟨_,U,u1,u2,Y,f⟩:=k;have e1:rv y-rv z=(T+-U) / D:=by rw [e,f,Rat.div_def,Rat.div_def,Rat.div_def]; grind
 have w:wq 140+wq 140<=wq 141:=by
  have e2:wq 1*wq 140=wq 141:=vV 1 140;rw [<- e2];have J:((2:Int):Rat)<=wq 1:=Wb.2 (by decide)
  have O:((2:Int):Rat)=2:=rfl;rw [O] at J;have:=Rat.mul_le_mul_of_nonneg_right J (show 0<=wq 140 by have:=vW 140; grind)
  grind
 rw [e1];have Z:=yb (show 60<=141 by omega)
 have d1:=I.a;have d2:=I.b;exact zy (zl t1 (G7 u1)) I.i (by grind) (by grind) (by grind) (by grind) I.z (by omega)
def Od (n:Net) (t:a_):Rat:=Dk (LC (Cj t.bR) (Ak n t.qp)) (λi=>uv (Cj t.bR i) (Ak n t.qp)) (fr t.bR).length
theorem JC {n:Net} (h:px n) (hn:pF n) {t:a_} (ht:uR n t):Dv (Od n t):=by
 have J:=Br h hn ht;have I:=Gk J (Dw ht.I6) (λi j hi O e=>zk hi O e);have Y:=Gl h hn ht;obtain ⟨a,b,c⟩:=I.Db (QM _);exact ⟨a,(I.D0 Y (QM _)).1,b,c⟩
theorem HP {n:Net}{t:a_}{M:bA} (h:px n) (hn:pF n) (hM:Md n t M) (ht:uR n t) {s:List LR} (hs:NL s t.bR.length (Lg (Ak n t.qp) 300 2500000)):
  Gd (nh M s) (λr=>NL r t.bR.length (λ_ y=>An (Od n t) y)):=by
 have hE:=Br h hn ht;have hnf:=Dw ht.I6;have hNb:=Gk hE hnf (λi j hi O e=>zk hi O e);have hp:=Gl h hn ht;have hfl:M.qT.length=(fr t.bR).length:=by rw [hM.md.free]; simp
 have hfr:∀ k (y:Int),M.qT[k]? = some y->k<(fr t.bR).length/\y=(Cj t.bR k:Int):=λk y Y=>by
  have hk1:=(Qt.1 Y).1;rw [hM.md.free,QW,Sv (by omega)] at Y
  exact ⟨by omega,(Qs Y).symm⟩
 obtain ⟨m,hG,hR⟩:=hM.inv.ex;unfold nh;rw [hfl,Qr];refine Gd.nd (by omega) ?_
 refine Gd.dO (λk ys r=>∃ pre,M.qT=pre++ys/\pre.length=k/\r.length=(fr t.bR).length/\∀ j,j<k->r[j]? = s[Cj t.bR j]?) ?_ ?_ M.qT 0 _ ⟨[],rfl,rfl,by simp,λj O=>by omega⟩
 ·rintro k y ys r nx ⟨pre,I,J,hrl,hr⟩ hnx
  obtain ⟨Y,rfl⟩:=hfr k y (by rw [I,Q2 (by omega),J,RK]; rfl)
  have Z:=hM.md.lt k Y;unfold pY;refine Gd.iP (by rw [hs.1]; exact Z) (Gd.iP (by omega) ?_)
  rw [Qr];refine hnx _ ⟨pre++[(Cj t.bR k:Int)],by rw [I]; simp,by simp [J],by rw [RM]; exact hrl,λj O=>?_⟩
  by_cases e:k=j
  ·subst e
   rw [QU (by omega),Qp]
  ·rw [QQ e]; exact hr j (by omega)
 ·rintro k r ⟨pre,I,J,hrl,hr⟩
  rw [Q8] at I;have Y:k=(fr t.bR).length:=by rw [<- J,<- I,hfl]
  subst Y;unfold eT;rw [hM.top];refine Gd.eM (zD (by have:=ht.I6; omega)) ?_
  rintro _ ⟨z,rfl,z1,z2,z3⟩;have hx:∀ j,j<(fr t.bR).length->∃ y,r[j]? = some y/\Lg (Ak n t.qp) 300 2500000 (Cj t.bR j) y:=λj O=>by
   have Z:=hM.md.lt j O;have hl:Cj t.bR j<s.length:=by rw [hs.1]; exact Z
   have hsj:=Qp hl;exact ⟨s[Cj t.bR j],by rw [hr j O,hsj],hs.2 _ _ hsj⟩
  have hb:NL r (fr t.bR).length (λj y=>py y/\RL y 6000/\rv y=((r[j]?).map rv).getD 0):=⟨hrl,λj y O=>by
   have hj1:=(Qt.1 O).1;obtain ⟨y2,e,g⟩:=hx j (by omega)
   rw [O] at e;obtain rfl:=Qs e;exact ⟨g.1,g.2.1.mono (by omega),by rw [O]; rfl⟩⟩
  have hxx:∀ p,p<(fr t.bR).length->uC (uv (Cj t.bR p) (Ak n t.qp)*((r[p]?).map rv).getD 0)/\-2500000<=((r[p]?).map rv).getD 0/\((r[p]?).map rv).getD 0<=2500000:=λp hp=>by
   obtain ⟨y2,e,g⟩:=hx p hp;rw [e];exact ⟨g.2.2.1,g.2.2.2.1,g.2.2.2.2⟩
  refine Gd.dO (λk ys o=>∃ pre,M.qT=pre++ys/\pre.length=k/\NL o t.bR.length (λ_ y=>An (Od n t) y)) ?_ ?_ M.qT 0 _ ⟨[],rfl,rfl,⟨by simp,λb y hb=>by
   have:=Vu (QB hb);subst this;exact An.zero z1 z3⟩⟩
  ·rintro k y ys o nx ⟨pre,I,J,ho⟩ hnx
   obtain ⟨Y,rfl⟩:=hfr k y (by rw [I,Q2 (by omega),J,RK]; rfl)
   have Z:=hM.md.lt k Y;obtain ⟨row,w1,w2,w3⟩:=hR.row k Y;have ha:NL row (fr t.bR).length (λj y=>py y/\RL y 6000/\rv y=m k ((fr t.bR).length+j)):=⟨w2,λj y O=>by
    have hj1:=(Qt.1 O).1;obtain ⟨y2,e,g⟩:=w3 j (by omega)
    rw [O] at e;obtain rfl:=Qs e;exact g⟩
   unfold pZ;refine Gd.ix (by omega) (by rw [Qr]; exact w1) (Gd.eM (Na (by omega) (by omega) ha hb) (λd hd=>ho.get Z (λ_ _=>?_)))
   rw [Qr];exact hnx _ ⟨pre++[(Cj t.bR k:Int)],by rw [I]; simp,by simp [J],ho.set (Jl hNb hp hnf hG Y hxx hd.1 hd.2)⟩
  ·rintro k o ⟨_,_,_,ho⟩
   exact Gd.ret ho
theorem HG {n:Net}{t:a_}{M:bA} (h:px n) (hn:pF n) (I:Md n t M) (ht:uR n t) {p:List LR}
  (J:NL p t.bR.length (λ_ y=>py y/\RL y 2/\∃ z:Int,rv y=(z:Rat)/\-2400000<=z/\z<=2400000)):Gd (ng M p) (λr=>NL r t.bR.length (λ_ y=>An (Od n t) y)):=by
 have Y:=ht.I6;have Z:=J.1;unfold ng;exact Gd.nd (by omega) (LH h hn I ht J (λs hs=>Gd.eM (HP h hn I ht hs) (λr O=>Gd.ret O)))
theorem I1 {n:Net}{t:a_}{M:bA} (h:px n) (hn:pF n) (O:Md n t M) (ht:uR n t) {a:List LR} (ha:NL a t.bR.length (λ_ y=>An (Od n t) y)):
  Gd (nZ M a) (λr=>NL r n.aH.length (λ_ y=>py y/\fits (rv y))):=by
 have hE:=Br h hn ht;have hD:=JC h hn ht;have hcl:=O.Di;have h24:=h.l3;unfold nZ;refine Gd.dO (λk ys r=>∃ pre,M.C=pre++ys/\pre.length=k/\NL r k (λ_ y=>py y/\fits (rv y))) ?_ ?_ M.C 0 _ ⟨[],rfl,rfl,rfl,λb y hb=>by simp at hb⟩
 ·rintro k c ys r nx ⟨pre,I,J,hr⟩ hnx
  have Z:M.C[k]? = some c:=by rw [I,Q2 (by omega),J,RK]; rfl
  have hk24:k<24:=by have:=(Qt.1 Z).1; omega
  obtain ⟨b,hb,c1,c2,c3⟩:=O.c k c Z;obtain ⟨f1,f2,f3⟩:=Kd O hb;have hlt:=hE.el _ (QB f3);have Y:k<M.B_.length:=by rw [O.md.bl]; exact (Qt.1 f3).1
  obtain ⟨e,e1,b1,b2,b3⟩:=O.md.b k M.B_[k] (Qp Y);rw [f3] at e1;obtain rfl:=Qs e1;obtain ⟨q,q1,q2,q3⟩:=hE.q _ (QB f3);have hBR:RB (rv M.B_[k]) 1:=by
   rw [b3,q1];exact RB.Pm (by decide) (by omega) (by omega)
  have hrl:=hr.1;unfold qG;refine Gd.ix (by omega) (by rw [Qr]; exact Qp Y) (Gd.ix (by omega) (by rw [Qr]; exact f1) (ha.get hlt.1 (λy hy=>Gd.ix (by omega) (by rw [Qr]; exact f2) (ha.get hlt.2 (λz hz=>?_)))))
  refine Gd.eM (x_ hy.1 hz.1 (hy.1.rb (hy.rb hD)) (hz.1.rb (hz.rb hD)) (by omega)) (λd hd=>?_)
  have hdR:RB (rv d) 142:=by rw [hd.2.2]; exact hy.mk' hD hz
  refine Gd.eM (zz b1 hd.1 (b1.rb hBR) (hd.1.rb hdR) (by omega)) (λf hf=>?_)
  refine Gd.eM (w6 hf.1 c1 hf.2.1 c2 (by omega)) (λg hg=>Gd.nd (by simp; omega) (hnx _ ⟨pre++[c],by rw [I]; simp,by simp [J],hr.snoc ⟨hg.1,?_⟩⟩))
  exact RB.fits ⟨g,hg.1,hg.2.1,rfl⟩ (by omega)
 ·rintro k r ⟨pre,I,J,hr⟩
  rw [Q8] at I;have hk:k=n.aH.length:=by rw [<- J,<- I,hcl]
  subst hk;exact Gd.ret hr
theorem Fv {l:List LR} (hl:l.length<=1000) (h:∀ y ∈ l,py y/\fits (rv y)):Gd (nV l) (λr=>r=(l.map (λy=>ctext (rv y)),0)):=by
 unfold nV;refine Gd.eM (P:=λr=>r=(l.map (λy=>ctext (rv y)),true)) ?_ (λr O=>by subst O; exact Gd.ite (λh=>by simp at h) (λ_=>Gd.ret rfl))
 unfold tJ;refine Gd.nd (by omega) ?_
 rw [Qr];refine Gd.dO (λk ys s=>∃ pre,l=pre++ys/\pre.length=k/\s=pre.map (λy=>ctext (rv y))++List.replicate ys.length (⟨#[]⟩:Qm)) ?_ ?_ l 0 _ ⟨[],rfl,rfl,by simp⟩
 ·rintro k y ys _ nx ⟨pre,J,I,rfl⟩ Y
  obtain ⟨y1,y2⟩:=h y (by rw [J]; simp)
  unfold tz;refine Gd.eM (KI y1) (λr O=>?_);have Z:=O.1.2 y2;refine Gd.ite (λhh=>by rw [Z] at hh; simp at hh) (λ_=>?_)
  refine Gd.ix (y:=⟨#[]⟩) (by omega) ?_ (Y _ ⟨pre++[y],by rw [J]; simp,by simp [I],?_⟩)
  ·rw [Qr,Q2 (by simp [I]),Sq,I,RK,QA,SZ]; rfl
  ·rw [Qr,VF _ _ (by simp [I]),Sq,I,RK,QA,SZ,List.set_cons_zero,O.2 Z]
   simp
 ·rintro k _ ⟨pre,J,I,rfl⟩
  rw [Q8] at J;subst J;exact Gd.ret (by simp)
structure MZ (n:Net) (t:a_) (s:cG):Prop where
 al:s.fD.length=t.bR.length
 fl:s.eO.length=n.aH.length
 a:∀ x ∈ s.fD,∃ q,fits q/\x=ctext q
 f:∀ x ∈ s.eO,∃ q,fits q/\x=ctext q
theorem NL.all {l:List LR}{N:Nat}{P:LR->Prop} (h:NL l N (λ_ y=>P y)):∀ y ∈ l,P y:=λy I=>by
 obtain ⟨i,hi,rfl⟩:=RG.1 I;exact h.2 i _ (Qp hi)
theorem KP {n:Net}{p:List Int} (h:px n) (hn:pF n) {t:a_} (hg:dZ n=some t) (ht:uR n t) (hp:p.length=n.bD.length) (hb:∀ z ∈ p,-100000<=z/\z<=100000) (hc:nH n p=some 0):
  Gd (nJ n p) (λr=>r.2=0/\MZ n t r.1):=by
 have hN:=ht.I6;have h24:=h.l3;unfold nJ;refine Gd.bind_eq hc (Gd.ite (λh=>by simp at h) (λ_=>?_))
 refine Gd.eM (E4 h hn hg ht) ?_;rintro _ ⟨M,rfl,O⟩;simp only [yU];refine Gd.eM (Mg O ht hn hp hb) (λsm hsm=>Gd.eM (HG h hn O ht hsm) (λa J=>?_));have hD:=JC h hn ht;have Z:=J.1;refine Gd.eM (Fv (by omega) (λy I=>⟨(J.all y I).1,(An.rb hD (J.all y I)).fits (by omega)⟩)) ?_
 rintro _ rfl;refine Gd.eM (I1 h hn O ht J) (λf Y=>?_);have hl2:=Y.1;refine Gd.eM (Fv (by omega) (λy I=>Y.all y I)) ?_
 rintro _ rfl;refine Gd.ite (λh=>by simp at h) (λ_=>Gd.ret ⟨rfl,by simp [Z],by simp [hl2],λx hx=>?_,λx hx=>?_⟩)
 ·obtain ⟨y,I,rfl⟩:=Rd.1 hx
  exact ⟨_,(An.rb hD (J.all y I)).fits (by omega),rfl⟩
 ·obtain ⟨y,I,rfl⟩:=Rd.1 hx
  exact ⟨_,(Y.all y I).2,rfl⟩
def acc {α:Type} (f:α->Int) (p:α->Nat) (k:Nat):List α->Int
 | []=>0
 | x::xs=>(if p x=k then f x else 0)+acc f p k xs
theorem Dd {α:Type}{f:α->Int}{p:α->Nat}{k:Nat}:∀ {l:List α},(∀ x ∈ l,0<=f x)->0<=acc f p k l
 | [],_=>S1 _
 | x::xs,h=>by
  have J:=h x (Qu ..);have O:=Dd (f:=f) (p:=p) (k:=k) (l:=xs) λy I=>h y (Qy _ I);unfold acc
  split <;> omega
theorem FK {α:Type}{f:α->Int}{p:α->Nat}{k:Nat}{B:Int} (I:0<=B):∀ {l:List α},(∀ x ∈ l,f x<=B)->acc f p k l<=B*l.length
 | [],_=>by simp [acc]
 | x::xs,h=>by
  have O:=h x (Qu ..);have Y:=FK (f:=f) (p:=p) (k:=k) (B:=B) I (l:=xs) λy J=>h y (Qy _ J);unfold acc;rw [QA,Vl,Vi]
  split <;> omega
theorem GU {α:Type}{f:α->Int}{p:α->Nat}{k:Nat}:∀ (a b:List α),acc f p k (a++b)=acc f p k a+acc f p k b
 | [],b=>by show acc f p k b=0+acc f p k b; omega
 | x::xs,b=>by
  have:=GU (f:=f) (p:=p) (k:=k) xs b;show (if p x=k then f x else 0)+acc f p k (xs++b)=(if p x=k then f x else 0)+acc f p k xs+acc f p k b
  omega
theorem zc {α:Type}{f:α->Int}{p:α->Nat}{k:Nat} (a:List α) (x:α):acc f p k (a++[x])=acc f p k a+(if p x=k then f x else 0):=by
 rw [GU];show _+((if p x=k then f x else 0)+0)=_
 omega
def tC (I:Nat->Nat) (k:Nat):Nat->List Int->Int
 | _,[]=>0
 | i,x::xs=>(if I i=k then x else 0)+tC I k (i+1) xs
theorem E5 (I:Nat->Nat) (k:Nat):∀ (a b:List Int) (i:Nat),tC I k i (a++b)=tC I k i a+tC I k (i+a.length) b
 | [],b,i=>by show tC I k i b=0+tC I k (i+0) b; rw [RZ]; omega
 | x::xs,b,i=>by
  have:=E5 I k xs b (i+1);have e:i+(x::xs).length=i+1+xs.length:=by simp; omega
  rw [e];show (if I i=k then x else 0)+tC I k (i+1) (xs++b)=(if I i=k then x else 0)+tC I k (i+1) xs+_
  omega
theorem BO (I:Nat->Nat) (k:Nat) (y:Int):∀ (l:List Int) (i j:Nat) (h:j<l.length),tC I k i (l.set j y)=tC I k i l+(if I (i+j)=k then y-l[j] else 0)
 | [],_,_,h=>by simp at h
 | x::xs,i,0,_=>by
  rw [List.set_cons_zero,RZ,List.getElem_cons_zero];show (if I i=k then y else 0)+tC I k (i+1) xs=(if I i=k then x else 0)+tC I k (i+1) xs+_
  split <;> omega
 | x::xs,i,j+1,h=>by
  have J:j<xs.length:=by simpa using h
  have:=BO I k y xs (i+1) j J;have e:i+1+j=i+(j+1):=by omega
  rw [e] at this;rw [List.set_cons_succ,List.getElem_cons_succ];show (if I i=k then x else 0)+tC I k (i+1) (xs.set j y)=(if I i=k then x else 0)+tC I k (i+1) xs+_
  rw [this]; omega
theorem E6 (I:Nat->Nat) (k:Nat):∀ (m i:Nat),tC I k i (List.replicate m 0)=0
 | 0,_=>rfl
 | m+1,i=>by
  show (if I i=k then (0:Int) else 0)+tC I k (i+1) (List.replicate m 0)=0
  rw [E6 I k m (i+1)]; split <;> rfl
theorem Hh (I:Nat->Nat) (k:Nat) {B:Int} (J:0<=B):∀ (l:List Int) (i:Nat),(∀ z ∈ l,-B<=z/\z<=B)->-(B*l.length)<=tC I k i l/\tC I k i l<=B*l.length
 | [],_,_=>by simp [tC]
 | x::xs,i,h=>by
  have Y:=h x (Qu ..);have Z:=Hh I k J xs (i+1) (λz O=>h z (Qy _ O));show -(B*(x::xs).length)<=(if I i=k then x else 0)+tC I k (i+1) xs/\(if I i=k then x else 0)+tC I k (i+1) xs<=B*(x::xs).length
  rw [QA,Vl,Vi]
  split <;> omega
def DO (t:a_) (i:Nat):Nat:=((t.bR[((t.qp[i]?).getD 0).toNat]?).getD 0).toNat
theorem Gq {n:Net}{t:a_} (ht:uR n t) {i:Nat} (hi:i<n.bD.length):∃ v:Nat,t.qp[i]? = some (v:Int)/\v<t.bR.length/\t.bR[v]? = some (DO t i:Int)/\DO t i<t.bR.length:=by
 have I:i<t.qp.length:=by rw [ht.bl]; exact hi
 have Z:=ht.bi _ (Q3 I);obtain ⟨c,O⟩:=ht.comp;have J:(t.qp[i]).toNat<t.bR.length:=by omega
 have e1:t.qp[i]? = some (((t.qp[i]).toNat:Nat):Int):=by rw [Qp I]; congr 1; omega
 have Y:=O.all ((t.qp[i]).toNat:Int) (by omega) (by omega)
 rw [BG J] at Y;have hm:=O.mN;refine ⟨(t.qp[i]).toNat,e1,J,?_,?_⟩
 ·unfold DO
  rw [e1,Su,Qr,Qp J,Su]
  congr 1; omega
 ·unfold DO
  rw [e1,Su,Qr,Qp J,Su];omega
def ym (n:Net) (t:a_) (s:BA):Nat:=DO t (pos n s)
theorem B1 {n:Net}{t:a_} (ht:uR n t) {s:BA} (hs:s ∈ n.bD):mY n t s=some (ym n t s:Int)/\ym n t s<t.bR.length:=by
 obtain ⟨p1,p2⟩:=Uy hs;obtain ⟨v,v1,v2,v3,v4⟩:=Gq ht p2;refine ⟨?_,v4⟩;rw [<- Gd.eq];unfold mY;exact Gd.bind_eq p1 (Gd.ix (by omega) (by rw [Qr]; exact v1) (Gd.ix (by omega) (by rw [Qr]; exact v3) (Gd.ret rfl)))
theorem Is {n:Net}{t:a_} (hg:dZ n=some t) (ht:uR n t):∃ N:Nat,mj n=some (N:Int)/\N<=24/\∀ s ∈ n.bD,ym n t s<N:=by
 obtain ⟨c,O⟩:=ht.comp;have hm:=O.mN;have I:AE t.bR.length t.bR:=λa ha=>by
  obtain ⟨k,hk,rfl⟩:=RG.1 ha;have:=O.all (k:Int) (by omega) (by omega)
  rw [BG hk] at this;omega
 have h:Gd (mj n) (λr=>∃ N:Nat,r=N/\N<=24/\AE N t.bR):=by
  unfold mj;refine Gd.bind_eq hg (LN t.bR.length ht.I6 _ (λk y n nx=>by unfold ry; rfl) _ t.bR I (λm hm J=>Gd.ret ⟨m,rfl,by have:=ht.I6; omega,J⟩))
 obtain ⟨r,hr,N,rfl,Y,Z⟩:=h;refine ⟨N,hr,Y,λs hs=>?_⟩;obtain ⟨v,_,_,v3,_⟩:=Gq ht (Uy hs).2;have:=Z _ (QB v3);show DO t (pos n s)<N;omega
abbrev H8 (n:Net) (t:a_) (k:Nat):Int:=acc aF.dB (λl:aF=>ym n t l.Node) k n.bB
theorem JD {n:Net} (hn:pF n) (t:a_) (k:Nat):0<=H8 n t k/\H8 n t k<=1200000:=by
 have I:=Dd (f:=aF.dB) (p:=λl:aF=>ym n t l.Node) (k:=k) (l:=n.bB) (λl hl=>(hn.ld l hl).2.1);have J:=FK (f:=aF.dB) (p:=λl:aF=>ym n t l.Node) (k:=k) (B:=100000) (by omega) (l:=n.bB) (λl hl=>(hn.ld l hl).2.2)
 have:=hn.l5;have O:H8 n t k<=100000*(n.bB.length:Int):=J;exact ⟨I,by omega⟩
theorem J4 {n:Net}{t:a_} (hn:pF n) (hg:dZ n=some t) (ht:uR n t) {N:Nat} (hN:mj n=some (N:Int)) (h24:N<=24) (hpl:∀ s ∈ n.bD,ym n t s<N):
  Gd (q8 n) (λr=>r.length=N/\∀ k (I:k<r.length),r[k].dB=H8 n t k):=by
 have h4:=hn.l4;have h5:=hn.l5;unfold q8;refine Gd.bind_eq hg (Gd.bind_eq hN (Gd.nd ⟨by omega,by omega⟩ ?_))
 rw [Qr];refine Gd.dO (λi ys s=>(∀ y ∈ ys,y ∈ n.cR)/\s.length=N/\∀ k (I:k<s.length),s[k].dB=0) ?_ ?_ _ _ _ ⟨λ_ h=>h,by simp,?_⟩
 ·rintro i y ys s nx ⟨hm,hl,I⟩ Z
  have hy:=hm y (Qu ..);obtain ⟨Y,_⟩:=B1 ht (hn.gn y hy).1;have J:ym n t y.Node<s.length:=by have:=hpl _ (hn.gn y hy).1; omega
  unfold sF;refine Gd.bind_eq Y (Gd.iP J ?_);rw [Qr,List.set_set];refine Z _ ⟨λz hz=>hm z (Qy _ hz),by simp [hl],λk O=>?_⟩
  rw [RM] at O;rw [Vw]
  split
  ·exact I _ J
  ·exact I k O
 ·rintro i s ⟨_,hl,I⟩
  refine Gd.dO (λi ys s=>∃ pre,n.bB=pre++ys/\s.length=N/\∀ k (I:k<s.length),s[k].dB=acc aF.dB (λl:aF=>ym n t l.Node) k pre) ?_ ?_ _ _ _ ⟨[],rfl,hl,I⟩
  ·rintro i y ys s nx ⟨pre,Y,hl,I⟩ Z
   have hy:y ∈ n.bB:=by rw [Y]; simp
   obtain ⟨hpp,_⟩:=B1 ht (hn.ld y hy).1;have J:ym n t y.Node<s.length:=by have:=hpl _ (hn.ld y hy).1; omega
   have hyd:=hn.ld y hy;have hb1:=Dd (f:=aF.dB) (p:=λl:aF=>ym n t l.Node) (k:=ym n t y.Node) (l:=pre) (λl hl=>(hn.ld l (by rw [Y]; simp [hl])).2.1)
   have hb2:=FK (f:=aF.dB) (p:=λl:aF=>ym n t l.Node) (k:=ym n t y.Node) (B:=100000) (by omega) (l:=pre) (λl hl=>(hn.ld l (by rw [Y]; simp [hl])).2.2)
   have hpre:pre.length<=12:=by
    have:n.bB.length=pre.length+(ys.length+1):=by rw [Y]; simp
    omega
   have hkk:=I _ J;have hw1:i64.wrap (s[ym n t y.Node].dB+y.dB)=s[ym n t y.Node].dB+y.dB:=bT ⟨by omega,by omega⟩
   unfold sG;refine Gd.bind_eq hpp (Gd.iP J (Gd.iP J ?_));rw [hw1,Qr];refine Z _ ⟨pre++[y],by rw [Y]; simp,by simp [hl],λk O=>?_⟩
   rw [RM] at O;rw [Vw,zc]
   by_cases e:ym n t y.Node=k
   ·subst e
    rw [Qx rfl,Qx rfl,hkk]
   ·rw [Qw e,Qw e,I k O]; omega
  ·rintro i s ⟨pre,Y,hl,I⟩
   rw [Q8] at Y;subst Y;exact Gd.ret ⟨hl,I⟩
 ·intro k I
  have e:(List.replicate N ({ jJ:=0,qU:=0,dB:=0 }:bP))[k]={ jJ:=0,qU:=0,dB:=0 }:=List.getElem_replicate _;rw [e]
theorem Ly (l:List Int):Gd (dP l) (λb=>b=true↔∃ v ∈ l,0<v):=by
 unfold dP eV;refine Gd.eM (P:=λr=>0<=r↔∃ v ∈ l,0<v) ?_ (λr J=>Gd.ret (by simpa using J))
 refine Gd.kW (λm i _=>i+m=l.length/\∀ v ∈ l.take i,v<=0) ?_ ?_ (l.length:Int).toNat 0 () ⟨by omega,by simp⟩
 ·intro m i _ O ⟨hi,hno⟩ hnx
  unfold gB oO;refine Gd.iP (by omega) (Gd.ite (λh=>Gd.ret ⟨λ_=>⟨l[i],Q3 _,by simpa using h⟩,λ_=>by omega⟩) (λh=>hnx () ⟨by omega,?_⟩))
  rw [QS (by omega)]
  intro v I;rcases QG.1 I with I | I
  ·exact hno v I
  ·simp at I; subst I; simpa using h
 ·intro i _ ⟨hi,hno⟩
  rw [QH (by omega)] at hno
  exact Gd.ret ⟨λh=>by omega,λ⟨v,I,h⟩=>by have:=hno v I; omega⟩
abbrev EP (n:Net) (t:a_) (k:Nat) (l:List (bE×Int)):Int:=acc (λz:bE×Int=>z.2) (λz:bE×Int=>ym n t z.1.Node) k l
structure Pf (n:Net) (t:a_) (p:List Int):Prop where
 len:p.length=n.cR.length
 each:∀ z ∈ n.cR.zip p,0<=z.2/\z.2<=100000/\(z.2=0\/z.1.jJ<=z.2/\z.2<=z.1.qU)
 Pg:∀ k,EP n t k (n.cR.zip p)=H8 n t k
theorem Il {n:Net}{t:a_} (hn:pF n) (hg:dZ n=some t) (ht:uR n t) (hc:bV n=some 0):
  Gd (mX n) (λx=>(x.2=14/\x.1=[])\/(x.2=0/\Pf n t x.1)):=by
 obtain ⟨N,hN,h24,Y⟩:=Is hg ht;have h4:=hn.l4;have h5:=hn.l5;obtain ⟨r,hr,hlen,hk⟩:=J4 hn hg ht hN h24 Y;unfold mX;refine Gd.bind_eq hc (Gd.ite (λh=>by simp at h) (λ_=>Gd.bind_eq hg (Gd.bind_eq hr ?_)))
 refine Gd.dO (λi ys s=>i+ys.length=r.length/\ys=r.drop i/\s=(r.take i).map bP.dB) ?_ ?_ _ _ _ ⟨by simp,by simp,by simp⟩
 ·rintro i y ys s nx ⟨hi,hys,rfl⟩ hnx
  simp only [QA] at hi;have hlt:i<r.length:=by omega
  rw [Q0 hlt] at hys;obtain ⟨rfl,rfl⟩:=Vr hys;unfold se;refine Gd.nd (by simp; omega) (hnx _ ⟨by omega,rfl,?_⟩)
  rw [QS hlt,RP]; rfl
 rintro i s ⟨hi,_,rfl⟩;rw [QH (by simp at hi; omega)]
 refine Gd.dO (λi ys (s:List Int×List Int)=>∃ pre,n.cR=pre++ys/\pre.length=i/\s.1.length=N/\s.2.length=pre.length/\(∀ v ∈ s.1,0<=v)/\(∀ z ∈ pre.zip s.2,0<=z.2/\z.2<=100000/\(z.2=0\/z.1.jJ<=z.2/\z.2<=z.1.qU)) /\
   (∀ k (hk:k<s.1.length),s.1[k]+EP n t k (pre.zip s.2)=H8 n t k)) ?_ ?_ _ _ _
  ⟨[],rfl,rfl,by simp [hlen],rfl,?_,by simp,?_⟩
 ·rintro i y ys ⟨rest,out⟩ nx ⟨pre,hp,hpi,O,I,h0,he,hb⟩ hnx
  simp only at O I h0 he hb;have hy:y ∈ n.cR:=by rw [hp]; simp
  obtain ⟨hpp,_⟩:=B1 ht (hn.gn y hy).1;have hlp:ym n t y.Node<rest.length:=by have:=Y _ (hn.gn y hy).1; omega
  have hgy:=hn.gn y hy;have hr0:=h0 rest[ym n t y.Node] (Q3 _);have hb0:=hb _ hlp;have hd:=JD hn t (ym n t y.Node);have hge:0<=EP n t (ym n t y.Node) (pre.zip out):=Dd (λz hz=>(he z hz).1);have hpl10:pre.length<10:=by
   have:n.cR.length=pre.length+(ys.length+1):=by rw [hp]; simp
   omega
  have step:∀ p:Int,0<=p->p<=rest[ym n t y.Node]->p<=y.qU->(p=0\/y.jJ<=p/\p<=y.qU) ->
    Gd (ml rest out nx (ym n t y.Node:Int) rest[ym n t y.Node] p) (λx=>(x.2=14/\x.1=[])\/(x.2=0/\Pf n t x.1)):=by
   intro p p0 pr pm pe;have hw:i64.wrap (rest[ym n t y.Node]-p)=rest[ym n t y.Node]-p:=bT ⟨by omega,by omega⟩
   have hz:(pre++[y]).zip (out++[p])=pre.zip out++[(y,p)]:=by rw [List.zip_append I.symm]; rfl
   unfold ml;rw [hw,Qr];refine Gd.nd (by simp; omega) (hnx _ ⟨pre++[y],by rw [hp]; simp,by simp [hpi],by simp [O],by simp [I],?_,?_,?_⟩)
   ·intro v Z
    rcases VD Z with Z | rfl
    ·exact h0 v Z
    ·omega
   ·simp only
    rw [hz];intro z hzz;rcases QG.1 hzz with h1 | h1
    ·exact he z h1
    ·rw [QY] at h1
     subst h1;exact ⟨p0,by simp only; omega,pe⟩
   ·intro k J
    simp only [RM] at J;simp only;rw [hz];unfold EP;rw [zc,Vw];have hbk:=hb k J;unfold EP at hbk
    by_cases e:ym n t y.Node=k
    ·subst e
     rw [Qx rfl,Qx rfl];simp only; omega
    ·rw [Qw e,Qw e]; omega
  unfold sf;refine Gd.bind_eq hpp (Gd.iP hlp (Gd.ite (λhle=>?_) (λ_=>step 0 (by omega) (by omega) (by omega) (.inl rfl))))
  have hle:y.jJ<=rest[ym n t y.Node]:=by simpa using hle
  exact step (min y.qU rest[ym n t y.Node]) (by omega) (by omega) (by omega) (.inr ⟨by omega,by omega⟩)
 ·rintro i ⟨rest,out⟩ ⟨pre,hp,hpi,O,I,h0,he,hb⟩
  simp only at O I h0 he hb;rw [Q8] at hp;subst hp;refine Gd.eM (Ly rest) (λb hb2=>Gd.ite (λ_=>Gd.ret (.inl ⟨rfl,rfl⟩)) (λh=>Gd.ret (.inr ⟨rfl,I,he,λk=>?_⟩)));have hno:∀ v ∈ rest,v=0:=λv Z=>by
   have h1:=h0 v Z
   by_cases e:0<v
   ·have:=hb2.2 ⟨v,Z,e⟩
    rw [this] at h; cases h
   ·omega
  by_cases hkN:k<rest.length
  ·have:=hb k hkN
   rw [hno _ (Q3 _)] at this;show EP n t k (n.cR.zip out)=_;omega
  ·have none:∀ {α:Type} (f:α->Int) (p:α->Nat) (l:List α),(∀ x ∈ l,p x<N)->acc f p k l=0:=by
    intro α f p l
    induction l with
    | nil=>intro _; rfl
    | cons x l ih=>
     intro hx;have h1:=hx x (Qu ..);have h2:=ih (λx h=>hx x (Qy _ h));show (if p x=k then f x else 0)+acc f p k l=0
     rw [Qw (by omega),h2]; rfl
   rw [show H8 n t k=0 from none _ _ _ (λl hl=>Y _ (hn.ld l hl).1)];exact none _ _ _ (λz hz=>Y _ (hn.gn _ (List.of_mem_zip hz).1).1)
 ·intro v Z
  obtain ⟨s,hs,rfl⟩:=Rd.1 Z;obtain ⟨k,hk2,rfl⟩:=RG.1 hs;rw [hk k hk2]; exact (JD hn t k).1
 ·intro k J
  simp only [Sq] at J;simp only [SF];rw [hk k J];show H8 n t k+0=_;omega
theorem FA {α I:Type}{y:α}{v:I}:∀ {pre:List α}{p:List I},p[pre.length]? = some v->(pre++[y]).zip p=pre.zip p++[(y,v)]
 | [],[],h=>by simp at h
 | [],b::p,h=>by
  have:b=v:=by simpa using h
  subst this;simp
 | a::pre,[],h=>by simp at h
 | a::pre,b::p,h=>by
  have J:p[pre.length]? = some v:=by simpa using h
  have:=FA (y:=y) J;simp [this]
structure I3 (n:Net) (t:a_) (p:List Int):Prop where
 len:p.length=n.bD.length
 K7:∀ z ∈ p,-100000<=z/\z<=100000
 Pg:∀ k,tC (DO t) k 0 p=0
theorem F5 {n:Net}{t:a_} (h:px n) (hn:pF n) (hg:dZ n=some t) (ht:uR n t) (hc:bV n=some 0) {p:List Int} (hp:Pf n t p):
  Gd (rQ n p (List.replicate n.bM.length 0)) (λx=>(x.2=4/\x.1=[])\/(x.2=0/\I3 n t x.1)):=by
 have l1:=hn.l1;have l4:=hn.l4;have l5:=hn.l5;have l6:=h.l6;unfold rQ;refine Gd.bind_eq hc (Gd.ite (λh=>by simp at h) (λ_=>?_))
 refine Gd.ite (λh=>absurd h (by simp [hp.len])) (λ_=>Gd.nd (by omega) ?_)
 rw [Qr];refine Gd.dO (λi ys s=>∃ pre,n.cR=pre++ys/\pre.length=i/\s.length=n.bD.length/\(∀ k,tC (DO t) k 0 s=EP n t k (pre.zip p))/\∀ z ∈ s,-(100000*(i:Int))<=z/\z<=100000*(i:Int)) ?_ ?_ n.cR 0 _
  ⟨[],rfl,rfl,by simp,λk=>E6 _ _ _ _,λz hz=>by have:=Vu hz; omega⟩
 ·rintro i y ys s nx ⟨pre,I,O,hsl,hb,hs⟩ Z
  have hy:y ∈ n.cR:=by rw [I]; simp
  obtain ⟨q1,q2⟩:=Uy (hn.gn y hy).1;have hil:i<n.cR.length:=by rw [I]; simp; omega
  have hip:i<p.length:=by rw [hp.len]; exact hil
  have hpi2:=Qp hip;have hzip:=FA (y:=y) (pre:=pre) (p:=p) (v:=p[i]) (by rw [O]; exact hpi2)
  have hmem:(y,p[i]) ∈ n.cR.zip p:=by
   refine RG.2 ⟨i,by simp [hp.len]; omega,?_⟩
   rw [List.getElem_zip]
   congr 1
   have:n.cR[i]? = some y:=by rw [I,Q2 (by omega),O,RK]; rfl
   rw [Qp hil] at this;exact Qs this
  have he:=hp.each _ hmem;simp only at he;have J:pos n y.Node<s.length:=by omega
  have hz:=hs _ (Q3 J);have fin:Gd (nx (s.set ((pos n y.Node:Int)).toNat (i64.wrap (s[pos n y.Node]+p[i])))) (λx=>(x.2=4/\x.1=[])\/(x.2=0/\I3 n t x.1)):=by
   have hw:i64.wrap (s[pos n y.Node]+p[i])=s[pos n y.Node]+p[i]:=bT ⟨by omega,by omega⟩
   rw [hw,Qr];refine Z _ ⟨pre++[y],by rw [I]; simp,by simp [O],by simp [hsl],λk=>?_,λz hz2=>?_⟩
   ·rw [BO _ _ _ _ _ _ J,hb k,hzip]
    unfold EP;rw [zc,QP];show _+(if ym n t y.Node=k then _ else _)=_
    split <;> omega
   ·rcases VD hz2 with Y | Y
    ·have:=hs z Y; omega
    ·subst Y; omega
  unfold tk;refine Gd.iP hip (Gd.ite (λh0=>?_) (λh0=>?_))
  ·exact Gd.bind_eq q1 (Gd.iP J (Gd.iP hip (Gd.iP J fin)))
  ·have h0:p[i]≠0:=QE h0
   refine Gd.iP hip (Gd.ite (λY=>?_) (λ_=>Gd.iP hip (Gd.ite (λY=>?_) (λ_=>Gd.bind_eq q1 (Gd.iP J (Gd.iP hip (Gd.iP J fin)))))))
   ·have:=Qv Y; omega
   ·have:=Qv Y; omega
 ·rintro i s ⟨pre,I,O,hsl,hb,hs⟩
  rw [Q8] at I;subst I;have hb2:∀ k,tC (DO t) k 0 s=H8 n t k:=λk=>(hb k).trans (hp.Pg k);have hs2:∀ z ∈ s,-1000000<=z/\z<=1000000:=λz hz=>by have:=hs z hz; omega
  clear hb hs;refine Gd.dO (λi ys s'=>∃ pre,n.bM=pre++ys/\pre.length=i/\s'=s) ?_ ?_ n.bM 0 _ ⟨[],rfl,rfl,rfl⟩
  ·rintro i y ys s nx ⟨pre,I,O,rfl⟩ Z
   have hy:y ∈ n.bM:=by rw [I]; simp
   obtain ⟨_,v2,v3⟩:=h.vt y hy;obtain ⟨q1,q2⟩:=Uy v2;have hil:i<n.bM.length:=by rw [I]; simp; omega
   have hst:(List.replicate n.bM.length (0:Int))[i]? = some 0:=by rw [SS,Qx hil]
   have J:pos n y.Node<s.length:=by omega
   have hz:=hs2 _ (Q3 J);have hch:0<=y.r8/\y.r8<=100000/\0<=y.Discharge/\y.Discharge<=100000:=by
    simp [CZ,aZ,bO] at v3;omega
   have hw:i64.wrap (0-y.r8)=0-y.r8:=bT ⟨by omega,by omega⟩
   have hw2:i64.wrap (s[pos n y.Node]+0)=s[pos n y.Node]:=by rw [bT ⟨by omega,by omega⟩]; omega
   unfold tl;rw [hw];refine Gd.ix (by omega) (by rw [Qr]; exact hst) (Gd.ite (λY=>?_) (λ_=>Gd.ix (by omega) (by rw [Qr]; exact hst) (Gd.ite (λY=>?_) (λ_=>Gd.bind_eq q1 (Gd.iP J (Gd.ix (by omega) (by rw [Qr]; exact hst) (Gd.iP J ?_)))))))
   ·have:=Qv Y; omega
   ·have:=Qv Y; omega
   ·rw [hw2,Qr]
    exact Z _ ⟨pre++[y],by rw [I]; simp,by simp [O],B6 (Qp J)⟩
  ·rintro i _ ⟨_,_,_,rfl⟩
   refine Gd.dO (λi ys s'=>∃ pre,n.bB=pre++ys/\pre.length=i/\s'.length=n.bD.length/\(∀ k,tC (DO t) k 0 s'=H8 n t k-acc aF.dB (λl:aF=>ym n t l.Node) k pre)/\∀ z ∈ s',-(1000000+100000*(i:Int))<=z/\z<=1000000) ?_ ?_ n.bB 0 _
    ⟨[],rfl,rfl,hsl,λk=>by rw [hb2 k]; show _=H8 n t k-0; omega,λz hz=>by have:=hs2 z hz; omega⟩
   ·rintro i y ys s' nx ⟨pre,I,O,hsl',hb',hs'⟩ Z
    have hy:y ∈ n.bB:=by rw [I]; simp
    obtain ⟨q1,q2⟩:=Uy (hn.ld y hy).1;have hd:=(hn.ld y hy).2;have hil:i<n.bB.length:=by rw [I]; simp; omega
    have J:pos n y.Node<s'.length:=by omega
    have hz:=hs' _ (Q3 J);have hw:i64.wrap (s'[pos n y.Node]-y.dB)=s'[pos n y.Node]-y.dB:=bT ⟨by omega,by omega⟩
    unfold tn;refine Gd.bind_eq q1 (Gd.iP J (Gd.iP J ?_));rw [hw,Qr];refine Z _ ⟨pre++[y],by rw [I]; simp,by simp [O],by simp [hsl'],λk=>?_,λz hz2=>?_⟩
    ·rw [BO _ _ _ _ _ _ J,hb' k,zc,QP]
     show _+(if ym n t y.Node=k then _ else _)=_
     split <;> omega
    ·rcases VD hz2 with Y | Y
     ·have:=hs' z Y; omega
     ·subst Y; omega
   ·rintro i s' ⟨pre,I,O,hsl',hb',hs'⟩
    rw [Q8] at I;subst I;refine Gd.dO (λi ys _=>∃ pre,s'=pre++ys/\∀ z ∈ pre,-100000<=z/\z<=100000) ?_ ?_ s' 0 _ ⟨[],rfl,λz hz=>by simp at hz⟩
    ·rintro i y ys _ nx ⟨pre,I,hr⟩ Z
     unfold tr;refine Gd.ite (λ_=>Gd.ret (.inl ⟨rfl,rfl⟩)) (λY=>Z () ⟨pre++[y],by rw [I]; simp,λz hz=>?_⟩)
     simp only [Vg,Wo] at Y;rcases QG.1 hz with h2 | h2
     ·exact hr z h2
     ·rw [QY] at h2
      subst h2; omega
    ·rintro i _ ⟨pre,I,hr⟩
     rw [Q8] at I;subst I;exact Gd.ret (.inr ⟨rfl,hsl',hr,λk=>by rw [hb' k]; show H8 n t k-H8 n t k=0; omega⟩)
theorem Ij {n:Net}{t:a_} (h:px n) (hn:pF n) (O:dZ n=some t) (ht:uR n t) (J:bV n=some 0):
  Gd (gQ n) (λx=>(x.2≠0/\x.1=[])\/(x.2=0/\I3 n t x.1)):=by
 have l6:=h.l6;unfold gQ;refine Gd.eM (Il hn O ht J) (λx Z=>?_);rcases Z with ⟨e,_⟩ | ⟨e,Y⟩
 ·rw [e]
  exact Gd.ite (λ_=>Gd.ret (.inl ⟨by simp,rfl⟩)) (λh=>by simp at h)
 ·rw [e]
  refine Gd.ite (λh=>by simp at h) (λ_=>Gd.nd (by omega) ?_)
  rw [Qr];refine Gd.eM (F5 h hn O ht J Y) (λy I=>Gd.ret ?_);rcases I with ⟨e1,e2⟩ | I
  ·exact .inl ⟨by simp only; omega,e2⟩
  ·exact .inr I
theorem Ic {n:Net}{t:a_} (hg:dZ n=some t) (ht:uR n t) (hn:pF n) (hc:bV n=some 0) {p:List Int} (hp:I3 n t p):nH n p=some 0:=by
 have l1:=hn.l1;rw [<- Gd.eq];unfold nH;refine Gd.bind_eq hc (Gd.ite (λh=>by simp at h) (λ_=>Gd.ite (λh=>absurd h (by simp [hp.len])) (λ_=>Gd.bind_eq hg ?_)))
 refine Gd.dO (λi ys (l:List (Int×Int))=>∃ pre,p=pre++ys/\pre.length=i/\Ei l/\(∀ z ∈ l,∃ k:Nat,z.1=(k:Int))/\∀ k:Nat,(rH l (k:Int)).getD 0=tC (DO t) k 0 pre) ?_ ?_ p 0 _ ⟨[],rfl,rfl,Ei.nil,λz O=>by simp at O,λk=>by simp [rH,wI,tC]⟩
 ·rintro i y ys l nx ⟨pre,I,Y,hk,J,hs⟩ hnx
  have hy:=hp.K7 y (by rw [I]; simp)
  have hpl:p.length=pre.length+(ys.length+1):=by rw [I]; simp
  have hpn:=hp.len;obtain ⟨v,v1,v2,v3,v4⟩:=Gq ht (show i<n.bD.length by omega)
  have hbd:=Hh (DO t) (DO t i) (B:=100000) (by omega) pre 0 (λz O=>hp.K7 z (by rw [I]; simp [O]))
  have hw:i64.wrap ((rH l (DO t i:Int)).getD 0+y)=(rH l (DO t i:Int)).getD 0+y:=by
   rw [hs (DO t i)];exact bT ⟨by omega,by omega⟩
  unfold ud;refine Gd.ite (λh=>?_) (λ_=>Gd.ix (by omega) (by rw [Qr]; exact v1) (Gd.ix (by omega) (by rw [Qr]; exact v3) ?_))
  ·exfalso
   simp only [R6,Rb] at h;omega
  ·rw [hw]
   refine hnx _ ⟨pre++[y],by rw [I]; simp,by simp [Y],(hk.put _ _).1,λz O=>?_,λk=>?_⟩
   ·rcases ((hk.put _ _).2 z).1 O with Z | Z
    ·exact ⟨DO t i,by rw [Z]⟩
    ·exact J z Z.1
   ·rw [hk.G6,E5]
    show _=_+((if DO t (0+pre.length)=k then y else 0)+0)
    rw [QP,Y]
    by_cases e:DO t i=k
    ·subst e
     rw [Qx rfl,Qx rfl,Su,hs]; omega
    ·rw [Qw (by omega),Qw e,hs]; omega
 ·rintro i l ⟨pre,I,Y,hk,J,hs⟩
  rw [Q8] at I;subst I;have:(l.any λp=>!decide (p.2=0))=false:=by
   rw [List.any_eq_false];intro z O;obtain ⟨k,hk2⟩:=J z O;have Z:rH l (k:Int)=some z.2:=hk.find.2 (by rw [<- hk2]; exact O)
   have h2:=hs k;rw [Z,Su,hp.Pg k] at h2;simp [h2]
  rw [this];exact Gd.ret rfl
theorem KZ (l:List Qm):kF l l=some true:=by
 rw [<- Gd.eq];unfold kF;refine Gd.ite (λh=>by simp at h) (λ_=>?_)
 refine Gd.kW (Q:=λx=>x=true) (λm i (_:Unit)=>i+m=l.length) ?_ (λ_ _ _=>Gd.ret rfl) ((l.length:Int)).toNat 0 () (by omega)
 intro m i _ J hi I;unfold oA;exact Gd.iP (by omega) (Gd.iP (by omega) (Gd.ite (λh=>by simp at h) (λ_=>I () (by omega))))
theorem Bk {s:Qm} (h:∃ q,fits q/\s=ctext q):s.size<=maxLen:=by
 obtain ⟨q,I,rfl⟩:=h;have:=FX I;unfold maxLen; omega
theorem IN {n:Net}{p:List Int} (h:px n) (hn:pF n) {t:a_} (hg:dZ n=some t) (ht:uR n t) (Z:nH n p=some 0) {s:cG} (hs:MZ n t s) (hr:nJ n p=some (s,0)):tI n p s=some 0:=by
 have hN:=ht.I6;have Y:=h.l3;rw [<- Gd.eq];unfold tI;refine Gd.bind_eq Z (Gd.ite (λh=>by simp at h) (λ_=>?_))
 refine Gd.eM (E4 h hn hg ht) ?_;rintro _ ⟨M,rfl,hM⟩;simp only [yU];unfold eT;rw [hM.top,hs.al,hs.fl];refine Gd.ite (λ_=>Gd.ite (λh=>by simp at h) (λ_=>?_)) (λh=>by simp at h)
 refine Gd.seen (l:=[s.fD,s.eO]) (λ_ _=>True) ?_ ?_ () Qo
 ·rintro i y _ nx pre J _ hnx
  have O:=(vU J).2.1;unfold wg;have hcv:lL y=some 0:=by
   rw [<- Gd.eq];have I:y.length<=24/\∀ x ∈ y,∃ q,fits q/\x=ctext q:=by
    rcases Ra.1 O with rfl | O
    ·exact ⟨by rw [hs.al]; exact hN,hs.a⟩
    ·rw [QY] at O
     subst O;exact ⟨by rw [hs.fl]; exact Y,hs.f⟩
   unfold lL;refine Gd.ite (λh=>absurd (Qv h) (by omega)) (λ_=>Gd.eM (xB (λx hx=>Bk (I.2 x hx))) (λc Z=>Gd.ret (Z.2 I.2)))
  exact Gd.bind_eq hcv (Gd.ite (λh=>by simp at h) (λ_=>hnx () Qo))
 ·rintro _ _
  refine Gd.bind_eq hr (Gd.ite (λ_=>?_) (λh=>by simp at h))
  exact Gd.bind_eq (KZ _) (Gd.ite (λ_=>Gd.bind_eq (KZ _) (Gd.ite (λh=>by simp at h) (λ_=>Gd.ret rfl))) (λh=>by simp at h))
theorem wP (n:Net) (hz:pG n):(∃ e,e≠0/\gQ n=some ([],e)) \/
  (∃ t p s,px n/\pF n/\dZ n=some t/\uR n t/\I3 n t p/\gQ n=some (p,0)/\nH n p=some 0/\nJ n p=some (s,0)/\MZ n t s/\tI n p s=some 0):=by
 obtain ⟨e,he,hok⟩:=UI n hz
 by_cases h0:e=0
 ·subst h0
  have J:=hok rfl;have hn:=J.ok hz;obtain ⟨t,Y,ht⟩:=Mi hn;obtain ⟨⟨p,x⟩,hi,hx⟩:=Ij J hn Y ht he;rcases hx with ⟨Z,hp⟩ | ⟨hx,O⟩
  ·left
   simp only at Z hp;subst hp;exact ⟨x,Z,hi⟩
  ·right
   simp only at hx O;subst hx;have hc:=Ic Y ht hn he O;obtain ⟨⟨s,y⟩,hs,hy,I⟩:=KP J hn Y ht O.len O.K7 hc;simp only at hy I;subst hy;exact ⟨t,p,s,J,hn,Y,ht,O,hi,hc,hs,I,IN J hn Y ht hc I hs⟩
 ·left
  refine ⟨e,h0,?_⟩;have hsh:mX n=some ([],e):=by
   rw [<- Gd.eq];unfold mX;exact Gd.bind_eq he (Gd.ite (λ_=>Gd.ret rfl) (λh=>absurd (by simpa using h) h0))
  rw [<- Gd.eq];unfold gQ;exact Gd.bind_eq hsh (Gd.ite (λ_=>Gd.ret rfl) (λh=>absurd (by simpa using h) h0))
instance Po (p:Qm) (l:List Qm):Decidable (p ∈ l):=@List.instDecidableMemOfLawfulBEq _ instBEqOfDecidableEq inferInstance p l
theorem qz (l:List Qm) (p:Qm):bG l p=some (decide (p ∈ l)):=by
 obtain ⟨b,e,h⟩:=uF l p;rw [e]
 congr 1
 cases b <;> simp_all
theorem zP {α:Type} (p:α->Option Bool) (kp:α->Bool) (hp:∀ x,p x=some (!kp x)) (z:α) (A:List α) (hA:A.length<=100000):
  Gd ((kW (λk (_:Unit) n=>idx A (k:Int) λy=>(p y).bind λr=>if r then (some (k:Int)) else (n ())) (λ_=>some (-1)) ((A.length:Int)).toNat 0 ()).bind λr=>
   if decide (r=(-1)) then (some A) else (iL (λ(s:List α×Int×Int) n=>if decide (s.2.2<(s.1.length:Int)) then (idx s.1 s.2.2 λy=>(p y).bind λr=>if !r then (idx s.1 s.2.1 λ_=>n (s.1.set (s.2.1).toNat y,i64.wrap (s.2.1+1),i64.wrap (s.2.2+1))) else (n (s.1,s.2.1,i64.wrap (s.2.2+1))))
    else (cW (0<=s.2.1/\s.2.1<=(s.1.length:Int)) (cW (0<=s.2.1/\s.2.1<=((s.1.take (s.2.1).toNat++List.replicate (s.1.length-(s.2.1).toNat) z).length:Int)) (some (rJ (s.1.take (s.2.1).toNat++List.replicate (s.1.length-(s.2.1).toNat) z) 0 (s.2.1).toNat))))) fT (A,r,i64.wrap (r+1)))) (λr=>r=A.filter kp):=by
 refine Gd.eM (P:=λr=>(r = -1/\∀ x ∈ A,kp x=true)\/∃ (i:Nat) (h:i<A.length),r=i/\kp A[i]=false/\∀ x ∈ A.take i,kp x=true) ?_ (λr hr=>?_)
 ·refine Gd.kW (λm i _=>i+m=A.length/\∀ x ∈ A.take i,kp x=true) ?_ ?_ (A.length:Int).toNat 0 () ⟨by omega,by simp⟩
  ·intro m i _ nx ⟨hi,hno⟩ hnx
   have hlt:i<A.length:=by omega
   refine Gd.iP hlt ?_;rw [hp];refine Gd.ite (λh=>Gd.ret (.inr ⟨i,hlt,rfl,by simpa using h,hno⟩)) (λh=>hnx () ⟨by omega,?_⟩)
   rw [QS hlt];intro x hx;rcases QG.1 hx with hx | hx
   ·exact hno x hx
   ·simp at hx; subst hx; simpa using h
  ·intro i _ ⟨hi,hno⟩
   rw [QH (by omega)] at hno
   exact Gd.ret (.inl ⟨rfl,hno⟩)
 ·rcases hr with ⟨rfl,hall⟩ | ⟨i,hi,rfl,hki,hpre⟩
  ·exact Gd.ite (λ_=>Gd.ret (U6.2 hall).symm) (λh=>by simp at h)
  ·refine Gd.ite (λh=>by simp at h) (λ_=>?_)
   have hw0:i64.wrap ((i:Int)+1)=((i+1:Nat):Int):=by rw [bT ⟨by omega,by omega⟩]; omega
   rw [hw0];have Y:A.take i=(A.take (i+1)).filter kp:=by
    rw [QS hi,R4,U6.2 hpre];simp [Vv,hki]
   refine Gd.iL (λ(s:List α×Int×Int)=>∃ p q:Nat,s.2.1=p/\s.2.2=q/\p<q/\q<=A.length/\s.1.length=A.length/\s.1.take p=(A.take q).filter kp/\s.1.drop q=A.drop q) (λs=>A.length-s.2.2.toNat) ?_ fT _ ⟨i,i+1,rfl,rfl,by omega,by omega,rfl,Y,rfl⟩ (by unfold fT; omega)
   rintro ⟨l,n1,n2⟩ nx ⟨p,q,h1,h2,hpq,hqA,hl,I,O⟩ hn;simp only at h1 h2 hl I O;subst h1; subst h2
   have hwq:i64.wrap ((q:Int)+1)=((q+1:Nat):Int):=by rw [bT ⟨by omega,by omega⟩]; omega
   have hwp:i64.wrap ((p:Int)+1)=((p+1:Nat):Int):=by rw [bT ⟨by omega,by omega⟩]; omega
   rw [hwq];refine Gd.ite (λh=>?_) (λh=>?_)
   ·have hq:q<l.length:=by
     have:(q:Int)<((l.length:Nat):Int):=by simpa using h
     omega
    have hqa:q<A.length:=by omega
    have hv:l[q]=A[q]:=by
     have e1:=Q0 hq;have e2:=Q0 hqa;rw [O,e2] at e1;exact (Vr e1).1.symm
    have hd2:l.drop (q+1)=A.drop (q+1):=by
     have:=Q9 (List.drop 1) O;simpa [Sd] using this
    have J:(A.take (q+1)).filter kp=(A.take q).filter kp++(if kp A[q] then [A[q]] else []):=by
     rw [QS hqa,R4]
     congr 1
     simp only [Vv,List.filter_nil]
    refine Gd.iP hq ?_;rw [hp,hv];refine Gd.ite (λZ=>Gd.iP (show p<l.length by omega) ?_) (λZ=>?_)
    ·have Z:kp A[q]=true:=by simpa using Z
     rw [hwp,Qr];refine hn _ ⟨p+1,q+1,rfl,rfl,by omega,by omega,by simpa using hl,?_,?_⟩ (by simp only [Qr]; omega)
     ·simp only
      have hp:p<(l.set p A[q]).length:=by simp; omega
      rw [QS hp,List.getElem_set_self,J,Qx Z,Ti (QM p),I]
     ·simp only
      rw [SY (by omega),hd2]
    ·have Z:kp A[q]=false:=by simpa using Z
     refine hn _ ⟨p,q+1,rfl,rfl,by omega,by omega,hl,?_,hd2⟩ (by simp only [Qr]; omega)
     simp only;rw [J,Qw (by simp [Z]),Q8,I]
   ·have hq:l.length<=q:=by
     have:((l.length:Nat):Int)<=(q:Int):=by simpa using h
     omega
    have hqe:q=A.length:=by omega
    refine Gd.nd ⟨Vm p,show (p:Int)<=((l.length:Nat):Int) by omega⟩ (Gd.nd ⟨Vm p,?_⟩ (Gd.ret ?_))
    ·simp only [Qr,QJ,QR,RI]; omega
    ·unfold rJ
     rw [RN,Tr,Qr,List.take_append_of_le_length (by simp; omega),TG,Nat.min_self,I,hqe,Sh]
def EV (W:List BA) (x:aF):Bool:=decide (x.Name ∈ W)
theorem del_eq (W:List BA) (x:aF):mo x W=some (!EV W x):=by
 unfold mo;rw [qz]; rfl
theorem FY (W:List BA) (A:List aF) (hA:A.length<=1000):Gd (dW A W) (λr=>r=A.filter (EV W)):=
 zP (λy=>mo y W) (EV W) (del_eq W) (aF.mk ⟨#[]⟩ ⟨#[]⟩ 0) A (by omega)
theorem II {l:List Qm}{k:Nat}:rJ l 0 k=l.take k:=by unfold rJ; simp
theorem IS {n:Net} (O:pG n) (on:List Qm):Gd (eF n on) (λe=>e=0->bV n=some 0):=by
 obtain ⟨e,he,_⟩:=UI n O;unfold eF;refine Gd.bind_eq he (Gd.ite (λh=>Gd.ret (λJ=>by subst J; simp at h)) (λh=>?_))
 have J:e=0:=by simpa using h
 subst J;refine Gd.dO (Q:=λe=>e=0->bV n=some 0) (λi (ys:List Qm) (_:Unit)=>i+ys.length=on.length) ?_ (λ_ _ _=>Gd.ret (λ_=>he)) on 0 () (by simp)
 intro i y ys _ Y hi I;simp only [QA] at hi;unfold qd;refine Gd.eM (P:=λ_=>True) ?_ (λb _=>Gd.ite (λ_=>Gd.ret (λh=>by simp at h)) (λ_=>?_))
 ·unfold cM cP
  refine Gd.eM (P:=λ_=>True) ?_ (λ_ _=>Gd.ret Qo);refine Gd.kW (Q:=λ_=>True) (λm i (_:Unit)=>i+m=n.bB.length) ?_ (λ_ _ _=>Gd.ret Qo) ((n.bB.length:Int)).toNat 0 () (by omega)
  intro m i _ Y hi I;unfold dL;exact Gd.iP (by omega) (Gd.ite (λ_=>Gd.ret Qo) (λ_=>I () (by omega)))
 ·refine Gd.nd (by omega) ?_
  rw [qz];exact Gd.ite (λ_=>Gd.ret (λh=>by simp at h)) (λ_=>I () (by omega))
def q_ (n:Net) (on:List Qm):Net:=aE.mk n.bD n.aL n.aH n.cR (n.bB.filter (EV on)) n.bM
theorem HD {n:Net} (h:px n) (on:List Qm):pL n on=some (q_ n on):=by
 have:=h.l1; have:=h.l2; have:=h.l3; have:=h.l4; have:=h.l5; have:=h.l6
 rw [<- Gd.eq];unfold pL kA;refine Gd.eM (P:=λr=>r=n) (Gd.nd (by omega) (Gd.nd (by omega) (Gd.nd (by omega) (Gd.nd (by omega) (Gd.nd (by omega) (Gd.nd (by omega) (Gd.ret rfl))))))) (λr I=>?_)
 subst I;refine Gd.eM (FY on r.bB (by omega)) (λl hl=>Gd.ret ?_)
 rw [hl]; rfl
theorem pG.q_ {n:Net} (h:pG n) (on:List Qm):pG (q_ n on):=
 ⟨h.nd,h.sw,h.br,h.gn,λx I=>h.ld x (Ru.1 I).1,h.st⟩
theorem Lh {n:Net}{on:List Qm}{e:Int} (h:eF n on=some e) (I:e≠0):od n on=some (aE.mk [] [] [] [] [] [],e):=by
 rw [<- Gd.eq];unfold od;exact Gd.bind_eq h (Gd.ite (λ_=>Gd.ret rfl) (λk=>absurd (by simpa using k) I))
theorem Dc {n:Net} (I:px n) {on:List Qm} (h:eF n on=some 0):od n on=some (q_ n on,0):=by
 rw [<- Gd.eq];unfold od;exact Gd.bind_eq h (Gd.ite (λk=>by simp at k) (λ_=>Gd.bind_eq (HD I on) (Gd.ret rfl)))
def zQ (z:aK×Rat):Prop:=(z.1.s6:Rat)<NC z.2
open Classical in
noncomputable def yu (z:aK×Rat):List Qm:=if zQ z then [z.1.Name] else []
theorem zX {z:aK×Rat} (h:zQ z):yu z=[z.1.Name]:=Qx h
theorem B0 {z:aK×Rat} (h:¬ zQ z):yu z=[]:=Qw h
theorem Ht:∀ {l:List Qm},(∀ x ∈ l,∃ q,fits q/\x=ctext q)->∃ qs:List Rat,l=qs.map ctext/\∀ q ∈ qs,fits q
 | [],_=>⟨[],rfl,λq h=>by cases h⟩
 | x::l,h=>by
  obtain ⟨q,O,rfl⟩:=h x (Qu ..);obtain ⟨qs,rfl,J⟩:=Ht (l:=l) (λy Y=>h y (Qy _ Y));refine ⟨q::qs,rfl,λp I=>?_⟩;rcases Ra.1 I with rfl | I
  ·exact O
  ·exact J p I
theorem K5 {bs:List aK}{qs:List Rat}{i:Nat} (h:i<bs.length) (J:i<qs.length):
  ((bs.zip qs).take (i+1)).flatMap yu=((bs.zip qs).take i).flatMap yu++yu (bs[i],qs[i]):=by
 have I:i<(bs.zip qs).length:=by simp; omega
 rw [QS I,TP,List.getElem_zip];simp
theorem DL {n:Net} (hV:px n) {qs:List Rat} (hl:qs.length=n.aH.length) (hf:∀ q ∈ qs,fits q):
  lO n (qs.map ctext)=some ((n.aH.zip qs).flatMap yu):=by
 have h3:=hV.l3;rw [<- Gd.eq];unfold lO;refine Gd.dO (λi (ys:List aK) (w:List Qm)=>i+ys.length=n.aH.length/\n.aH.drop i=ys/\w.length<=i/\w=((n.aH.zip qs).take i).flatMap yu) ?_ ?_ n.aH 0 [] ⟨by simp,rfl,by simp,by simp⟩
 ·rintro i y ys w nx ⟨hi,hd,hw,hv⟩ hnx
  simp only [QA] at hi;have J:i<n.aH.length:=by omega
  have O:i<qs.length:=by omega
  have hy:n.aH[i]=y:=by
   have e:=Q0 J;rw [hd] at e; exact (Vr e).1.symm
  have Z:n.aH.drop (i+1)=ys:=by
   have:=Q9 (List.drop 1) hd;simpa [Sd] using this
  have hL:=(HR hV (Q3 J)).l;have Y:=K5 J O;rw [<- hv] at Y;unfold sN pf;refine Gd.iP (by simpa using O) ?_
  rw [SF];refine Gd.eM (Ff (hf _ (Q3 O))) (λa ha=>Gd.eM (Hu ha.1 ha.2.1 (by omega)) (λb hb=>?_))
  rw [<- hy];refine Gd.eM (vj ⟨by omega,by omega⟩) (λc hc=>Gd.eM (DR hb.1 hc.1 hb.2.1 hc.2.1 (by omega)) (λd I=>?_))
  rw [hb.2.2,hc.2.2,ha.2.2] at I;have hov:0<d↔zQ (n.aH[i],qs[i]):=I.1;clear I;refine Gd.ite (λh=>Gd.nd ?_ (hnx _ ⟨by omega,Z,?_,?_⟩)) (λh=>hnx _ ⟨by omega,Z,by omega,?_⟩)
  ·simp only [QA,VB]; omega
  ·simp; omega
  ·rw [Y,zX (hov.1 (Qv h))]
  ·rw [Y,B0 (λk=>QE h (hov.2 k)),Q8]
 ·rintro i w ⟨hi,_,_,hv⟩
  rw [QH (by simp at hi ⊢; omega)] at hv
  exact Gd.ret hv
theorem Gn {c:Net} (hz:pG c):∃ e,l7 c=some e:=by
 suffices h:Gd (l7 c) (λ_=>True) by
  obtain ⟨e,he,_⟩:=h;exact ⟨e,he⟩
 unfold l7;refine Gd.eM (P:=λ_=>True) ?_ (λr _=>Gd.ite (λ_=>Gd.ret Qo) (λ_=>Gd.ret Qo));unfold gK;rcases wP c hz with ⟨x,hx,hi⟩ | ⟨t,p,s,hV,hn,hg,ht,hb,hi,hfc,hs,I,hv⟩
 ·exact Gd.bind_eq hi (Gd.ite (λ_=>Gd.ret Qo) (λk=>absurd (by simpa using k) hx))
 ·obtain ⟨qs,Z,J⟩:=Ht I.f
  have O:qs.length=c.aH.length:=by
   have:=I.fl;rw [Z,Sq] at this;exact this
  have Y:=DL hV (qs:=qs) O J;rw [<- Z] at Y;exact Gd.bind_eq hi (Gd.ite (λk=>by simp at k) (λ_=>Gd.bind_eq hs (Gd.ite (λk=>by simp at k) (λ_=>Gd.bind_eq Y (Gd.ret Qo)))))
def BX (n:Net) (l:List Qm):Prop:=l7 (q_ n l)=some 0
def nm (n:Net):List Qm:=n.bB.map (·.Name)
theorem E9 {n:Net} (h:px n):(nm n).Nodup:=by
 have:=h.nd;unfold names at this;exact (Rj.1 (Rj.1 this).1).2.1
theorem yT (n:Net):(nm n).length=n.bB.length:=by simp [nm]
theorem KM (l:List Qm):rJ l 0 ((l.length:Int)).toNat=l:=by simp [rJ]
structure Found (n:Net) (l out:List Qm):Prop where
 ext:out.take l.length=l
 len:out.length=n.bB.length
 ok:∀ k,l.length<=k->k<=out.length->BX n (out.take k)
 set:l.Nodup->(∀ x ∈ l,x ∈ nm n)->out.Nodup/\∀ x ∈ out,x ∈ nm n

theorem I_ {n:Net}{on:List Qm}{e:Int} (h:eF n on=some e) (I:e≠0):eA n on=some (cG.mk [] [],[],e):=by
 rw [<- Gd.eq];unfold eA;exact Gd.bind_eq (Lh h I) (Gd.ite (λ_=>Gd.ret rfl) (λk=>absurd (by simpa using k) I))
theorem HJ {n:Net} (J:px n) {on:List Qm} (h:eF n on=some 0) {e:Int} (I:e≠0) (hi:gQ (q_ n on)=some ([],e)):
  eA n on=some (cG.mk [] [],[],e):=by
 rw [<- Gd.eq];unfold eA gK;exact Gd.bind_eq (Dc J h) (Gd.ite (λk=>by simp at k) (λ_=>Gd.eM (P:=λr=>r=(cG.mk [] [],[],e)) (Gd.bind_eq hi (Gd.ite (λ_=>Gd.ret rfl) (λk=>absurd (by simpa using k) I))) (λr O=>by subst O; exact Gd.ret rfl)))
theorem Ja {n:Net} (I:px n) {on:List Qm} (h:eF n on=some 0) {p:List Int}{s:cG}{ov:List Qm}
  (hi:gQ (q_ n on)=some (p,0)) (hs:nJ (q_ n on) p=some (s,0)) (J:lO (q_ n on) s.eO=some ov):
  eA n on=some (s,ov,0):=by
 rw [<- Gd.eq];unfold eA gK;exact Gd.bind_eq (Dc I h) (Gd.ite (λk=>by simp at k) (λ_=>Gd.eM (P:=λr=>r=(s,ov,0)) (Gd.bind_eq hi (Gd.ite (λk=>by simp at k) (λ_=>Gd.bind_eq hs (Gd.ite (λk=>by simp at k) (λ_=>Gd.bind_eq J (Gd.ret rfl)))))) (λr O=>by subst O; exact Gd.ret rfl)))
theorem K_ {n:Net} (I:bV n=some 0) {fl:List Qm} (hl:fl.length=n.aH.length) (J:∀ x ∈ fl,∃ q,fits q/\x=ctext q) {ov:List Qm} (Y:lO n fl=some ov):
  ob n fl=some (ov,0):=by
 rw [<- Gd.eq];unfold ob;refine Gd.bind_eq I (Gd.ite (λk=>by simp at k) (λ_=>?_))
 refine Gd.eM (xB (λs hs=>Bk (J s hs))) (λc I=>?_);have O:c=0:=I.2 J;subst O;exact Gd.ite (λk=>by simp at k) (λ_=>Gd.ite (λk=>by simp [hl] at k) (λ_=>Gd.bind_eq Y (Gd.ret rfl)))
theorem IT {n:Net} (hc:bV n=some 0) (l:List Qm) (hl:l.length<=1000) (hnd:l.Nodup) (hs:∀ x ∈ l,x ∈ nm n):eF n l=some 0:=by
 rw [<- Gd.eq];unfold eF;refine Gd.bind_eq hc (Gd.ite (λh=>by simp at h) (λ_=>?_))
 refine Gd.dO (Q:=λe=>e=0) (λi (ys:List Qm) (_:Unit)=>i+ys.length=l.length/\l.drop i=ys) ?_ (λ_ _ _=>Gd.ret rfl) l 0 () ⟨by simp,rfl⟩
 rintro i y ys _ nx ⟨hi,hd⟩ I;simp only [QA] at hi;have O:i<l.length:=by omega
 have hy:l[i]=y:=by
  have e:=Q0 O;rw [hd] at e; exact (Vr e).1.symm
 have hd':l.drop (i+1)=ys:=by
  have:=Q9 (List.drop 1) hd;simpa [Sd] using this
 have Y:y ∈ nm n:=hs y (hy▸Q3 O);obtain ⟨q,hq,J⟩:=RG.1 Y;rw [yT] at hq;have J:n.bB[q].Name=y:=by simpa [nm] using J
 unfold qd;refine Gd.eM (P:=λb=>b=true) ?_ (λb hb=>?_)
 ·unfold cM cP
  refine Gd.eM (P:=λr=>(0:Int)<=r) ?_ (λr hr=>Gd.ret (by simpa using hr))
  refine Gd.kW (Q:=λr=>(0:Int)<=r) (λm i (_:Unit)=>i+m=n.bB.length/\i<=q) ?_ (λi _ h=>by omega) ((n.bB.length:Int)).toNat 0 () ⟨by omega,by omega⟩
  rintro m i _ nx ⟨hi,hiq⟩ I;unfold dL;refine Gd.iP (by omega) (Gd.ite (λ_=>Gd.ret (by omega)) (λh=>I () ⟨by omega,?_⟩))
  refine Nat.lt_of_le_of_ne hiq (λe=>?_);subst e;simp [pd,J] at h
 ·subst hb
  refine Gd.ite (λh=>by simp at h) (λ_=>Gd.nd (by omega) ?_)
  rw [qz,II,Qr];refine Gd.ite (λh=>?_) (λ_=>I () ⟨by omega,hd'⟩)
  exfalso;have h:=Qv h;obtain ⟨p,hp,Z⟩:=List.mem_take_iff_getElem.1 h;rw [<- hy] at Z;have:p=i:=(List.getElem_inj hnd).1 Z;omega
def wZ (off:List BA) (x:BA):Bool:=!decide (x ∈ off)
theorem LU (off:List BA) (x:BA):jY x off=some (!wZ off x):=by
 unfold jY wZ;rw [qz,Bool.not_not]; rfl
theorem IB (off A:List BA) (hA:A.length<=1000):Gd (dX A off) (λr=>r=A.filter (wZ off)):=
 zP (λy=>jY y off) (wZ off) (LU off) ⟨#[]⟩ A (by omega)
def Ba (n:Net) (names off:List BA):Prop:=BX n (names.filter (wZ off))
theorem HN {n:Net} (O:pG n) (I:px n) (names off:List BA) (hl:names.length<=1000):Gd (oc off names n) (λb=>b=true↔Ba n names off):=by
 unfold oc;refine Gd.nd (by omega) (Gd.eM (IB off names hl) (λr J=>?_))
 subst J;obtain ⟨e,he⟩:=Gn (O.q_ (names.filter (wZ off)));refine Gd.bind_eq (HD I _) (Gd.bind_eq he (Gd.ret ?_));unfold Ba BX;rw [he];constructor
 ·intro h; rw [Qv h]
 ·intro h; exact Wq (Qs h)
theorem KQ {y:BA}{s L:List BA}{m:Nat} (h:s.Sublist (y::L)) (hl:s.length=m+1):s.Sublist L\/∃ s',s=y::s'/\s'.Sublist L/\s'.length=m:=by
 cases h with
 | cons _ h=>exact .inl h
 | cons_cons _ h=>exact .inr ⟨_,rfl,h,by simpa using hl⟩
theorem Bj {n:Net} (hz:pG n) (hV:px n) (names:List BA) (hl:names.length<=12):∀ (m:Nat) (off:List BA) (i:Nat),off.length+m<=1000->i<=names.length->∀ f,m<f ->
  Gd (dN f names off (i:Int) (m:Int) names n) (λr=>
   (r.2=true->∃ s,r.1=off++s/\s.Sublist (names.drop i)/\s.length=m/\Ba n names r.1) /\
   (r.2=false->∀ s,s.Sublist (names.drop i)->s.length=m->¬ Ba n names (off++s)))
 | m,off,i,ho,hi,0,hf=>by omega
 | m,off,i,ho,hi,f+1,hf=>by
  show Gd (eI (dN f) names off i m names n) _;unfold eI;refine Gd.ite (λh=>?_) (λh=>?_)
  ·have hm:m=0:=by have:=Qv h; omega
   subst hm;refine Gd.eM (HN hz hV names off (by omega)) (λb hb=>Gd.ret ⟨λh=>⟨[],by simp,by simp,rfl,hb.1 h⟩,λh s hs h0 Y=>?_⟩)
   have hs0:=QZ h0;subst hs0;rw [Q8] at Y;have:=hb.2 Y;simp only at h;rw [h] at this; cases this
  ·obtain ⟨k,rfl⟩:∃ k,m=k+1:=⟨m-1,by have:=QE h; omega⟩
   have hwm:i64.wrap (((k+1:Nat):Int)-1)=(k:Int):=by rw [bT ⟨by omega,by omega⟩]; omega
   refine Gd.iL (λ(s:Int)=>∃ j:Nat,s=j/\i<=j/\j<=names.length/\∀ s,s.Sublist (names.drop i)->s.length=k+1->¬ Ba n names (off++s)\/s.Sublist (names.drop j)) (λs=>names.length-s.toNat) ?_ fT _ ⟨i,rfl,QM _,hi,λs hs _=>.inr hs⟩ (by unfold fT; omega)
   rintro _ nx ⟨j,rfl,hij,hj,hI⟩ hn;unfold jZ;refine Gd.ite (λh=>?_) (λh=>Gd.ret ⟨λh=>by simp at h,λ_ s hs J Y=>?_⟩)
   ·have I:j<names.length:=by have:=Qv h; omega
    have hwj:i64.wrap ((j:Int)+1)=((j+1:Nat):Int):=by rw [bT ⟨by omega,by omega⟩]; omega
    have hd:=Q0 I;rw [hwj,hwm];refine Gd.nd (by omega) (Gd.iP I ?_)
    rw [KM];refine Gd.nd (by simp only [QA,VB]; omega) ?_
    refine Gd.eM (Bj hz hV names hl k (off++[names[j]]) (j+1) (by simp; omega) I f (by omega)) (λr hr=>Gd.ite (λh=>Gd.ret ⟨λ_=>?_,λh=>by simp at h⟩) (λh=>hn _ ⟨j+1,rfl,by omega,I,λs hs J=>?_⟩ (by simp only [Qr]; omega)))
    ·obtain ⟨s,h1,Z,h3,h4⟩:=hr.1 h
     refine ⟨names[j]::s,by simp [h1],?_,by simp [h3],h4⟩
     refine (Z.cons_cons _).trans ?_;rw [<- hd];obtain ⟨d,rfl⟩:∃ d,j=i+d:=⟨j-i,by omega⟩
     rw [<- Sd];exact List.drop_sublist _ _
    ·rcases hI s hs J with O | O
     ·exact .inl O
     ·rw [hd] at O
      rcases KQ O J with O | ⟨s',rfl,Z,h3⟩
      ·exact .inr O
      ·have:=hr.2 h s' Z h3
       rw [QV] at this;exact .inl this
   ·have I:j=names.length:=by have:=QE h; omega
    rcases hI s hs J with O | O
    ·exact O Y
    ·rw [I,Tj] at O
     rw [List.sublist_nil.1 O] at J;simp at J
theorem zH {n:Net} (hz:pG n) (hV:px n) (on:List BA) (hc:eF n on=some 0) (hl:on.length<=5) (names:List BA) (O:names=(nm n).filter (λx=>decide (x ∈ on))):
  Gd (gS n on) (λr=>(r.2=0/\r.1.Sublist names/\Ba n names r.1/\∀ s,s.Sublist names->s.length<r.1.length->¬ Ba n names s) \/
   (r=([],8)/\∀ s,s.Sublist names->¬ Ba n names s)):=by
 have hnl:=yT n;have h5:=hV.l5;have J:names.length<=12:=by
  rw [O]; exact Rp (VA _ _) (by omega)
 unfold gS;refine Gd.bind_eq hc (Gd.ite (λh=>by simp at h) (λ_=>Gd.ite (λh=>?_) (λ_=>?_)))
 ·have:=Qv h
  omega
 refine Gd.dO (λi (ys:List aF) (w:List BA)=>i+ys.length=n.bB.length/\n.bB.drop i=ys/\w=((nm n).take i).filter (λx=>decide (x ∈ on))/\w.length<=i) ?_ ?_ n.bB 0 [] ⟨by simp,rfl,by simp,by simp⟩
 ·rintro i y ys w nx ⟨hi,hd,hw,hwl⟩ Y
  simp only [QA] at hi;have hil:i<n.bB.length:=by omega
  have hy:n.bB[i]=y:=by
   have e:=Q0 hil;rw [hd] at e; exact (Vr e).1.symm
  have I:n.bB.drop (i+1)=ys:=by
   have:=Q9 (List.drop 1) hd;simpa [Sd] using this
  have um:i<(nm n).length:=by omega
  have hny:(nm n)[i]=y.Name:=by simp [nm,hy]
  have Z:((nm n).take (i+1)).filter (λx=>decide (x ∈ on))=w++(if decide (y.Name ∈ on) then [y.Name] else []):=by
   rw [QS um,R4,<- hw,hny]
   congr 1
   simp only [Vv,List.filter_nil]
  unfold rF nt;rw [qz];refine Gd.ite (λh=>Gd.nd (by simp only [QA,VB]; omega) (Y _ ⟨by omega,I,?_,by simp; omega⟩)) (λh=>Y _ ⟨by omega,I,?_,by omega⟩)
  ·rw [Z,Qx h]
  ·rw [Z,Qw (by rw [h]; simp),Q8]
 ·rintro i w ⟨hi,_,hw,_⟩
  rw [QH (by simp at hi; omega),<- O] at hw
  subst hw;refine Gd.iL (λ(s:Int)=>∃ k:Nat,s=k/\k<=w.length+1/\∀ s,s.Sublist w->s.length<k->¬ Ba n w s) (λs=>w.length+1-s.toNat) ?_ fT _ ⟨0,rfl,by omega,λs _ h=>by omega⟩ (by unfold fT; simp; omega)
  rintro _ nx ⟨k,rfl,hk,hI⟩ hn;unfold rG;refine Gd.ite (λh=>?_) (λh=>Gd.ret (.inr ⟨rfl,λs hs=>hI s hs ?_⟩))
  ·have hkw:k<=w.length:=by have:=Qv h; omega
   have hwk:i64.wrap ((k:Int)+1)=((k+1:Nat):Int):=by rw [bT ⟨by omega,by omega⟩]; omega
   unfold kZ;rw [hwk];refine Gd.eM (Bj hz hV w J k [] 0 (by simp; omega) (Nat.zero_le _) fT (by unfold fT; omega)) (λr hr=>Gd.ite (λh=>Gd.ret (.inl ?_)) (λh=>hn _ ⟨k+1,rfl,by omega,λs hs hs1=>?_⟩ (by simp only [Qr]; omega)))
   ·obtain ⟨s,h1,h2,h3,h4⟩:=hr.1 h
    rw [R7] at h1;rw [RN,<- h1] at h2;exact ⟨rfl,h2,h4,λs' hs hl'=>hI s' hs (by rw [h1] at hl'; omega)⟩
   ·by_cases e:s.length=k
    ·have:=hr.2 h s (by rw [RN]; exact hs) e
     rwa [R7] at this
    ·exact hI s hs (by omega)
  ·have:=hs.length_le
   have:=QE h;omega
theorem GF {c:Net} (hz:pG c):∃ r,gK c=some r:=by
 suffices h:Gd (gK c) (λ_=>True) by
  obtain ⟨e,he,_⟩:=h;exact ⟨e,he⟩
 unfold gK;rcases wP c hz with ⟨x,hx,hi⟩ | ⟨t,p,s,hV,hn,hg,ht,hb,hi,hfc,hs,I,hv⟩
 ·exact Gd.bind_eq hi (Gd.ite (λ_=>Gd.ret Qo) (λk=>absurd (by simpa using k) hx))
 ·obtain ⟨qs,Z,J⟩:=Ht I.f
  have O:qs.length=c.aH.length:=by
   have:=I.fl;rw [Z,Sq] at this;exact this
  have Y:=DL hV (qs:=qs) O J;rw [<- Z] at Y;exact Gd.bind_eq hi (Gd.ite (λk=>by simp at k) (λ_=>Gd.bind_eq hs (Gd.ite (λk=>by simp at k) (λ_=>Gd.bind_eq Y (Gd.ret Qo)))))
theorem I9 {n:Net} (I:px n) {l:List BA} (h:eF n l=some 0) {r:cG×List Qm×Int} (hs:gK (q_ n l)=some r):eA n l=some r:=by
 rw [<- Gd.eq];unfold eA;exact Gd.bind_eq (Dc I h) (Gd.ite (λk=>by simp at k) (λ_=>Gd.bind_eq hs (Gd.ret rfl)))
theorem It {n:Net}{l:List BA}{r:cG×List Qm×Int} (hs:gK (q_ n l)=some r):BX n l↔r.2.2=0/\r.2.1=[]:=by
 unfold BX l7;rw [hs];show (if _ then _ else _)=_↔_
 by_cases I:r.2.2=0
 ·by_cases J:r.2.1=[]
  ·simp [I,J]
  ·have:0<r.2.1.length:=VC.2 J
   simp [I,J]
 ·simp [I]
abbrev Node:=bF
abbrev C5:=aY
abbrev Sw:=aR
theorem vK {α:Type}{l:List α}{i:Nat} (h:i<l.length):∃ x,l[i]? = some x:=⟨_,Qp h⟩
theorem CQ {α:Type}{l:List α}{i:Nat}{x:α} (h:l[i]? = some x):i<l.length:=(Qt.1 h).1
theorem drop_cons {α:Type}{l:List α}{k:Nat}{y:α}{ys:List α} (h:y::ys=l.drop k):l[k]? = some y/\ys=l.drop (k+1):=by
 constructor
 ·have:=Q9 (·[0]?) h
  simpa [Q_] using this.symm
 ·have:=Q9 (List.drop 1) h
  simpa using this
theorem xZ (s:Qm) (h:s.size<=maxLen):Gd (bL s) (λ_=>True):=by
 unfold bL;refine Gd.nd h (Gd.dO (λ_ _ _=>True) (λi y ys s n _ hn=>?_) (λi s _=>Gd.ret Qo) _ _ _ Qo);unfold oa;exact Gd.ite (λ_=>Gd.ret Qo) (λ_=>hn _ Qo)
structure At (l:List Sw) (name:Qm) (r:Int):Prop where
 no:r<0->∀ x ∈ l,x.Name≠name
 yes:0<=r->∃ x,l[r.toNat]? = some x/\x.Name=name
theorem Bz (l:List Sw) (name:Qm):Gd (lJ l name) (At l name):=by
 unfold lJ;refine Gd.eM (P:=At l name) ?_ (λa h=>Gd.ret h);unfold cB;refine Gd.kW (λm i _=>i+m=l.length/\∀ x ∈ l.take i,x.Name≠name) ?_ ?_ (l.length:Int).toNat 0 () ⟨by omega,by simp⟩
 ·intro m i _ J ⟨hi,hno⟩ hnx
  unfold cU;refine Gd.iP (by omega) ?_
  refine Gd.ite (λh=>Gd.ret ⟨λh=>by omega,λ_=>⟨l[i]'(by omega),by rw [show ((i:Int)).toNat=i by omega]; exact Qp _,by simpa [lQ] using h⟩⟩) (λh=>hnx () ⟨by omega,?_⟩)
  intro x I;rw [QS (by omega),QG,QY] at I
  rcases I with I | rfl
  ·exact hno x I
  ·simpa [lQ] using h
 ·intro i _ ⟨hi,hno⟩
  refine Gd.ret ⟨λ_=>?_,λh=>by omega⟩
  rw [QH (by omega)] at hno
  exact hno
def GN (l:List Sw):Prop:=l.length<=32/\(∀ x ∈ l,bL x.Name=some true)/\(l.map (·.Name)).Nodup
theorem IK (l:List Sw) (hl:∀ x ∈ l,x.Name.size<=maxLen):Gd (lv l) (λe=>e=0↔GN l):=by
 unfold lv;refine Gd.ite (λh=>Gd.ret ?_) (λh=>?_)
 ·simp only [Rb] at h
  exact ⟨λh=>by omega,λY=>by have:=Y.1; omega⟩
 ·simp only [Wo] at h
  refine Gd.dO (λk ys _=>ys=l.drop k/\k<=l.length/\(∀ x ∈ l.take k,bL x.Name=some true)/\((l.take k).map (·.Name)).Nodup) ?_ ?_ l 0 () ⟨by simp,by omega,by simp,by simp⟩
  ·rintro k y ys _ nx ⟨O,hk,hn,hd⟩ hnx
   obtain ⟨hy,hys'⟩:=drop_cons O;have hky:=CQ hy;have hym:=QB hy;obtain ⟨b,hb,_⟩:=xZ y.Name (hl y hym);have J:l.take (k+1)=l.take k++[y]:=by rw [VG,hy]; rfl
   unfold n9;refine Gd.bind_eq hb (Gd.ite (λh=>Gd.ret ?_) (λh=>?_))
   ·refine ⟨λh=>by omega,λY=>?_⟩
    have:=Y.2.1 y hym;rw [hb] at this; cases this; simp at h
   ·have hbt:b=true:=by simpa using h
    subst hbt;refine Gd.nd (by omega) ?_
    refine Gd.eM (Bz _ _) (λr hr=>Gd.ite (λh=>Gd.ret ?_) (λh=>?_))
    ·refine ⟨λh=>by omega,λY=>?_⟩
     simp only [Rb] at h;obtain ⟨x,I,hxn⟩:=hr.yes h;simp only [rJ,RN,Tr,Qr] at I;have hnd:=Y.2.2;rw [Rf] at I
     split at I
     case isFalse=>cases I
     rename_i hlt
     rw [<- RT k l,RP,Rj] at hnd;refine absurd hxn (hnd.2.2 _ (Rd.2 ⟨x,?_,rfl⟩) _ (Rd.2 ⟨y,?_,rfl⟩))
     ·exact QB (i:=r.toNat) (by rw [Rf,Qx hlt]; exact I)
     ·rw [<- O]; exact Qu ..
    ·simp only [Wo] at h
     have hno:=hr.no (by omega)
     simp only [rJ,RN,Tr,Qr] at hno;refine hnx () ⟨hys',by omega,?_,?_⟩
     ·rw [J]
      intro x I;rw [QG,QY] at I;rcases I with I | rfl
      ·exact hn x I
      ·exact hb
     ·rw [J,RP,Rj]
      refine ⟨hd,by simp,?_⟩
      rintro a ha b Z rfl;simp only [Te,UU,QY] at Z;obtain ⟨x,I,rfl⟩:=Rd.1 ha;exact hno x I Z
  ·rintro k _ ⟨O,hk,hn,hd⟩
   have:l.length<=k:=by
    have:=Q9 List.length O;simp at this; omega
   rw [QH this] at hn hd;exact Gd.ret ⟨λ_=>⟨by omega,hn,hd⟩,λ_=>rfl⟩
def FG (k:Nat) (y:Node):Prop:=(y.Kind=4->0<=y.A/\y.A<k)/\((y.Kind=5\/y.Kind=6)->0<=y.A/\y.A<k/\0<=y.B_/\y.B_<k)
structure AT (c:List Node):Prop where
 pos:0<c.length
 len:c.length<=40
 ok:∀ j y,c[j]? = some y->FG j y
structure CI (c:List Node) (k:Nat) (l:List Int):Prop where
 len:l.length=c.length
 st:∀ (j:Nat) (v:Int),j<k->l[j]? = some v->0<=v/\v<=j
 ok:∀ j y,j<k->c[j]? = some y->FG j y
theorem CI.next {c:List Node}{k:Nat}{l:List Int}{y:Node}{v:Int} (h:CI c k l) (Y:c[k]? = some y) (hn:FG k y) (Z:0<=v) (h1:v<=k):CI c (k+1) (l.set k v):=by
 refine ⟨by simp [h.len],?_,?_⟩
 ·intro j w O I
  rw [T8] at I
  split at I
  ·rename_i e
   split at I
   ·cases I; omega
   ·cases I
  ·exact h.st j w (by omega) I
 ·intro j z O J
  by_cases e:j=k
  ·subst e; rw [Y] at J; cases J; exact hn
  ·exact h.ok j z (by omega) J
theorem JA:kH=eH:=rfl
theorem Jm {c:List Node}{k:Nat}{l:List Int}{y:Node}{Q:Int->Prop}{nx:List Int->Option Int} (h:CI c k l) (hc:c.length<=40) (hy:c[k]? = some y) (I:Q 3) (J:∀ l',CI c (k+1) l'->Gd (nx l') Q)
  (b:Bool) (Y:y.Kind≠4) (hb:b=false->y.Kind≠5/\y.Kind≠6):Gd (eH l nx y k b) Q:=by
 have hk:=CQ hy;have hw:i64.wrap ((k:Int)-1)=(k:Int)-1:=bT (by omega)
 have Z:((k:Int)).toNat=k:=by omega
 unfold eH dY;rw [hw,Z];refine Gd.ite (λ_=>?_) (λh0=>?_)
 ·refine Gd.ite (λ_=>Gd.ret I) (λh1=>?_)
  simp only [Wo] at h1;refine Gd.ite (λh2=>?_) (λ_=>Gd.ret I);simp only [Rb] at h2;obtain ⟨p,hp⟩:=vK (l:=l) (i:=k-1) (by rw [h.len]; omega)
  have O:(l.set k (k:Int))[((k:Int)-1).toNat]? = some p:=by
   rw [show ((k:Int)-1).toNat=k-1 by omega,T8,Qw (by omega)]; exact hp
  have hpb:=h.st (k-1) p (by omega) hp
  refine Gd.ix (by omega) O (Gd.ite (λ_=>Gd.ret I) (λh3=>?_))
  simp only [Wo] at h3;refine Gd.ix (by omega) O ?_
  rw [bT (n:=p-1) (by omega)]
  refine Gd.ite (λ_=>Gd.ret I) (λY=>?_);have Y:y.A=p-1:=by simpa using Y
  obtain ⟨q,hq⟩:=vK (l:=l) (i:=y.A.toNat) (by rw [h.len]; omega)
  have hq':(l.set k (k:Int))[y.A.toNat]? = some q:=by
   rw [T8,Qw (by omega)]; exact hq
  have hqb:=h.st y.A.toNat q (by omega) hq
  refine Gd.ix (by omega) hq' (Gd.iP (by simp [h.len]; omega) ?_)
  rw [List.set_set];exact J _ (h.next hy ⟨λe=>by omega,λ_=>⟨by omega,by omega,by omega,by omega⟩⟩ hqb.1 (by omega))
 ·refine Gd.ite (λ_=>Gd.ret I) (λh1=>?_)
  have:=hb h0;exact J _ (h.next hy ⟨λe=>absurd e Y,λe=>by omega⟩ (by omega) (by omega))
theorem wM (c:List Node) (hc:∀ x ∈ c,x.Name.size<=maxLen):Gd (kQ c) (λe=>e=0->AT c):=by
 unfold kQ;refine Gd.ite (λ_=>Gd.ret (by omega)) (λh40=>?_)
 simp only [Wo] at h40;refine Gd.ite (λ_=>Gd.ret (by omega)) (λh1=>?_)
 simp only [Wo] at h1;refine Gd.nd (by omega) ?_
 refine Gd.dO (λk ys l=>ys=c.drop k/\CI c k l) ?_ ?_ c 0 _ ⟨by simp,by simp,λj v hj=>by omega,λj y hj=>by omega⟩
 ·rintro k y ys l nx ⟨Y,J⟩ hnx
  obtain ⟨hy,hys'⟩:=drop_cons Y;have hk:=CQ hy;have I:∀ l',CI c (k+1) l'->Gd (nx l') (λe=>e=0->AT c):=λl' h=>hnx l' ⟨hys',h⟩;have hkn:((k:Int)).toNat=k:=by omega
  have hw:i64.wrap ((k:Int)-1)=(k:Int)-1:=bT (by omega)
  have rest:Gd (idx l (k:Int) λy926=>if decide (y.Kind=4) then (if ((decide ((k:Int)=0)) || (!decide (y.A=(i64.wrap ((k:Int)-1))))) || (!decide (y.B_=0)) then (some 3) else (idx (l.set (((k:Int):Int).toNat) ((k:Int))) y.A λy939=>idx (l.set (((k:Int):Int).toNat) ((k:Int))) (k:Int) λy943=>dY nx ((l.set (((k:Int):Int).toNat) ((k:Int))).set (((k:Int):Int).toNat) y939))) else (if decide (y.Kind=5) then (eH l nx y k (decide (y.Kind=5))) else (eH l nx y k (decide (y.Kind=6)))))
    (λe=>e=0->AT c):=by
   rw [hw,hkn];refine Gd.iP (by rw [J.len]; exact hk) ?_
   refine Gd.ite (λZ=>?_) (λZ=>?_)
   ·refine Gd.ite (λ_=>Gd.ret (by omega)) (λO=>?_)
    simp only [Vg,Wo,Vf,Rb] at O;obtain ⟨q,hq⟩:=vK (l:=l) (i:=y.A.toNat) (by rw [J.len]; omega)
    have hq':(l.set k (k:Int))[y.A.toNat]? = some q:=by
     rw [T8,Qw (by omega)]; exact hq
    have hqb:=J.st y.A.toNat q (by omega) hq
    refine Gd.ix (by omega) hq' (Gd.iP (by simp [J.len]; omega) ?_)
    rw [List.set_set];simp only [Rb] at Z;exact I _ (J.next hy ⟨λe=>by omega,λe=>by omega⟩ hqb.1 (by omega))
   ·simp only [Wo] at Z
    refine Gd.ite (λO=>?_) (λO=>?_)
    ·exact Jm J (by omega) hy (by omega) I _ Z (λh=>by simp only [Wo] at h; simp only [Rb] at O; exact absurd O h)
    ·exact Jm J (by omega) hy (by omega) I _ Z (λh=>by simp only [Wo] at h O; exact ⟨O,h⟩)
  unfold oD;rw [JA];refine Gd.ite (λ_=>Gd.ret (by omega)) (λ_=>?_)
  refine Gd.ite (λ_=>?_) (λ_=>?_)
  ·refine Gd.eM (xZ _ (hc y (QB hy))) (λb _=>Gd.ite (λ_=>Gd.ret (by omega)) (λ_=>rest))
  ·exact Gd.ite (λ_=>Gd.ret (by omega)) (λ_=>rest)
 ·rintro k l ⟨Y,J⟩
  have hk:c.length<=k:=by
   have:=Q9 List.length Y;simp at this; omega
  have hw:i64.wrap ((c.length:Int)-1)=(c.length:Int)-1:=bT (by omega)
  rw [hw];obtain ⟨q,hq⟩:=vK (l:=l) (i:=((c.length:Int)-1).toNat) (by rw [J.len]; omega)
  refine Gd.ix (by omega) hq (Gd.ite (λ_=>Gd.ret (by omega)) (λ_=>Gd.ret λ_=>⟨by omega,by omega,λj y hj=>J.ok j y (by have:=CQ hj; omega) hj⟩))
def I7 (r:C5):Prop:=bL r.Switch=some true/\kQ r.wK=some 0
def AY (r:C5):Prop:=r.Switch.size<=maxLen/\∀ x ∈ r.wK,x.Name.size<=maxLen
def y7 (l:List C5):Prop:=l.length<=24/\∀ r ∈ l,I7 r
theorem CO (l:List C5) (hl:∀ r ∈ l,AY r):Gd (mP l) (λe=>e=0↔y7 l):=by
 unfold mP;refine Gd.ite (λh=>Gd.ret ?_) (λh=>?_)
 ·simp only [Rb] at h
  exact ⟨λh=>by omega,λI=>by have:=I.1; omega⟩
 ·simp only [Wo] at h
  refine Gd.dO (λk ys _=>(∀ r ∈ ys,r ∈ l)/\∀ r ∈ l,r ∈ ys\/I7 r) ?_ ?_ l 0 () ⟨λr h=>h,λr h=>.inl h⟩
  ·rintro k y ys _ nx ⟨Y,Z⟩ hnx
   have O:=Y y (Qu ..);unfold q6;obtain ⟨b,hb,_⟩:=xZ y.Switch (hl y O).1;obtain ⟨e,he,_⟩:=wM y.wK (hl y O).2;refine Gd.bind_eq hb (Gd.ite (λh=>Gd.ret ?_) (λh=>Gd.bind_eq he (Gd.ite (λh=>Gd.ret ?_) (λI=>hnx () ⟨λr J=>Y r (Qy _ J),λr J=>?_⟩))))
   ·refine ⟨λh=>by omega,λI=>?_⟩
    have:=(I.2 y O).1;rw [hb] at this; cases this; simp at h
   ·have h:e≠0:=by simpa using h
    refine ⟨λI=>absurd I h,λI=>?_⟩;have:=(I.2 y O).2;rw [he] at this; cases this; simp at h
   ·have hbt:b=true:=by simpa using h
    have het:e=0:=by simpa using I
    subst hbt; subst het
    rcases Z r J with h | h
    ·rcases Ra.1 h with rfl | h
     ·exact .inr ⟨hb,he⟩
     ·exact .inl h
    ·exact .inr h
  ·rintro k _ ⟨Y,Z⟩
   exact Gd.ret ⟨λ_=>⟨by omega,λr J=>(Z r J).resolve_left (by simp)⟩,λ_=>rfl⟩
theorem J2 {c:List Node} (hc:AT c) (st:List Sw):Gd (mQ c st) (λ_=>True):=by
 have hl:=hc.len;have hp:=hc.pos;unfold mQ;refine Gd.nd (by omega) ?_
 refine Gd.dO (λk ys (l:List Bool)=>ys=c.drop k/\l.length=c.length) ?_ ?_ c 0 _ ⟨by simp,by simp⟩
 ·rintro k y ys l nx ⟨Z,J⟩ hnx
  obtain ⟨hy,hys'⟩:=drop_cons Z;have hk:=CQ hy;have hn:=hc.ok k y hy;have Y:∀ l':List Bool,l'.length=c.length->Gd (nx l') (λ_=>True):=λl' h=>hnx l' ⟨hys',h⟩;have I:∀ b:Bool,Gd (idx l (k:Int) λ_=>dI nx (l.set ((k:Int)).toNat b)) (λ_=>True):=λb=>
   Gd.iP (by omega) (Y _ (by simp [J]))
  unfold q7;refine Gd.eM (Bz st y.Name) (λr hr=>?_);refine Gd.ite (λ_=>I true) (λ_=>?_);refine Gd.ite (λ_=>Gd.ite (λh=>?_) (λ_=>I false)) (λ_=>?_)
  ·obtain ⟨x,O,_⟩:=hr.yes (by simpa using h)
   exact Gd.ix (by simpa using h) O (I _)
  refine Gd.ite (λ_=>Gd.ite (λh=>?_) (λ_=>I false)) (λ_=>?_)
  ·obtain ⟨x,O,_⟩:=hr.yes (by simpa using h)
   exact Gd.ix (by simpa using h) O (I _)
  refine Gd.ite (λh=>?_) (λ_=>?_)
  ·have hA:=hn.1 (by simpa using h)
   obtain ⟨x,O⟩:=vK (l:=l) (i:=y.A.toNat) (by omega)
   exact Gd.ix hA.1 O (I _)
  refine Gd.ite (λh=>?_) (λ_=>?_)
  ·have hA:=hn.2 (.inl (by simpa using h))
   obtain ⟨x,O⟩:=vK (l:=l) (i:=y.A.toNat) (by omega)
   obtain ⟨z,hz⟩:=vK (l:=l) (i:=y.B_.toNat) (by omega)
   exact Gd.ix hA.1 O (Gd.ite (λ_=>Gd.ix hA.2.2.1 hz (I _)) (λ_=>I _))
  refine Gd.ite (λh=>?_) (λ_=>Y _ J)
  ·have hA:=hn.2 (.inr (by simpa using h))
   obtain ⟨x,O⟩:=vK (l:=l) (i:=y.A.toNat) (by omega)
   obtain ⟨z,hz⟩:=vK (l:=l) (i:=y.B_.toNat) (by omega)
   exact Gd.ix hA.1 O (Gd.ite (λ_=>I _) (λ_=>Gd.ix hA.2.2.1 hz (I _)))
 ·rintro k l ⟨Z,J⟩
  rw [bT (n:=(c.length:Int)-1) (by omega)]
  obtain ⟨q,hq⟩:=vK (l:=l) (i:=((c.length:Int)-1).toNat) (by omega)
  exact Gd.ix (by omega) hq (Gd.ret Qo)
def xz (st:List Sw) (I:Bool) (name:Qm) (r:C5):Prop:=r.Close=I->r.Switch=name->mQ r.wK st=some true
theorem F4 {l:List C5} (hl:y7 l) (hz:∀ r ∈ l,AY r) {st:List Sw} (hs:GN st) (hsz:∀ x ∈ st,x.Name.size<=maxLen) (I:Bool) {name:Qm} (hn:∃ x ∈ st,x.Name=name):
  Gd (nk l st I name) (λr=>r.2=0/\(r.1=[]↔∀ r ∈ l,xz st I name r)):=by
 unfold nk;obtain ⟨e,he,heq⟩:=CO l hz;obtain ⟨f,hf,hfq⟩:=IK st hsz;have e0:=heq.2 hl;have f0:=hfq.2 hs;subst e0; subst f0
 refine Gd.bind_eq he (Gd.ite (λh=>by simp at h) (λ_=>Gd.bind_eq hf (Gd.ite (λh=>by simp at h) (λ_=>?_))))
 refine Gd.eM (Bz st name) (λi hi=>Gd.ite (λh=>?_) (λ_=>?_))
 ·obtain ⟨x,hx,hxn⟩:=hn
  exact absurd hxn (hi.no (by simpa using h) x hx)
 have h24:=hl.1;refine Gd.dO (λk ys (out:List Int)=>ys=l.drop k/\out.length<=k/\(out=[]↔∀ r ∈ l.take k,xz st I name r)) ?_ ?_ l 0 [] ⟨by simp,by simp,by simp⟩
 ·rintro k y ys out nx ⟨hys,hlen,hq⟩ hnx
  obtain ⟨hy,Z⟩:=drop_cons hys;have hk:=CQ hy;have htake:l.take (k+1)=l.take k++[y]:=by rw [VG,hy]; rfl
  have O:(∀ r ∈ l.take (k+1),xz st I name r)↔(∀ r ∈ l.take k,xz st I name r)/\xz st I name y:=by
   rw [htake];constructor
   ·intro h; exact ⟨λr Y=>h r (Qq _ Y),h y (by simp)⟩
   ·rintro ⟨h1,h2⟩ r Y
    rcases QG.1 Y with Y | Y
    ·exact h1 r Y
    ·rw [QY] at Y; subst Y; exact h2
  have J:xz st I name y->Gd (nx out) (λr=>r.2=0/\(r.1=[]↔∀ r ∈ l,xz st I name r)):=λha=>
   hnx out ⟨Z,by omega,by rw [O,hq]; exact ⟨λh=>⟨h,ha⟩,λh=>h.1⟩⟩
  have hcond:AT y.wK:=by
   obtain ⟨e,he,hq⟩:=wM y.wK (hz y (QB hy)).2;have:=(hl.2 y (QB hy)).2;rw [he] at this; cases this; exact hq rfl
  obtain ⟨b,hb,_⟩:=J2 hcond st;unfold qa iI;refine Gd.ite (λh1=>Gd.ite (λh2=>Gd.bind_eq hb (Gd.ite (λh3=>?_) (λh3=>J ?_))) (λh2=>J ?_)) (λh1=>J ?_)
  ·refine Gd.nd (by simp; omega) (hnx _ ⟨Z,by simp; omega,?_⟩)
   constructor
   ·intro h; simp at h
   ·intro h
    have:=(O.1 h).2 (by simpa using h1) (by simpa using h2)
    rw [hb] at this; cases this; simp at h3
  ·intro _ _; rw [hb]; simpa using h3
  ·intro _ h; exact absurd h (by simpa using h2)
  ·intro h _; exact absurd h (by simpa using h1)
 ·rintro k out ⟨hys,hlen,hq⟩
  have hk:l.length<=k:=by
   have:=Q9 List.length hys;simp at this; omega
  rw [QH hk] at hq;exact Gd.ret ⟨rfl,hq⟩
theorem DN {l:List C5} (hl:y7 l) (Y:∀ r ∈ l,AY r) {st:List Sw} (hs:GN st) (O:∀ x ∈ st,x.Name.size<=maxLen) (I:Bool) {name:Qm} (hn:∃ x ∈ st,x.Name=name):
  Gd (mf l st I name) (λr=>r.2=0/\(r.1=true↔∀ r ∈ l,xz st I name r)):=by
 unfold mf;refine Gd.eM (F4 hl Y hs O I hn) (λr J=>Gd.ret ⟨J.1,?_⟩);rw [J.1,<- J.2];cases r.1 <;> simp <;> omega
structure La (n:Net) (on:List BA) (s:cG) (ov:List BA):Prop where
 M7:eF n on=some 0
 cn:bV n=some 0
 v:px n
 al:s.fD.length<=100000
 fl:s.eO.length=n.aH.length
 ff:∀ x ∈ s.eO,∃ q,fits q/\x=ctext q
 oe:lO n s.eO=some ov
 ol:ov.length<=24
 om:∀ x ∈ ov,∃ b ∈ n.aH,b.Name=x
 P6:∃ p,gQ (q_ n on)=some (p,0)/\tI (q_ n on) p s=some 0
theorem Iu {l:List (aK×Rat)}:∀ {x:BA},x ∈ l.flatMap yu->∃ z ∈ l,z.1.Name=x:=by
 intro x I;obtain ⟨z,J,I⟩:=Ss.1 I;refine ⟨z,J,?_⟩
 by_cases h:zQ z
 ·rw [zX h] at I
  simp at I;exact I.symm
 ·rw [B0 h] at I
  simp at I
theorem CT:∀ (l:List (aK×Rat)),(l.flatMap yu).length<=l.length
 | []=>by simp
 | z::l=>by
  have:=CT l;have:(yu z).length<=1:=by
   by_cases h:zQ z
   ·rw [zX h]; simp
   ·rw [B0 h]; simp
  simp only [RJ,QJ,QA];omega
theorem AZ {n:Net} (O:pG n) (on:List BA):Gd (eA n on) (λr=>(r.2.2≠0->r=(cG.mk [] [],[],r.2.2))/\(r.2.2=0->La n on r.1 r.2.1)):=by
 obtain ⟨e,he,hok⟩:=IS O on
 by_cases h0:e=0
 ·subst h0
  have J:=hok rfl;have Y:px n:=by
   obtain ⟨f,hf,hs⟩:=UI n O;rw [J] at hf;exact hs (Qs hf).symm
  rcases wP (q_ n on) (O.q_ on) with ⟨x,Z,hi⟩ | ⟨t,p,s,hV',hn,hg,ht,hb,hi,hfc,hs,I,hv⟩
  ·rw [HJ Y he Z hi]
   exact Gd.ret ⟨λ_=>rfl,λh=>absurd h Z⟩
  ·obtain ⟨qs,hq,hqf⟩:=Ht I.f
   have hql:qs.length=(q_ n on).aH.length:=by
    have:=I.fl;rw [hq,Sq] at this;exact this
   have ho:=DL hV' (qs:=qs) hql hqf;rw [<- hq] at ho;rw [Ja Y he hi hs ho];refine Gd.ret ⟨λh=>absurd rfl h,λ_=>⟨he,J,Y,?_,I.fl,I.f,ho,?_,?_,p,hi,hv⟩⟩
   ·have:=I.al
    have:=ht.I6;show s.fD.length<=100000;omega
   ·refine Rp (CT _) ?_
    rw [List.length_zip];exact Rp (Nat.min_le_left _ _) Y.l3
   ·intro x Z
    obtain ⟨z,O,he⟩:=Iu Z;exact ⟨z.1,(List.of_mem_zip O).1,he⟩
 ·rw [I_ he h0]
  exact Gd.ret ⟨λ_=>rfl,λh=>absurd h h0⟩
def N3 {α:Type} (p:α->Bool) (l:List α) (r:Int):Prop:=(r = -1/\∀ x ∈ l,p x=false)\/∃ i,∃ h:i<l.length,r=(i:Int)/\p l[i]=true/\∀ x ∈ l.take i,p x=false
theorem G9 {α:Type} (p:α->Bool) (l:List α):
  Gd (kW (λk (_:Unit) n=>idx l (k:Int) λy=>if p y then (some (k:Int)) else (n ())) (λ_=>some (-1)) ((l.length:Int):Int).toNat 0 ()) (N3 p l):=by
 refine Gd.kW (λm i _=>i+m=l.length/\∀ x ∈ l.take i,p x=false) ?_ ?_ (l.length:Int).toNat 0 () ⟨by omega,by simp⟩
 ·intro m i _ O ⟨hi,hno⟩ hnx
  have I:i<l.length:=by omega
  refine Gd.iP I (Gd.ite (λh=>Gd.ret (.inr ⟨i,I,rfl,h,hno⟩)) (λh=>hnx () ⟨by omega,?_⟩))
  rw [QS I];intro x J;rcases QG.1 J with J | J
  ·exact hno x J
  ·rw [QY.1 J]; exact h
 ·intro i _ ⟨hi,hno⟩
  refine Gd.ret (.inl ⟨rfl,?_⟩);have:l.take i=l:=QH (by omega)
  rw [this] at hno;exact hno
theorem No (l:List aF) (e:aB):Gd (dM l e) (N3 (λx=>decide (x.Name=e.Name)) l):=G9 _ l
theorem Nn (l:List bE) (e:aB):Gd (dT l e) (N3 (λx=>decide (x.Name=e.Name)) l):=G9 _ l
theorem Nq (l:List aS) (e:aB):Gd (cZ l e) (N3 (λx=>decide (x.Name=e.Name)) l):=G9 _ l
theorem Np (l:List aF) (x:BA):Gd (dF l x) (N3 (λy=>decide (y.Name=x)) l):=G9 _ l
theorem Aa (n:Net) (hl:n.bB.length<=12):ql n=some (nm n):=by
 rw [<- Gd.eq];unfold ql;refine Gd.dO (λi (ys:List aF) (w:List BA)=>i+ys.length=n.bB.length/\n.bB.drop i=ys/\w=(n.bB.take i).map (·.Name)) ?_ ?_ n.bB 0 [] ⟨by simp,rfl,by simp⟩
 ·rintro i y ys w nx ⟨hi,J,O⟩ Y
  simp only [QA] at hi;unfold ui;have I:i<n.bB.length:=by omega
  have Z:n.bB[i]=y:=by
   rw [Q0 I] at J;exact (Vr J).1
  refine Gd.nd ?_ (Y _ ⟨by omega,?_,?_⟩)
  ·rw [O]; simp; omega
  ·rw [Q0 I] at J
   exact (Vr J).2
  ·rw [O,QS I,Z]; simp
 ·rintro i w ⟨hi,J,O⟩
  refine Gd.ret ?_;rw [O,QH (by simp at hi; omega)]
  rfl
abbrev Ev:=aB
def yB (e:Ev):Prop:=e.Kind.size<=maxLen/\e.Name.size<=maxLen
theorem LB (s:BA) (h:s.size<=maxLen):Gd (gM s) (λ_=>True):=by
 unfold gM;refine Gd.nd h (Gd.dO (λ_ _ _=>True) (λi y ys s I _ hn=>?_) (λ_ _ _=>Gd.ret Qo) _ _ _ Qo);unfold qJ;exact Gd.ite (λ_=>Gd.ret Qo) (λ_=>hn _ Qo)
theorem HO {e:Ev} (h:yB e):Gd (dG e) (λr=>r=0->0<=e.Time/\e.Time<=200000):=by
 unfold dG;refine Gd.ite (λ_=>Gd.ret (λh=>by simp at h)) (λht=>Gd.eM (LB e.Kind h.1) (λb _=>Gd.ite (λ_=>?_) (λ_=>Gd.ret (λh=>by simp at h))))
 refine Gd.eM (xZ e.Name h.2) (λb _=>Gd.ite (λ_=>Gd.ret (λh=>by simp at h)) (λ_=>Gd.ite (λ_=>Gd.ret (λh=>by simp at h)) (λ_=>Gd.ret (λ_=>?_))))
 simp at ht;omega
theorem Bb {t v:Int}{k s:BA} (ht:0<=t/\t<=200000) (I:gM k=some true) (hs:bL s=some true) (J:-1000000<=v/\v<=1000000):
  dG (aB.mk t k s v)=some 0:=by
 rw [<- Gd.eq];unfold dG;refine Gd.ite (λk=>?_) (λ_=>Gd.bind_eq I (Gd.ite (λ_=>Gd.bind_eq hs (Gd.ite (λk=>by simp at k) (λ_=>Gd.ite (λk=>?_) (λ_=>Gd.ret rfl)))) (λk=>by simp at k)))
 ·simp at k; omega
 ·simp at k; omega
theorem IF:gM (⟨#[115,104,101,100]⟩)=some true:=by kernel_rfl
theorem Gt:gM (⟨#[112,114,111,111,102]⟩)=some true:=by kernel_rfl
theorem append_eq {l:List Ev}{e:Ev} (hl:l.length<300) (ht:∀ x ∈ l,x.Time<=e.Time) (I:dG e=some 0):
  ∃ k,fC (bJ.mk l) e=some (k,0,bJ.mk (l++[e])):=by
 suffices h:Gd (fC (bJ.mk l) e) (λr=>∃ k,r=(k,0,bJ.mk (l++[e]))) by
  obtain ⟨r,O,k,rfl⟩:=h;exact ⟨k,O⟩
 unfold fC;refine Gd.bind_eq I (Gd.ite (λk=>by simp at k) (λ_=>Gd.ite (λJ=>?_) (λ_=>?_)))
 ·have Z:0<l.length:=by simpa using J
  have Y:i64.wrap ((l.length:Int)-1)=((l.length-1:Nat):Int):=by
   rw [bT ⟨by omega,by omega⟩]; omega
  rw [Y];refine Gd.iP (by simp; omega) (Gd.ite (λk=>?_) (λ_=>?_))
  ·have:=ht _ (Q3 (by omega:l.length-1<l.length))
   simp at k;omega
  ·refine Gd.ite (λk=>?_) (λ_=>Gd.nd ?_ (Gd.ret ⟨_,rfl⟩))
   ·simp at k; omega
   ·simp; omega
 ·refine Gd.ite (λk=>?_) (λ_=>Gd.nd ?_ (Gd.ret ⟨_,rfl⟩))
  ·simp at k; omega
  ·simp; omega
theorem Ju {n:Net} (h:px n) {b:aK} (J:b ∈ n.aH):0<=b.w_/\b.w_<=200000:=by
 obtain ⟨_,_,_,_,I⟩:=h.vb b J;unfold jF at I
 split at I
 ·omega
 ·rename_i h6
  simp [bO] at h6;omega
theorem copy_eq {n:Net} (h:px n):kA n=some n:=by
 have:=h.l1; have:=h.l2; have:=h.l3; have:=h.l4; have:=h.l5; have:=h.l6
 rw [<- Gd.eq];unfold kA;exact Gd.nd (by omega) (Gd.nd (by omega) (Gd.nd (by omega) (Gd.nd (by omega) (Gd.nd (by omega) (Gd.nd (by omega) (Gd.ret rfl))))))
structure xa (n:Net) (w:aW):Prop where
 b:w.fV=n.aH
 f:w.gG.length=n.aH.length
 a:w.mO.length=n.aH.length
 o:w.over.length=n.aH.length
theorem Fy {n:Net}{w:aW} (h:xa n w) (hl:n.aH.length<=24):Gd (iX w) (λr=>r.length<=24):=by
 unfold iX;rw [h.b];refine Gd.dO (λi (ys:List aK) (s:List BA)=>i+ys.length=n.aH.length/\s.length<=i) ?_ ?_ n.aH 0 [] ⟨by simp,by simp⟩
 ·rintro i y ys s J ⟨hi,hs⟩ I
  simp only [QA] at hi;unfold qb lM;refine Gd.iP (by rw [h.o]; omega) (Gd.ite (λ_=>Gd.nd ?_ (I _ ⟨by omega,?_⟩)) (λ_=>I _ ⟨by omega,by omega⟩))
  ·simp only [QA,VB]; omega
  ·simp; omega
 ·rintro i s ⟨hi,hs⟩
  exact Gd.ret (by simp at hi; omega)
theorem K2 {n:Net}{w:aW} (h:xa n w) (hV:px n) {fl:List BA} (hl:fl.length=n.aH.length) (hf:∀ x ∈ fl,∃ q,fits q/\x=ctext q) (d:Int):
  Gd (iY w fl d) (λr=>xa n r.2.2):=by
 have I:=hV.l3;unfold iY;refine Gd.eM (P:=λ_=>True) ?_ (λr _=>Gd.ite (λ_=>Gd.ret h) (λ_=>Gd.ite (λ_=>Gd.ret h) (λ_=>Gd.ite (λ_=>Gd.ret h) (λ_=>?_))))
 ·unfold lL
  exact Gd.ite (λ_=>Gd.ret Qo) (λ_=>Gd.eM (xB (λs hs=>Bk (hf s hs))) (λ_ _=>Gd.ret Qo))
 ·rw [h.b]
  refine Gd.dO (λi (ys:List aK) (s:List aA×List Int×List Bool)=>i+ys.length=n.aH.length/\(∀ y ∈ ys,y ∈ n.aH)/\s.1.length=n.aH.length/\s.2.1.length=n.aH.length/\s.2.2.length=n.aH.length) ?_ ?_ n.aH 0 (w.gG,w.mO,w.over) ⟨by simp,λ_ h=>h,h.f,h.a,h.o⟩
  ·rintro i y ys ⟨s1,s2,s3⟩ nx ⟨hi,hd,Z,J,I⟩ Y
   simp only [QA] at hi;simp only at Z J I;have hy:=HR hV (hd y (Qu ..));have hL:=hy.l;have hS:=Ju hV (hd y (Qu ..));have O:∀ z ∈ ys,z ∈ n.aH:=λz hz=>hd z (Qy _ hz);have hif:i<fl.length:=by omega
   obtain ⟨q,hq,hqe⟩:=hf _ (Q3 hif);unfold qc iJ;refine Gd.iP hif ?_;rw [hqe];refine Gd.eM (Ff hq) (λa ha=>Gd.eM (Hu ha.1 ha.2.1 (by omega)) (λb hb=>Gd.iP (by rw [Z]; omega) ?_))
   refine Gd.eM (vj ⟨by omega,by omega⟩) (λc hc=>Gd.eM (DR hb.1 hc.1 hb.2.1 hc.2.1 (by omega)) (λe _=>?_))
   refine Gd.ite (λ_=>Gd.iP (by rw [J]; omega) (Gd.iP (by rw [I]; omega) (Y _ ⟨by omega,O,by simpa using Z,by simpa using J,by simpa using I⟩))) (λ_=>?_)
   refine Gd.iP (by rw [J]; omega) (Gd.iP (by rw [J]; omega) (Gd.iP (by simp; omega) (Gd.ite (λ_=>Gd.iP (by rw [I]; omega) (Y _ ⟨by omega,O,by simpa using Z,by simpa using J,by simpa using I⟩)) (λ_=>?_))))
   refine Gd.eM (vj ⟨by omega,by omega⟩) (λc2 hc2=>Gd.eM (DR hb.1 hc2.1 hb.2.1 hc2.2.1 (by omega)) (λe2 _=>?_))
   exact Gd.ite (λ_=>Gd.iP (by rw [I]; omega) (Y _ ⟨by omega,O,by simpa using Z,by simpa using J,by simpa using I⟩)) (λ_=>Y _ ⟨by omega,O,by simpa using Z,by simpa using J,by simpa using I⟩)
  ·rintro i ⟨s1,s2,s3⟩ ⟨hi,hd,Z,J,I⟩
   have hw:xa n (aW.mk n.aH s1 s2 s3 (i64.wrap (w.time+d))):=⟨rfl,Z,J,I⟩;exact Gd.eM (Fy hw hV.l3) (λr _=>Gd.ret hw)
theorem Hx {n:Net} (O:bV n=some 0) (J:px n):∃ w,mz n=some (some w,0)/\xa n w:=by
 suffices h:Gd (mz n) (λr=>∃ w,r=(some w,0)/\xa n w) by
  obtain ⟨r,I,w,rfl,Y⟩:=h;exact ⟨w,I,Y⟩
 have:=J.l3;unfold mz;refine Gd.bind_eq O (Gd.ite (λk=>by simp at k) (λ_=>Gd.bind_eq (copy_eq J) ?_))
 refine Gd.eM (zD (by omega)) (λr I=>Gd.nd (by omega) (Gd.nd (by omega) (Gd.ret ⟨_,rfl,?_⟩)))
 obtain ⟨z,rfl,_⟩:=I;exact ⟨rfl,by simp,by simp,by simp⟩
abbrev Rm:=aN
abbrev Bf:BA:=⟨#[111,112,101,110]⟩
abbrev yG:BA:=⟨#[99,108,111,115,101]⟩
abbrev GX:BA:=⟨#[98,97,99,107]⟩
abbrev yp:BA:=⟨#[115,104,101,100]⟩
abbrev vJ:BA:=⟨#[112,114,111,111,102]⟩
structure ME (held:List BA) (n:Net) (e:Ev) (l:List aS):Prop where
 k:e.Kind=Bf\/e.Kind=yG
 h:e.Name ∉ held
 s:∃ i,∃ h:i<n.aL.length,n.aL[i].Name=e.Name/\∃ b,l=n.aL.set i (aS.mk n.aL[i].Name n.aL[i].A n.aL[i].B_ n.aL[i].vq b)
structure O0 (held:List BA) (n:Net) (on:List BA) (e:Ev) (c:cX):Prop where
 sz:pG c.n
 br:c.n.aH=n.aH
 ln:nm c.n=nm n
 sw:c.n.aL=n.aL\/ME held n e c.n.aL
 on:e.Kind≠GX/\c.on=on\/e.Kind=GX/\e.Name ∈ nm n/\e.Name ∉ on/\c.on=on++[e.Name]
 ks:e.Kind≠yp/\e.Kind≠vJ
 hn:e.Kind=Bf\/e.Kind=yG->e.Name ∉ held
structure FH (l:List C5):Prop where
 ok:y7 l
 sz:∀ r ∈ l,AY r
theorem KT {n:Net} (h:px n):(n.aL.map (·.Name)).Nodup:=by
 have:=h.nd;unfold names at this;simp only [Rj,QV] at this;exact this.2.1.1
theorem Gm {r:Rm}{n:Net} (O:pG n) (hV:px n) (hr:FH r.rules) {on:List BA}{e:Ev} (he:yB e) (hk:e.Kind=Bf\/e.Kind=yG):
  Gd (nB r (cX.mk n on) e) (λc=>c.1=0->O0 r.held n on e c.2):=by
 have h2:=hV.l2;unfold nB;refine Gd.eM (Nq _ e) (λi hi=>Gd.ite (λ_=>Gd.ret (λh=>by simp at h)) (λh0=>Gd.ite (λ_=>Gd.ret (λh=>by simp at h)) (λ_=>?_)))
 rcases hi with ⟨rfl,_⟩ | ⟨i,I,rfl,hp,_⟩
 ·simp at h0
 have hp:n.aL[i].Name=e.Name:=by simpa using hp
 refine Gd.iP I (Gd.ite (λ_=>Gd.ret (λh=>by simp at h)) (λ_=>?_))
 rw [qz];refine Gd.ite (λ_=>Gd.ret (λh=>by simp at h)) (λhh=>?_)
 have hh:e.Name ∉ r.held:=by simpa using hh
 refine Gd.dO (λj (ys:List aS) (s:List aR)=>j+ys.length=n.aL.length/\n.aL.drop j=ys/\s=(n.aL.take j).map (λy=>aR.mk y.Name (!y.Open))) ?_ ?_ n.aL 0 [] ⟨by simp,rfl,by simp⟩
 ·rintro j y ys s nx ⟨hj,Z,hs⟩ hnx
  simp only [QA] at hj;unfold qh;have Y:j<n.aL.length:=by omega
  have hy:n.aL[j]=y:=by
   rw [Q0 Y] at Z;exact (Vr Z).1
  refine Gd.nd ?_ (hnx _ ⟨by omega,?_,?_⟩)
  ·rw [hs]; simp; omega
  ·rw [Q0 Y] at Z
   exact (Vr Z).2
  ·rw [hs,QS Y,hy]; simp
 ·rintro j s ⟨hj,Z,hs⟩
  rw [QH (by simp at hj; omega)] at hs
  have hso:GN s:=by
   refine ⟨by rw [hs]; simpa using h2,?_,?_⟩
   ·intro x J
    rw [hs] at J;obtain ⟨y,hy,rfl⟩:=Rd.1 J;exact (hV.vs y hy).1
   ·rw [hs,List.map_map]
    exact KT hV
  have hsz:∀ x ∈ s,x.Name.size<=maxLen:=by
   intro x J;rw [hs] at J;obtain ⟨y,hy,rfl⟩:=Rd.1 J;exact O.sw y hy
  have um:∃ x ∈ s,x.Name=e.Name:=by
   refine ⟨aR.mk n.aL[i].Name (!n.aL[i].Open),?_,hp⟩;rw [hs];exact Rd.2 ⟨n.aL[i],Q3 I,rfl⟩
  refine Gd.eM (DN hr.ok hr.sz hso hsz _ um) (λb _=>Gd.ite (λ_=>Gd.ret (λh=>by simp at h)) (λ_=>Gd.iP I (Gd.ret (λ_=>?_))))
  refine ⟨⟨O.nd,?_,O.br,O.gn,O.ld,O.st⟩,rfl,rfl,.inr ⟨hk,hh,i,I,hp,_,rfl⟩,.inl ⟨?_,rfl⟩,?_,λ_=>hh⟩
  ·intro x J
   rcases VD J with J | rfl
   ·exact O.sw x J
   ·show (n.aL[i]).Name.size<=maxLen
    exact O.sw _ (Q3 I)
  ·rcases hk with h | h <;> rw [h] <;> decide
  ·rcases hk with h | h <;> rw [h] <;> decide
theorem Nw (n:Net) (i:Nat) (h:i<n.bB.length) (v:Int):(n.bB.set i (aF.mk n.bB[i].Name n.bB[i].Node v)).map (·.Name)=nm n:=by
 unfold nm;rw [List.map_set];show (n.bB.map (·.Name)).set i (n.bB[i].Name)=_;have:(n.bB.map (·.Name))[i]'(by simpa using h)=n.bB[i].Name:=by simp
 rw [<- this];exact UO (by simpa using h)
theorem H_ {r:Rm}{n:Net} (O:pG n) (hV:px n) (hr:FH r.rules) {on:List BA} (ho:on.length<=1000) {e:Ev} (he:yB e):
  Gd (oh r (cX.mk n on) e) (λc=>c.1=0->O0 r.held n on e c.2):=by
 unfold oh;refine Gd.eM (No _ e) (λi hi=>Gd.eM (Nn _ e) (λj hj=>?_));have Z:∀ c:Bool,(c=true->e.Kind=Bf\/e.Kind=yG)->(e.Kind=Bf\/e.Kind=yG->c=true)->Gd (kR r (cX.mk n on) e i j c) (λc=>c.1=0->O0 r.held n on e c.2):=by
  intro c hc hc2;unfold kR jA;refine Gd.ite (λh=>Gd.eM (Gm O hV hr he (hc h)) (λa ha=>Gd.ret ha)) (λhno=>?_);have Y:e.Kind=Bf\/e.Kind=yG->e.Name ∉ r.held:=λh=>by rw [hc2 h] at hno; cases hno
  refine Gd.ite (λJ=>?_) (λhk1=>Gd.ite (λJ=>?_) (λhk2=>Gd.ite (λJ=>?_) (λhk3=>Gd.ite (λJ=>?_) (λ_=>Gd.ret (λh=>by simp at h)))))
  ·refine Gd.ite (λ_=>Gd.ret (λh=>by simp at h)) (λh0=>Gd.ite (λ_=>Gd.ret (λh=>by simp at h)) (λ_=>?_))
   have J:=Qv J;rcases hi with ⟨rfl,_⟩ | ⟨i,I,rfl,hp,_⟩
   ·simp at h0
   refine Gd.iP I (Gd.ret (λ_=>⟨⟨O.nd,O.sw,O.br,O.gn,?_,O.st⟩,rfl,Nw n i I _,.inl rfl,.inl ⟨by rw [J]; decide,rfl⟩,by rw [J]; decide,Y⟩))
   intro x hx;rcases VD hx with hx | rfl
   ·exact O.ld x hx
   ·show (n.bB[i]).Name.size<=maxLen
    exact O.ld _ (Q3 I)
  ·refine Gd.ite (λ_=>Gd.ret (λh=>by simp at h)) (λh0=>?_)
   have J:=Qv J;rcases hj with ⟨rfl,_⟩ | ⟨j,I,rfl,hp,_⟩
   ·simp at h0
   refine Gd.iP I (Gd.ite (λ_=>Gd.ret (λh=>by simp at h)) (λ_=>Gd.iP I (Gd.ret (λ_=>⟨⟨O.nd,O.sw,O.br,?_,O.ld,O.st⟩,rfl,rfl,.inl rfl,.inl ⟨by rw [J]; decide,rfl⟩,by rw [J]; decide,Y⟩))))
   intro x hx;rcases VD hx with hx | rfl
   ·exact O.gn x hx
   ·show (n.cR[j]).Name.size<=maxLen
    exact O.gn _ (Q3 I)
  ·refine Gd.ite (λ_=>Gd.ret (λh=>by simp at h)) (λh0=>?_)
   have J:=Qv J;rcases hi with ⟨rfl,_⟩ | ⟨i,I,rfl,hp,_⟩
   ·simp at h0
   have hp:n.bB[i].Name=e.Name:=by simpa using hp
   rw [qz];refine Gd.ite (λ_=>Gd.ret (λh=>by simp at h)) (λhh=>Gd.iP I (Gd.ite (λ_=>Gd.ret (λh=>by simp at h)) (λ_=>Gd.nd ?_ (Gd.ret (λ_=>?_)))))
   ·simp; omega
   ·have hh:e.Name ∉ on:=by simpa using hh
    exact ⟨O,rfl,rfl,.inl rfl,.inr ⟨J,Rd.2 ⟨_,Q3 I,hp⟩,hh,rfl⟩,by rw [J]; decide,Y⟩
  ·have J:=Qv J
   exact Gd.ite (λ_=>Gd.ret (λh=>by simp at h)) (λ_=>Gd.ret (λ_=>⟨O,rfl,rfl,.inl rfl,.inl ⟨by rw [J]; decide,rfl⟩,by rw [J]; decide,Y⟩))
 refine Gd.ite (λh=>Z _ (λ_=>.inl (Qv h)) (λ_=>h)) (λh=>Z _ (λh=>.inr (Qv h)) (λk=>?_));rcases k with k | k
 ·exact absurd k (QE h)
 ·exact Wq k
theorem L7 (off:List BA) (x:BA):jB x off=some (!wZ off x):=by
 unfold jB wZ;rw [qz];simp
theorem L8 (off A:List BA) (hA:A.length<=1000):Gd (dR A off) (λr=>r=A.filter (wZ off)):=
 zP (λx=>jB x off) (wZ off) (L7 off) _ A (by omega)
theorem L_ (ex:List BA) (x:BA):lg x ex=some (!decide (x ∈ ex)):=by
 unfold lg;rw [qz];simp
theorem Ma (ex A:List BA) (hA:A.length<=1000):Gd (eC A ex) (λr=>r=A.filter (λx=>decide (x ∈ ex))):=
 zP (λx=>lg x ex) (λx=>decide (x ∈ ex)) (L_ ex) _ A (by omega)
structure AW (n:Net) (on:List BA):Prop where
 nd:on.Nodup
 s:∀ x ∈ on,x ∈ nm n
theorem AW.len {n:Net}{on:List BA} (h:AW n on):on.length<=n.bB.length:=by
 have:=Fa on (nm n) h.nd h.s;rw [yT] at this;exact this
theorem AW.M7 {n:Net}{on:List BA} (h:AW n on) (I:bV n=some 0) (hl:n.bB.length<=12):eF n on=some 0:=
 IT I on (Rp h.len (by omega)) h.nd h.s
theorem AW.filter {n:Net}{on:List BA} (h:AW n on) (p:BA->Bool):AW n (on.filter p):=
 ⟨h.nd.sublist List.filter_sublist,λx I=>h.s x ((Ru.1 I).1)⟩
theorem Fx {n:Net}{a b:List BA} (h:∀ x ∈ nm n,x ∈ a↔x ∈ b):q_ n a=q_ n b:=by
 unfold q_
 congr 1
 refine List.filter_congr (λx I=>?_);unfold EV;have:=h x.Name (Rd.2 ⟨x,I,rfl⟩);exact Wm.2 this
structure Own (k:BA) (t:Int) (names:List BA) (l:List Ev):Prop where
 n:l.map (·.Name)=names
 k:∀ e ∈ l,e.Kind=k/\e.Time=t
 c:∀ e ∈ l,dG e=some 0
theorem Own.add {k:BA}{t v:Int}{names:List BA}{l:List Ev} (h:Own k t names l) (s:BA) (I:dG (aB.mk t k s v)=some 0):Own k t (names++[s]) (l++[aB.mk t k s v]):=
 ⟨by simp [h.n],λe he=>by
  rcases QG.1 he with he | he
  ·exact h.k e he
  ·rw [QY.1 he]; exact ⟨rfl,rfl⟩,λe he=>by
  rcases QG.1 he with he | he
  ·exact h.c e he
  ·rw [QY.1 he]; exact I⟩
theorem Own.len {k:BA}{t:Int}{names:List BA}{l:List Ev} (h:Own k t names l):l.length=names.length:=by
 rw [<- h.n]; simp
theorem Gw {r:Rm} (hz:pG r.bY) (hV:px r.bY) (hc:bV r.bY=some 0) (hl:r.bY.bB.length<=5) (hon:AW r.bY r.on)
  (ht:0<=r.time/\r.time<=200000) (hlog:∀ x ∈ r.log.iH,x.Time<=r.time) (hll:r.log.iH.length<=200) {over:List BA} (ho:over.length<=24) (hov:∀ x ∈ over,∃ b ∈ r.bY.aH,b.Name=x):
  Gd (nC r over) (λr'=>
   (gS r.bY r.on=some ([],8)/\∃ ev,Own vJ r.time over ev/\r'=aN.mk r.bY r.rules r.on r.held r.watch r.state r.time (bJ.mk (r.log.iH++ev)) over) \/
   ∃ off st ev,Own yp r.time off ev/\La r.bY (r.on.filter (wZ off)) st []/\(∀ x ∈ off,x ∈ r.on)/\off.length<=5 /\
    r'=aN.mk r.bY r.rules (r.on.filter (wZ off)) r.held r.watch st r.time (bJ.mk (r.log.iH++ev)) r.over):=by
 have h5:=hV.l5;have hol:=hon.len;have hck:=hon.M7 hc h5;have hnl:=yT r.bY;obtain ⟨⟨off,e⟩,hre,hrs⟩:=zH hz hV r.on hck (by omega) _ rfl
 unfold nC;refine Gd.bind_eq hre (Gd.ite (λh=>?_) (λh=>?_))
 ·rcases hrs with ⟨h0,_⟩ | ⟨h8,_⟩
  ·exact absurd h0 (by simpa using h)
  refine Gd.dO (λi (ys:List BA) (s:List Ev)=>i+ys.length=over.length/\over.drop i=ys/\∃ ev,Own vJ r.time (over.take i) ev/\s=r.log.iH++ev) ?_ ?_ over 0 r.log.iH ⟨by simp,rfl,[],⟨by simp,by simp,by simp⟩,by simp⟩
  ·rintro i y ys s nx ⟨hi,hd,ev,I,rfl⟩ hnx
   simp only [QA] at hi;have Y:i<over.length:=by omega
   have O:=hd;rw [Q0 Y] at O;have hy:over[i]=y:=(Vr O).1;have hel:=I.len;unfold qi;obtain ⟨b,hb,hbn⟩:=hov y (hy▸Q3 Y);have hac:dG (aB.mk r.time vJ y 0)=some 0:=Bb ht Gt (by rw [<- hbn]; exact (hV.vb b hb).1) (by omega)
   obtain ⟨k,hk⟩:=append_eq (l:=r.log.iH++ev) (e:=aB.mk r.time vJ y 0) (by simp only [QJ,hel,QR]; omega) (by
    intro x J;rcases QG.1 J with J | J
    ·exact hlog x J
    ·exact Int.le_of_eq (I.k x J).2) hac
   refine Gd.bind_eq hk (hnx _ ⟨by omega,(Vr O).2,ev++[aB.mk r.time vJ y 0],?_,by simp⟩)
   rw [QS Y,hy];exact I.add y hac
  ·rintro i s ⟨hi,hd,ev,I,rfl⟩
   rw [QH (by simp at hi; omega)] at I
   exact Gd.ret (.inl ⟨by rw [hre,h8],ev,I,rfl⟩)
 ·have h0:e=0:=by simpa using h
  subst h0;rcases hrs with ⟨_,hsub,Z,_⟩ | ⟨h8,_⟩
  ·simp only at hsub Z
   have um:∀ x ∈ off,x ∈ nm r.bY/\x ∈ r.on:=λx J=>by
    have:=hsub.subset J;rw [Ru] at this;exact ⟨this.1,by simpa using this.2⟩
   have hofl:off.length<=5:=by
    refine Rp hsub.length_le (Rp (VA _ _) (by omega))
   refine Gd.dO (λi (ys:List BA) (s:List Ev)=>i+ys.length=off.length/\off.drop i=ys/\∃ ev,Own yp r.time (off.take i) ev/\s=r.log.iH++ev) ?_ ?_ off 0 r.log.iH ⟨by simp,rfl,[],⟨by simp,by simp,by simp⟩,by simp⟩
   ·rintro i y ys s nx ⟨hi,hd,ev,I,rfl⟩ hnx
    simp only [QA] at hi;have Y:i<off.length:=by omega
    have O:=hd;rw [Q0 Y] at O;have hy:off[i]=y:=(Vr O).1;have hel:=I.len;unfold qk;obtain ⟨b,hb,hbn⟩:=Rd.1 (um y (hy▸Q3 Y)).1;refine Gd.eM (Np _ y) (λj hj=>?_);rcases hj with ⟨_,hno⟩ | ⟨j,hjl,rfl,hp,_⟩
    ·have:=hno b hb
     simp [hbn] at this
    have hld:=hV.vl _ (Q3 hjl);have hdm:0<=r.bY.bB[j].dB/\r.bY.bB[j].dB<=100000:=by
     have:=hld.2.2;simp [aZ,bO] at this;omega
    refine Gd.iP hjl ?_;have hac:dG (aB.mk r.time yp y r.bY.bB[j].dB)=some 0:=Bb ht IF (by rw [<- hbn]; exact (hV.vl b hb).1) (by omega)
    obtain ⟨k,hk⟩:=append_eq (l:=r.log.iH++ev) (e:=aB.mk r.time yp y r.bY.bB[j].dB) (by simp only [QJ,hel,QR]; omega) (by
     intro x J;rcases QG.1 J with J | J
     ·exact hlog x J
     ·exact Int.le_of_eq (I.k x J).2) hac
    refine Gd.bind_eq hk (hnx _ ⟨by omega,(Vr O).2,ev++[aB.mk r.time yp y r.bY.bB[j].dB],?_,by simp⟩)
    rw [QS Y,hy];exact I.add y hac
   ·rintro i s ⟨hi,hd,ev,I,rfl⟩
    rw [QH (by simp at hi; omega)] at I
    refine Gd.eM (L8 off r.on (by omega)) (λon' hon'=>?_)
    subst hon';have hon2:=hon.filter (wZ off);have hck2:=hon2.M7 hc h5;obtain ⟨s,hs,hsg⟩:=AZ hz (r.on.filter (wZ off));obtain ⟨q,hq⟩:=GF (hz.q_ (r.on.filter (wZ off)));have hqs:=I9 hV hck2 hq;rw [hs] at hqs;have hqs:=Qs hqs;subst hqs;have hw:q_ r.bY (((nm r.bY).filter (λx=>decide (x ∈ r.on))).filter (wZ off))=q_ r.bY (r.on.filter (wZ off)):=Fx (λx J=>by
     simp only [Ru,J,true_and,Rb])
    have hord:BX r.bY (r.on.filter (wZ off)):=by
     unfold Ba BX at Z;rw [hw] at Z;exact Z
    obtain ⟨e0,e1⟩:=(It hq).1 hord;have hst:=hsg.2 e0;rw [e1] at hst;exact Gd.bind_eq hs (Gd.ret (.inr ⟨off,s.1,ev,I,hst,λx J=>(um x J).2,hofl,rfl⟩))
  ·simp at h8
end Go.Sim
