/-
  The proof, part F2.
-/
import Derived.Test.YtmdikieloiajeaaGreatDoorSqF1
set_option linter.unusedVariables false
set_option linter.unusedSimpArgs false
set_option linter.unusedSectionVars false
set_option linter.unnecessarySimpa false
namespace Go.Sim
abbrev WM := @Int.natCast_nonneg
abbrev WT := @List.cons.inj
abbrev WW := @List.eq_of_mem_replicate
abbrev WX := @List.filter_cons
abbrev WY := @List.getElem_set
abbrev W2 := @List.length_filter_le
abbrev W8 := @List.set_append_right
abbrev W9 := @List.set_cons_zero
abbrev Xy := @Rat.intCast_le_intCast
end Go.Sim
namespace Go.Sim
open Go
open _root_.Go.IntKind (i64 u64 u32 u8)
def Gm (n i:Nat):List Nat:=(List.range i).map (·+1)++List.replicate (n-i) 0
theorem B0 (n:Nat):Gm n 0=List.replicate n 0:=by simp [Gm]
theorem BZ (n:Nat):Gm n n=zk n:=by simp [Gm,zk]
theorem GA {n i:Nat} (hi:i<n):(Gm n i)[i]? = some 0:=by
 unfold Gm;rw [Sv (by simp),Uk,RU (by simp; omega)]
theorem Bk {n i:Nat} (hi:i<n):(Gm n i).set i (i+1)=Gm n (i+1):=by
 unfold Gm;rw [W8 _ _ (by simp)]
 have e:n-i=(n-(i+1))+1:=by omega
 rw [e,Tv,Vb];simp
theorem Mf {n i:Nat} (hi:i<n):(Gm n (i+1))[i]? = some (i+1):=by
 rw [<- Bk hi,Sp (by simp [Gm]; omega)]
theorem CY {n:Nat}{rows:List (List LR)} (h:rows.length=n):sh (zk n) ([]::rows)=rows:=by
 apply Tz;intro i;unfold sh;rw [Sq]
 by_cases hi:i<n
 ·rw [ES hi,Td,H_,RK (by omega)]; rfl
 ·rw [SQ (by rw [xM]; omega),SQ (by omega)]; rfl
theorem Mk {rows:List (List LR)}{n:Nat} (hl:rows.length=n) (hn:n<=1000) (Z:∀ y ∈ rows,y.length<=1000):Gd (vO rows) (λr=>r=(zk n,[]::rows)):=by
 unfold vO;rw [hl];refine Gd.nd (by omega) ?_
 rw [RN];refine Gd.dE (λi l s=>∃ pre,rows=pre++l/\pre.length=i/\s=(Gm n i,[]::pre)) ?_ ?_ rows 0 _ ⟨[],rfl,rfl,by rw [B0]⟩
 ·rintro i y ys _ nx ⟨pre,J,I,rfl⟩ Y
  have hi:i<n:=by rw [<- hl,J,R5,RW]; omega
  have hy:=Z y (by rw [J]; simp)
  unfold wL;refine Gd.nd (by simp; omega) (Gd.ix (by omega) (by rw [RN]; exact GA hi) (Y _ ⟨pre++[y],by rw [J]; simp,by simp [I],?_⟩))
  rw [RN,RW,I,Bk hi];simp
 ·rintro i _ ⟨pre,J,I,rfl⟩
  rw [Ss] at J;subst J;refine Gd.ret ?_;rw [<- I,hl,BZ]
theorem vi.short {rows:List (List LR)}{n w W:Nat}{m:Mt} (h:vi rows n w W m) (Z:w<=1000):∀ y ∈ rows,y.length<=1000:=by
 intro y J;obtain ⟨i,hi,he⟩:=S3.1 J;obtain ⟨l,I,Y,_⟩:=h.row i (by rw [<- h.len]; exact hi)
 rw [RK hi] at I;have:=RQ I;rw [<- he,this]; omega
theorem Ju {rows:List (List LR)}{n W:Nat}{A m0:Mt} (hn:n<=400) (hW:W<=100000) (hp:Pd n A) (h0:Gj n A 0 m0) (hM:vi rows n (2*n) W m0)
  (hB:∀ k m,k<=n->Gj n A k m->∀ i c,i<n->c<2*n->RB (m i c) W):
  Gd (rR rows (n:Int)) (λr=>∃ I m,r.1=(zk n,[]::I)/\r.2.length=n/\Gj n A n m/\vi I n (2*n) W m):=by
 unfold rR;refine Gd.eN (Mk hM.len (by omega) (hM.short (by omega))) (λr hr=>?_)
 subst hr;refine Gd.fG (λs=>∃ (k:Nat) (l:List Int) (I:List (List LR)) (m:Mt),s=(l,(k:Int),zk n,[]::I)/\l.length=k/\k<=n/\Gj n A k m/\vi I n (2*n) W m) (λs=>((n:Int)-s.2.1).toNat) ?_ eI _
  ⟨0,[],rows,m0,rfl,rfl,by omega,h0,hM⟩ (by simp only [eI]; omega)
 rintro _ nx ⟨k,l,I,m,rfl,hl,hk,Z,hM'⟩ Y;show Gd (mR (n:Int) l (k:Int) (zk n) ([]::I) nx) _
 by_cases h:k<n
 ·have hd:=Z.N8 hp h
  refine Jt hl h (by omega) (by omega) (by omega) (by omega) hW hd hM' (λc hc=>?_) (λi c hi hc=>hB (k+1) _ (by omega) (Z.step h hd) i c hi hc) (λJ hM''=>?_)
  ·rw [Z.left k c h (by omega) hc,qP (by omega)]
  ·exact Y _ ⟨k+1,_,J,_,rfl,by simp [hl],by omega,Z.step h hd,hM''⟩ (by simp only; omega)
 ·obtain rfl:k=n:=by omega
  unfold mR;refine Gd.ite (λh=>absurd h (by simp)) (λ_=>Gd.ret ⟨I,m,rfl,hl,Z,hM'⟩)
theorem Av {n:Nat} (hn:n<=1000):Gd (nK (n:Int)) (λr=>∃ z,r=List.replicate n z/\pE z/\RL z 2/\rv z=0):=by
 unfold nK;refine Gd.eN (vZ (n:=0) (by omega)) (λz I=>Gd.nd (by simp; omega) (Gd.ret ⟨z,yE _ _,I.1,I.2.1,by rw [I.2.2]; rfl⟩))
theorem vi.snoc {rows:List (List LR)}{n w W:Nat}{m:Mt} (h:vi rows n w W m) {l:List LR} (I:l.length=w) (J:∀ c,c<w->∃ y,l[c]? = some y/\pE y/\RL y W/\rv y=m n c):vi (rows++[l]) (n+1) w W m:=by
 refine ⟨by simp [h.len],λi hi=>?_⟩
 by_cases e:i<n
 ·obtain ⟨l',a,b,c⟩:=h.row i e
  exact ⟨l',by rw [S4 (by rw [h.len]; exact e)]; exact a,b,c⟩
 ·obtain rfl:i=n:=by omega
  exact ⟨l,by rw [Sv (by rw [h.len]; omega),h.len,S7]; rfl,I,J⟩
def Eh (n:Nat) (A:Mt):Mt:=λi c=>if c<n then A i c else dl i (c-n)
theorem KF (n:Nat) (A:Mt):Gj n A 0 (Eh n A):=by
 have e:∀ i j,Eh n A i (n+j)=dl i j:=λi j=>by unfold Eh; rw [RS (by omega)]; congr 1; omega
 refine ⟨λi c hi Y=>?_,λi j _ _ _=>e i j,λi c _ _ h=>by omega⟩
 have J:sm n (λj=>Eh n A i (n+j)*A j c)=Eh n A i (n+i)*A i c:=CW (p:=i) hi (λj Z I=>by rw [e,qP (λx=>I x.symm)]; grind)
 rw [J,e,rL];unfold Eh;rw [if_pos Y]; grind
theorem Mv {n k W:Nat}{y:List LR}{z one:LR}{A:Mt} (hk:k<n) (hy:y.length=n) (Y:∀ c,c<n->∃ v,y[c]? = some v/\pE v/\RL v W/\rv v=A k c) (Z:pE z/\RL z 2/\rv z=0) (J:pE one/\RL one 2/\rv one=1) (hW:2<=W):
  ((([]++y)++List.replicate n z).set (n+k) one).length=2*n/\∀ c,c<2*n->∃ v,((([]++y)++List.replicate n z).set (n+k) one)[c]? = some v/\pE v/\RL v W/\rv v=Eh n A k c:=by
 refine ⟨by simp [hy]; omega,λc hc=>?_⟩
 rw [Tn];unfold Eh
 by_cases I:c<n
 ·obtain ⟨v,a,b,d,e⟩:=Y c I
  refine ⟨v,?_,b,d,by rw [RU I]; exact e⟩
  rw [Sh (by omega),S4 (by omega)]; exact a
 ·by_cases h2:c=n+k
  ·subst h2
   refine ⟨one,by rw [Sp (by simp [hy]; omega)],J.1,J.2.1.mono hW,?_⟩
   rw [RS I,J.2.2,TX,rL]
  ·refine ⟨z,?_,Z.1,Z.2.1.mono hW,?_⟩
   ·rw [Sh (by omega),Sv (by omega),Uk,RU (by omega)]
   ·rw [RS I,Z.2.2,qP (by omega)]
theorem GW {rows:List (List LR)}{n W:Nat}{A:Mt} (hn:n<=400) (hW:W<=100000) (hW2:2<=W) (hp:Pd n A) (hM:vi rows n n W A)
  (hB:∀ k m,k<=n->Gj n A k m->∀ i c,i<n->c<2*n->RB (m i c) W):
  Gd (qX rows) (λr=>r.2=true/\∃ m,Gj n A n m/\vi r.1 n n W (λi c=>m i (n+c))):=by
 unfold qX;rw [hM.len];refine Gd.nd (by omega) ?_
 rw [RN];refine Gd.kz (λM i s=>i+M=n/\∃ pre:List (List LR),s=(Gm n i,[]::pre)/\vi pre i (2*n) W (Eh n A)) ?_ ?_ n 0 _ ⟨by omega,[],by rw [B0],⟨rfl,λi hi=>by omega⟩⟩
 ·rintro M i _ nx ⟨hiM,pre,rfl,I⟩ hnx
  have hi:i<n:=by omega
  obtain ⟨y,y1,y2,y3⟩:=hM.row i hi;unfold ub;rw [hM.len];refine Gd.ix (y:=y) (by omega) (by rw [RN]; exact y1) (Gd.nd (by simp; omega) (Gd.eN (Av (by omega)) ?_))
  rintro _ ⟨z,rfl,hz⟩;refine Gd.nd (by simp; omega) (Gd.ix (by omega) (by rw [RN]; exact GA hi) ?_)
  have hlen:([]::pre:List (List LR)).length=i+1:=by simp [I.len]
  rw [hlen,RN,Bk hi];refine Gd.ix (by omega) (by rw [RN]; exact Mf hi) (Gd.eN (vZ (n:=1) (by omega)) (λone ho=>?_))
  have ho2:pE one/\RL one 2/\rv one=1:=⟨ho.1,ho.2.1,by rw [ho.2.2]; rfl⟩
  have hrow:=Mv hi y2 y3 hz ho2 hW2;have hat:((([]::pre++[([]++y)++List.replicate n z]:List (List LR))[i+1]?).getD [])=([]++y)++List.replicate n z:=by
   rw [TD,List.getElem?_cons_succ,Sv (by rw [I.len]; omega),I.len,S7]; rfl
  rw [hat];have hwr:i64.wrap ((n:Int)+(i:Int))=((n+i:Nat):Int):=by rw [bG ⟨by omega,by omega⟩]; omega
  rw [hwr];refine Gd.ix (y:=z) (by omega) ?_ (hnx _ ⟨by omega,pre++[(([]++y)++List.replicate n z).set (n+i) one],?_,I.snoc hrow.1 hrow.2⟩)
  ·rw [RN,Tn,Sv (by omega),Uk,RU (by omega)]
  ·rw [RN,TD,List.set_cons_succ,W8 _ _ (by rw [I.len]; omega),I.len,S7]
   rfl
 ·rintro i _ ⟨hi,pre,rfl,I⟩
  obtain rfl:i=n:=by omega
  show Gd ((rR (sh (Gm i i) ([]::pre)) (i:Int)).bind _) _;rw [BZ,CY I.len];refine Gd.eN (Ju hn hW hp (KF i A) I hB) ?_;rintro ⟨⟨sg,ls⟩,pv⟩ ⟨J,m,he,hpl,hG,hM'⟩;obtain ⟨rfl,rfl⟩:=Prod.mk.inj he;simp only at hpl ⊢;rw [hpl];refine Gd.ite (λh=>absurd (RT h) (by omega)) (λ_=>?_)
  rw [xM];refine Gd.nd (by omega) ?_
  rw [RN];refine Gd.kz (λM k s=>k+M=i/\∃ rs:List (List LR),s=(zk i,[]::rs)/\rs.length=i/\∀ q,q<i->rs[q]? = if q<k then (J[q]?).map (·.drop i) else J[q]?) ?_ ?_ i 0 _
   ⟨by omega,J,rfl,hM'.len,λq _=>by rw [RS (by omega)]⟩
  ·rintro M k _ nx ⟨hkM,rs,rfl,Y,Z⟩ hnx
   have hk:k<i:=by omega
   obtain ⟨l,l1,l2,l3⟩:=hM'.row k hk;have hat:rs[k]? = some l:=by rw [Z k hk,RS (by omega),l1]
   unfold uc;rw [hM.len];refine p_ hk ?_;rw [H_,hat,TO];refine Gd.nd (by omega) (p_ hk (Gd.nd ?_ ?_))
   ·rw [RN]
    refine MJ (λj hj=>?_);have hjn:j<i:=by
     have:=(RP.1 hj).1
     rwa [xM] at this
    rw [ES hjn] at hj;have:=RQ hj;omega
   ·rw [RN,RN,Bu hk,OM]
    refine hnx _ ⟨by omega,_,rfl,by rw [SO]; exact Y,λq hq=>?_⟩
    by_cases e:k=q
    ·subst e
     rw [Sp (by omega),RU (by omega),l1]; rfl
    ·rw [Sh e,Z q hq]
     by_cases e2:q<k
     ·rw [RU e2,RU (by omega)]
     ·rw [RS e2,RS (by omega)]
  ·rintro k _ ⟨hk,rs,rfl,Y,Z⟩
   refine Gd.ret ⟨rfl,m,hG,?_⟩;show vi (sh (zk i) ([]::rs)) i i W _;rw [CY Y];refine ⟨Y,λq hq=>?_⟩;obtain ⟨l,l1,l2,l3⟩:=hM'.row q hq;refine ⟨l.drop i,by rw [Z q hq,RU (by omega),l1]; rfl,by rw [Tg]; omega,λc hc=>?_⟩
   obtain ⟨v,a,b,d,e⟩:=l3 (i+c) (by omega)
   exact ⟨v,by rw [SB]; exact a,b,d,e⟩
def wq (k:Nat):Rat:=(((WB ^ k:Nat):Int):Rat)
theorem wU (a b:Nat):wq a*wq b=wq (a+b):=by unfold wq; rw [Xl,SI,Xz]
theorem wV (a:Nat):1<=wq a:=by
 unfold wq;have h:(1:Nat)<=WB ^ a:=Nat.one_le_pow _ _ (by decide)
 have I:(1:Int)<=((WB ^ a:Nat):Int):=by omega
 have:=Xy.2 I
 rwa [Rat.intCast_one] at this
theorem yS {a b:Nat} (h:a<=b):wq a<=wq b:=by
 unfold wq;have h:WB ^ a<=WB ^ b:=Xn (by decide) h
 exact Xy.2 (by omega)
theorem BU {x y a b:Rat} (Y:-a<=x) (Z:x<=a) (h3:-b<=y) (h4:y<=b):-(a*b)<=x*y/\x*y<=a*b:=by
 have e1:=Rat.mul_nonneg (show 0<=a-x by grind) (show 0<=b+y by grind)
 have e2:=Rat.mul_nonneg (show 0<=a+x by grind) (show 0<=b-y by grind)
 have I:=Rat.mul_nonneg (show 0<=a-x by grind) (show 0<=b-y by grind)
 have J:=Rat.mul_nonneg (show 0<=a+x by grind) (show 0<=b+y by grind)
 constructor <;> grind
theorem K_ {z:Int}{k:Nat} (I:-wq k<=(z:Rat)) (J:(z:Rat)<=wq k):z.natAbs<WB ^ (k+1):=by
 unfold wq at I J;rw [<- XA] at I;have a1:=Xy.1 I;have Y:=Xy.1 J;have Z:WB ^ k<WB ^ (k+1):=Nat.pow_lt_pow_right (by decide) (by omega)
 omega
theorem Al {p q:Rat}{k:Nat} (I:vc p) (J:vc q) (p1:-wq k<=p) (p2:p<=wq k) (Z:-wq k<=q) (q2:q<=wq k) (Y:q≠0) (hk:k<=186):RB (p / q) (k+1):=by
 obtain ⟨a,rfl⟩:=I;obtain ⟨b,rfl⟩:=J;exact RB.ratio (K_ p1 p2) (K_ Z q2) (λe=>Y (by rw [e]; rfl)) (by omega)
theorem RB.zero:RB 0 1:=by
 have:=RB.small (m:=0) (by decide)
 simpa using this
theorem RB.one:RB 1 1:=by
 have:=RB.small (m:=1) (by decide)
 simpa using this
theorem RB.dl (i j:Nat):RB (dl i j) 1:=by
 rcases xQ i j with h | h <;> rw [h]
 ·exact RB.zero
 ·exact RB.one
theorem RB.sm {f:Nat->Rat}{a:Nat}:∀ {n:Nat},n*(a+1)+1<=700000->(∀ j,j<n->RB (f j) a)->RB (sm n f) (n*(a+1)+1)
 | 0,_,_=>RB.zero.mono (by omega)
 | n+1,hn,h=>by
  have e:(n+1)*(a+1)=n*(a+1)+(a+1):=Nat.succ_mul _ _;have I:=RB.sm (n:=n) (by omega) (λj J=>h j (by omega))
  exact (I.add (h n (by omega)) (by omega)).mono (by omega)
structure Nb (n:Nat) (A:Mt) (L:Nat->Rat) (B:Mt) (R:Nat->Rat):Prop where
 s:JU n A L B R
 hP:pr n R<=wq 60
 hL:∀ i,i<n->L i<=wq 18
theorem Nb.R {n:Nat}{A B:Mt}{L R:Nat->Rat} (h:Nb n A L B R) {i:Nat} (hi:i<n):R i<=wq 60:=by
 have key:∀ {m:Nat},(∀ j,j<m->1<=R j)->i<m->R i<=pr m R:=by
  intro m
  induction m with
  | zero=>intro _ h; omega
  | succ m ih=>
   intro I hi;have p1:1<=pr m R:=EM (λj J=>I j (by omega))
   show R i<=pr m R*R m
   by_cases e:i=m
   ·subst e
    have:=Rat.mul_le_mul_of_nonneg_right p1 (show 0<=R i by have:=I i hi; grind)
    grind
   ·have a:=ih (λj J=>I j (by omega)) (by omega)
    have:=Rat.mul_le_mul_of_nonneg_left (I m (by omega)) (show 0<=pr m R by grind)
    grind
 exact XC (key (λj J=>h.s.R1 J) hi) h.hP
theorem Nb.L0 {n:Nat}{A B:Mt}{L R:Nat->Rat} (h:Nb n A L B R) {i:Nat} (hi:i<n):L i≠0:=λe=>by
 have:=h.s.l1 i hi; rw [e] at this; exact absurd this (by decide)
theorem Nb.ab {n:Nat}{A B:Mt}{L R:Nat->Rat} (h:Nb n A L B R) {i c:Nat} (hi:i<n) (I:c<n):-wq 60<=L i*A i c/\L i*A i c<=wq 60:=by
 have J:=h.s.ab i c hi I;have Y:=Oc (f:=B i) (h.s.b0 i) I;have Z:=h.s.rs i hi;have h4:=h.R hi;constructor <;> grind
theorem Nb.A {n:Nat}{A B:Mt}{L R:Nat->Rat} (h:Nb n A L B R) {i c:Nat} (hi:i<n) (I:c<n):RB (A i c) 61:=by
 have e:A i c=(L i*A i c) / L i:=by
  rw [Xx];have:=XE (L i) (h.L0 hi)
  grind
 rw [e];have l1:=h.s.l1 i hi;have l2:=h.hL i hi;have l3:=yS (show 18<=60 by omega)
 have w:=wV 60;exact Al (h.s.ai i c hi I) (h.s.li i hi) (h.ab hi I).1 (h.ab hi I).2 (by grind) (by grind) (h.L0 hi) (by omega)
def Dk (A:Mt) (L:Nat->Rat) (k:Nat):Rat:=rq k (λr c=>L r*A r c)
theorem Nb.D0 {n:Nat}{A B:Mt}{L R:Nat->Rat} (h:Nb n A L B R) (hp:Pd n A):∀ {k:Nat},k<=n->Dk A L k≠0/\∃ m,Gj n A k m
 | 0,_=>⟨by show (1:Rat)≠0; decide,_,KF n A⟩
 | k+1,hk=>by
  obtain ⟨d,m,Y⟩:=h.D0 hp (k:=k) (by omega)
  have Z:=Y.N8 hp (by omega)
  refine ⟨?_,_,Y.step (by omega) Z⟩
  have e:=Y.rq (k:=k) (by omega) (L:=L) (λi hi=>h.L0 hi)
  show Sim.rq (k+1) (λr c=>L r*A r c)≠0;rw [e];intro h0;rcases XD.1 h0 with I | I
  ·rcases XD.1 I with J | J
   ·exact h.L0 (by omega) J
   ·exact Z J
  ·exact d I
theorem Nb.Db {n:Nat}{A B:Mt}{L R:Nat->Rat} (h:Nb n A L B R) {k:Nat} (I:k<=n):vc (Dk A L k)/\-wq 60<=Dk A L k/\Dk A L k<=wq 60:=by
 obtain ⟨a,b,c⟩:=h.s.rq I;have:=h.hP;refine ⟨a,?_,?_⟩ <;> unfold Dk <;> grind
theorem Nb.num {n:Nat}{A B m:Mt}{L R:Nat->Rat} (h:Nb n A L B R) (hp:Pd n A) {k:Nat} (hG:Gj n A k m) (Y:k<=n) {i p:Nat} (hi:i<n) (Z:p<k):RB (m i (n+p)) 140:=by
 obtain ⟨N,n1,n2,n3,e⟩:=hG.num h.s Y hi Z;obtain ⟨d1,d2,d3⟩:=h.Db Y;have d0:=(h.D0 hp Y).1;have hP:=h.hP;have p1:1<=pr n R:=EM (λj hj=>h.s.R1 hj);have r1:=h.s.R1 hi;have r2:=h.R hi;have hNb:pr n R*R i<=wq 120:=by
  rw [<- wU 60 60];exact q6 hP r2 (by grind) (by grind)
 have lp:=h.s.l1 p (by omega)
 have lp2:=h.hL p (by omega)
 have t:=BU (x:=N) (y:=L p) (a:=wq 120) (b:=wq 18) (by grind) (by grind) (by have:=wV 18; grind) lp2
 rw [wU] at t;have s0:(if k<=i then L i else 1)≠0:=by
  split
  ·exact h.L0 hi
  ·decide
 have s1:vc (if k<=i then L i else 1):=by
  split
  ·exact h.s.li i hi
  ·exact ⟨1,rfl⟩
 have s2:1<=(if k<=i then L i else 1)/\(if k<=i then L i else 1)<=wq 18:=by
  split
  ·exact ⟨h.s.l1 i hi,h.hL i hi⟩
  ·exact ⟨XB,wV 18⟩
 generalize (if k<=i then L i else 1)=s at e s0 s1 s2
 have u:=BU (x:=s) (y:=Dk A L k) (a:=wq 18) (b:=wq 60) (by have:=wV 18; grind) s2.2 d2 d3
 rw [wU] at u;have e2:m i (n+p)=(N*L p) / (s*Dk A L k):=by
  have e3:s*m i (n+p)*Dk A L k=N*L p:=e;rw [<- e3,Xx];have h3:s*Dk A L k≠0:=λJ=>by
   rcases XD.1 J with I | I
   ·exact s0 I
   ·exact d0 I
  have:=XE _ h3
  grind
 rw [e2];have w1:=yS (show 18+60<=139 by omega)
 have w2:=yS (show 120+18<=139 by omega)
 refine Al (s9 n1 (h.s.li p (by omega))) (s9 s1 d1) (by grind) (by grind) (by grind) (by grind) ?_ (by omega)
 intro J;rcases XD.1 J with I | I
 ·exact s0 I
 ·exact d0 I
theorem Nb.rb {n:Nat}{A B:Mt}{L R:Nat->Rat} (h:Nb n A L B R) (hp:Pd n A) (hn:n<=24) (k:Nat) (m:Mt) (Z:k<=n) (J:Gj n A k m) (i c:Nat) (hi:i<n) (hc:c<2*n):RB (m i c) 6000:=by
 have right:∀ p,p<n->RB (m i (n+p)) 140:=λp Y=>by
  by_cases e:p<k
  ·exact h.num hp J Z hi e
  ·rw [J.right i p hi Y (by omega)]
   exact (RB.dl i p).mono (by omega)
 by_cases I:c<n
 ·rw [J.Ov Z hi I]
  have h1:RB (sm k (λj=>m i (n+j)*A j c)) (k*202+1):=RB.sm (a:=201) (by omega) (λj hj=>(right j (by omega)).mul (h.A (by omega) I) (by omega))
  have h2:RB (if k<=i then A i c else 0) 61:=by
   split
   ·exact h.A hi I
   ·exact RB.zero.mono (by omega)
  exact (h1.add h2 (by omega)).mono (by omega)
 ·have e:c=n+(c-n):=by omega
  rw [e];exact (right (c-n) (by omega)).mono (by omega)
theorem Jd (l:List Int) (p:Int):Gd (lC l p) (λr=>(r = -1/\p ∉ l)\/∃ (k:Nat) (h:k<l.length),r=k/\l[k]=p):=by
 unfold lC;refine Gd.kz (λm i _=>i+m=l.length/\p ∉ l.take i) ?_ ?_ (l.length:Int).toNat 0 () ⟨by omega,by simp⟩
 ·intro m i _ J ⟨hi,hno⟩ hnx
  unfold oG;refine Gd.gA (by omega) (Gd.ite (λh=>Gd.ret (.inr ⟨i,by omega,rfl,?_⟩)) (λh=>hnx () ⟨by omega,?_⟩))
  ·have:p=l[i]:=by simpa using h
   exact this.symm
  ·rw [Sn (by omega),RZ,R_]
   rintro (I | I)
   ·exact hno I
   ·simp [I] at h
 ·intro i _ ⟨hi,hno⟩
  rw [R3 (by omega)] at hno
  exact Gd.ret (.inl ⟨rfl,hno⟩)
structure JS (M:aX) (n N:Nat) (F:Nat->Nat) (l:List (Rat×Nat×Nat)) (t:Rat):Prop where
 hn:n<=23
 free:M.rm=(List.range n).map (λi=>(F i:Int))
 inj:∀ i j,i<n->j<n->F i=F j->i=j
 lt:∀ i,i<n->F i<N
 hN:N<=24
 ll:l.length<=24
 el:∀ e ∈ l,e.2.1<N/\e.2.2<N
 fr:M.qe=l.map (λe=>(e.2.1:Int))
 to:M.To=l.map (λe=>(e.2.2:Int))
 bl:M.B_.length=l.length
 b:∀ (k:Nat) (y:LR),M.B_[k]? = some y->∃ e,l[k]? = some e/\pE y/\RL y 2/\rv y=t / e.1
def MU:Option Nat->Int
 | none=>-1
 | some i=>(i:Int)
def eo (o:Option Nat) (r:Nat):Rat:=if o=some r then 1 else 0
theorem u_ (i r:Nat):eo (some i) r=dl i r:=by
 unfold eo dl
 by_cases e:i=r
 ·subst e; rw [RU rfl,RU rfl]
 ·rw [RS (λh=>e (RQ h)),RS e]
theorem u9 (r:Nat):eo none r=0:=RS (by simp)
theorem F1 {M:aX}{n N:Nat}{F:Nat->Nat}{l:List (Rat×Nat×Nat)}{t:Rat} (h:JS M n N F l t) (u:Nat):
  Gd (mc M (u:Int)) (λr=>∃ o:Option Nat,r=MU o/\(∀ i,o=some i->i<n/\F i=u)/\∀ r,r<n->eo o r=dl (F r) u):=by
 unfold mc;refine Gd.eN (Jd _ _) (λr I=>Gd.ret ?_);rw [h.free] at I;rcases I with ⟨rfl,Z⟩ | ⟨k,hk,rfl,e⟩
 ·refine ⟨none,rfl,λi hi=>by simp at hi,λr I=>?_⟩
  rw [u9,qP];intro e;exact Z (SC.2 ⟨r,SL.2 I,by rw [e]⟩)
 ·have J:k<n:=by simpa using hk
  have e2:F k=u:=by simp at e; omega
  refine ⟨some k,rfl,λi hi=>by obtain rfl:=RQ hi; exact ⟨J,e2⟩,λr I=>?_⟩
  rw [u_]
  by_cases Y:k=r
  ·subst Y; rw [rL,e2,rL]
  ·rw [qP Y,qP]
   intro e4;exact Y (h.inj k r J I (by omega))
theorem vi.E1 {rows:List (List LR)}{n w W:Nat}{m:Mt} (h:vi rows n w W m) {p q:Nat} (J:p<n) (Y:q<w) {e:LR}{d:Rat} (he:pE e) (I:RL e W) (Z:rv e=m p q+d):
  vi (rows.set p (((rows[p]?).getD []).set q e)) n w W (λr c=>m r c+d*(dl p r*dl q c)):=by
 refine (h.set J Y he I).congr (λr c _ _=>?_)
 by_cases e1:r=p/\c=q
 ·obtain ⟨rfl,rfl⟩:=e1
  rw [if_pos ⟨rfl,rfl⟩,rL,rL,Z]; grind
 ·rw [RS e1]
  by_cases e2:p=r
  ·rw [qP (i:=q) (λe=>e1 ⟨e2.symm,e.symm⟩)]; grind
  ·rw [qP e2]; grind
abbrev JQ:=List (List LR)->Option aX
theorem N4 {n W:Nat}{nx:JQ}{b:LR}{oi oj:Option Nat}{rows:List (List LR)}{m:Mt}{Q:aX->Prop} (Z:vi rows n n W m) (hW:W<=1000) (hb:pE b) (hbl:RL b 2)
  (hi:∀ i,oi=some i->i<n) (J:∀ j,oj=some j->j<n) (hne:∀ i,oi=some i->oj≠some i)
  (Y:∀ I,vi I n n (W+3) (λr c=>m r c-rv b*(eo oi r*eo oj c)-rv b*(eo oj r*eo oi c))->Gd (nx ([]::I)) Q):
  Gd (iX (zk n) nx b (MU oi) (MU oj) ([]::rows)) Q:=by
 unfold iX gE;cases oi with
 | none=>
  refine Gd.ite (λh=>absurd h (by simp [MU])) (λ_=>Y rows ((Z.mono (by omega)).congr (λr c _ _=>?_)))
  rw [u9,u9]; grind
 | some i=>
  cases oj with
  | none=>
   refine Gd.ite (λh=>absurd h (by simp [MU])) (λ_=>Y rows ((Z.mono (by omega)).congr (λr c _ _=>?_)))
   rw [u9,u9]; grind
  | some j=>
   have hi:=hi i rfl;have J:=J j rfl;have hij:i≠j:=λe=>hne i rfl (by rw [e])
   show Gd (if ((decide (0<=(i:Int)) && decide (0<=(j:Int)))=true) then _ else _) Q
   refine Gd.ite (λ_=>?_) (λh=>absurd h (by simp))
   show Gd (idx (zk n) (i:Int) _) Q;refine p_ hi (p_ J (p_ hi (tM Z hi J (λy1 a1 a2 a3=>Gd.eN (yQ a1 hb a2 hbl (by omega)) (λr1 b1=>?_)))))
   show Gd (idx (zk n) (j:Int) _) Q;refine p_ J (tM Z J hi (λy2 c1 c2 c3=>Gd.eN (yQ c1 hb c2 hbl (by omega)) (λr2 d1=>?_)))
   show Gd (idx ((([]::rows:List (List LR))[i+1]?).getD []) (j:Int) _) Q;refine tM Z hi J (λ_ _ _ _=>?_);have h2:=(Z.mono (show W<=W+3 by omega)).E1 hi J (d:=-rv b) b1.1 (b1.2.1.mono (by omega)) (by rw [b1.2.2,a3]; grind)
   show Gd (idx ((([]::(rows.set i (((rows[i]?).getD []).set j r1)):List (List LR))[j+1]?).getD []) (i:Int) _) Q;refine tM h2 J hi (λ_ _ _ _=>?_);have h3:=h2.E1 J hi (d:=-rv b) d1.1 (d1.2.1.mono (by omega)) (by
    rw [d1.2.2,c3,qP hij]; grind)
   refine Y _ (h3.congr (λr c _ _=>?_));rw [u_,u_,u_,u_]; grind
theorem N5 {n W:Nat}{nx:JQ}{b:LR}{oi oj:Option Nat}{rows:List (List LR)}{m:Mt}{Q:aX->Prop} (hM:vi rows n n W m) (hW:W<=900) (hb:pE b) (Y:RL b 2)
  (hi:∀ i,oi=some i->i<n) (hj:∀ j,oj=some j->j<n) (Z:∀ i,oi=some i->oj≠some i)
  (hnx:∀ I,vi I n n (W+6) (λr c=>m r c+rv b*(eo oj r*eo oj c)-rv b*(eo oi r*eo oj c)-rv b*(eo oj r*eo oi c))->Gd (nx ([]::I)) Q):
  Gd (iY (zk n) nx b (MU oi) (MU oj) ([]::rows)) Q:=by
 unfold iY;cases oj with
 | none=>
  refine Gd.ite (λh=>absurd h (by simp [MU])) (λ_=>N4 (oj:=none) (hM.mono (show W<=W+3 by omega)) (by omega) hb Y hi hj Z (λI h'=>hnx I (h'.congr (λr c _ _=>?_))))
  rw [u9,u9]; grind
 | some j=>
  have J:=hj j rfl;show Gd (if (decide (0<=(j:Int))=true) then _ else _) Q
  refine Gd.ite (λ_=>?_) (λh=>absurd h (by simp))
  show Gd (idx (zk n) (j:Int) _) Q;refine p_ J (p_ J (tM hM J J (λy1 a1 a2 a3=>Gd.eN (xK a1 hb a2 Y (by omega)) (λr1 b1=>tM hM J J (λ_ _ _ _=>?_)))))
  have h2:=(hM.mono (show W<=W+3 by omega)).E1 J J (d:=rv b) b1.1 (b1.2.1.mono (by omega)) (by rw [b1.2.2,a3])
  refine N4 (oj:=some j) h2 (by omega) hb Y hi hj Z (λI h'=>hnx I (h'.congr (λr c _ _=>?_)))
  rw [u_,u_]
theorem G0 (l:List (Rat×(Nat->Rat))) (e:Rat×(Nat->Rat)) (r c:Nat):gY (l++[e]) r c=gY l r c+e.1*e.2 r*e.2 c:=by
 induction l with
 | nil=>show e.1*e.2 r*e.2 c+0=0+_; grind
 | cons a l ih=>show a.1*a.2 r*a.2 c+gY (l++[e]) r c=a.1*a.2 r*a.2 c+gY l r c+_; rw [ih]; grind
theorem D5 {α:Type}{l:List α}{k:Nat}{e:α} (f:α->Int) (h:l[k]? = some e):(l.map f)[k]? = some (f e):=by rw [Sq,h]; rfl
theorem PC {M:aX}{n N:Nat}{F:Nat->Nat}{l:List (Rat×Nat×Nat)}{t:Rat} (h:JS M n N F l t) {k W:Nat}{e:Rat×Nat×Nat} (he:l[k]? = some e) {b:LR} (hb:pE b) (J:RL b 2) (hbv:rv b=t / e.1)
  {nx:JQ}{rows:List (List LR)}{pre:List (Rat×Nat×Nat)}{Q:aX->Prop} (hW:W<=800) (hM:vi rows n n W (gY ((pre.map (zd t)).map (nE F))))
  (hnx:∀ I,vi I n n (W+9) (gY (((pre++[e]).map (zd t)).map (nE F)))->Gd (nx ([]::I)) Q):
  Gd (kR M (zk n) k b ([]::rows) nx) Q:=by
 obtain ⟨q,u,v⟩:=e;unfold kR;rw [h.fr,h.to];have f1:=D5 (λe:Rat×Nat×Nat=>(e.2.1:Int)) he;have f2:=D5 (λe:Rat×Nat×Nat=>(e.2.2:Int)) he;have new:∀ r c,gY (((pre++[(q,u,v)]).map (zd t)).map (nE F)) r c=gY ((pre.map (zd t)).map (nE F)) r c+rv b*(dl (F r) u-dl (F r) v)*(dl (F c) u-dl (F c) v):=λr c=>by
  rw [Tb,Tb];show gY (_++[_]) r c=_;rw [G0,hbv]; rfl
 refine Gd.ix (by omega) (by rw [RN]; exact f1) ?_
 refine Gd.eN (F1 h u) ?_;rintro _ ⟨oi,rfl,i1,i2⟩;refine Gd.ix (by omega) (by rw [RN]; exact f2) ?_
 refine Gd.eN (F1 h v) ?_;rintro _ ⟨oj,rfl,j1,j2⟩;refine Gd.ix (by omega) (by rw [RN]; exact f1) (Gd.ix (by omega) (by rw [RN]; exact f2) ?_)
 refine Gd.ite (λY=>?_) (λY=>?_)
 ·have e1:u=v:=by have:=RT Y; simp only at this; omega
  subst e1;unfold gE;refine hnx rows ((hM.mono (by omega)).congr (λr c _ _=>?_))
  rw [new]; grind
 ·have e1:u≠v:=λe=>by subst e; simp at Y
  have hne:∀ i,oi=some i->oj≠some i:=λi hi hj=>by
   have:=(i1 i hi).2;have:=(j1 i hj).2;omega
  have Z:∀ I,vi I n n (W+9) (λr c=>gY ((pre.map (zd t)).map (nE F)) r c+rv b*(eo oi r*eo oi c)+rv b*(eo oj r*eo oj c)-rv b*(eo oi r*eo oj c)-rv b*(eo oj r*eo oi c))->Gd (nx ([]::I)) Q:=λI h'=>
   hnx I (h'.congr (λr c hr hc=>by rw [new,i2 r hr,i2 c hc,j2 r hr,j2 c hc]; grind))
  cases oi with
  | none=>
   refine Gd.ite (λh=>absurd h (by simp [MU])) (λ_=>N5 (oi:=none) (hM.mono (show W<=W+3 by omega)) (by omega) hb J (λi hi=>(i1 i hi).1) (λj hj=>(j1 j hj).1) hne (λI h'=>Z I ((h'.mono (by omega)).congr (λr c _ _=>?_))))
   rw [u9,u9]; grind
  | some i=>
   have hi:=(i1 i rfl).1;show Gd (if (decide (0<=(i:Int))=true) then _ else _) Q
   refine Gd.ite (λ_=>?_) (λh=>absurd h (by simp))
   show Gd (idx (zk n) (i:Int) _) Q;refine p_ hi (p_ hi (tM hM hi hi (λy1 a1 a2 a3=>Gd.eN (xK a1 hb a2 J (by omega)) (λr1 b1=>tM hM hi hi (λ_ _ _ _=>?_)))))
   have h2:=(hM.mono (show W<=W+3 by omega)).E1 hi hi (d:=rv b) b1.1 (b1.2.1.mono (by omega)) (by rw [b1.2.2,a3])
   refine N5 (oi:=some i) h2 (by omega) hb J (λi hi=>(i1 i hi).1) (λj hj=>(j1 j hj).1) hne (λI h'=>Z I ((h'.mono (by omega)).congr (λr c _ _=>?_)))
   rw [u_,u_]
structure NV (rows:List (List LR)) (n:Nat) (A:Mt):Prop where
 ex:∃ m,Gj n A n m/\vi rows n n 6000 (λi c=>m i (n+c))
theorem Jf {M:aX}{n N:Nat}{F:Nat->Nat}{l:List (Rat×Nat×Nat)}{t:Rat} (h:JS M n N F l t) {B:Mt}{L R:Nat->Rat} (hp:Pd n (gY ((l.map (zd t)).map (nE F)))) (hB:Nb n (gY ((l.map (zd t)).map (nE F))) L B R):
  Gd (ni M) (λM'=>∃ rows,M'={ M with rN:=rows }/\NV rows n (gY ((l.map (zd t)).map (nE F)))):=by
 have hn:=h.hn;have hfl:M.rm.length=n:=by rw [h.free]; simp
 unfold ni;rw [hfl,RN,SZ];refine Gd.nd (by omega) (Gd.nd (by omega) ?_)
 rw [RN];refine Gd.kz (λm i s=>i+m=n/\∃ pre:List (List LR),s=(Gm n i,[]::pre)/\vi pre i n 2 (λ_ _=>0)) ?_ ?_ n 0 _ ⟨by omega,[],by rw [B0],⟨rfl,λi hi=>by omega⟩⟩
 ·rintro m i _ nx ⟨him,pre,rfl,I⟩ hnx
  have hi:i<n:=by omega
  unfold qu;rw [hfl];refine Gd.eN (Av (by omega)) ?_
  rintro _ ⟨z,rfl,hz⟩;refine Gd.ix (by omega) (by rw [RN]; exact GA hi) (hnx _ ⟨by omega,pre++[List.replicate n z],?_,I.snoc (by simp) (λc hc=>⟨z,by rw [Uk,RU hc],hz.1,hz.2.1,hz.2.2⟩)⟩)
  rw [RN,RW,I.len,Bk hi]; rfl
 ·rintro i _ ⟨hi,pre,rfl,I⟩
  obtain rfl:i=n:=by omega
  show Gd (dE (λk y s1523 n=>kR M (Gm i i) k y s1523 n) _ 0 M.B_ ([]::pre)) _;rw [BZ];refine Gd.dE (λk ys s=>∃ (bs:List LR) (rows:List (List LR)),M.B_=bs++ys/\bs.length=k/\s=[]::rows/\vi rows i i (2+9*k) (gY (((l.take k).map (zd t)).map (nE F)))) ?_ ?_ M.B_ 0 _ ⟨[],pre,rfl,rfl,rfl,by rw [VU]; exact I⟩
  ·rintro k y ys _ nx ⟨bs,rows,J,Y,rfl,hM⟩ hnx
   have hy:M.B_[k]? = some y:=by rw [J,Sv (by omega),Y,S7]; rfl
   obtain ⟨e,he,y1,y2,y3⟩:=h.b k y hy;have Z:=(RP.1 he).1;have hll:=h.ll;have e2:l.take (k+1)=l.take k++[e]:=by
    rw [Sn Z,(RP.1 he).2]
   refine PC h he y1 y2 y3 (by omega) hM (λrows' h'=>hnx _ ⟨bs++[y],rows',by rw [J]; simp,by simp [Y],rfl,?_⟩)
   rw [e2];exact h'.mono (by omega)
  ·rintro k _ ⟨bs,rows,J,Y,rfl,hM⟩
   have hll:=h.ll;have hbl:=h.bl;rw [Ss] at J;have Z:k=l.length:=by rw [<- hbl,J,Y]
   rw [Z,TE] at hM;show Gd ((qX (sh (zk i) ([]::rows))).bind _) _;rw [CY hM.len];refine Gd.eN (GW (by omega) (by omega) (by omega) hp (hM.mono (by omega)) (hB.rb hp (by omega))) (λr hr=>Gd.ret ⟨r.1,rfl,⟨hr.2⟩⟩)
abbrev Net:=aD
theorem Gd.forAll {R α Z:Type}{Q:R->Prop}{I:Nat->α->Z->(Z->Option R)->Option R}{k:Z->Option R}{l:List α} (P:α->Prop) (J:Z->Prop)
  (hb:∀ i y s n,y ∈ l->J s->(P y->∀ s',J s'->Gd (n s') Q)->Gd (I i y s n) Q) (hk:(∀ x ∈ l,P x)->∀ s,J s->Gd (k s) Q) (s:Z) (hs:J s):Gd (Sim.dE I k 0 l s) Q:=by
 have key:∀ (ys pre:List α) (i:Nat) (s:Z),l=pre++ys->(∀ x ∈ pre,P x)->J s->Gd (Sim.dE I k i ys s) Q:=by
  intro ys
  induction ys with
  | nil=>intro pre i s hl hp hs; exact hk (by rw [hl,Ss]; exact hp) s hs
  | cons y ys ih=>
   intro pre i s hl hp hs;refine hb i y s _ (by rw [hl]; exact SV _ (RR ..)) hs (λhP s' hs'=>?_)
   exact ih (pre++[y]) (i+1) s' (by rw [hl]; simp) (λx Y=>by
    rcases RZ.1 Y with Y | Y
    ·exact hp x Y
    ·simp at Y; subst Y; exact hP) hs'
 exact key l [] 0 s rfl (by simp) hs
theorem FV (s:RI) (h:s.size<=maxLen):Gd (bB s) (λ_=>True):=by
 unfold bB;refine Gd.nd h (Gd.dE (λ_ _ _=>True) (λi y ys s n _ hn=>?_) (λi s _=>Gd.ret RM) _ _ _ RM);unfold mi;exact Gd.ite (λ_=>Gd.ret RM) (λ_=>hn _ RM)
theorem DD (l:List RI) (p:RI):Gd (bD l p) (λr=>(r = -1/\p ∉ l)\/∃ (k:Nat) (h:k<l.length),r=k/\l[k]=p):=by
 unfold bD;refine Gd.kz (λm i _=>i+m=l.length/\p ∉ l.take i) ?_ ?_ (l.length:Int).toNat 0 () ⟨by omega,by simp⟩
 ·intro m i _ J ⟨hi,hno⟩ hnx
  unfold lW;refine Gd.gA (by omega) (Gd.ite (λh=>Gd.ret (.inr ⟨i,by omega,rfl,?_⟩)) (λh=>hnx () ⟨by omega,?_⟩))
  ·have:p=l[i]:=by simpa using h
   exact this.symm
  ·rw [Sn (by omega),RZ,R_]
   rintro (I | I)
   ·exact hno I
   ·simp [I] at h
 ·intro i _ ⟨hi,hno⟩
  rw [R3 (by omega)] at hno
  exact Gd.ret (.inl ⟨rfl,hno⟩)
theorem zD {l:List RI}{p:RI} (h:p ∈ l):∃ k:Nat,bD l p=some (k:Int)/\∃ J:k<l.length,l[k]=p:=by
 obtain ⟨r,Z,Y⟩:=DD l p;rcases Y with ⟨_,I⟩ | ⟨k,J,rfl,e⟩
 ·exact absurd h I
 ·exact ⟨k,Z,J,e⟩
theorem vf (l:List RI) (p:RI):Gd (bJ l p) (λb=>b=true↔p ∈ l):=by
 unfold bJ;refine Gd.eN (DD l p) (λr J=>Gd.ret ?_);rcases J with ⟨rfl,I⟩ | ⟨k,Y,rfl,e⟩
 ·simp [I]
 ·have:p ∈ l:=e▸Sk _
  simp [this]
theorem vm (c:aU) (name:RI) (nodes:List RI) (h:name.size<=maxLen):
  Gd (cC c name nodes) (λr=>r.1=0->∀ x ∈ nodes,x ∈ c.nodes):=by
 unfold cC;refine Gd.eN (FV name h) (λa _=>Gd.ite (λ_=>Gd.ret (λh=>by simp at h)) (λ_=>Gd.ite (λ_=>Gd.ret (λh=>by simp at h)) (λ_=>?_)))
 refine Gd.forAll (λx=>x ∈ c.nodes) (λ_=>True) ?_ ?_ () RM
 ·intro i y s n Z _ hn
  unfold iD;refine Gd.eN (vf c.nodes y) (λb J=>Gd.ite (λ_=>Gd.ret (λh=>by simp at h)) (λh=>hn (J.1 (by simpa using h)) _ RM))
 ·intro I s _
  refine Gd.ite (λh=>?_) (λ_=>Gd.ret (λ_=>I));have Y:nodes.length=2:=by
   have:((nodes.length:Nat):Int)=2:=by simpa using h
   omega
  have e1:(0:Int)=((0:Nat):Int):=rfl;have e2:(1:Int)=((1:Nat):Int):=rfl;rw [e1,e2];exact Gd.gA (by omega) (Gd.gA (by omega) (Gd.ite (λ_=>Gd.ret (λh=>by simp at h)) (λ_=>Gd.ret (λ_=>I))))
structure qL (n:Net):Prop where
 nd:∀ x ∈ n.bF,x.size<=maxLen
 sw:∀ x ∈ n.aO,x.Name.size<=maxLen
 br:∀ x ∈ n.aJ,x.Name.size<=maxLen
 gn:∀ x ∈ n.dS,x.Name.size<=maxLen
 ld:∀ x ∈ n.bE,x.Name.size<=maxLen
 st:∀ x ∈ n.bW,x.Name.size<=maxLen
structure pZ (n:Net):Prop where
 l1:n.bF.length<=24
 l2:n.aO.length<=32
 l3:n.aJ.length<=24
 l4:n.dS.length<=10
 l5:n.bE.length<=12
 sw:∀ x ∈ n.aO,x.A ∈ n.bF/\x.B_ ∈ n.bF
 br:∀ x ∈ n.aJ,x.qe ∈ n.bF/\x.To ∈ n.bF
 gn:∀ x ∈ n.dS,x.Node ∈ n.bF/\0<=x.jC/\x.jC<=x.rr/\x.rr<=100000
 ld:∀ x ∈ n.bE,x.Node ∈ n.bF/\0<=x.c_/\x.c_<=100000
theorem Mp (c:aU) (n:Net) (hz:qL n):
  Gd (gG c n) (λr=>r.1=0->(∀ x ∈ n.dS,x.Node ∈ c.nodes/\0<=x.jC/\x.jC<=x.rr/\x.rr<=100000)/\(∀ x ∈ n.bE,x.Node ∈ c.nodes/\0<=x.c_/\x.c_<=100000)):=by
 unfold gG;refine Gd.forAll (λx=>x.Node ∈ c.nodes/\0<=x.jC/\x.jC<=x.rr/\x.rr<=100000) (λ_=>True) ?_ ?_ _ RM
 ·intro i y s nx J _ hn
  unfold jG;refine Gd.eN (vm _ _ _ (hz.gn y J)) (λr Y=>Gd.ite (λh=>Gd.ret (λI=>absurd I (by simpa using h))) (λh=>Gd.ite (λ_=>Gd.ret (λI=>by simp at I)) (λI=>hn ?_ _ RM)))
  have Z:r.1=0:=by simpa using h
  have:=Y Z y.Node (by simp)
  simp [aW,bI] at I;exact ⟨this,by omega,by omega,by omega⟩
 ·intro hg s _
  refine Gd.forAll (λx=>x.Node ∈ c.nodes/\0<=x.c_/\x.c_<=100000) (λ_=>True) ?_ ?_ _ RM
  ·intro i y s nx J _ hn
   unfold jH;refine Gd.eN (vm _ _ _ (hz.ld y J)) (λr Y=>Gd.ite (λh=>Gd.ret (λI=>absurd I (by simpa using h))) (λh=>Gd.ite (λ_=>Gd.ret (λI=>by simp at I)) (λI=>hn ?_ _ RM)))
   have Z:r.1=0:=by simpa using h
   have:=Y Z y.Node (by simp)
   simp [aW,bI] at I;exact ⟨this,by omega,by omega⟩
  ·intro hl s _
   refine Gd.forAll (λ_=>True) (λ_=>True) ?_ ?_ _ RM
   ·intro i y s nx J _ hn
    unfold jI;refine Gd.eN (vm _ _ _ (hz.st y J)) (λr Y=>Gd.ite (λh=>Gd.ret (λI=>absurd I (by simpa using h))) (λh=>Gd.ite (λ_=>Gd.ret (λI=>by simp at I)) (λ_=>hn RM _ RM)))
   ·intro _ s _
    exact Gd.ret λ_=>⟨hg,hl⟩
theorem Kj (n:Net) (hz:qL n):Gd (bX n) (λe=>e=0->pZ n):=by
 unfold bX;refine Gd.ite (λ_=>Gd.ret (λh=>by simp at h)) (λhl=>?_)
 simp only [WG,XK,Int.not_lt] at hl;refine Gd.forAll (λ_=>True) (λ_=>True) ?_ ?_ _ RM
 ·intro i y s nx Z _ hn
  unfold nk;exact Gd.eN (vm _ _ _ (hz.nd y Z)) (λr I=>Gd.ite (λh=>Gd.ret (λJ=>absurd J (by simpa using h))) (λh=>hn RM _ RM))
 intro _ s _;refine Gd.forAll (λx=>x.A ∈ n.bF/\x.B_ ∈ n.bF) (λ_=>True) ?_ ?_ _ RM
 ·intro i y s nx Z _ hn
  unfold np;refine Gd.eN (vm _ _ _ (hz.sw y Z)) (λr I=>Gd.ite (λh=>Gd.ret (λJ=>absurd J (by simpa using h))) (λh=>hn ?_ _ RM))
  have Y:r.1=0:=by simpa using h
  exact ⟨I Y y.A (by simp),I Y y.B_ (by simp)⟩
 intro hsw s _;refine Gd.forAll (λx=>x.qe ∈ n.bF/\x.To ∈ n.bF) (λ_=>True) ?_ ?_ _ RM
 ·intro i y s nx Z _ hn
  unfold nq;refine Gd.eN (vm _ _ _ (hz.br y Z)) (λr I=>Gd.ite (λh=>Gd.ret (λJ=>absurd J (by simpa using h))) (λh=>Gd.ite (λh=>Gd.ret (λJ=>absurd J (by simpa using h))) (λ_=>hn ?_ _ RM)))
  have Y:r.1=0:=by simpa using h
  exact ⟨I Y y.qe (by simp),I Y y.To (by simp)⟩
 intro hbr s _;refine Gd.eN (Mp _ n hz) (λr I=>Gd.ret (λh=>?_));obtain ⟨hg,hl2⟩:=I h;exact ⟨by omega,by omega,by omega,by omega,by omega,hsw,hbr,hg,hl2⟩
def E3 (N:Nat) (l:List bY):Prop:=∀ e ∈ l,0<=e.a0/\e.a0<N/\0<=e.a1/\e.a1<N
structure zL (N:Nat) (many:Int) (out:List Int):Prop where
 len:out.length=N
 L5:∀ v ∈ out,-1<=v/\v<many
def Bj (N:Nat) (l:List Int):Prop:=∀ a ∈ l,0<=a/\a<(N:Int)
def sS (out:List Int):Nat:=out.countP (λv=>decide (v<0))
theorem zL.set {N:Nat}{many:Int}{out:List Int} (h:zL N many out) {v:Int} (J:0<=v/\v<many) (i:Nat):zL N many (out.set i v):=
 ⟨by simp [h.len],λx I=>by
  rcases W5 I with I | rfl
  ·exact h.L5 x I
  ·omega⟩
theorem FT {out:List Int}{i:Nat} (hi:i<out.length) (hn:out[i]<0) {v:Int} (Z:0<=v):sS (out.set i v)+1=sS out:=by
 unfold sS;rw [List.countP_set hi];have I:decide (out[i]<0)=true:=XL hn;have Y:decide (v<0)=false:=XJ (by omega)
 rw [I,Y];have J:0<out.countP (λv=>decide (v<0)):=List.countP_pos_iff.2 ⟨_,Sk hi,I⟩;simp;omega
def zf (a b:List Int):Prop:=∀ (i:Nat) (v:Int),a[i]? = some v->0<=v->∃ w,b[i]? = some w/\0<=w
theorem zf.refl (a:List Int):zf a a:=λi v h I=>⟨v,h,I⟩
theorem zf.set {a b:List Int} (h:zf a b) (i:Nat) {v:Int} (Z:0<=v):zf a (b.set i v):=by
 intro j w Y hw;obtain ⟨u,J,I⟩:=h j w Y hw
 by_cases e:i=j
 ·subst e
  exact ⟨v,by simp [(RP.1 J).1],Z⟩
 ·exact ⟨u,by rw [Sh e]; exact J,I⟩
theorem Li (N:Nat) (hN:N<=24) (l:List bY) (hl:E3 N l) (hll:l.length<=64) (wo:Int):Gd (pF N l wo) (λr=>r.length=N/\∀ v ∈ r,0<=v/\v<N):=by
 unfold pF;refine Gd.nd ⟨rfl,by omega,by omega⟩ (Gd.nd (by omega) ?_)
 rw [yE];refine Gd.kz (λm i s=>i+m=N/\0<=s.2/\s.2<=(i:Int)/\zL N s.2 s.1/\∀ (j:Nat) (v:Int),j<i->s.1[j]? = some v->0<=v) ?_ ?_ (N:Int).toNat 0 (List.replicate N (-1),0) ⟨by omega,by simp,by simp,⟨by simp,by simp⟩,by simp⟩
 ·rintro m i ⟨out,many⟩ nx ⟨hi,h0,hmi,hp,hk⟩ hn
  simp only at h0 hmi hp hk;have hilt:i<out.length:=by rw [hp.len]; omega
  unfold q8;refine Gd.gA hilt (Gd.ite (λh=>?_) (λh=>?_))
  ·have hge:0<=out[i]:=by simpa using h
   unfold jW;refine hn _ ⟨by omega,h0,by show many<=((i+1:Nat):Int); omega,hp,λj v hj hv=>?_⟩
   by_cases e:j=i
   ·subst e
    rw [RK hilt] at hv;cases hv; exact hge
   ·exact hk j v (by omega) hv
  ·have hneg:out[i]<0:=by simpa using h
   refine Gd.gA hilt ?_;rw [RN];have hw:i64.wrap (many+1)=many+1:=bG ⟨by omega,by omega⟩
   have hp1:zL N (many+1) out:=⟨hp.len,λv hv=>by have:=hp.L5 v hv; omega⟩
   have hbase0:2*sS (out.set i many)+[(i:Int)].length<=2*N+1:=by
    have hc:sS (out.set i many)<=N:=by unfold sS; rw [<- hp.len,<- SO (as:=out) (i:=i) (a:=many)]; exact Uq
    simp only [SR]; omega
   refine Gd.fG (λ(s:List Int×List Int)=>zL N (many+1) s.1/\zf (out.set i many) s.1/\Bj N s.2/\2*sS s.1+s.2.length<=2*N+1) (λs=>2*sS s.1+s.2.length) ?_ eI _ ⟨hp1.set ⟨h0,by omega⟩ i,zf.refl _,by intro a ha; simp at ha; omega,hbase0⟩ ?_
   ·rintro ⟨o,todo⟩ nx2 ⟨hq,hkp,htd,htot⟩ hn2
    simp only at hq hkp htd htot;unfold q9;refine Gd.ite (λhne=>?_) (λ_=>?_)
    ·have hne:0<todo.length:=by
      have:(0:Int)<((todo.length:Nat):Int):=by simpa using hne
      omega
     obtain ⟨at_,ts,rfl⟩:∃ a ts,todo=a::ts:=by
      cases todo with
      | nil=>simp at hne
      | cons a ts=>exact ⟨a,ts,rfl⟩
     refine Gd.ix (y:=at_) (by decide) rfl (Gd.nd ⟨by omega,by simp only [RW]; omega⟩ ?_)
     have hat:=htd at_ (RR ..);have hsl:tG (at_::ts) (1:Int).toNat (at_::ts).length=ts:=by
      unfold tG;rw [show (1:Int).toNat=1 from rfl,Wq,S8,R3 (by simp)]
     rw [hsl];simp only [RW] at htot;have push:∀ (b:List Int) (td:List Int) (q:Int) (nn:(List Int×List Int)->Option (List Int)),0<=q->q<N->zL N (many+1) b->zf (out.set i many) b->Bj N td->2*sS b+td.length<=2*sS o+ts.length ->
       (∀ s',(zL N (many+1) s'.1/\zf (out.set i many) s'.1/\Bj N s'.2/\2*sS s'.1+s'.2.length<=2*sS o+ts.length)->Gd (nn s') (λr=>r.length=N/\∀ v ∈ r,0<=v/\v<N)) ->
       Gd (Sim.idx b q λy7689=>if decide (y7689<0) then (Sim.idx b q λy7694=>cE ((td.length+([q]).length)*8<=140737488355328) (eG nn (b.set (q:Int).toNat many) (td++([q])))) else (eG nn b td)) (λr=>r.length=N/\∀ v ∈ r,0<=v/\v<N):=by
      intro b td q nn q0 qN hb J I Y Z;have hql:q.toNat<b.length:=by rw [hb.len]; omega
      have hget:b[q.toNat]? = some b[q.toNat]:=RK hql;unfold eG;refine Gd.ix q0 hget (Gd.ite (λh=>Gd.ix q0 hget (Gd.nd ?_ (Z _ ⟨hb.set ⟨h0,by omega⟩ _,J.set _ h0,?_,?_⟩))) (λh=>Z _ ⟨hb,J,I,Y⟩))
      ·have h1:b[q.toNat]<0:=by simpa using h
       have hc:sS o<=N:=by unfold sS; rw [<- hq.len]; exact Uq
       simp;omega
      ·intro a ha
       rcases RZ.1 ha with ha | ha
       ·exact I a ha
       ·simp at ha; omega
      ·have h1:b[q.toNat]<0:=by simpa using h
       have:=FT hql h1 h0;simp;omega
     have hc:sS o<=N:=by unfold sS; rw [<- hq.len]; exact Uq
     ·refine Gd.forAll (λ_=>True) (λ(s:List Int×List Int)=>zL N (many+1) s.1/\zf (out.set i many) s.1/\Bj N s.2/\2*sS s.1+s.2.length<=2*sS o+ts.length) ?_ ?_ _ ⟨hq,hkp,(λa ha=>htd a (RV _ ha):Bj N ts),R9 (2*sS o+ts.length)⟩
      ·rintro k e ⟨b,td⟩ nn he ⟨hb,J,I,Y⟩ Z
       simp only at hb J I Y;obtain ⟨e1,e2,e3,e4⟩:=hl e he;have hw1:i64.wrap (e.a0+e.a1)=e.a0+e.a1:=bG ⟨by omega,by omega⟩
       have hw2:i64.wrap (e.a0+e.a1-at_)=e.a0+e.a1-at_:=bG ⟨by omega,by omega⟩
       unfold q_;rw [hw1,hw2];refine Gd.ite (λ_=>Z RM _ ⟨hb,J,I,Y⟩) (λ_=>Gd.ite (λh=>?_) (λ_=>Gd.ite (λ_=>Z RM _ ⟨hb,J,I,Y⟩) (λh=>?_)))
       ·have h:e.a0=at_:=by simpa using h
        exact push b td _ nn (by omega) (by omega) hb J I Y (λs' hs'=>Z RM s' hs')
       ·have h:e.a1=at_:=by simpa using h
        exact push b td _ nn (by omega) (by omega) hb J I Y (λs' hs'=>Z RM s' hs')
      ·rintro _ ⟨b,td⟩ ⟨hb,J,I,Y⟩
       simp only at hb J I Y;exact hn2 _ ⟨hb,J,I,by show 2*sS b+td.length<=2*N+1; omega⟩ (by simp only [RW]; omega)
    ·unfold jW
     rw [hw];refine hn _ ⟨by omega,by show (0:Int)<=many+1; omega,by show many+1<=((i+1:Nat):Int); omega,hq,λj v hj hv=>?_⟩
     have hjl:j<out.length:=by omega
     have hbase:∃ w,(out.set i many)[j]? = some w/\0<=w:=by
      by_cases e:i=j
      ·subst e; exact ⟨many,by simp [hilt],h0⟩
      ·exact ⟨out[j],by rw [Sh e]; exact RK hjl,hk j _ (by omega) (RK hjl)⟩
     obtain ⟨w,hw1,hw0⟩:=hbase;obtain ⟨u,hu,hu0⟩:=hkp j w hw1 hw0;simp only at hv;rw [hu] at hv; cases hv; exact hu0
   ·refine UH hbase0 ?_
    unfold eI; omega
 ·rintro i ⟨out,many⟩ ⟨hi,h0,hmi,hp,hk⟩
  simp only at h0 hmi hp hk;refine Gd.ret ⟨hp.len,λv hv=>?_⟩;obtain ⟨j,hj,hje⟩:=S3.1 hv;have hj:j<out.length:=hj;have h1:=hp.L5 v hv;have h2:=hk j v (by have:=hp.len; omega) (by rw [RK hj]; exact R7 some hje)
  omega
theorem Dw (N:Nat) (hN:N<=24) (l:List bY) (hl:E3 N l) (I:l.length<=64):so N l=some 0:=by
 rw [<- Gd.eq];unfold so;refine Gd.ite (λh=>?_) (λ_=>Gd.forAll (Q:=λx=>x=0) (λ_=>True) (λ_=>True) ?_ (λ_ _ _=>Gd.ret rfl) _ RM)
 ·simp at h; omega
 ·intro i e s n he _ hn
  obtain ⟨e1,e2,J,Y⟩:=hl e he;unfold tX;exact Gd.ite (λh=>by simp at h; omega) (λ_=>Gd.ite (λh=>by simp at h; omega) (λ_=>Gd.ite (λh=>by simp at h; omega) (λ_=>Gd.ite (λh=>by simp at h; omega) (λ_=>hn RM _ RM))))
theorem Kl (N:Nat) (hN:N<=24) (l:List bY) (hl:E3 N l) (I:l.length<=64):Gd (jE N l) (λr=>r.1.length=N/\Bj N r.1):=by
 unfold jE;refine Gd.bind_eq (Dw N hN l hl I) (Gd.ite (λh=>by simp at h) (λ_=>Gd.eN (Li N hN l hl I (-1)) (λr J=>Gd.ret J)))
theorem KE (n:Net) (hn:pZ n) (o:Bool):Gd (qS n o) (λr=>r.1.length<=32/\E3 n.bF.length r.1):=by
 unfold qS;refine Gd.dE (λi ys s=>i+ys.length=n.aO.length/\(∀ y ∈ ys,y ∈ n.aO)/\s.1.length<=i/\s.2.length<=i/\E3 n.bF.length s.1) ?_ ?_ _ _ _ ⟨by simp,λ_ h=>h,by simp,by simp,by intro e he; simp at he⟩
 ·rintro i y ys ⟨a,b⟩ nx ⟨hi,O,ha,hb,he⟩ J
  simp only [RW] at hi ha hb he;have h2:=hn.l2;have Y:∀ z ∈ ys,z ∈ n.aO:=λz hz=>O z (RV _ hz);unfold sR od;refine Gd.ite (λ_=>?_) (λ_=>J _ ⟨by omega,Y,by simp only; omega,by simp only; omega,he⟩)
  obtain ⟨h1,Z⟩:=hn.sw y (O y (RR ..));obtain ⟨p,hp,hpl,_⟩:=zD h1;obtain ⟨q,hq,hql,_⟩:=zD Z;refine Gd.bind_eq hp (Gd.bind_eq hq (Gd.nd (by simp; omega) (Gd.nd (by simp; omega) (J _ ⟨by omega,Y,by simp; omega,by simp; omega,?_⟩))))
  intro e I;rcases RZ.1 I with I | I
  ·exact he e I
  ·simp at I; subst I
   exact ⟨by simp only; omega,by simp only; omega,by simp only; omega,by simp only; omega⟩
 ·rintro i ⟨a,b⟩ ⟨hi,O,ha,hb,he⟩
  have h2:=hn.l2;simp only [W3] at hi ha;exact Gd.ret ⟨by simp only; omega,he⟩
theorem Ki (n:Net) (hn:pZ n):Gd (oO n) (λr=>r.length=n.bF.length/\Bj n.bF.length r):=by
 unfold oO;refine Gd.eN (KE n hn false) (λr I=>?_);have J:=hn.l1;exact Gd.eN (Kl n.bF.length hn.l1 r.1 I.2 (by omega)) (λr I=>Gd.ret I)
structure QO (n:Net) (t:aY):Prop where
 bl:t.qJ.length=n.bF.length
 bi:Bj t.bO.length t.qJ
 ii:Bj t.bO.length t.bO
 il:t.bO.length<=24
theorem ML {R:Type}{Q:R->Prop} (N:Nat) (hN:N<=24) (I:Nat->Int->Int->(Int->Option R)->Option R) (hb:∀ k y n nx,I k y n nx=nx (max n (i64.wrap (y+1)))) (K:Int->Option R) (l:List Int) (hl:Bj N l)
  (hk:∀ m:Nat,m<=N->Bj m l->Gd (K (m:Int)) Q):Gd (dE I K 0 l 0) Q:=by
 have key:∀ (ys pre:List Int) (i m:Nat),l=pre++ys->m<=N->Bj m pre->Gd (dE I K i ys (m:Int)) Q:=by
  intro ys
  induction ys with
  | nil=>intro pre i m e O Z; rw [Ss] at e; subst e; exact hk m O Z
  | cons y ys ih=>
   intro pre i m e O Z;have hy:=hl y (by rw [e]; exact SV _ (RR ..))
   show Gd (I i y (m:Int) (λs=>dE I K (i+1) ys s)) Q;rw [hb,bG ⟨by omega,by omega⟩]
   have Y:max (m:Int) (y+1)=((max m (y+1).toNat:Nat):Int):=by omega
   rw [Y];refine ih (pre++[y]) (i+1) _ (by rw [e]; simp) (by omega) (λa J=>?_)
   rcases RZ.1 J with J | J
   ·have:=Z a J; omega
   ·simp at J; subst J; omega
 have:=key l [] 0 0 rfl (by omega) (by intro a J; simp at J)
 exact this
abbrev BA:=RI
abbrev Seen:=List (RI×Bool)
theorem K6 (l:List (RI×Bool)) (k I:RI):(sf (wh l k true) I).getD false=((sf l I).getD false || decide (k=I)):=by
 have key:∀ (l:List (RI×Bool)) (i:Nat),(∀ p,xn l I i=some p->xn (l++[(k,true)]) I i=some p)/\(xn l I i=none->xn (l++[(k,true)]) I i=if k=I then some (i+l.length,true) else none):=by
  intro l
  induction l with
  | nil=>intro i; refine ⟨λp h=>by simp [xn] at h,λ_=>?_⟩; simp [xn]
  | cons q l ih=>
   obtain ⟨a,b⟩:=q;intro i;simp only [TD,xn]
   by_cases h:a=I
   ·simp [h]
   ·simp only [h,T5]
    refine ⟨(ih (i+1)).1,λhn=>?_⟩;rw [(ih (i+1)).2 hn];simp; split
    ·simp; omega
    ·rfl
 have J:∀ (l:List (RI×Bool)) (i j:Nat) (v:Bool),xn l k i=some (j,v)->sf (l.set (j-i) (k,true)) I=if k=I then some true else sf l I:=by
  intro l;unfold sf;have:∀ (l:List (RI×Bool)) (i j:Nat) (v:Bool) (q:Nat),xn l k i=some (j,v)->((xn (l.set (j-i) (k,true)) I q).map (·.2))=if k=I then some true else (xn l I q).map (·.2):=by
   intro l
   induction l with
   | nil=>intro i j v q h; simp [xn] at h
   | cons p l ih=>
    obtain ⟨a,b⟩:=p;intro i j v q h;simp only [xn] at h
    split at h
    ·rename_i e
     simp only [Sa,Ue] at h;obtain ⟨rfl,rfl⟩:=h;subst e;rw [S7,W9];simp only [xn]
     by_cases e:a=I <;> simp [e]
    ·rename_i e
     obtain ⟨h1,Y,_⟩:=G3 h;rw [show j-i=(j-(i+1))+1 by omega,List.set_cons_succ]
     simp only [xn];have:=ih (i+1) j v (q+1) h
     by_cases e2:a=I
     ·subst e2
      have Z:k≠a:=λx=>e x.symm;simp [Z]
     ·simp only [e2,T5]; exact this
  intro i j v h;exact this l i j v 0 h
 unfold wh;cases h:xn l k 0 with
 | none=>
  simp only;unfold sf;cases Y:xn l I 0 with
  | none=>
   rw [(key l 0).2 Y]
   by_cases e:k=I <;> simp [e]
  | some p=>
   rw [(key l 0).1 p Y]
   by_cases e:k=I
   ·subst e; rw [h] at Y; cases Y
   ·simp [e]
 | some p=>
  obtain ⟨j,v⟩:=p;simp only;have:=J l 0 j v h;rw [UI] at this;rw [this]
  by_cases e:k=I <;> simp [e]
def qh (P:List BA) (s:Seen):Prop:=∀ k:BA,(sf s k).getD false=true↔k ∈ P
theorem qh.nil:qh [] ([]:Seen):=λk=>by simp [sf,xn]
theorem qh.put {P:List BA}{s:Seen} (h:qh P s) (k:BA):qh (P++[k]) (wh s k true):=λI=>by
 rw [K6,Tt,h I,RZ,R_,Sy];exact or_congr Iff.rfl ⟨λe=>e.symm,λe=>e.symm⟩
structure Pl (ns P:List BA) (name:BA) (nodes:List BA):Prop where
 nm:bB name=some true
 nw:name ∉ P
 at_:∀ x ∈ nodes,x ∈ ns
 two:∀ a b,nodes=[a,b]->a≠b
theorem vj {c:aU}{P:List BA} (hs:qh P c.seen) {name:BA} (nodes:List BA) (h:name.size<=maxLen):
  Gd (cC c name nodes) (λr=>r.1=0->Pl c.nodes P name nodes/\qh (P++[name]) r.2.seen):=by
 unfold cC;obtain ⟨b,Z,_⟩:=FV name h;refine Gd.bind_eq Z (Gd.ite (λ_=>Gd.ret (λh=>by simp at h)) (λJ=>Gd.ite (λ_=>Gd.ret (λh=>by simp at h)) (λhsn=>?_)))
 have J:b=true:=by simpa using J
 subst J;have hnw:name ∉ P:=λO=>by rw [(hs name).2 O] at hsn; cases hsn
 refine Gd.forAll (λx=>x ∈ c.nodes) (λ_=>True) ?_ ?_ () RM
 ·intro i y s n hy _ hn
  unfold iD;refine Gd.eN (vf c.nodes y) (λb Z=>Gd.ite (λ_=>Gd.ret (λh=>by simp at h)) (λh=>hn (Z.1 (by simpa using h)) _ RM))
 ·intro I s _
  refine Gd.ite (λh=>?_) (λh2=>Gd.ret (λ_=>⟨⟨Z,hnw,I,λa b e=>?_⟩,hs.put name⟩))
  ·have h2:nodes.length=2:=by
    have:((nodes.length:Nat):Int)=2:=by simpa using h
    omega
   obtain ⟨a,b,rfl⟩:∃ a b,nodes=[a,b]:=by
    match nodes,h2 with
    | [a,b],_=>exact ⟨a,b,rfl⟩
   refine Gd.ix (y:=a) (by decide) rfl (Gd.ix (y:=b) (by decide) rfl (Gd.ite (λ_=>Gd.ret (λh=>by simp at h)) (λY=>Gd.ret (λ_=>⟨⟨Z,hnw,I,λp q e=>?_⟩,hs.put name⟩))))
   have Y:a≠b:=by simpa using Y
   simp at e;rw [<- e.1,<- e.2]; exact Y
  ·subst e
   simp at h2
theorem wX {c:aU}{P:List BA} (hs:qh P c.seen) {name:BA}{nodes:List BA} (h:Pl c.nodes P name nodes):
  cC c name nodes=some (0,⟨wh c.seen name true,c.nodes⟩):=by
 rw [<- Gd.eq];unfold cC;refine Gd.bind_eq h.nm (Gd.ite (λh=>by simp at h) (λ_=>Gd.ite (λZ=>absurd ((hs name).1 Z) h.nw) (λ_=>?_)))
 refine Gd.forAll (λ_=>True) (λ_=>True) ?_ ?_ () RM
 ·intro i y s n hy _ hn
  unfold iD;refine Gd.eN (vf c.nodes y) (λb hb=>Gd.ite (λJ=>?_) (λ_=>hn RM _ RM));have:=hb.2 (h.at_ y hy);simp [this] at J
 ·intro _ s _
  refine Gd.ite (λI=>?_) (λ_=>Gd.ret rfl);have I:nodes.length=2:=by
   have:((nodes.length:Nat):Int)=2:=by simpa using I
   omega
  obtain ⟨a,b,rfl⟩:∃ a b,nodes=[a,b]:=by
   match nodes,I with
   | [a,b],_=>exact ⟨a,b,rfl⟩
  have Y:=h.two a b rfl;exact Gd.ix (y:=a) (by decide) rfl (Gd.ix (y:=b) (by decide) rfl (Gd.ite (λe=>absurd (by simpa using e) Y) (λ_=>Gd.ret rfl)))
def names (n:Net):List BA:=n.bF++n.aO.map (·.Name)++n.aJ.map (·.Name)++n.dS.map (·.Name)++n.bE.map (·.Name)++n.bW.map (·.Name)
theorem vq {R α:Type}{Q:R->Prop}{I:Nat->α->Seen->(Seen->Option R)->Option R}{k:Seen->Option R}{l:List α} (nm:α->BA) (P:List BA)
  (Z:∀ (i:Nat) (y:α) (s:Seen) (n:Seen->Option R) (pre:List α),(∃ Y,l=pre++y::Y)->qh (P++pre.map nm) s->Gd (n (wh s (nm y) true)) Q->Gd (I i y s n) Q) (hk:∀ s,qh (P++l.map nm) s->Gd (k s) Q) (s:Seen) (hs:qh P s):Gd (dE I k 0 l s) Q:=by
 refine Gd.seen (λpre s=>qh (P++pre.map nm) s) ?_ hk s (by simpa using hs)
 intro i y s n pre J hs hn;refine Z i y s n pre J hs (hn _ ?_);have:=hs.put (nm y);rw [Tb,<- Sc]; exact this
theorem tS {R α:Type}{Q:R->Prop}{I:Nat->α->Seen->(Seen->Option R)->Option R}{k:Seen->Option R}{l:List α} (nm:α->BA) (P:List BA) (C:α->Prop)
  (hb:∀ (i:Nat) (y:α) (s:Seen) (n:Seen->Option R) (pre:List α),y ∈ l->qh (P++pre.map nm) s->(nm y ∉ P++pre.map nm->C y->∀ s',qh (P++pre.map nm++[nm y]) s'->Gd (n s') Q)->Gd (I i y s n) Q)
  (hk:∀ s,qh (P++l.map nm) s->(∀ x ∈ l,C x)->(P.Nodup->(P++l.map nm).Nodup)->Gd (k s) Q) (s:Seen) (hs:qh P s):Gd (dE I k 0 l s) Q:=by
 refine Gd.seen (λpre s=>qh (P++pre.map nm) s/\(∀ x ∈ pre,C x)/\(P.Nodup->(P++pre.map nm).Nodup)) ?_ (λs h=>hk s h.1 h.2.1 h.2.2) s ⟨by simpa using hs,by simp,λh=>by simpa using h⟩
 rintro i y s n pre Z ⟨h1,h2,h3⟩ hn;refine hb i y s n pre (xJ Z).2.1 h1 (λY hC s' hs'=>hn s' ⟨by rw [Tb,<- Sc]; exact hs',λx J=>?_,λhP=>?_⟩)
 ·rcases RZ.1 J with J | J
  ·exact h2 x J
  ·simp at J; subst J; exact hC
 ·rw [Tb,<- Sc,SM]
  refine ⟨h3 hP,by simp,λa ha b hb=>?_⟩
  simp at hb; subst hb
  intro e; subst e; exact Y ha
def FC (g:bH):Bool:=!(((!(aW g.jC)) || (bI g.rr g.jC 100000)) || (!(aW g.C5)))
def DL (s:cJ):Bool:=!(((!(aW s.sZ)) || (!(aW s.Discharge))) || (!(aW s.vz)))
structure pK (n:Net):Prop where
 l1:n.bF.length<=24
 l2:n.aO.length<=32
 l3:n.aJ.length<=24
 l4:n.dS.length<=10
 l5:n.bE.length<=12
 l6:n.bW.length<=4
 nd:(names n).Nodup
 vn:∀ x ∈ n.bF,bB x=some true
 vs:∀ x ∈ n.aO,bB x.Name=some true/\x.A ∈ n.bF/\x.B_ ∈ n.bF/\x.A≠x.B_
 vb:∀ x ∈ n.aJ,bB x.Name=some true/\x.qe ∈ n.bF/\x.To ∈ n.bF/\x.qe≠x.To/\iS x=0
 vg:∀ x ∈ n.dS,bB x.Name=some true/\x.Node ∈ n.bF/\FC x=true
 vl:∀ x ∈ n.bE,bB x.Name=some true/\x.Node ∈ n.bF/\aW x.c_=true
 vt:∀ x ∈ n.bW,bB x.Name=some true/\x.Node ∈ n.bF/\DL x=true
theorem Wx (n:Net) (hz:qL n):Gd (bX n) (λe=>e=0->pK n):=by
 unfold bX;refine Gd.ite (λ_=>Gd.ret (λh=>by simp at h)) (λhl=>?_)
 simp only [WG,XK,Int.not_lt] at hl;refine tS (id:BA->BA) [] (λx=>bB x=some true) ?_ ?_ _ qh.nil
 ·intro i y s nx pre Z hs hn
  unfold nk;exact Gd.eN (vj (c:=⟨s,n.bF⟩) hs [] (hz.nd y Z)) (λr Y=>Gd.ite (λh=>Gd.ret (λI=>absurd I (by simpa using h))) (λh=>by
   obtain ⟨J,I⟩:=Y (by simpa using h)
   exact hn J.nw J.nm _ I))
 intro s hs hvn hnd1;simp only [List.map_id,Tn] at hs hnd1;refine tS (λx:aZ=>x.Name) _ (λx=>bB x.Name=some true/\x.A ∈ n.bF/\x.B_ ∈ n.bF/\x.A≠x.B_) ?_ ?_ _ hs
 ·intro i y s nx pre Z hs hn
  unfold np;exact Gd.eN (vj (c:=⟨s,n.bF⟩) hs [y.A,y.B_] (hz.sw y Z)) (λr Y=>Gd.ite (λh=>Gd.ret (λI=>absurd I (by simpa using h))) (λh=>by
   obtain ⟨J,I⟩:=Y (by simpa using h)
   exact hn J.nw ⟨J.nm,J.at_ _ (by simp),J.at_ _ (by simp),J.two _ _ rfl⟩ _ I))
 intro s hs hvs hnd2;refine tS (λx:aQ=>x.Name) _ (λx=>bB x.Name=some true/\x.qe ∈ n.bF/\x.To ∈ n.bF/\x.qe≠x.To/\iS x=0) ?_ ?_ _ hs
 ·intro i y s nx pre Z hs hn
  unfold nq;exact Gd.eN (vj (c:=⟨s,n.bF⟩) hs [y.qe,y.To] (hz.br y Z)) (λr Y=>Gd.ite (λh=>Gd.ret (λI=>absurd I (by simpa using h))) (λh=>Gd.ite (λh3=>Gd.ret (λI=>absurd I (by simpa using h3))) (λh3=>by
   obtain ⟨J,I⟩:=Y (by simpa using h)
   exact hn J.nw ⟨J.nm,J.at_ _ (by simp),J.at_ _ (by simp),J.two _ _ rfl,by simpa using h3⟩ _ I)))
 intro s hs hvb hnd3;refine Gd.eN (P:=λr=>r.1=0->(∀ x ∈ n.dS,bB x.Name=some true/\x.Node ∈ n.bF/\FC x=true)/\(∀ x ∈ n.bE,bB x.Name=some true/\x.Node ∈ n.bF/\aW x.c_=true) /\
  (∀ x ∈ n.bW,bB x.Name=some true/\x.Node ∈ n.bF/\DL x=true)/\(names n).Nodup) ?_ (λr Y=>Gd.ret (λh=>by
   obtain ⟨a,b,c,d⟩:=Y h;exact ⟨by omega,by omega,by omega,by omega,by omega,by omega,d,hvn,hvs,hvb,a,b,c⟩))
 unfold gG;refine tS (λx:bH=>x.Name) _ (λx=>bB x.Name=some true/\x.Node ∈ n.bF/\FC x=true) ?_ ?_ _ hs
 ·intro i y s nx pre Z hs hn
  unfold jG;exact Gd.eN (vj (c:=⟨s,n.bF⟩) hs [y.Node] (hz.gn y Z)) (λr Y=>Gd.ite (λh=>Gd.ret (λI=>absurd I (by simpa using h))) (λh=>Gd.ite (λ_=>Gd.ret (λI=>by simp at I)) (λh3=>by
   obtain ⟨J,I⟩:=Y (by simpa using h)
   exact hn J.nw ⟨J.nm,J.at_ _ (by simp),by unfold FC; rw [h3]; rfl⟩ _ I)))
 intro s hs hvg hnd4;refine tS (λx:aH=>x.Name) _ (λx=>bB x.Name=some true/\x.Node ∈ n.bF/\aW x.c_=true) ?_ ?_ _ hs
 ·intro i y s nx pre Z hs hn
  unfold jH;exact Gd.eN (vj (c:=⟨s,n.bF⟩) hs [y.Node] (hz.ld y Z)) (λr Y=>Gd.ite (λh=>Gd.ret (λI=>absurd I (by simpa using h))) (λh=>Gd.ite (λ_=>Gd.ret (λI=>by simp at I)) (λh3=>by
   obtain ⟨J,I⟩:=Y (by simpa using h)
   exact hn J.nw ⟨J.nm,J.at_ _ (by simp),by simpa using h3⟩ _ I)))
 intro s hs hvl hnd5;refine tS (λx:cJ=>x.Name) _ (λx=>bB x.Name=some true/\x.Node ∈ n.bF/\DL x=true) ?_ ?_ _ hs
 ·intro i y s nx pre Z hs hn
  unfold jI;exact Gd.eN (vj (c:=⟨s,n.bF⟩) hs [y.Node] (hz.st y Z)) (λr Y=>Gd.ite (λh=>Gd.ret (λI=>absurd I (by simpa using h))) (λh=>Gd.ite (λ_=>Gd.ret (λI=>by simp at I)) (λh3=>by
   obtain ⟨J,I⟩:=Y (by simpa using h)
   exact hn J.nw ⟨J.nm,J.at_ _ (by simp),by unfold DL; rw [h3]; rfl⟩ _ I)))
 intro s hs hvt hnd6;exact Gd.ret λ_=>⟨hvg,hvl,hvt,hnd6 (hnd5 (hnd4 (hnd3 (hnd2 (hnd1 List.nodup_nil)))))⟩
theorem Jm {A B C:List BA}{x:BA} (h:(A++(B++x::C)).Nodup):x ∉ A++B:=by
 rw [<- Sc,SM] at h;exact λO=>h.2.2 x O x (RR ..) rfl
theorem fresh {P:List BA}{α:Type}{nm:α->BA}{l pre:List α}{y:α} (h:(P++l.map nm).Nodup) (J:∃ I,l=pre++y::I):nm y ∉ P++pre.map nm:=by
 obtain ⟨I,rfl⟩:=J;rw [Tb,TT] at h;exact Jm h
theorem GD (n:Net) (h:pK n):bX n=some 0:=by
 have J:=h.nd;unfold names at J;have n5:=(SM.1 J).1;have n4:=(SM.1 n5).1;have n3:=(SM.1 n4).1;have Z:=(SM.1 n3).1;have n1:=(SM.1 Z).1;have g1:=h.l1; have g2:=h.l2; have g3:=h.l3; have g4:=h.l4; have g5:=h.l5; have g6:=h.l6
 rw [<- Gd.eq];unfold bX;refine Gd.ite (λhl=>?_) (λ_=>?_)
 ·simp only [Tt,Sy] at hl
  omega
 refine vq (id:BA->BA) [] ?_ ?_ _ qh.nil
 ·intro i y s Y pre I hs hn
  have hy:=(xJ I).2.1;have hf:=fresh (P:=[]) (nm:=id) (by simpa using n1) I
  unfold nk;exact Gd.bind_eq (wX (c:=⟨s,n.bF⟩) hs ⟨h.vn y hy,hf,by simp,by simp⟩) (Gd.ite (λh=>by simp at h) (λ_=>hn))
 intro s hs;simp only [List.map_id,Tn] at hs;refine vq (λx:aZ=>x.Name) _ ?_ ?_ _ hs
 ·intro i y s Y pre I hs hn
  obtain ⟨a,b,c,d⟩:=h.vs y (xJ I).2.1;unfold np;exact Gd.bind_eq (wX (c:=⟨s,n.bF⟩) hs ⟨a,fresh Z I,by simp [b,c],λp q e=>by simp at e; rw [<- e.1,<- e.2]; exact d⟩) (Gd.ite (λh=>by simp at h) (λ_=>hn))
 intro s hs;refine vq (λx:aQ=>x.Name) _ ?_ ?_ _ hs
 ·intro i y s Y pre I hs hn
  obtain ⟨a,b,c,d,e⟩:=h.vb y (xJ I).2.1;unfold nq;exact Gd.bind_eq (wX (c:=⟨s,n.bF⟩) hs ⟨a,fresh n3 I,by simp [b,c],λp q e=>by simp at e; rw [<- e.1,<- e.2]; exact d⟩) (Gd.ite (λh=>by simp at h) (λ_=>Gd.ite (λh=>by simp [e] at h) (λ_=>hn)))
 intro s hs;refine Gd.eN (P:=λr=>r.1=0) ?_ (λr hr=>Gd.ret hr);unfold gG;refine vq (λx:bH=>x.Name) _ ?_ ?_ _ hs
 ·intro i y s Y pre I hs hn
  obtain ⟨a,b,c⟩:=h.vg y (xJ I).2.1;unfold FC at c;unfold jG;exact Gd.bind_eq (wX (c:=⟨s,n.bF⟩) hs ⟨a,fresh n4 I,by simp [b],by simp⟩) (Gd.ite (λh=>by simp at h) (λ_=>Gd.ite (λh=>by rw [h] at c; cases c) (λ_=>hn)))
 intro s hs;refine vq (λx:aH=>x.Name) _ ?_ ?_ _ hs
 ·intro i y s Y pre I hs hn
  obtain ⟨a,b,c⟩:=h.vl y (xJ I).2.1;unfold jH;exact Gd.bind_eq (wX (c:=⟨s,n.bF⟩) hs ⟨a,fresh n5 I,by simp [b],by simp⟩) (Gd.ite (λh=>by simp at h) (λ_=>Gd.ite (λh=>by simp [c] at h) (λ_=>hn)))
 intro s hs;refine vq (λx:cJ=>x.Name) _ ?_ ?_ _ hs
 ·intro i y s Y pre I hs hn
  obtain ⟨a,b,c⟩:=h.vt y (xJ I).2.1;unfold DL at c;unfold jI;exact Gd.bind_eq (wX (c:=⟨s,n.bF⟩) hs ⟨a,fresh J I,by simp [b],by simp⟩) (Gd.ite (λh=>by simp at h) (λ_=>Gd.ite (λh=>by rw [h] at c; cases c) (λ_=>hn)))
 intro s hs;exact Gd.ret rfl
def Ml (n:Net) (q:Nat):Net:={ n with aJ:=n.aJ.take q++n.aJ.drop (q+1) }
theorem HO {α:Type} (l:List α) (q:Nat):(l.take q++l.drop (q+1)).Sublist l:=by
 have I:(l.drop (q+1)).Sublist (l.drop q):=by rw [<- TA]; exact List.drop_sublist _ _
 have:=(T4 (l.take q)).append I
 rwa [Te] at this
theorem pK.cut {n:Net} (h:pK n) (q:Nat):pK (Ml n q):=by
 have hs:=HO n.aJ q;have I:(names (Ml n q)).Sublist (names n):=by
  unfold names Ml;exact ((((T4 _).append (hs.map _)).append (T4 _)).append (T4 _)).append (T4 _)
 exact ⟨h.l1,h.l2,SK hs.length_le h.l3,h.l4,h.l5,h.l6,I.nodup h.nd,h.vn,h.vs,λx J=>h.vb x (hs.subset J),h.vg,h.vl,h.vt⟩
theorem pK.ok {n:Net} (h:pK n) (J:qL n):pZ n:=by
 obtain ⟨e,he,I⟩:=Kj n J;rw [GD n h] at he;exact I (RQ he).symm
theorem qL.cut {n:Net} (h:qL n) (q:Nat):qL (Ml n q):=
 ⟨h.nd,h.sw,λx I=>h.br x ((HO n.aJ q).subset I),h.gn,h.ld,h.st⟩
abbrev Ed:=bY
def lb (o:List Int) (u:Int):Int:=if 0<=u then (o[u.toNat]?).getD (-1) else -1
theorem K0 {o:List Int}{u:Int} (h:0<=lb o u):0<=u/\u<o.length:=by
 unfold lb at h
 split at h
 ·rename_i h0
  refine ⟨h0,?_⟩
  by_cases e:u.toNat<o.length
  ·omega
  ·rw [SQ (by omega)] at h; simp at h
 ·omega
theorem Cn {o:List Int}{k:Nat} (h:k<o.length):lb o (k:Int)=o[k]:=by
 unfold lb; rw [RU (by omega),RN,RK h]; rfl
theorem KZ {o:List Int}{u:Int} (I:0<=u) (h:u.toNat<o.length):lb o u=o[u.toNat]:=by
 unfold lb; rw [RU I,RK h]; rfl
theorem yt {o:List Int}{q:Int} (J:0<=q) (h:q.toNat<o.length) (m u:Int):lb (o.set q.toNat m) u=if u=q then m else lb o u:=by
 unfold lb
 by_cases e:u=q
 ·subst e
  rw [RU J,RU rfl,Sp h]; rfl
 ·rw [RS e]
  by_cases I:0<=u
  ·rw [RU I,RU I,Sh (by omega)]
  ·rw [RS I,RS I]
def L3 (l:List Ed) (u v:Int):Prop:=∃ e ∈ l,(e.a0=u/\e.a1=v)\/(e.a1=u/\e.a0=v)
theorem L3.symm {l:List Ed}{u v:Int} (h:L3 l u v):L3 l v u:=by
 obtain ⟨e,he,h | h⟩:=h
 ·exact ⟨e,he,.inr ⟨h.2,h.1⟩⟩
 ·exact ⟨e,he,.inl ⟨h.2,h.1⟩⟩
inductive yf (l:List Ed) (u:Int):Int->Prop
 | refl:yf l u u
 | snoc {v w:Int}:yf l u v->L3 l v w->yf l u w
theorem yf.trans {l:List Ed}{u v w:Int} (I:yf l u v) (J:yf l v w):yf l u w:=by
 induction J with
 | refl=>exact I
 | snoc _ h ih=>exact .snoc ih h
theorem yf.symm {l:List Ed}{u v:Int} (h:yf l u v):yf l v u:=by
 induction h with
 | refl=>exact .refl
 | snoc _ h ih=>exact (yf.snoc .refl h.symm).trans ih
structure P9 (N:Nat) (l:List Ed) (many:Int) (out:List Int):Prop where
 pt:zL N many out
 cls:∀ u v,L3 l u v->0<=lb out u->lb out v=lb out u
 QP:∀ u v,0<=lb out u->lb out u=lb out v->yf l u v
 Qt:∀ c,0<=c->c<many->∃ u,lb out u=c
theorem zL.lt {N:Nat}{many:Int}{out:List Int} (h:zL N many out) (O:0<=many) (u:Int):-1<=lb out u/\lb out u<many:=by
 by_cases I:0<=lb out u
 ·obtain ⟨a,b⟩:=K0 I
  have:u.toNat<out.length:=by omega
  rw [KZ a this];exact h.L5 _ (Sk _)
 ·refine ⟨?_,by omega⟩
  unfold lb
  split
  ·by_cases e:u.toNat<out.length
   ·rw [RK e]
    exact (h.L5 _ (Sk e)).1
   ·rw [SQ (by omega)]; simp
  ·omega
structure C3 (N:Nat) (l:List Ed) (m:Int) (i:Int) (out o:List Int):Prop where
 pt:zL N (m+1) o
 vX:∀ u,0<=lb out u->lb o u=lb out u
 new:∀ u,lb out u<0->0<=lb o u->lb o u=m/\yf l i u
 st:lb o i=m
theorem C3.put {N:Nat}{l:List Ed}{m i:Int}{out o:List Int} (h:C3 N l m i out o) (hc:P9 N l m out) (h0:0<=m) {a q:Int} (ha:lb o a=m) (J:L3 l a q) (Z:0<=q) (qN:q<N) (hq:lb o q<0):C3 N l m i out (o.set q.toNat m):=by
 have I:q.toNat<o.length:=by rw [h.pt.len]; omega
 have ca:yf l i a:=by
  by_cases e:0<=lb out a
  ·have h1:=h.vX a e
   have h2:=(hc.pt.lt h0 a).2;omega
  ·exact (h.new a (by omega) (by omega)).2
 refine ⟨h.pt.set ⟨h0,by omega⟩ _,λu Y=>?_,λu Y hn=>?_,?_⟩
 ·rw [yt Z I]
  have h1:=h.vX u Y;rw [RS (λe=>by subst e; omega)]
  exact h1
 ·rw [yt Z I] at hn ⊢
  by_cases e:u=q
  ·subst e
   rw [RU rfl];exact ⟨rfl,ca.snoc J⟩
  ·rw [RS e] at hn ⊢
   exact h.new u Y hn
 ·rw [yt Z I]
  split
  ·rfl
  ·exact h.st
theorem C3.mono {N:Nat}{m:Int}{o:List Int} (hl:o.length=N) (I:0<=m) {q:Int} (Y:0<=q) (Z:q<N) {u:Int} (J:0<=lb o u):0<=lb (o.set q.toNat m) u:=by
 rw [yt Y (by omega)]
 split
 ·exact I
 ·exact J
theorem C3.done {N:Nat}{l:List Ed}{m i:Int}{out o:List Int} (h:C3 N l m i out o) (J:P9 N l m out) (h0:0<=m) (hp:∀ u,lb o u=m->∀ v,L3 l u v->0<=lb o v):P9 N l (m+1) o:=by
 refine ⟨h.pt,λu v I Z=>?_,λu v Z I=>?_,λc c0 c1=>?_⟩
 ·by_cases e:0<=lb out u
  ·have h1:=h.vX u e
   have Y:=J.cls u v I e;have h3:=h.vX v (by omega)
   omega
  ·obtain ⟨h1,_⟩:=h.new u (by omega) Z
   have Y:=hp u h1 v I
   by_cases e2:0<=lb out v
   ·have:=J.cls v u I.symm e2
    omega
   ·have:=(h.new v (by omega) Y).1
    omega
 ·by_cases e:0<=lb out u
  ·have h1:=h.vX u e
   have Y:=(J.pt.lt h0 u).2
   by_cases e2:0<=lb out v
   ·exact J.QP u v e (by have:=h.vX v e2; omega)
   ·have:=(h.new v (by omega) (by omega)).1
    omega
  ·obtain ⟨h1,Y⟩:=h.new u (by omega) Z
   by_cases e2:0<=lb out v
   ·have h3:=h.vX v e2
    have h4:=(J.pt.lt h0 v).2;omega
   ·exact Y.symm.trans (h.new v (by omega) (by omega)).2
 ·by_cases e:c<m
  ·obtain ⟨u,Z⟩:=J.Qt c c0 e
   exact ⟨u,by rw [h.vX u (by omega)]; exact Z⟩
  ·exact ⟨i,by rw [h.st]; omega⟩
structure IB (N:Nat) (l:List Ed) (r:List Int) (many:Nat):Prop where
 len:r.length=N
 all:∀ u:Int,0<=u->u<N->0<=lb r u/\lb r u<many
 mN:many<=N
 iff:∀ u v:Int,0<=u->u<N->0<=v->v<N->(lb r u=lb r v↔yf l u v)
 Qt:∀ c:Int,0<=c->c<many->∃ u:Int,0<=u/\u<N/\lb r u=c
theorem G_ (N:Nat) (hN:N<=24) (l:List Ed) (hl:E3 N l) (hll:l.length<=64):Gd (pF N l (-1)) (λr=>∃ many:Nat,IB N l r many):=by
 unfold pF;refine Gd.nd ⟨rfl,by omega,by omega⟩ (Gd.nd (by omega) ?_)
 rw [yE];have hrep:∀ u,lb (List.replicate N (-1)) u = -1:=λu=>by
  unfold lb
  split
  ·by_cases e:u.toNat<N
   ·rw [RK (by simpa using e)]; simp
   ·rw [SQ (by simpa using e)]; rfl
  ·rfl
 refine Gd.kz (λm i (s:List Int×Int)=>i+m=N/\0<=s.2/\s.2<=(i:Int)/\P9 N l s.2 s.1/\∀ j:Nat,j<i->0<=lb s.1 (j:Int)) ?_ ?_ (N:Int).toNat 0 (List.replicate N (-1),0)
  ⟨by omega,by simp,by simp,⟨⟨by simp,by simp⟩,λu v _ h=>by rw [hrep] at h; omega,λu v h _=>by rw [hrep] at h; omega,λc h1 h2=>by omega⟩,by simp⟩
 ·rintro m i ⟨out,many⟩ nx ⟨hi,h0,hmi,hc,hk⟩ hn
  simp only at h0 hmi hc hk;have hilt:i<out.length:=by rw [hc.pt.len]; omega
  have hwm:i64.wrap (many+1)=many+1:=bG ⟨by omega,by omega⟩
  unfold q8;refine Gd.gA hilt (Gd.ite (λh=>?_) (λh=>?_))
  ·have hge:0<=out[i]:=by simpa using h
   unfold jW;refine hn _ ⟨by omega,h0,by show many<=((i+1:Nat):Int); omega,hc,λj hj=>?_⟩
   by_cases e:j=i
   ·subst e; simp only; rw [Cn hilt]; exact hge
   ·exact hk j (by omega)
  ·have hneg:out[i]<0:=by simpa using h
   refine Gd.gA hilt ?_;rw [RN];have hnegl:lb out (i:Int)<0:=by rw [Cn hilt]; exact hneg
   have hset:∀ u,lb (out.set i many) u=if u=(i:Int) then many else lb out u:=λu=>by
    have:=yt (o:=out) (q:=(i:Int)) (by omega) (by simpa using hilt) many u
    rwa [RN] at this
   have hp1:zL N (many+1) out:=⟨hc.pt.len,λv hv=>by have:=hc.pt.L5 v hv; omega⟩
   have hbase:2*sS (out.set i many)+[(i:Int)].length<=2*N+1:=by
    have hcn:sS (out.set i many)<=N:=by unfold sS; rw [<- hc.pt.len,<- SO (as:=out) (i:=i) (a:=many)]; exact Uq
    simp only [SR]; omega
   have hf0:C3 N l many (i:Int) out (out.set i many):=by
    refine ⟨hp1.set ⟨h0,by omega⟩ i,λu Y=>?_,λu Y hn2=>?_,by rw [hset,RU rfl]⟩
    ·rw [hset,RS (λe=>by subst e; omega)]
    ·rw [hset] at hn2 ⊢
     by_cases e:u=(i:Int)
     ·subst e; rw [RU rfl]; exact ⟨rfl,.refl⟩
     ·rw [RS e] at hn2; omega
   refine Gd.fG (λ(s:List Int×List Int)=>C3 N l many (i:Int) out s.1/\(∀ a ∈ s.2,lb s.1 a=many)/\(∀ u,lb s.1 u=many->u ∉ s.2->∀ v,L3 l u v->0<=lb s.1 v)/\2*sS s.1+s.2.length<=2*N+1)
    (λs=>2*sS s.1+s.2.length) ?_ eI _ ⟨hf0,λa ha=>?_,λu Y Z=>?_,hbase⟩ ?_
   ·rintro ⟨o,todo⟩ nx2 ⟨hf,htd,hpr,htot⟩ hn2
    simp only at hf htd hpr htot;have hol:=hf.pt.len;unfold q9;refine Gd.ite (λhne=>?_) (λhze=>?_)
    ·obtain ⟨at_,ts,rfl⟩:∃ a ts,todo=a::ts:=by
      cases todo with
      | nil=>simp at hne
      | cons a ts=>exact ⟨a,ts,rfl⟩
     simp only [RW] at htot;refine Gd.ix (y:=at_) (by decide) rfl (Gd.nd ⟨by omega,by simp only [RW]; omega⟩ ?_)
     have hat:=htd at_ (RR ..);obtain ⟨at0,atN⟩:=K0 (by omega:0<=lb o at_)
     have hsl:tG (at_::ts) (1:Int).toNat (at_::ts).length=ts:=by
      unfold tG;rw [show (1:Int).toNat=1 from rfl,Wq,S8,R3 (by simp)]
     rw [hsl]
     let J:List Ed->List Int×List Int->Prop:=λpre s=>C3 N l many (i:Int) out s.1/\(∀ a ∈ s.2,lb s.1 a=many)/\lb s.1 at_=many/\(∀ u,lb s.1 u=many->u ∉ s.2->u≠at_->∀ v,L3 l u v->0<=lb s.1 v) /\
      (∀ e ∈ pre,(e.a0=at_->0<=lb s.1 e.a1)/\(e.a1=at_->0<=lb s.1 e.a0))/\2*sS s.1+s.2.length<=2*sS o+ts.length
     have push:∀ (pre:List Ed) (e:Ed) (b td:List Int) (q:Int) (nn:List Int×List Int->Option (List Int)),e ∈ l->J pre (b,td)->L3 l at_ q->0<=q->q<N->((e.a0=at_/\e.a1=q)\/(e.a1=at_/\e.a0=q)) ->
       (∀ s',J (pre++[e]) s'->Gd (nn s') (λr=>∃ many:Nat,IB N l r many)) ->
       Gd (Sim.idx b q λy7689=>if decide (y7689<0) then (Sim.idx b q λy7694=>cE ((td.length+([q]).length)*8<=140737488355328) (eG nn (b.set (q:Int).toNat many) (td++([q])))) else (eG nn b td)) (λr=>∃ many:Nat,IB N l r many):=by
      intro pre e b td q nn hel ⟨j1,j2,j3,j4,j5,j6⟩ hadj q0 qN hends hnn;simp only at j1 j2 j3 j4 j5 j6;have hbl:=j1.pt.len;have hql:q.toNat<b.length:=by omega
      have hget:b[q.toNat]? = some b[q.toNat]:=RK hql;have hlq:lb b q=b[q.toNat]:=KZ q0 hql;have hno:sS o<=N:=by unfold sS; rw [<- hol]; exact Uq
      unfold eG;refine Gd.ix q0 hget (Gd.ite (λh=>Gd.ix q0 hget (Gd.nd ?_ (hnn _ ?_))) (λh=>hnn _ ⟨j1,j2,j3,j4,λd I=>?_,j6⟩))
      ·simp; omega
      ·have h1:b[q.toNat]<0:=by simpa using h
       have hlt:lb b q<0:=by omega
       have up:∀ {u:Int},0<=lb b u->0<=lb (b.set q.toNat many) u:=λ{u} Y=>C3.mono hbl h0 q0 qN Y;have hqs:lb (b.set q.toNat many) q=many:=by rw [yt q0 hql,RU rfl]
       have same:∀ {u:Int},lb b u=many->lb (b.set q.toNat many) u=many:=λ{u} Y=>by
        rw [yt q0 hql]; split
        ·rfl
        ·exact Y
       refine ⟨j1.put hc h0 j3 hadj q0 qN hlt,λa ha=>?_,same j3,λu Y Z hua v hv=>?_,λd I=>?_,?_⟩
       ·rcases RZ.1 ha with ha | ha
        ·exact same (j2 a ha)
        ·simp at ha; subst ha; exact hqs
       ·simp only at Y Z
        by_cases e2:u=q
        ·subst e2
         exact absurd (SV _ (List.mem_singleton_self _)) Z
        ·rw [yt q0 hql,RS e2] at Y
         exact up (j4 u Y (λO=>Z (RO _ O)) hua v hv)
       ·rcases RZ.1 I with I | I
        ·obtain ⟨x1,x2⟩:=j5 d I
         exact ⟨λhh=>up (x1 hh),λhh=>up (x2 hh)⟩
        ·simp at I; subst I
         have hat2:0<=lb (b.set q.toNat many) at_:=up (by omega)
         have hq2:0<=lb (b.set q.toNat many) q:=by omega
         rcases hends with ⟨x1,x2⟩ | ⟨x1,x2⟩
         ·exact ⟨λ_=>by rw [x2]; exact hq2,λ_=>by rw [x1]; exact hat2⟩
         ·exact ⟨λ_=>by rw [x1]; exact hat2,λ_=>by rw [x2]; exact hq2⟩
       ·have:=FT hql h1 h0
        simp only [R5,SR];omega
      ·have h1:0<=b[q.toNat]:=by simpa using h
       rcases RZ.1 I with I | I
       ·exact j5 d I
       ·simp at I; subst I
        rcases hends with ⟨x1,x2⟩ | ⟨x1,x2⟩
        ·exact ⟨λ_=>by rw [x2]; simp only; omega,λ_=>by rw [x1]; simp only; omega⟩
        ·exact ⟨λ_=>by rw [x1]; simp only; omega,λ_=>by rw [x2]; simp only; omega⟩
     refine Gd.seen J ?_ ?_ _ ⟨hf,λa ha=>htd a (RV _ ha),hat,λu Y Z hua v hv=>hpr u Y (λO=>(SA.1 O).elim hua Z) v hv,by simp,R9 (2*sS o+ts.length)⟩
     ·rintro k e ⟨b,td⟩ nn pre hpre hJ hnn
      obtain ⟨_,hel,_⟩:=xJ hpre;obtain ⟨e1,e2,e3,e4⟩:=hl e hel;have hw1:i64.wrap (e.a0+e.a1)=e.a0+e.a1:=bG ⟨by omega,by omega⟩
      have hw2:i64.wrap (e.a0+e.a1-at_)=e.a0+e.a1-at_:=bG ⟨by omega,by omega⟩
      unfold q_;rw [hw1,hw2];refine Gd.ite (λh=>by simp at h) (λ_=>Gd.ite (λh=>?_) (λh=>Gd.ite (λh2=>?_) (λh2=>?_)))
      ·have h:e.a0=at_:=by simpa using h
       have hq:e.a0+e.a1-at_=e.a1:=by omega
       rw [hq];exact push pre e b td _ nn hel hJ ⟨e,hel,.inl ⟨h,rfl⟩⟩ e3 e4 (.inl ⟨h,rfl⟩) hnn
      ·have h1:e.a0≠at_:=by simpa using h
       have h2:e.a1≠at_:=by simpa using h2
       obtain ⟨j1,j2,j3,j4,j5,j6⟩:=hJ;refine hnn _ ⟨j1,j2,j3,j4,λd I=>?_,j6⟩;rcases RZ.1 I with I | I
       ·exact j5 d I
       ·simp at I; subst I
        exact ⟨λhh=>absurd hh h1,λhh=>absurd hh h2⟩
      ·have h2:e.a1=at_:=by simpa using h2
       have hq:e.a0+e.a1-at_=e.a0:=by omega
       rw [hq];exact push pre e b td _ nn hel hJ ⟨e,hel,.inr ⟨h2,rfl⟩⟩ e1 e2 (.inr ⟨h2,rfl⟩) hnn
     ·rintro ⟨b,td⟩ ⟨j1,j2,j3,j4,j5,j6⟩
      simp only at j1 j2 j3 j4 j5 j6;refine hn2 _ ⟨j1,j2,λu Y Z v hv=>?_,by show 2*sS b+td.length<=2*N+1; omega⟩ (by simp only [RW]; omega)
      by_cases e:u=at_
      ·subst e
       obtain ⟨d,I,hh | hh⟩:=hv
       ·have:=(j5 d I).1 hh.1
        rw [hh.2] at this; exact this
       ·have:=(j5 d I).2 hh.1
        rw [hh.2] at this; exact this
      ·exact j4 u Y Z e v hv
    ·have htn:todo=[]:=by
      cases todo with
      | nil=>rfl
      | cons a ts=>simp at hze
     subst htn;unfold jW;rw [hwm];refine hn _ ⟨by omega,by show (0:Int)<=many+1; omega,by show many+1<=((i+1:Nat):Int); omega,hf.done hc h0 (λu Y v hv=>hpr u Y (by simp) v hv),λj hj=>?_⟩
     by_cases e:j=i
     ·subst e; show 0<=lb o (j:Int); rw [hf.st]; exact h0
     ·have h1:=hk j (by omega)
      show 0<=lb o (j:Int);rw [hf.vX _ h1]; exact h1
   ·simp only [R_] at ha
    subst ha;exact hf0.st
   ·exfalso
    rw [hset] at Y
    by_cases e:u=(i:Int)
    ·subst e; simp at Z
    ·rw [RS e] at Y
     have:=(hc.pt.lt h0 u).2;omega
   ·refine UH hbase ?_
    unfold eI; omega
 ·rintro i ⟨out,many⟩ ⟨hi,h0,hmi,hc,hk⟩
  simp only at h0 hmi hc hk;have hge:∀ u:Int,0<=u->u<N->0<=lb out u:=λu u0 uN=>by
   have:=hk u.toNat (by omega)
   rwa [show ((u.toNat:Nat):Int)=u by omega] at this
  refine Gd.ret ⟨many.toNat,hc.pt.len,λu u0 uN=>⟨hge u u0 uN,by have h1:=hge u u0 uN; have h2:=(hc.pt.lt h0 u).2; show lb out u<((many.toNat:Nat):Int); omega⟩,by omega,λu v u0 uN v0 vN=>⟨λe=>hc.QP u v (hge u u0 uN) e,λe=>?_⟩,λc c0 c1=>?_⟩
  ·clear vN v0
   induction e with
   | refl=>rfl
   | snoc _ h ih=>
    rename_i p q _
    have ih:lb out u=lb out p:=ih;have hp:0<=lb out p:=by have:=hge u u0 uN; omega
    show lb out u=lb out q;rw [ih];exact (hc.cls p q h hp).symm
  ·obtain ⟨u,Y⟩:=hc.Qt c c0 (by omega)
   obtain ⟨a,b⟩:=K0 (by omega:0<=lb out u)
   exact ⟨u,a,by have:=hc.pt.len; omega,Y⟩
theorem GG (N:Nat) (hN:N<=24) (l:List Ed) (hl:E3 N l) (I:l.length<=64):Gd (jE N l) (λr=>r.2=0/\∃ many:Nat,IB N l r.1 many):=by
 unfold jE;refine Gd.bind_eq (Dw N hN l hl I) (Gd.ite (λh=>by simp at h) (λ_=>Gd.eN (G_ N hN l hl I) (λr J=>Gd.ret ⟨rfl,J⟩)))
theorem MK (N:Nat) (hN:N<=24) (l:List Int) (hl:Bj N l):∃ m:Nat,m<=N/\Bj m l/\(∀ c:Nat,Bj c l->m<=c) /\
  ∀ {R:Type} (I:Nat->Int->Int->(Int->Option R)->Option R) (hb:∀ k y n nx,I k y n nx=nx (max n (i64.wrap (y+1)))) (K:Int->Option R),dE I K 0 l 0=K (m:Int):=by
 have key:∀ (ys pre:List Int) (m:Nat),l=pre++ys->m<=N->Bj m pre->(∀ c:Nat,Bj c pre->m<=c)->∃ Z:Nat,Z<=N/\Bj Z l/\(∀ c:Nat,Bj c l->Z<=c) /\
   ∀ {R:Type} (I:Nat->Int->Int->(Int->Option R)->Option R) (hb:∀ k y n nx,I k y n nx=nx (max n (i64.wrap (y+1)))) (K:Int->Option R) (i:Nat),dE I K i ys (m:Int)=K (Z:Int):=by
  intro ys
  induction ys with
  | nil=>
   intro pre m e O hp J;rw [Ss] at e; subst e
   exact ⟨m,O,hp,J,λ_ _ _ _=>rfl⟩
  | cons y ys ih=>
   intro pre m e O hp J;have hy:=hl y (by rw [e]; exact SV _ (RR ..))
   have hw:i64.wrap (y+1)=y+1:=bG ⟨by omega,by omega⟩
   have hmx:max (m:Int) (y+1)=((max m (y+1).toNat:Nat):Int):=by omega
   obtain ⟨Z,h1,h2,h3,h4⟩:=ih (pre++[y]) (max m (y+1).toNat) (by rw [e]; simp) (by omega) (λa Y=>by
    rcases RZ.1 Y with Y | Y
    ·have:=hp a Y; omega
    ·simp at Y; subst Y; omega) (λc hc=>by
     have c1:=J c (λa Y=>hc a (RO _ Y));have c2:=hc y (SV _ (List.mem_singleton_self _));omega)
   refine ⟨Z,h1,h2,h3,λ{R} I hb K i=>?_⟩;show I i y (m:Int) (λs=>dE I K (i+1) ys s)=_;rw [hb,hw,hmx];exact h4 I hb K (i+1)
 obtain ⟨Z,h1,h2,h3,h4⟩:=key l [] 0 rfl (by omega) (by intro a Y; simp at Y) (λc _=>by omega)
 exact ⟨Z,h1,h2,h3,λ{R} I hb K=>h4 I hb K 0⟩
def pos (n:Net) (s:BA):Nat:=((bD n.bF s).getD 0).toNat
theorem VR {n:Net}{s:BA} (h:s ∈ n.bF):bD n.bF s=some (pos n s:Int)/\pos n s<n.bF.length:=by
 obtain ⟨k,I,hl,_⟩:=zD h;unfold pos;rw [I];exact ⟨rfl,hl⟩
def Kb (n:Net) (I:List Int) (b:aQ):Ed:=⟨I.getD (pos n b.qe) 0,I.getD (pos n b.To) 0⟩
theorem Kc {n:Net} (hn:pZ n) {I:List Int}{m:Nat} (hbl:I.length=n.bF.length) (O:Bj m I):E3 m (n.aJ.map (Kb n I)):=λe he=>by
 obtain ⟨b,hb,rfl⟩:=SC.1 he;obtain ⟨Y,Z⟩:=hn.br b hb;have p1:=(VR Y).2;have p2:=(VR Z).2;have q:∀ k,k<I.length->0<=I.getD k 0/\I.getD k 0<m:=λk J=>by
  rw [Su,RK J];exact O _ (Sk J)
 exact ⟨(q _ (by omega)).1,(q _ (by omega)).2,(q _ (by omega)).1,(q _ (by omega)).2⟩
theorem Ms {n:Net} (hn:pZ n) {I:List Int} (Z:oO n=some I) (hbl:I.length=n.bF.length) {m:Nat} (hm24:m<=24) (O:Bj m I)
  (Y:∀ {R:Type} (J:Nat->Int->Int->(Int->Option R)->Option R) (hb:∀ k y n nx,J k y n nx=nx (max n (i64.wrap (y+1)))) (K:Int->Option R),dE J K 0 I 0=K (m:Int)):
  Gd (eA n) (λt=>t.qJ=I/\∃ c:Nat,IB m (n.aJ.map (Kb n I)) t.bO c):=by
 have l3:=hn.l3;unfold eA;refine Gd.bind_eq Z ?_;rw [Y _ (λk y n nx=>by unfold tC; rfl)]
 refine Gd.seen (λpre out=>out=pre.map (Kb n I)) ?_ ?_ _ rfl
 ·rintro i y out nn pre hpre rfl hnx
  obtain ⟨hpl,hyl,_⟩:=xJ hpre;obtain ⟨h1,h2⟩:=hn.br y hyl;obtain ⟨p1,p2⟩:=VR h1;obtain ⟨q1,q2⟩:=VR h2;have g:∀ k (hk:k<I.length),I[k]=I.getD k 0:=λk hk=>by
   rw [Su,RK hk]; rfl
  unfold tD;refine Gd.bind_eq p1 (Gd.gA (by omega) (Gd.bind_eq q1 (Gd.gA (by omega) (Gd.nd ?_ (hnx _ ?_)))))
  ·simp only [TL,SR]; omega
  ·rw [Tb,g _ (by omega),g _ (by omega)]; rfl
 ·rintro out rfl
  exact Gd.eN (GG m hm24 _ (Kc hn hbl O) (by simp; omega)) (λr ⟨_,hr⟩=>Gd.ret ⟨rfl,hr⟩)
section
variable {ν:Type}
def KU (l:List (Int×ν)) (k:Int):Option ν:=(l.find? (λp=>p.1=k)).map (·.2)
theorem G4 (l:List (Int×ν)) (k:Int):sf l k=KU l k:=by
 unfold sf KU;have:∀ (l:List (Int×ν)) (i:Nat),(xn l k i).map (·.2)=(l.find? (λp=>p.1=k)).map (·.2):=by
  intro l
  induction l with
  | nil=>intro i; rfl
  | cons p l ih=>
   obtain ⟨a,v⟩:=p;intro i;simp only [xn,List.find?_cons]
   by_cases e:a=k
   ·simp [e]
   ·simp only [e,T5,Wh]; exact ih (i+1)
 exact this l 0
theorem K5 {l:List (Int×ν)}{k:Int}:∀ {i j:Nat}{v:ν},xn l k i=some (j,v)->∃ q,j=i+q/\l[q]? = some (k,v):=by
 induction l with
 | nil=>intro i j v h; simp [xn] at h
 | cons p l ih=>
  obtain ⟨a,u⟩:=p;intro i j v h;simp only [xn] at h
  split at h
  ·rename_i e
   simp only [Sa,Ue] at h;obtain ⟨rfl,rfl⟩:=h;exact ⟨0,rfl,by rw [e]; rfl⟩
  ·obtain ⟨q,rfl,I⟩:=ih h
   exact ⟨q+1,by omega,I⟩
theorem K4 {l:List (Int×ν)}{k:Int}:∀ {i:Nat},xn l k i=none->∀ p ∈ l,p.1≠k:=by
 induction l with
 | nil=>intro i _ p J; cases J
 | cons p l ih=>
  obtain ⟨a,u⟩:=p;intro i h;simp only [xn] at h
  split at h
  ·cases h
  ·rename_i e
   intro q I;rcases SA.1 I with rfl | I
   ·exact e
   ·exact ih h q I
def EY (l:List (Int×ν)):Prop:=(l.map (·.1)).Nodup
theorem EY.find {l:List (Int×ν)} (h:EY l) {k:Int}{v:ν}:sf l k=some v↔(k,v) ∈ l:=by
 rw [G4];unfold KU EY at *
 induction l with
 | nil=>simp
 | cons p l ih=>
  obtain ⟨a,u⟩:=p;simp only [TT,Va] at h;rw [List.find?_cons]
  by_cases e:a=k
  ·subst e
   simp only [decide_true,Td,Sa,SA,Ue,true_and];constructor
   ·intro I; exact .inl I.symm
   ·rintro (I | I)
    ·exact I.symm
    ·exact absurd (SC.2 ⟨_,I,rfl⟩) h.1
  ·simp only [e,Wh,SA,Ue]
   rw [ih h.2];constructor
   ·exact λI=>.inr I
   ·rintro (⟨I,_⟩ | I)
    ·exact absurd I.symm e
    ·exact I
theorem EY.put {l:List (Int×ν)} (h:EY l) (k:Int) (v:ν):EY (wh l k v)/\∀ p,p ∈ wh l k v↔p=(k,v)\/(p ∈ l/\p.1≠k):=by
 unfold wh;cases O:xn l k 0 with
 | none=>
  have hno:=K4 O;refine ⟨?_,λp=>?_⟩
  ·show ((l++[(k,v)]).map (·.1)).Nodup
   rw [Tb,SM];refine ⟨h,by simp,?_⟩
   intro a Z b hb;obtain ⟨p,hp,rfl⟩:=SC.1 Z;simp at hb;subst hb;exact hno p hp
  ·simp only [RZ,R_]
   constructor
   ·rintro (Y | Y)
    ·exact .inr ⟨Y,hno p Y⟩
    ·exact .inl Y
   ·rintro (Y | ⟨Y,_⟩)
    ·exact .inr Y
    ·exact .inl Y
 | some q=>
  obtain ⟨j,u⟩:=q;obtain ⟨i,rfl,hi⟩:=K5 O;obtain ⟨hil,hie⟩:=RP.1 hi;simp only [Se];have hmap:(l.set i (k,v)).map (·.1)=l.map (·.1):=by
   rw [List.map_set];apply CT;rw [Sq,hi]; rfl
  refine ⟨by unfold EY; rw [hmap]; exact h,λp=>?_⟩
  have huniq:∀ (a:Nat) (x:Int×ν),l[a]? = some x->x.1=k->a=i:=λa x Z hx=>by
   obtain ⟨J,I⟩:=RP.1 Z;unfold EY at h;rw [List.nodup_iff_pairwise_ne,Ut] at h;rcases UO a i with hlt | heq | hgt
   ·exact (h a i (by simpa using J) (by simpa using hil) hlt (by rw [TZ,TZ,I,hie,hx])).elim
   ·exact heq
   ·exact (h i a (by simpa using hil) (by simpa using J) hgt (by rw [TZ,TZ,I,hie,hx])).elim
  constructor
  ·intro hp
   obtain ⟨a,Z,I⟩:=S3.1 hp;rw [WY] at I
   split at I
   ·exact .inl I.symm
   ·rename_i hne
    have J:a<l.length:=by simpa using Z
    refine .inr ⟨by rw [<- I]; exact Sk J,λhk=>?_⟩
    exact hne (huniq a p (by rw [RK J,I]) hk).symm
  ·rintro (rfl | ⟨hp,hk⟩)
   ·exact S3.2 ⟨i,by simpa using hil,by simp⟩
   ·obtain ⟨a,Z,I⟩:=S3.1 hp
    have hne:i≠a:=λe=>by
     subst e;rw [hie] at I;exact hk (by rw [<- I])
    exact S3.2 ⟨a,by simpa using Z,by rw [List.getElem_set_ne hne]; exact I⟩
theorem EY.HU {l:List (Int×ν)} (h:EY l) (k I:Int) (v:ν):sf (wh l k v) I=if I=k then some v else sf l I:=by
 obtain ⟨J,Y⟩:=h.put k v
 split
 ·rename_i e
  rw [J.find,Y]; exact .inl (by rw [e])
 ·rename_i e
  cases hg:sf l I with
  | some u=>
   rw [J.find,Y];exact .inr ⟨h.find.1 hg,e⟩
  | none=>
   cases hg2:sf (wh l k v) I with
   | none=>rfl
   | some u=>
    rcases (Y _).1 (J.find.1 hg2) with Z | ⟨Z,_⟩
    ·exact absurd (Prod.mk.inj Z).1 e
    ·rw [h.find.2 Z] at hg; cases hg
theorem EY.nil:EY ([]:List (Int×ν)):=by unfold EY; simp
end
structure v_ (n:Net) (t:aY):Prop where
 bl:t.qJ.length=n.bF.length
 L4:t.bO.length<=24
 bi:Bj t.bO.length t.qJ
 comp:∃ c:Nat,IB t.bO.length (n.aJ.map (Kb n t.qJ)) t.bO c
theorem Nn {n:Net} (hn:pZ n):∃ t,eA n=some t/\v_ n t:=by
 have g1:=hn.l1;obtain ⟨bus,hbus,hbl,Z⟩:=Ki n hn;obtain ⟨m,hm1,I,_,J⟩:=MK n.bF.length hn.l1 bus Z;obtain ⟨t,ht,Y,c,hc⟩:=Ms hn hbus hbl (by omega) I J
 have hl:=hc.len;refine ⟨t,ht,⟨by rw [Y]; exact hbl,by omega,by rw [Y,hl]; exact I,c,?_⟩⟩
 rw [Y,hl];exact hc
def fr (I:List Int):List Nat:=(List.range I.length).filter (λi=>(List.range i).any (λj=>decide (I[j]? = I[i]?)))
theorem GR {I:List Int}{i:Nat}:i ∈ fr I↔i<I.length/\∃ j:Nat,j<i/\I[j]? = I[i]? := by
 unfold fr;simp
theorem KI (I:List Int):(fr I).Nodup:=List.Pairwise.filter _ List.nodup_range
theorem Em {I:List Int} (h:I.length<=24):(fr I).length<=23:=by
 have Y:(fr I).length<=((List.range I.length).filter (λi=>decide (0<i))).length:=by
  unfold fr;rw [<- List.countP_eq_length_filter,<- List.countP_eq_length_filter];refine List.countP_mono_left (λi _ hi=>?_);simp at hi;obtain ⟨j,Z,_⟩:=hi;simp; omega
 have J:∀ m,((List.range m).filter (λi=>decide (0<i))).length<=m-1:=by
  intro m
  induction m with
  | zero=>simp
  | succ m ih=>
   rw [Vb,Ts,R5];cases m with
   | zero=>simp
   | succ m=>simp at ih ⊢; omega
 have:=J I.length;omega
def C2 (I:List Int) (i:Nat):Nat:=(fr I).getD i 0
theorem Ej {I:List Int}{i:Nat} (h:i<(fr I).length):(fr I)[i]? = some (C2 I i):=by
 unfold C2;rw [Su,RK h]; rfl
theorem El {I:List Int}{i:Nat} (h:i<(fr I).length):C2 I i ∈ fr I:=RY (Ej h)
theorem zW {I:List Int}{i j:Nat} (hi:i<(fr I).length) (Z:j<(fr I).length) (e:C2 I i=C2 I j):i=j:=by
 have a:=Ej hi;have b:=Ej Z;rw [e] at a;have nd:=KI I;obtain ⟨_,J⟩:=RP.1 a;obtain ⟨_,Y⟩:=RP.1 b;exact (List.getElem_inj nd).1 (J.trans Y.symm)
theorem PB (I:List Int):(fr I).map (λx:Nat=>(x:Int))=(List.range (fr I).length).map (λi=>(C2 I i:Int)):=by
 apply Tz;intro i;rw [Sq,Sq]
 by_cases h:i<(fr I).length
 ·rw [Ej h,TQ h]; rfl
 ·rw [SQ (by omega),SQ (by simp; omega)]; rfl
def HM (n:Net) (I:List Int) (b:aQ):Rat×Nat×Nat:=(((b.X*b.C1:Int):Rat),(Kb n I b).a0.toNat,(Kb n I b).a1.toNat)
def A4 (n:Net) (I:List Int):List (Rat×Nat×Nat):=n.aJ.map (HM n I)
structure Qj (b:aQ):Prop where
 x:1<=b.X/\b.X<=10000
 t:500<=b.C1/\b.C1<=1500
 s:-1000<=b.Shift/\b.Shift<=1000
 l:0<=b.uu/\b.uu<=100000
theorem IP {n:Net} (h:pK n) {b:aQ} (J:b ∈ n.aJ):Qj b:=by
 obtain ⟨_,_,_,_,I⟩:=h.vb b J;unfold iS at I
 split at I
 ·omega
 ·rename_i h6
  simp [bI] at h6;exact ⟨by omega,by omega,by omega,by omega⟩
theorem Qj.q {b:aQ} (h:Qj b):500<=b.X*b.C1/\b.X*b.C1<=15000000:=by
 have I:=h.x; have J:=h.t
 have a:1*500<=b.X*b.C1:=Int.mul_le_mul I.1 J.1 (by omega) (by omega)
 have c:b.X*b.C1<=10000*1500:=Int.mul_le_mul I.2 J.2 (by omega) (by omega)
 omega
structure P_ (N:Nat) (l:List (Rat×Nat×Nat)):Prop where
 ll:l.length<=24
 el:∀ e ∈ l,e.2.1<N/\e.2.2<N
 q:∀ e ∈ l,∃ z:Int,e.1=(z:Rat)/\500<=z/\z<=15000000
theorem B9 {n:Net} (h:pK n) (hn:pZ n) {t:aY} (ht:v_ n t):P_ t.bO.length (A4 n t.qJ):=by
 refine ⟨by unfold A4; rw [TL]; exact h.l3,λe he=>?_,λe he=>?_⟩
 ·obtain ⟨b,I,rfl⟩:=SC.1 he
  have:=Kc hn ht.bl ht.bi (Kb n t.qJ b) (SC.2 ⟨b,I,rfl⟩);show (Kb n t.qJ b).a0.toNat<_/\(Kb n t.qJ b).a1.toNat<_;omega
 ·obtain ⟨b,I,rfl⟩:=SC.1 he
  exact ⟨_,rfl,(IP h I).q.1,(IP h I).q.2⟩
theorem Ak {N:Nat}{l:List (Rat×Nat×Nat)} (h:P_ N l) {e:Rat×Nat×Nat} (he:e ∈ l):vc e.1/\500<=e.1/\e.1<=15000000:=by
 obtain ⟨z,I,J,Y⟩:=h.q e he;have a:=Xy.2 J;have b:=Xy.2 Y;rw [<- I] at a b;exact ⟨⟨z,I⟩,a,b⟩
abbrev tq:Rat:=((1000000:Int):Rat)
abbrev MB (F:Nat->Nat) (l:List (Rat×Nat×Nat)):Mt:=gY ((l.map (zd tq)).map (nE F))
theorem LL:0<tq:=by
 have:((0:Int):Rat)<((1000000:Int):Rat):=Rat.intCast_lt_intCast.2 (by decide)
 simpa using this
theorem Ll {a:Nat}{c:Rat} (I:0<=c) (h:c<=(((2 ^ a:Nat):Int):Rat)):∀ k:Nat,0<=pr k (λ_=>c)/\pr k (λ_=>c)<=(((2 ^ (a*k):Nat):Int):Rat)
 | 0=>by
  refine ⟨by show (0:Rat)<=1; decide,?_⟩
  show (1:Rat)<=_;rw [Xk,Xs];exact XB
 | k+1=>by
  obtain ⟨J,Y⟩:=Ll I h k;refine ⟨XF J I,?_⟩;show pr k (λ_=>c)*c<=_;have e:a*(k+1)=a*k+a:=Nat.mul_succ a k;rw [e,Xl,SI,Xz];exact q6 Y h J I
theorem OW {a b:Nat} (h:a<=32*b):(((2 ^ a:Nat):Int):Rat)<=wq b:=by
 unfold wq;rw [BK];have:2 ^ a<=2 ^ (32*b):=Xn (by decide) h
 exact Xy.2 (by omega)
theorem N9 {a c:Nat}{x:Rat} (I:0<=x) (h:x<=(((2 ^ a:Nat):Int):Rat)) (k:Nat) (J:a*k<=32*c):pr k (λ_=>x)<=wq c:=
 XC (Ll I h k).2 (OW J)
theorem HI {N:Nat}{l:List (Rat×Nat×Nat)} (h:P_ N l):1<=wW l/\wW l<=wq 18:=by
 have I:=h.ll;refine ⟨BW (λe he=>by have:=Ak h he; grind),?_⟩
 refine Rat.le_trans (HH (q:=15000000) (λe he=>by have:=Ak h he; constructor <;> grind)) (N9 (a:=24) (by decide) ?_ l.length (by omega))
 have:((15000000:Int):Rat)<=(((2 ^ 24:Nat):Int):Rat):=Xy.2 (by decide)
 exact this
theorem F5 {u:Nat}:∀ {l:List (Rat×Nat×Nat)},(∀ e ∈ l,1<=e.1)->u4 u l<=wW l
 | [],_=>XB
 | e::l,h=>by
  have ih:=F5 (u:=u) (l:=l) (λe he=>h e (List.mem_cons_of_mem _ he));have I:=h e (List.mem_cons_self ..);have J:=Ap (u:=u) (l:=l) (λe he=>h e (List.mem_cons_of_mem _ he));unfold u4 wW;refine q6 ?_ ih ?_ (by grind)
  ·split <;> grind
  ·split <;> grind
theorem Iz {N:Nat}:∀ {l:List (Rat×Nat×Nat)},(∀ e ∈ l,500<=e.1)->0<=CZ (l.map (zd tq))/\CZ (l.map (zd tq))<=2000*(((l.length:Nat):Int):Rat)
 | [],_=>⟨XB,by
  show (0:Rat)<=2000*((((0:Nat):Int)):Rat);simp⟩
 | e::l,h=>by
  obtain ⟨a,b⟩:=Iz (N:=N) (l:=l) (λe he=>h e (List.mem_cons_of_mem _ he));have I:=h e (List.mem_cons_self ..);have e1:CZ ((e::l).map (zd tq))=tq / e.1+CZ (l.map (zd tq)):=rfl;have p:0<e.1⁻¹:=Rat.inv_pos.2 (by grind)
  have J:=Rat.mul_inv_cancel e.1 (by grind)
  have Y:=Rat.mul_le_mul_of_nonneg_right I (Rat.le_of_lt p);have t1:tq=1000000:=rfl;have e2:(((e::l).length:Nat):Int)=(((l.length:Nat):Int))+1:=by simp
  rw [e1,Rat.div_def,t1,e2,Rat.intCast_add,Rat.intCast_one];constructor <;> grind
theorem G6 {N n:Nat}{F:Nat->Nat}{l:List (Rat×Nat×Nat)} (h:P_ N l) (hn:n<=23) (J:∀ i j,i<n->j<n->F i=F j->i=j):
  Nb n (MB F l) (λi=>u4 (F i) l) (λi c=>u4 (F i) l*gY ((l.map (zd tq)).map (pI F)) i c+dl i c) (λi=>u4 (F i) l*(4*CZ (l.map (zd tq)))+1):=by
 have h1:=h.ll;have I:∀ e ∈ l,1<=e.1:=λe he=>by have:=Ak h he; grind
 have ws:=Iz (N:=N) (λe he=>(Ak h he).2.1);have Z:(((l.length:Nat):Int):Rat)<=24:=Xy.2 (show ((l.length:Nat):Int)<=24 by omega)
 refine ⟨MO J ⟨_,rfl⟩ LL (λe he=>⟨(Ak h he).1,I e he⟩),?_,λi _=>Rat.le_trans (F5 I) (HI h).2⟩;have a:=PK (n:=n) (F:=F) (l:=l) (s:=4*CZ (l.map (zd tq))) (w:=192000) J I (by grind) (by grind)
 have b:=HI h;have c:pr n (λ_=>(192000:Rat)+1)<=wq 13:=N9 (a:=18) (by grind) (by
  have:((192001:Int):Rat)<=(((2 ^ 18:Nat):Int):Rat):=Xy.2 (by decide)
  have e:(192000:Rat)+1=((192001:Int):Rat):=by grind
  rw [e]; exact this) n (by omega)
 have d:wW l*wW l<=wq 36:=by
  rw [<- wU 18 18];exact q6 b.2 b.2 (by grind) (by grind)
 have Y:0<=pr n (λ_=>(192000:Rat)+1):=mU (λ_ _=>by grind)
 have f:wW l*wW l*pr n (λ_=>(192000:Rat)+1)<=wq 49:=by
  rw [<- wU 36 13];exact q6 d c (Rat.mul_nonneg (by grind) (by grind)) Y
 exact XC a (XC f (yS (by omega)))
theorem KG (I:List Int):∀ i:Nat,∃ r,r<=i/\I[r]? = I[i]? /\ ∀ j,j<r->I[j]? ≠ I[i]? := by
 intro i
 induction i using Nat.strongRecOn with
 | ind i ih=>
  by_cases h:∃ j,j<i/\I[j]? = I[i]?
  ·obtain ⟨j,J,e⟩:=h
   obtain ⟨r,h1,Y,Z⟩:=ih j J;exact ⟨r,by omega,Y.trans e,λq hq hh=>Z q hq (hh.trans e.symm)⟩
  ·exact ⟨i,R9 _,rfl,λj J e=>h ⟨j,J,e⟩⟩
theorem Mj {n:Net}{t:aY}{u v:Int} (h:yf (n.aJ.map (Kb n t.qJ)) u v):Lk ((A4 n t.qJ).map (zd tq)) u.toNat v.toNat:=by
 induction h with
 | refl=>exact .refl
 | snoc _ I ih=>
  obtain ⟨e,he,Y⟩:=I;obtain ⟨b,J,rfl⟩:=SC.1 he;have O:zd tq (HM n t.qJ b) ∈ (A4 n t.qJ).map (zd tq):=SC.2 ⟨_,SC.2 ⟨b,J,rfl⟩,rfl⟩;rcases Y with ⟨rfl,rfl⟩ | ⟨rfl,rfl⟩
  ·exact .step ih (.inl O)
  ·exact .step ih (.inr O)
theorem G7 {n:Net} (h:pK n) (hn:pZ n) {t:aY} (ht:v_ n t):Pd (fr t.bO).length (MB (C2 t.bO) (A4 n t.qJ)):=by
 have hE:=B9 h hn ht;obtain ⟨c,hc⟩:=ht.comp;refine PM (λe he=>?_) (λi j hi Z e=>zW hi Z e) (λi hi=>?_)
 ·obtain ⟨d,hd,rfl⟩:=SC.1 he
  have:=Ak hE hd;show 0<tq / d.1;rw [Rat.div_def];exact Rat.mul_pos LL (Rat.inv_pos.2 (by grind))
 ·have O:=GR.1 (El hi)
  obtain ⟨r,h1,Y,h3⟩:=KG t.bO (C2 t.bO i);refine ⟨r,λj Z e=>?_,?_⟩
  ·have J:=GR.1 (El Z)
   rw [e] at J;obtain ⟨_,q,hq,hqe⟩:=J;exact h3 q hq (hqe.trans Y)
  ·have hl:∀ (a:Nat),a<t.bO.length->lb t.bO (a:Int)=t.bO[a]! := λa ha=>by
    rw [Cn ha]; simp [ha]
   have I:yf (n.aJ.map (Kb n t.qJ)) ((C2 t.bO i:Nat):Int) ((r:Nat):Int):=by
    refine (hc.iff _ _ (by omega) (by omega) (by omega) (by omega)).1 ?_
    have hr:r<t.bO.length:=by omega
    rw [Cn O.1,Cn hr];rw [RK hr,RK O.1] at Y;exact (RQ Y).symm
   have:=Mj I;simpa using this
structure Md (n:Net) (t:aY) (M:aX):Prop where
 top:M.wJ=t
 md:JS M (fr t.bO).length t.bO.length (C2 t.bO) (A4 n t.qJ) tq
 D7:M.C.length=n.aJ.length
 c:∀ (k:Nat) (y:LR),M.C[k]? = some y->∃ b,n.aJ[k]? = some b/\pE y/\RL y 4/\rv y=(tq / ((b.X*b.C1:Int):Rat))*(((0-b.Shift:Int):Rat) / ((1000:Int):Rat))
 inv:NV M.rN (fr t.bO).length (MB (C2 t.bO) (A4 n t.qJ))
theorem Iw {α Z:Type}{P:α->Z->Prop}{l:List α}{m:List Z} (hl:l.length=m.length) (h:∀ (k:Nat) (y:α),l[k]? = some y->∃ b,m[k]? = some b/\P y b) {x:α}{b:Z} (hx:P x b):∀ (k:Nat) (y:α),(l++[x])[k]? = some y->∃ J,(m++[b])[k]? = some J/\P y J:=by
 intro k y I
 by_cases e:k<l.length
 ·rw [S4 e] at I
  obtain ⟨J,h1,h2⟩:=h k y I;exact ⟨J,by rw [S4 (by omega)]; exact h1,h2⟩
 ·have Y:=(RP.1 I).1
  rw [R5,SR] at Y;obtain rfl:k=l.length:=by omega
  rw [Sv (R9 _),S7] at I;obtain rfl:=RQ I;exact ⟨b,by rw [hl,Sv (R9 _),S7]; rfl,hx⟩
theorem GB {n:Net} (hn:pZ n) {t:aY} (ht:v_ n t) {k:Nat} (J:k<n.bF.length):∃ v:Nat,t.qJ[k]? = some (v:Int)/\v=(t.qJ.getD k 0).toNat:=by
 have I:k<t.qJ.length:=by rw [ht.bl]; exact J
 have Y:=ht.bi _ (Sk I);refine ⟨(t.qJ[k]).toNat,?_,?_⟩
 ·rw [RK I]; congr 1; omega
 ·rw [Su,RK I]; rfl
theorem K7 {n:Net} (h:pK n) (hn:pZ n) {t:aY} (hg:eA n=some t) (ht:v_ n t):Gd (w9 n) (λo=>∃ M,o=some M/\Md n t M):=by
 have hE:=B9 h hn ht;have hll:=h.l3;have hN:=ht.L4;unfold w9;refine Gd.bind_eq hg ?_;refine Gd.dE (λk ys s=>∃ pre,n.aJ=pre++ys/\pre.length=k/\s.1=pre.map (λb=>((HM n t.qJ b).2.1:Int))/\s.2.1=pre.map (λb=>((HM n t.qJ b).2.2:Int))/\s.2.2.1.length=pre.length/\s.2.2.2.length=pre.length /\
  (∀ (k:Nat) (y:LR),s.2.2.1[k]? = some y->∃ b,pre[k]? = some b/\(pE y/\RL y 2/\rv y=tq / ((b.X*b.C1:Int):Rat))) /\
  (∀ (k:Nat) (y:LR),s.2.2.2[k]? = some y->∃ b,pre[k]? = some b/\(pE y/\RL y 4/\rv y=(tq / ((b.X*b.C1:Int):Rat))*(((0-b.Shift:Int):Rat) / ((1000:Int):Rat))))) ?_ ?_ n.aJ 0 _
  ⟨[],rfl,rfl,rfl,rfl,rfl,rfl,λk y hy=>by simp at hy,λk y hy=>by simp at hy⟩
 ·rintro k b ys ⟨l1,l2,l3,l4⟩ nx ⟨pre,J,hpk,e1,e2,e3,e4,hB,hC⟩ hnx
  simp only at e1 e2 e3 e4 hB hC;subst e1 e2;have hb:b ∈ n.aJ:=by rw [J]; simp
  have hkl:pre.length<24:=by
   have:n.aJ.length=pre.length+(ys.length+1):=by rw [J]; simp
   omega
  obtain ⟨_,m1,m2,_⟩:=h.vb b hb;obtain ⟨p1,p2⟩:=VR m1;obtain ⟨q1,q2⟩:=VR m2;obtain ⟨u,u1,u2⟩:=GB hn ht p2;obtain ⟨v,v1,v2⟩:=GB hn ht q2;have V:=IP h hb;have hq:=V.q;have hx:=V.x; have htp:=V.t; have hs:=V.s
  unfold xw;have w1:i64.wrap (b.X*b.C1)=b.X*b.C1:=bG ⟨by omega,by omega⟩
  have w2:i64.wrap (0-b.Shift)=0-b.Shift:=bG ⟨by omega,by omega⟩
  rw [w1,w2];refine Gd.bind_eq p1 (Gd.ix (by omega) (by rw [RN]; exact u1) (Gd.nd (by simp; omega) (Gd.bind_eq q1 (Gd.ix (by omega) (by rw [RN]; exact v1) (Gd.nd (by simp; omega) ?_)))))
  refine Gd.eN (HT (by omega) (by omega) (by omega)) (λs Z=>Gd.nd (by simp; omega) (Gd.eN (HT (by omega) (by omega) (by omega)) (λf hf=>Gd.eN (Am Z.1 hf.1 Z.2.1 hf.2.1 (by omega)) (λc hc=>Gd.nd (by simp; omega) ?_))))
  refine hnx _ ⟨pre++[b],by rw [J]; simp,by simp [hpk],?_,?_,by simp [e3],by simp [e4],?_,?_⟩
  ·simp only [Tb,TT,VK]
   rw [u2]; rfl
  ·simp only [Tb,TT,VK]
   rw [v2]; rfl
  ·exact Iw e3 hB ⟨Z.1,Z.2.1,Z.2.2⟩
  ·exact Iw e4 hC ⟨hc.1,hc.2.1,by rw [hc.2.2,Z.2.2,hf.2.2]⟩
 ·rintro k ⟨l1,l2,l3,l4⟩ ⟨pre,J,hpk,e1,e2,e3,e4,hB,hC⟩
  simp only at e1 e2 e3 e4 hB hC;rw [Ss] at J;subst J;subst e1 e2;refine Gd.dE (λi ys s=>∃ pre,t.bO=pre++ys/\pre.length=i/\EY s.1/\(∀ k:Int,(sf s.1 k).getD false=true↔k ∈ pre) /\
   s.2=((List.range i).filter (λi=>(List.range i).any (λj=>decide (t.bO[j]? = t.bO[i]?)))).map (λx:Nat=>(x:Int))) ?_ ?_ t.bO 0 _
   ⟨[],rfl,rfl,EY.nil,λk=>by simp [sf,xn],rfl⟩
  ·rintro i y ys ⟨seen,free⟩ nx ⟨pre,J,hpi,hk,hs,e⟩ hnx
   simp only at hk hs e;subst e;have hi:t.bO[i]? = some y:=by rw [J,Sv (by omega),hpi,S7]; rfl
   have hil:=(RP.1 hi).1;have hmem:y ∈ pre↔(List.range i).any (λj=>decide (t.bO[j]? = t.bO[i]?))=true:=by
    rw [List.any_eq_true];constructor
    ·intro hy
     obtain ⟨j,hj,he⟩:=S3.1 hy;refine ⟨j,SL.2 (by omega),?_⟩
     rw [hi,J,S4 hj,RK hj,he]; simp
    ·rintro ⟨j,hj,he⟩
     have hj:=SL.1 hj;have he:=RT he;rw [hi,J,S4 (by omega)] at he
     exact RY he
   have hfl:((List.range i).filter (λi=>(List.range i).any (λj=>decide (t.bO[j]? = t.bO[i]?)))).length<=i:=by
    have:=W2 (λi=>(List.range i).any (λj=>decide (t.bO[j]? = t.bO[i]?))) (List.range i);simpa using this
   have Y:EY (wh seen y true)/\∀ k:Int,(sf (wh seen y true) k).getD false=true↔k ∈ pre++[y]:=by
    refine ⟨(hk.put y true).1,λk=>?_⟩;rw [hk.HU,RZ,R_]
    split
    ·rename_i e; simp [e]
    ·rename_i e; rw [hs k]; simp [e]
   unfold xx;refine Gd.ite (λhc=>?_) (λhc=>?_)
   ·have hc2:=hmem.1 ((hs y).1 hc)
    unfold rP;refine Gd.nd (by simp only [TL,SR]; omega) (hnx _ ⟨pre++[y],by rw [J]; simp,by simp [hpi],Y.1,Y.2,?_⟩)
    simp only;rw [Vb,Ts,Tb,WX,RU hc2]
    rfl
   ·have hc2:¬ (List.range i).any (λj=>decide (t.bO[j]? = t.bO[i]?))=true:=λhh=>by
     have:=(hs y).2 (hmem.2 hh);rw [this] at hc; cases hc
    unfold rP;refine hnx _ ⟨pre++[y],by rw [J]; simp,by simp [hpi],Y.1,Y.2,?_⟩
    simp only;rw [Vb,Ts,Tb,WX,RS hc2];simp
  ·rintro i ⟨seen,free⟩ ⟨pre,J,hpi,hk,hs,e⟩
   simp only at e;rw [Ss] at J;subst e;have hi:i=t.bO.length:=by rw [<- hpi,<- J]
   subst hi;have I:JS (aX.mk t (n.aJ.map (λb=>((HM n t.qJ b).2.1:Int))) (n.aJ.map (λb=>((HM n t.qJ b).2.2:Int))) l3 l4 ((fr t.bO).map (λx:Nat=>(x:Int))) []) (fr t.bO).length t.bO.length (C2 t.bO) (A4 n t.qJ) tq:=by
    refine ⟨Em hN,PB _,λi j hi hj e=>zW hi hj e,λi hi=>(GR.1 (El hi)).1,hN,hE.ll,hE.el,?_,?_,by show l3.length=_; rw [e3]; simp [A4],λk y hy=>?_⟩
    ·simp [A4]
    ·simp [A4]
    ·obtain ⟨b,hb,y1,y2,y3⟩:=hB k y hy
     exact ⟨HM n t.qJ b,by unfold A4; rw [Sq,hb]; rfl,y1,y2,y3⟩
   have hinv:=Jf I (G7 h hn ht) (G6 hE (Em hN) (λi j hi hj e=>zW hi hj e));refine Gd.eN hinv ?_;rintro _ ⟨rows,rfl,hI⟩;refine Gd.ret ⟨_,rfl,⟨rfl,?_,e4,hC,hI⟩⟩;exact ⟨I.hn,I.free,I.inj,I.lt,I.hN,I.ll,I.el,I.fr,I.to,I.bl,I.b⟩
def NL (l:List LR) (N:Nat) (P:Nat->LR->Prop):Prop:=l.length=N/\∀ (b:Nat) (y:LR),l[b]? = some y->P b y
theorem NL.mono {l:List LR}{N:Nat}{P P':Nat->LR->Prop} (h:NL l N P) (k:∀ b y,b<N->P b y->P' b y):NL l N P':=
 ⟨h.1,λb y I=>k b y (by rw [<- h.1]; exact (RP.1 I).1) (h.2 b y I)⟩
theorem NL.set {l:List LR}{N:Nat}{P:Nat->LR->Prop} (h:NL l N P) {b:Nat}{y:LR} (Y:P b y):NL (l.set b y) N P:=by
 refine ⟨by rw [SO]; exact h.1,λJ Z I=>?_⟩
 by_cases e:b=J
 ·subst e
  have hl:b<l.length:=by
   have:=(RP.1 I).1
   rwa [SO] at this
  rw [Sp hl] at I;obtain rfl:=RQ I;exact Y
 ·rw [Sh e] at I
  exact h.2 J Z I
theorem NL.snoc {l:List LR}{N:Nat}{P:Nat->LR->Prop} (h:NL l N P) {y:LR} (Y:P N y):NL (l++[y]) (N+1) P:=by
 refine ⟨by simp [h.1],λb Z I=>?_⟩
 by_cases e:b<l.length
 ·rw [S4 e] at I
  exact h.2 b Z I
 ·have J:=(RP.1 I).1
  rw [R5,SR] at J;obtain rfl:b=l.length:=by omega
  rw [Sv (R9 _),S7] at I;obtain rfl:=RQ I;rw [h.1]; exact Y
theorem NL.get {R:Type}{Q:R->Prop}{l:List LR}{N:Nat}{P:Nat->LR->Prop} (h:NL l N P) {b:Nat} (I:b<N) {f:LR->Option R} (J:∀ y,P b y->Gd (f y) Q):Gd (idx l (b:Int) f) Q:=by
 have hl:b<l.length:=by rw [h.1]; exact I
 exact Gd.gA hl (J _ (h.2 b _ (RK hl)))
theorem Nj {n:Net}{t:aY}{M:aX} (hM:Md n t M) (ht:v_ n t) (hn:pZ n) {p:List Int} (hp:p.length=n.bF.length) (hb:∀ z ∈ p,-100000<=z/\z<=100000):
  Gd (oQ M p) (λr=>NL r t.bO.length (λ_ y=>pE y/\RL y 2/\∃ z:Int,rv y=(z:Rat)/\-2400000<=z/\z<=2400000)):=by
 have h24:=hn.l1;have hN:=ht.L4;unfold oQ fS;rw [hM.top];refine Gd.nd (by omega) ?_
 rw [RN];refine Gd.dE (λi ys s=>∃ pre,p=pre++ys/\pre.length=i/\s.length=t.bO.length/\∀ z ∈ s,-100000*(i:Int)<=z/\z<=100000*(i:Int)) ?_ ?_ p 0 _ ⟨[],rfl,rfl,by simp,λz hz=>by
  have:=WW hz;omega⟩
 ·rintro i y ys s nx ⟨pre,I,Z,hsl,hs⟩ Y
  have hi:i<n.bF.length:=by rw [<- hp,I]; simp; omega
  have hy:=hb y (by rw [I]; simp)
  obtain ⟨v,v1,v2⟩:=GB hn ht hi;have hv:v<t.bO.length:=by
   have:=ht.bi _ (RY v1);omega
  have hvs:v<s.length:=by omega
  unfold rB;rw [hM.top];refine Gd.ix (by omega) (by rw [RN]; exact v1) (Gd.gA hvs (Gd.gA hvs ?_))
  have hz:=hs _ (Sk hvs);have hw:i64.wrap (s[v]+y)=s[v]+y:=bG ⟨by omega,by omega⟩
  rw [hw,RN];refine Y _ ⟨pre++[y],by rw [I]; simp,by simp [Z],by rw [SO]; exact hsl,λz hz'=>?_⟩
  rcases W5 hz' with h1 | h1
  ·have:=hs z h1; omega
  ·subst h1; omega
 ·rintro i s ⟨pre,I,Z,hsl,hs⟩
  rw [Ss] at I;have hil:i<=24:=by rw [<- Z,<- I,hp]; exact h24
  refine Gd.dE (λk ys r=>∃ pre,s=pre++ys/\pre.length=k/\NL r k (λ_ y=>pE y/\RL y 2/\∃ z:Int,rv y=(z:Rat)/\-2400000<=z/\z<=2400000)) ?_ ?_ s 0 _ ⟨[],rfl,rfl,rfl,λb y hb=>by simp at hb⟩
  ·rintro k y ys r nx ⟨pre,J,hpk,hr⟩ Y
   have hy:=hs y (by rw [J]; simp)
   have hkl:s.length=pre.length+(ys.length+1):=by rw [J]; simp
   have hrl:=hr.1;unfold rC;refine Gd.eN (vZ (by omega)) (λw hw=>Gd.nd (by simp; omega) (Y _ ⟨pre++[y],by rw [J]; simp,by simp [hpk],hr.snoc ⟨hw.1,hw.2.1,y,hw.2.2,by omega,by omega⟩⟩))
  ·rintro k r ⟨pre,J,hpk,hr⟩
   rw [Ss] at J;have hkn:k=t.bO.length:=by rw [<- hpk,<- J,hsl]
   subst hkn;exact Gd.ret hr
theorem Ox {a b:List LR}{n W:Nat}{A B:Nat->Rat} (hn:n<=24) (hW:W<=6000) (ha:NL a n (λj y=>pE y/\RL y W/\rv y=A j)) (hb:NL b n (λj y=>pE y/\RL y W/\rv y=B j)):
  Gd (uB a b) (λr=>pE r/\rv r=sm n (λj=>A j*B j)):=by
 unfold uB;refine Gd.eN (vZ (n:=0) (by omega)) (λz hz=>?_)
 rw [ha.1,RN];refine Gd.kz (λm k s=>k+m=n/\∃ r:LR,s=(r.N.minus,r.N.words,r.D.minus,r.D.words)/\pE r/\RL r (2+(2*W+1)*k)/\rv r=sm k (λj=>A j*B j)) ?_ ?_ n 0 _ ⟨by omega,z,rfl,hz.1,hz.2.1,by rw [hz.2.2]; rfl⟩
 ·rintro m k _ nx ⟨hk,r,rfl,hr,J,hv⟩ hnx
  have I:k<n:=by omega
  have hbig:(2*W+1)*k<=(2*W+1)*23:=Xj _ (by omega)
  have hsucc:(2*W+1)*(k+1)=(2*W+1)*k+(2*W+1):=Nat.mul_succ _ _;unfold vH;refine ha.get I (λy hy=>?_);have skip:A k*B k=0->Gd (mB nx r.N.minus r.N.words r.D.minus r.D.words) (λr=>pE r/\rv r=sm n (λj=>A j*B j)):=λh0=>by
   unfold mB;refine hnx _ ⟨by omega,r,rfl,hr,J.mono (by omega),?_⟩
   rw [hv];show _=sm k (λj=>A j*B j)+A k*B k;rw [h0]; grind
  rw [yH hy.1,hy.2.2];refine Gd.ite (λh=>skip (by rw [of_decide_eq_true h]; grind)) (λ_=>hb.get I (λu hu=>?_))
  rw [yH hu.1,hu.2.2];refine Gd.ite (λ_=>ha.get I (λy2 Z=>hb.get I (λu2 Y=>?_))) (λh=>skip (by
   have h1:decide (B k=0)=true:=by simpa using h
   rw [of_decide_eq_true h1]; grind))
  refine Gd.eN (Am Z.1 Y.1 Z.2.1 Y.2.1 (by omega)) (λc hc=>Gd.eN (xK (a:=⟨⟨r.N.minus,r.N.words⟩,⟨r.D.minus,r.D.words⟩⟩) hr hc.1 J hc.2.1 (by omega)) (λd hd=>?_))
  unfold mB;refine hnx _ ⟨by omega,d,rfl,hd.1,hd.2.1.mono (by omega),?_⟩
  rw [hd.2.2,hc.2.2,Z.2.2,Y.2.2];show rv r+_=sm k (λj=>A j*B j)+A k*B k;rw [hv]
 ·rintro k _ ⟨hk,r,rfl,hr,J,hv⟩
  obtain rfl:k=n:=by omega
  exact Gd.ret ⟨hr,hv⟩
theorem Mg {q s:Int} (hq:500<=q) (hs:-1000<=s/\s<=1000):-2000<=(tq / (q:Rat))*((s:Rat) / ((1000:Int):Rat))/\(tq / (q:Rat))*((s:Rat) / ((1000:Int):Rat))<=2000/\(tq / (q:Rat))*((s:Rat) / ((1000:Int):Rat))=(((1000*s:Int):Rat)) / (q:Rat):=by
 have Y:((500:Int):Rat)<=(q:Rat):=Xy.2 hq;have h2:((-1000:Int):Rat)<=(s:Rat):=Xy.2 hs.1;have h3:(s:Rat)<=((1000:Int):Rat):=Xy.2 hs.2;have e1:((500:Int):Rat)=500:=rfl;have e2:((-1000:Int):Rat) = -1000:=by rw [XA]; rfl
 have J:((1000:Int):Rat)=1000:=rfl;have Z:tq=1000000:=rfl;rw [e1] at Y; rw [e2] at h2; rw [J] at h3 ⊢
 have p:0<((q:Rat))⁻¹:=Rat.inv_pos.2 (by grind)
 have i1:=Rat.mul_inv_cancel (q:Rat) (by grind)
 have i2:=Rat.mul_le_mul_of_nonneg_right Y (Rat.le_of_lt p);have i3:(q:Rat)⁻¹<=1 / 500:=by grind
 have I:(tq / (q:Rat))*((s:Rat) / 1000)=(1000*(s:Rat))*(q:Rat)⁻¹:=by rw [Z,Rat.div_def,Rat.div_def]; grind
 have m:=BU (x:=1000*(s:Rat)) (y:=(q:Rat)⁻¹) (a:=1000000) (b:=1 / 500) (by grind) (by grind) (by grind) i3
 refine ⟨by rw [I]; grind,by rw [I]; grind,?_⟩
 rw [I,Xz,J,Xx]
def Lg (l:List (Rat×Nat×Nat)) (W:Nat) (C:Rat) (b:Nat) (y:LR):Prop:=pE y/\RL y W/\vc (u4 b l*rv y)/\-C<=rv y/\rv y<=C
theorem Lg.mono {l:List (Rat×Nat×Nat)}{W J:Nat}{C I:Rat}{b:Nat}{y:LR} (h:Lg l W C b y) (Y:W<=J) (Z:C<=I):Lg l J I b y:=
 ⟨h.1,h.2.1.mono Y,h.2.2.1,by have:=h.2.2.2.1; grind,by have:=h.2.2.2.2; grind⟩
theorem HW {a:Rat} (h:vc a):vc (-a):=by
 obtain ⟨z,rfl⟩:=h;exact ⟨-z,by rw [XA]⟩
theorem Lg.sub {l:List (Rat×Nat×Nat)}{W:Nat}{C:Rat}{b:Nat}{y c:LR} (h:Lg l W C b y) (hc:Lg l 4 2000 b c) (hW:W<=1000):Gd (jL y c) (Lg l (W+5) (C+2000) b):=by
 obtain ⟨a1,J,Y,a4,a5⟩:=h;obtain ⟨Z,c2,c3,c4,c5⟩:=hc;refine (yQ a1 Z J c2 (by omega)).mono (λr I=>⟨I.1,I.2.1.mono (by omega),?_,?_,?_⟩)
 ·rw [I.2.2]
  have e:u4 b l*(rv y-rv c)=u4 b l*rv y+-(u4 b l*rv c):=by grind
  rw [e]; exact zX Y (HW c3)
 ·rw [I.2.2]; grind
 ·rw [I.2.2]; grind
theorem Lg.add {l:List (Rat×Nat×Nat)}{W:Nat}{C:Rat}{b:Nat}{y c:LR} (h:Lg l W C b y) (hc:Lg l 4 2000 b c) (hW:W<=1000):Gd (iB y c) (Lg l (W+5) (C+2000) b):=by
 obtain ⟨a1,J,Y,a4,a5⟩:=h;obtain ⟨Z,c2,c3,c4,c5⟩:=hc;refine (xK a1 Z J c2 (by omega)).mono (λr I=>⟨I.1,I.2.1.mono (by omega),?_,?_,?_⟩)
 ·rw [I.2.2]
  have e:u4 b l*(rv y+rv c)=u4 b l*rv y+u4 b l*rv c:=by grind
  rw [e]; exact zX Y c3
 ·rw [I.2.2]; grind
 ·rw [I.2.2]; grind
theorem K3 {n:Net}{t:aY}{M:aX} (I:Md n t M) {k:Nat}{b:aQ} (J:n.aJ[k]? = some b):
  M.qe[k]? = some ((HM n t.qJ b).2.1:Int)/\M.To[k]? = some ((HM n t.qJ b).2.2:Int)/\(A4 n t.qJ)[k]? = some (HM n t.qJ b):=by
 have e:(A4 n t.qJ)[k]? = some (HM n t.qJ b):=by unfold A4; rw [Sq,J]; rfl
 refine ⟨?_,?_,e⟩
 ·rw [I.md.fr]; exact D5 (λe:Rat×Nat×Nat=>(e.2.1:Int)) e
 ·rw [I.md.to]; exact D5 (λe:Rat×Nat×Nat=>(e.2.2:Int)) e
theorem Qq {n:Net}{t:aY}{M:aX} (h:pK n) (hn:pZ n) (hM:Md n t M) (ht:v_ n t) {k:Nat}{c:LR} (hc:M.C[k]? = some c):
  ∃ b,n.aJ[k]? = some b/\Lg (A4 n t.qJ) 4 2000 (HM n t.qJ b).2.1 c/\Lg (A4 n t.qJ) 4 2000 (HM n t.qJ b).2.2 c:=by
 obtain ⟨b,J,Y,Z,c3⟩:=hM.c k c hc;have V:=IP h (RY J);have hE:=B9 h hn ht;obtain ⟨_,_,e⟩:=K3 hM J;have O:=RY e;have hs:=V.s;obtain ⟨d1,d2,d3⟩:=Mg (q:=b.X*b.C1) (s:=0-b.Shift) V.q.1 (by omega)
 rw [<- c3] at d1 d2 d3;have I:=λ(u:Nat) hu=>ER (u:=u) (l:=A4 n t.qJ) (λe he=>⟨(Ak hE he).1,by have:=(Ak hE he).2.1; grind⟩) _ O hu (((1000*(0-b.Shift):Int)):Rat) ⟨_,rfl⟩
 refine ⟨b,J,⟨Y,Z,?_,d1,d2⟩,⟨Y,Z,?_,d1,d2⟩⟩
 ·rw [d3]; exact I _ (.inl rfl)
 ·rw [d3]; exact I _ (.inr rfl)
theorem AA (k:Nat):(((k+1:Nat):Int):Rat)=((k:Int):Rat)+1:=by rw [WL,Rat.intCast_add]; rfl
theorem MG {n:Net}{t:aY}{M:aX} (h:pK n) (hn:pZ n) (hM:Md n t M) (ht:v_ n t) {p:List LR}
  (hp:NL p t.bO.length (λ_ y=>pE y/\RL y 2/\∃ z:Int,rv y=(z:Rat)/\-2400000<=z/\z<=2400000)) {Q:List LR->Prop}{K:List LR->Option (List LR)} (hK:∀ s,NL s t.bO.length (Lg (A4 n t.qJ) 300 2500000)->Gd (K s) Q):
  Gd (dE (λk y s n=>nG M k y s n) K 0 M.C p) Q:=by
 have hE:=B9 h hn ht;have hcl:=hM.D7;have h24:=h.l3;refine Gd.dE (λk ys s=>∃ pre,M.C=pre++ys/\pre.length=k/\NL s t.bO.length (Lg (A4 n t.qJ) (2+10*k) (2400000+4000*((k:Int):Rat)))) ?_ ?_ M.C 0 p ⟨[],rfl,rfl,hp.mono (λb y hb Z=>?_)⟩
 ·rintro k c ys s nx ⟨pre,J,Y,hs⟩ hnx
  have hck:M.C[k]? = some c:=by rw [J,Sv (by omega),Y,S7]; rfl
  obtain ⟨b,hb,g1,g2⟩:=Qq h hn hM ht hck;obtain ⟨f1,f2,f3⟩:=K3 hM hb;have I:=hE.el _ (RY f3);have hk24:k<24:=by have:=(RP.1 hck).1; omega
  generalize HM n t.qJ b=e at g1 g2 f1 f2 f3 I;unfold nG;refine Gd.ix (by omega) (by rw [RN]; exact f1) (Gd.ix (by omega) (by rw [RN]; exact f1) (hs.get I.1 (λy Z=>Gd.eN (Z.sub g1 (by omega)) (λr hr=>hs.get I.1 (λ_ _=>?_)))))
  have c0:(2400000+4000*((k:Int):Rat))<=(2400000+4000*((k:Int):Rat))+2000:=by grind
  have hs2:=(hs.mono (P':=Lg (A4 n t.qJ) (2+10*k+5) (2400000+4000*((k:Int):Rat)+2000)) (λb y _ Z=>Z.mono (by omega) c0)).set (b:=e.2.1) hr
  refine Gd.ix (by omega) (by rw [RN]; exact f2) (Gd.ix (by omega) (by rw [RN]; exact f2) ?_)
  rw [RN,RN];refine hs2.get I.2 (λy2 hy2=>Gd.eN (hy2.add g2 (by omega)) (λr2 hr2=>hs2.get I.2 (λ_ _=>?_)))
  have c1:(2400000+4000*((k:Int):Rat))+2000<=2400000+4000*(((k+1:Nat):Int):Rat):=by rw [AA]; grind
  have c2:(2400000+4000*((k:Int):Rat))+2000+2000<=2400000+4000*(((k+1:Nat):Int):Rat):=by rw [AA]; grind
  exact hnx _ ⟨pre++[c],by rw [J]; simp,by simp [Y],(hs2.mono (λb y _ Z=>Z.mono (by omega) c1)).set (hr2.mono (by omega) c2)⟩
 ·rintro k s ⟨pre,J,Y,hs⟩
  rw [Ss] at J;have hk24:k<=24:=by rw [<- Y,<- J]; omega
  have hc:((k:Int):Rat)<=((24:Int):Rat):=Xy.2 (by omega)
  have e24:((24:Int):Rat)=24:=rfl;rw [e24] at hc;exact hK s (hs.mono (λb y _ Z=>Z.mono (by omega) (by grind)))
 ·obtain ⟨y1,y2,z,y3,y4,y5⟩:=Z
  have e0:(((0:Nat):Int):Rat)=0:=rfl;have a:=Xy.2 y4;have b:=Xy.2 y5;have e1:((2400000:Int):Rat)=2400000:=rfl;rw [XA,e1] at a;rw [e1] at b;refine ⟨y1,y2,?_,?_,?_⟩
  ·rw [y3]
   exact s9 (Bt (λe he=>(Ak hE he).1)) ⟨z,rfl⟩
  ·rw [y3,e0]; grind
  ·rw [y3,e0]; grind
def An (D:Rat) (y:LR):Prop:=pE y/\∃ T,vc T/\-wq 140<=T/\T<=wq 140/\rv y=T / D
structure Dv (D:Rat):Prop where
 i:vc D
 z:D≠0
 a:-wq 60<=D
 b:D<=wq 60
theorem KP:vc 0:=⟨0,rfl⟩
theorem An.rb {D:Rat} (I:Dv D) {y:LR} (h:An D y):RB (rv y) 141:=by
 obtain ⟨_,T,t1,t2,t3,e⟩:=h;rw [e];have:=yS (show 60<=140 by omega)
 have J:=I.a;have Y:=I.b;exact Al t1 I.i t2 t3 (by grind) (by grind) I.z (by omega)
theorem An.zero {D:Rat}{y:LR} (J:pE y) (I:rv y=0):An D y:=⟨J,0,KP,by have:=wV 140; grind,by have:=wV 140; grind,by rw [I,Rat.div_def]; grind⟩
theorem Ob {f:Nat->Rat}{b:Rat} (I:0<=b):∀ {n:Nat},(∀ i,i<n->-b<=f i/\f i<=b)->-(((n:Int):Rat)*b)<=sm n f/\sm n f<=((n:Int):Rat)*b
 | 0,_=>by
  show -((((0:Nat):Int):Rat)*b)<=0/\0<=((((0:Nat):Int):Rat)*b);have e:((((0:Nat):Int)):Rat)=0:=rfl;rw [e]; grind
 | n+1,h=>by
  have J:=Ob I (n:=n) (λi hi=>h i (by omega))
  have Y:=h n (by omega)
  rw [AA];show _<=sm n f+f n/\sm n f+f n<=_
  grind
theorem J9 {n:Nat}{A B m:Mt}{L R:Nat->Rat} (h:Nb n A L B R) (J:Pd n A) (hn:n<=23) (hG:Gj n A n m) {i:Nat} (hi:i<n) {x:Nat->Rat} (hx:∀ p,p<n->vc (L p*x p)/\-2500000<=x p/\x p<=2500000) {y:LR} (hy:pE y)
  (e:rv y=sm n (λp=>m i (n+p)*x p)):An (Dk A L n) y:=by
 have d0:=(h.D0 J (R9 n)).1;have key:∀ p,p<n->∃ T,vc T/\-wq 139<=T/\T<=wq 139/\m i (n+p)*x p=T*(Dk A L n)⁻¹:=λp I=>by
  obtain ⟨N,n1,n2,n3,e1⟩:=hG.num h.s (R9 n) hi I;rw [RS (by omega)] at e1
  have Z:m i (n+p)*Dk A L n=N*L p:=by
   have e2:1*m i (n+p)*Dk A L n=N*L p:=e1
   grind
  obtain ⟨x1,x2,x3⟩:=hx p I;have hP:=h.hP;have p1:1<=pr n R:=EM (λj hj=>h.s.R1 hj);have r1:=h.s.R1 hi;have r2:=h.R hi;have hNb:pr n R*R i<=wq 120:=by
   rw [<- wU 60 60];exact q6 hP r2 (by grind) (by grind)
  have l1:=h.s.l1 p I;have l2:=h.hL p I;have w1:(2500000:Rat)<=wq 1:=by
   have:((2500000:Int):Rat)<=(((WB ^ 1:Nat):Int):Rat):=Xy.2 (by decide)
   exact this
  have q1:=BU (x:=L p) (y:=x p) (a:=wq 18) (b:=wq 1) (by have:=wV 18; grind) l2 (by grind) (by grind)
  rw [wU] at q1;have q2:=BU (x:=N) (y:=L p*x p) (a:=wq 120) (b:=wq (18+1)) (by grind) (by grind) q1.1 q1.2
  rw [wU] at q2;refine ⟨N*(L p*x p),s9 n1 x1,q2.1,q2.2,?_⟩;have i1:=Rat.mul_inv_cancel _ d0;have e3:m i (n+p)=N*L p*(Dk A L n)⁻¹:=by rw [<- Z]; grind
  rw [e3]; grind
 have:∃ T:Nat->Rat,∀ p,p<n->vc (T p)/\-wq 139<=T p/\T p<=wq 139/\m i (n+p)*x p=(Dk A L n)⁻¹*T p:=by
  refine ⟨λp=>m i (n+p)*x p*Dk A L n,λp I=>?_⟩;obtain ⟨T,t1,t2,t3,t4⟩:=key p I;have i1:=Rat.mul_inv_cancel _ d0;have e2:m i (n+p)*x p*Dk A L n=T:=by rw [t4]; grind
  simp only;rw [e2];exact ⟨t1,t2,t3,by rw [t4]; grind⟩
 obtain ⟨T,Y⟩:=this;have hs:sm n (λp=>m i (n+p)*x p)=(Dk A L n)⁻¹*sm n T:=by
  rw [<- si];exact pB (λp J=>(Y p J).2.2.2)
 have hb:=Ob (f:=T) (b:=wq 139) (by have:=wV 139; grind) (n:=n) (λp J=>⟨(Y p J).2.1,(Y p J).2.2.1⟩)
 have hn2:((n:Int):Rat)*wq 139<=wq 140:=by
  have e1:wq 1*wq 139=wq 140:=wU 1 139;rw [<- e1];have h1:((n:Int):Rat)<=wq 1:=Xy.2 (show (n:Int)<=((WB ^ 1:Nat):Int) by
   have:((WB ^ 1:Nat):Int)=4294967296:=by decide
   rw [this]; omega)
  exact Rat.mul_le_mul_of_nonneg_right h1 (by have:=wV 139; grind)
 refine ⟨hy,sm n T,GX (λp J=>(Y p J).1),by grind,by grind,?_⟩
 rw [e,hs,Rat.div_def]; grind
theorem An.mk' {D:Rat} (I:Dv D) {y z:LR} (h:An D y) (k:An D z):RB (rv y-rv z) 142:=by
 obtain ⟨_,T,t1,t2,t3,e⟩:=h;obtain ⟨_,U,u1,u2,Z,f⟩:=k;have e1:rv y-rv z=(T+-U) / D:=by rw [e,f,Rat.div_def,Rat.div_def,Rat.div_def]; grind
 have w:wq 140+wq 140<=wq 141:=by
  have e2:wq 1*wq 140=wq 141:=wU 1 140;rw [<- e2];have J:((2:Int):Rat)<=wq 1:=Xy.2 (by decide)
  have Y:((2:Int):Rat)=2:=rfl;rw [Y] at J;have:=Rat.mul_le_mul_of_nonneg_right J (show 0<=wq 140 by have:=wV 140; grind)
  grind
 rw [e1];have w2:=yS (show 60<=141 by omega)
 have d1:=I.a;have d2:=I.b;exact Al (zX t1 (HW u1)) I.i (by grind) (by grind) (by grind) (by grind) I.z (by omega)
def Pz (n:Net) (t:aY):Rat:=Dk (MB (C2 t.bO) (A4 n t.qJ)) (λi=>u4 (C2 t.bO i) (A4 n t.qJ)) (fr t.bO).length
theorem Kq {n:Net} (h:pK n) (hn:pZ n) {t:aY} (ht:v_ n t):Dv (Pz n t):=by
 have J:=B9 h hn ht;have I:=G6 J (Em ht.L4) (λi j hi Y e=>zW hi Y e);have Z:=G7 h hn ht;obtain ⟨a,b,c⟩:=I.Db (R9 _);exact ⟨a,(I.D0 Z (R9 _)).1,b,c⟩
theorem IK {n:Net}{t:aY}{M:aX} (h:pK n) (hn:pZ n) (hM:Md n t M) (ht:v_ n t) {s:List LR} (hs:NL s t.bO.length (Lg (A4 n t.qJ) 300 2500000)):
  Gd (nh M s) (λr=>NL r t.bO.length (λ_ y=>An (Pz n t) y)):=by
 have hE:=B9 h hn ht;have hnf:=Em ht.L4;have hNb:=G6 hE hnf (λi j hi Y e=>zW hi Y e);have hp:=G7 h hn ht;have hfl:M.rm.length=(fr t.bO).length:=by rw [hM.md.free]; simp
 have hfr:∀ k (y:Int),M.rm[k]? = some y->k<(fr t.bO).length/\y=(C2 t.bO k:Int):=λk y Z=>by
  have hk1:=(RP.1 Z).1;rw [hM.md.free,Sq,TQ (by omega)] at Z
  exact ⟨by omega,(RQ Z).symm⟩
 obtain ⟨m,hG,hR⟩:=hM.inv.ex;unfold nh;rw [hfl,RN];refine Gd.nd (by omega) ?_
 refine Gd.dE (λk ys r=>∃ pre,M.rm=pre++ys/\pre.length=k/\r.length=(fr t.bO).length/\∀ j,j<k->r[j]? = s[C2 t.bO j]?) ?_ ?_ M.rm 0 _ ⟨[],rfl,rfl,by simp,λj Y=>by omega⟩
 ·rintro k y ys r nx ⟨pre,I,J,hrl,hr⟩ hnx
  obtain ⟨Z,rfl⟩:=hfr k y (by rw [I,Sv (by omega),J,S7]; rfl)
  have hlt:=hM.md.lt k Z;unfold qp;refine Gd.gA (by rw [hs.1]; exact hlt) (Gd.gA (by omega) ?_)
  rw [RN];refine hnx _ ⟨pre++[(C2 t.bO k:Int)],by rw [I]; simp,by simp [J],by rw [SO]; exact hrl,λj Y=>?_⟩
  by_cases e:k=j
  ·subst e
   rw [Sp (by omega),RK]
  ·rw [Sh e]; exact hr j (by omega)
 ·rintro k r ⟨pre,I,J,hrl,hr⟩
  rw [Ss] at I;have Z:k=(fr t.bO).length:=by rw [<- J,<- I,hfl]
  subst Z;unfold fS;rw [hM.top];refine Gd.eN (Av (by have:=ht.L4; omega)) ?_
  rintro _ ⟨z,rfl,z1,z2,z3⟩;have hx:∀ j,j<(fr t.bO).length->∃ y,r[j]? = some y/\Lg (A4 n t.qJ) 300 2500000 (C2 t.bO j) y:=λj Y=>by
   have hlt:=hM.md.lt j Y;have hl:C2 t.bO j<s.length:=by rw [hs.1]; exact hlt
   have hsj:=RK hl;exact ⟨s[C2 t.bO j],by rw [hr j Y,hsj],hs.2 _ _ hsj⟩
  have hb:NL r (fr t.bO).length (λj y=>pE y/\RL y 6000/\rv y=((r[j]?).map rv).getD 0):=⟨hrl,λj y Y=>by
   have hj1:=(RP.1 Y).1;obtain ⟨y2,e,g⟩:=hx j (by omega)
   rw [Y] at e;obtain rfl:=RQ e;exact ⟨g.1,g.2.1.mono (by omega),by rw [Y]; rfl⟩⟩
  have hxx:∀ p,p<(fr t.bO).length->vc (u4 (C2 t.bO p) (A4 n t.qJ)*((r[p]?).map rv).getD 0)/\-2500000<=((r[p]?).map rv).getD 0/\((r[p]?).map rv).getD 0<=2500000:=λp hp=>by
   obtain ⟨y2,e,g⟩:=hx p hp;rw [e];exact ⟨g.2.2.1,g.2.2.2.1,g.2.2.2.2⟩
  refine Gd.dE (λk ys o=>∃ pre,M.rm=pre++ys/\pre.length=k/\NL o t.bO.length (λ_ y=>An (Pz n t) y)) ?_ ?_ M.rm 0 _ ⟨[],rfl,rfl,⟨by simp,λb y hb=>by
   have:=WW (RY hb);subst this;exact An.zero z1 z3⟩⟩
  ·rintro k y ys o nx ⟨pre,I,J,ho⟩ hnx
   obtain ⟨Z,rfl⟩:=hfr k y (by rw [I,Sv (by omega),J,S7]; rfl)
   have hlt:=hM.md.lt k Z;obtain ⟨row,w1,w2,w3⟩:=hR.row k Z;have ha:NL row (fr t.bO).length (λj y=>pE y/\RL y 6000/\rv y=m k ((fr t.bO).length+j)):=⟨w2,λj y Y=>by
    have hj1:=(RP.1 Y).1;obtain ⟨y2,e,g⟩:=w3 j (by omega)
    rw [Y] at e;obtain rfl:=RQ e;exact g⟩
   unfold qq;refine Gd.ix (by omega) (by rw [RN]; exact w1) (Gd.eN (Ox (by omega) (by omega) ha hb) (λd hd=>ho.get hlt (λ_ _=>?_)))
   rw [RN];exact hnx _ ⟨pre++[(C2 t.bO k:Int)],by rw [I]; simp,by simp [J],ho.set (J9 hNb hp hnf hG Z hxx hd.1 hd.2)⟩
  ·rintro k o ⟨_,_,_,ho⟩
   exact Gd.ret ho
theorem IA {n:Net}{t:aY}{M:aX} (h:pK n) (hn:pZ n) (I:Md n t M) (ht:v_ n t) {p:List LR}
  (J:NL p t.bO.length (λ_ y=>pE y/\RL y 2/\∃ z:Int,rv y=(z:Rat)/\-2400000<=z/\z<=2400000)):Gd (ng M p) (λr=>NL r t.bO.length (λ_ y=>An (Pz n t) y)):=by
 have Z:=ht.L4;have h2:=J.1;unfold ng;exact Gd.nd (by omega) (MG h hn I ht J (λs hs=>Gd.eN (IK h hn I ht hs) (λr Y=>Gd.ret Y)))
theorem JO {n:Net}{t:aY}{M:aX} (h:pK n) (hn:pZ n) (Y:Md n t M) (ht:v_ n t) {a:List LR} (ha:NL a t.bO.length (λ_ y=>An (Pz n t) y)):
  Gd (nV M a) (λr=>NL r n.aJ.length (λ_ y=>pE y/\fits (rv y))):=by
 have hE:=B9 h hn ht;have hD:=Kq h hn ht;have hcl:=Y.D7;have h24:=h.l3;unfold nV;refine Gd.dE (λk ys r=>∃ pre,M.C=pre++ys/\pre.length=k/\NL r k (λ_ y=>pE y/\fits (rv y))) ?_ ?_ M.C 0 _ ⟨[],rfl,rfl,rfl,λb y hb=>by simp at hb⟩
 ·rintro k c ys r nx ⟨pre,I,J,hr⟩ hnx
  have hck:M.C[k]? = some c:=by rw [I,Sv (by omega),J,S7]; rfl
  have hk24:k<24:=by have:=(RP.1 hck).1; omega
  obtain ⟨b,hb,c1,c2,c3⟩:=Y.c k c hck;obtain ⟨f1,f2,f3⟩:=K3 Y hb;have hlt:=hE.el _ (RY f3);have Z:k<M.B_.length:=by rw [Y.md.bl]; exact (RP.1 f3).1
  obtain ⟨e,e1,b1,b2,b3⟩:=Y.md.b k M.B_[k] (RK Z);rw [f3] at e1;obtain rfl:=RQ e1;obtain ⟨q,q1,q2,q3⟩:=hE.q _ (RY f3);have hBR:RB (rv M.B_[k]) 1:=by
   rw [b3,q1];exact RB.Qv (by decide) (by omega) (by omega)
  have hrl:=hr.1;unfold qZ;refine Gd.ix (by omega) (by rw [RN]; exact RK Z) (Gd.ix (by omega) (by rw [RN]; exact f1) (ha.get hlt.1 (λy hy=>Gd.ix (by omega) (by rw [RN]; exact f2) (ha.get hlt.2 (λz hz=>?_)))))
  refine Gd.eN (yQ hy.1 hz.1 (hy.1.rb (hy.rb hD)) (hz.1.rb (hz.rb hD)) (by omega)) (λd hd=>?_)
  have hdR:RB (rv d) 142:=by rw [hd.2.2]; exact hy.mk' hD hz
  refine Gd.eN (Am b1 hd.1 (b1.rb hBR) (hd.1.rb hdR) (by omega)) (λf hf=>?_)
  refine Gd.eN (xK hf.1 c1 hf.2.1 c2 (by omega)) (λg hg=>Gd.nd (by simp; omega) (hnx _ ⟨pre++[c],by rw [I]; simp,by simp [J],hr.snoc ⟨hg.1,?_⟩⟩))
  exact RB.fits ⟨g,hg.1,hg.2.1,rfl⟩ (by omega)
 ·rintro k r ⟨pre,I,J,hr⟩
  rw [Ss] at I;have hk:k=n.aJ.length:=by rw [<- J,<- I,hcl]
  subst hk;exact Gd.ret hr
theorem Gb {l:List LR} (hl:l.length<=1000) (h:∀ y ∈ l,pE y/\fits (rv y)):Gd (nR l) (λr=>r=(l.map (λy=>ctext (rv y)),0)):=by
 unfold nR;refine Gd.eN (P:=λr=>r=(l.map (λy=>ctext (rv y)),true)) ?_ (λr Y=>by subst Y; exact Gd.ite (λh=>by simp at h) (λ_=>Gd.ret rfl))
 unfold uk;refine Gd.nd (by omega) ?_
 rw [RN];refine Gd.dE (λk ys s=>∃ pre,l=pre++ys/\pre.length=k/\s=pre.map (λy=>ctext (rv y))++List.replicate ys.length (⟨#[]⟩:RI)) ?_ ?_ l 0 _ ⟨[],rfl,rfl,by simp⟩
 ·rintro k y ys _ nx ⟨pre,J,I,rfl⟩ Z
  obtain ⟨y1,y2⟩:=h y (by rw [J]; simp)
  unfold ua;refine Gd.eN (Lu y1) (λr Y=>?_);have h2:=Y.1.2 y2;refine Gd.ite (λhh=>by rw [h2] at hh; simp at hh) (λ_=>?_)
  refine Gd.ix (y:=⟨#[]⟩) (by omega) ?_ (Z _ ⟨pre++[y],by rw [J]; simp,by simp [I],?_⟩)
  ·rw [RN,Sv (by simp [I]),TL,I,S7,RW,Tv]; rfl
  ·rw [RN,W8 _ _ (by simp [I]),TL,I,S7,RW,Tv,W9,Y.2 h2]
   simp
 ·rintro k _ ⟨pre,J,I,rfl⟩
  rw [Ss] at J;subst J;exact Gd.ret (by simp)
structure Pq (n:Net) (t:aY) (s:cH):Prop where
 al:s.fP.length=t.bO.length
 fl:s.iI.length=n.aJ.length
 a:∀ x ∈ s.fP,∃ q,fits q/\x=ctext q
 f:∀ x ∈ s.iI,∃ q,fits q/\x=ctext q
theorem NL.all {l:List LR}{N:Nat}{P:LR->Prop} (h:NL l N (λ_ y=>P y)):∀ y ∈ l,P y:=λy I=>by
 obtain ⟨i,hi,rfl⟩:=S3.1 I;exact h.2 i _ (RK hi)
theorem LA {n:Net}{p:List Int} (h:pK n) (hn:pZ n) {t:aY} (hg:eA n=some t) (ht:v_ n t) (hp:p.length=n.bF.length) (hb:∀ z ∈ p,-100000<=z/\z<=100000) (hc:ql n p=some 0):
  Gd (qv n p) (λr=>r.2=0/\Pq n t r.1):=by
 have hN:=ht.L4;have h24:=h.l3;unfold qv;refine Gd.bind_eq hc (Gd.ite (λh=>by simp at h) (λ_=>?_))
 refine Gd.eN (K7 h hn hg ht) ?_;rintro _ ⟨M,rfl,Y⟩;simp only [Dc];refine Gd.eN (Nj Y ht hn hp hb) (λsm hsm=>Gd.eN (IA h hn Y ht hsm) (λa J=>?_));have hD:=Kq h hn ht;have hl1:=J.1;refine Gd.eN (Gb (by omega) (λy I=>⟨(J.all y I).1,(An.rb hD (J.all y I)).fits (by omega)⟩)) ?_
 rintro _ rfl;refine Gd.eN (JO h hn Y ht J) (λf Z=>?_);have hl2:=Z.1;refine Gd.eN (Gb (by omega) (λy I=>Z.all y I)) ?_
 rintro _ rfl;refine Gd.ite (λh=>by simp at h) (λ_=>Gd.ret ⟨rfl,by simp [hl1],by simp [hl2],λx hx=>?_,λx hx=>?_⟩)
 ·obtain ⟨y,I,rfl⟩:=SC.1 hx
  exact ⟨_,(An.rb hD (J.all y I)).fits (by omega),rfl⟩
 ·obtain ⟨y,I,rfl⟩:=SC.1 hx
  exact ⟨_,(Z.all y I).2,rfl⟩
def acc {α:Type} (f:α->Int) (p:α->Nat) (k:Nat):List α->Int
 | []=>0
 | x::xs=>(if p x=k then f x else 0)+acc f p k xs
theorem D4 {α:Type}{f:α->Int}{p:α->Nat}{k:Nat}:∀ {l:List α},(∀ x ∈ l,0<=f x)->0<=acc f p k l
 | [],_=>Ub _
 | x::xs,h=>by
  have J:=h x (RR ..);have Y:=D4 (f:=f) (p:=p) (k:=k) (l:=xs) λy I=>h y (RV _ I);unfold acc
  split <;> omega
theorem Gx {α:Type}{f:α->Int}{p:α->Nat}{k:Nat}{B:Int} (I:0<=B):∀ {l:List α},(∀ x ∈ l,f x<=B)->acc f p k l<=B*l.length
 | [],_=>by simp [acc]
 | x::xs,h=>by
  have Y:=h x (RR ..);have Z:=Gx (f:=f) (p:=p) (k:=k) (B:=B) I (l:=xs) λy J=>h y (RV _ J);unfold acc;rw [RW,WL,WI]
  split <;> omega
theorem HF {α:Type}{f:α->Int}{p:α->Nat}{k:Nat}:∀ (a b:List α),acc f p k (a++b)=acc f p k a+acc f p k b
 | [],b=>by show acc f p k b=0+acc f p k b; omega
 | x::xs,b=>by
  have:=HF (f:=f) (p:=p) (k:=k) xs b;show (if p x=k then f x else 0)+acc f p k (xs++b)=(if p x=k then f x else 0)+acc f p k xs+acc f p k b
  omega
theorem zQ {α:Type}{f:α->Int}{p:α->Nat}{k:Nat} (a:List α) (x:α):acc f p k (a++[x])=acc f p k a+(if p x=k then f x else 0):=by
 rw [HF];show _+((if p x=k then f x else 0)+0)=_
 omega
def ue (I:Nat->Nat) (k:Nat):Nat->List Int->Int
 | _,[]=>0
 | i,x::xs=>(if I i=k then x else 0)+ue I k (i+1) xs
theorem FQ (I:Nat->Nat) (k:Nat):∀ (a b:List Int) (i:Nat),ue I k i (a++b)=ue I k i a+ue I k (i+a.length) b
 | [],b,i=>by show ue I k i b=0+ue I k (i+0) b; rw [Tl]; omega
 | x::xs,b,i=>by
  have:=FQ I k xs b (i+1);have e:i+(x::xs).length=i+1+xs.length:=by simp; omega
  rw [e];show (if I i=k then x else 0)+ue I k (i+1) (xs++b)=(if I i=k then x else 0)+ue I k (i+1) xs+_
  omega
theorem CA (I:Nat->Nat) (k:Nat) (y:Int):∀ (l:List Int) (i j:Nat) (h:j<l.length),ue I k i (l.set j y)=ue I k i l+(if I (i+j)=k then y-l[j] else 0)
 | [],_,_,h=>by simp at h
 | x::xs,i,0,_=>by
  rw [W9,Tl,List.getElem_cons_zero];show (if I i=k then y else 0)+ue I k (i+1) xs=(if I i=k then x else 0)+ue I k (i+1) xs+_
  split <;> omega
 | x::xs,i,j+1,h=>by
  have J:j<xs.length:=by simpa using h
  have:=CA I k y xs (i+1) j J;have e:i+1+j=i+(j+1):=by omega
  rw [e] at this;rw [List.set_cons_succ,List.getElem_cons_succ];show (if I i=k then x else 0)+ue I k (i+1) (xs.set j y)=(if I i=k then x else 0)+ue I k (i+1) xs+_
  rw [this]; omega
theorem FR (I:Nat->Nat) (k:Nat):∀ (m i:Nat),ue I k i (List.replicate m 0)=0
 | 0,_=>rfl
 | m+1,i=>by
  show (if I i=k then (0:Int) else 0)+ue I k (i+1) (List.replicate m 0)=0
  rw [FR I k m (i+1)]; split <;> rfl
theorem Ia (I:Nat->Nat) (k:Nat) {B:Int} (J:0<=B):∀ (l:List Int) (i:Nat),(∀ z ∈ l,-B<=z/\z<=B)->-(B*l.length)<=ue I k i l/\ue I k i l<=B*l.length
 | [],_,_=>by simp [ue]
 | x::xs,i,h=>by
  have Z:=h x (RR ..);have h2:=Ia I k J xs (i+1) (λz Y=>h z (RV _ Y));show -(B*(x::xs).length)<=(if I i=k then x else 0)+ue I k (i+1) xs/\(if I i=k then x else 0)+ue I k (i+1) xs<=B*(x::xs).length
  rw [RW,WL,WI]
  split <;> omega
def EK (t:aY) (i:Nat):Nat:=((t.bO[((t.qJ[i]?).getD 0).toNat]?).getD 0).toNat
theorem Ha {n:Net}{t:aY} (ht:v_ n t) {i:Nat} (hi:i<n.bF.length):∃ v:Nat,t.qJ[i]? = some (v:Int)/\v<t.bO.length/\t.bO[v]? = some (EK t i:Int)/\EK t i<t.bO.length:=by
 have I:i<t.qJ.length:=by rw [ht.bl]; exact hi
 have h1:=ht.bi _ (Sk I);obtain ⟨c,Y⟩:=ht.comp;have J:(t.qJ[i]).toNat<t.bO.length:=by omega
 have e1:t.qJ[i]? = some (((t.qJ[i]).toNat:Nat):Int):=by rw [RK I]; congr 1; omega
 have Z:=Y.all ((t.qJ[i]).toNat:Int) (by omega) (by omega)
 rw [Cn J] at Z;have O:=Y.mN;refine ⟨(t.qJ[i]).toNat,e1,J,?_,?_⟩
 ·unfold EK
  rw [e1,TO,RN,RK J,TO]
  congr 1; omega
 ·unfold EK
  rw [e1,TO,RN,RK J,TO];omega
def zc (n:Net) (t:aY) (s:BA):Nat:=EK t (pos n s)
theorem CO {n:Net}{t:aY} (ht:v_ n t) {s:BA} (hs:s ∈ n.bF):mX n t s=some (zc n t s:Int)/\zc n t s<t.bO.length:=by
 obtain ⟨p1,p2⟩:=VR hs;obtain ⟨v,v1,v2,v3,v4⟩:=Ha ht p2;refine ⟨?_,v4⟩;rw [<- Gd.eq];unfold mX;exact Gd.bind_eq p1 (Gd.ix (by omega) (by rw [RN]; exact v1) (Gd.ix (by omega) (by rw [RN]; exact v3) (Gd.ret rfl)))
theorem Jn {n:Net}{t:aY} (hg:eA n=some t) (ht:v_ n t):∃ N:Nat,me n=some (N:Int)/\N<=24/\∀ s ∈ n.bF,zc n t s<N:=by
 obtain ⟨c,Y⟩:=ht.comp;have O:=Y.mN;have I:Bj t.bO.length t.bO:=λa ha=>by
  obtain ⟨k,hk,rfl⟩:=S3.1 ha;have:=Y.all (k:Int) (by omega) (by omega)
  rw [Cn hk] at this;omega
 have h:Gd (me n) (λr=>∃ N:Nat,r=N/\N<=24/\Bj N t.bO):=by
  unfold me;refine Gd.bind_eq hg (ML t.bO.length ht.L4 _ (λk y n nx=>by unfold rY; rfl) _ t.bO I (λm O J=>Gd.ret ⟨m,rfl,by have:=ht.L4; omega,J⟩))
 obtain ⟨r,hr,N,rfl,Z,h2⟩:=h;refine ⟨N,hr,Z,λs hs=>?_⟩;obtain ⟨v,_,_,v3,_⟩:=Ha ht (VR hs).2;have:=h2 _ (RY v3);show EK t (pos n s)<N;omega
abbrev I5 (n:Net) (t:aY) (k:Nat):Int:=acc aH.c_ (λl:aH=>zc n t l.Node) k n.bE
theorem Kr {n:Net} (hn:pZ n) (t:aY) (k:Nat):0<=I5 n t k/\I5 n t k<=1200000:=by
 have I:=D4 (f:=aH.c_) (p:=λl:aH=>zc n t l.Node) (k:=k) (l:=n.bE) (λl hl=>(hn.ld l hl).2.1);have J:=Gx (f:=aH.c_) (p:=λl:aH=>zc n t l.Node) (k:=k) (B:=100000) (by omega) (l:=n.bE) (λl hl=>(hn.ld l hl).2.2)
 have:=hn.l5;have Y:I5 n t k<=100000*(n.bE.length:Int):=J;exact ⟨I,by omega⟩
theorem KQ {n:Net}{t:aY} (hn:pZ n) (hg:eA n=some t) (ht:v_ n t) {N:Nat} (hN:me n=some (N:Int)) (h24:N<=24) (hpl:∀ s ∈ n.bF,zc n t s<N):
  Gd (rF n) (λr=>r.length=N/\∀ k (I:k<r.length),r[k].c_=I5 n t k):=by
 have h4:=hn.l4;have h5:=hn.l5;unfold rF;refine Gd.bind_eq hg (Gd.bind_eq hN (Gd.nd ⟨by omega,by omega⟩ ?_))
 rw [RN];refine Gd.dE (λi ys s=>(∀ y ∈ ys,y ∈ n.dS)/\s.length=N/\∀ k (I:k<s.length),s[k].c_=0) ?_ ?_ _ _ _ ⟨λ_ h=>h,by simp,?_⟩
 ·rintro i y ys s nx ⟨O,hl,I⟩ hnx
  have hy:=O y (RR ..);obtain ⟨Z,_⟩:=CO ht (hn.gn y hy).1;have J:zc n t y.Node<s.length:=by have:=hpl _ (hn.gn y hy).1; omega
  unfold te;refine Gd.bind_eq Z (Gd.gA J ?_);rw [RN,List.set_set];refine hnx _ ⟨λz hz=>O z (RV _ hz),by simp [hl],λk Y=>?_⟩
  rw [SO] at Y;rw [WY]
  split
  ·exact I _ J
  ·exact I k Y
 ·rintro i s ⟨_,hl,I⟩
  refine Gd.dE (λi ys s=>∃ pre,n.bE=pre++ys/\s.length=N/\∀ k (I:k<s.length),s[k].c_=acc aH.c_ (λl:aH=>zc n t l.Node) k pre) ?_ ?_ _ _ _ ⟨[],rfl,hl,I⟩
  ·rintro i y ys s nx ⟨pre,Z,hl,I⟩ hnx
   have hy:y ∈ n.bE:=by rw [Z]; simp
   obtain ⟨hpp,_⟩:=CO ht (hn.ld y hy).1;have J:zc n t y.Node<s.length:=by have:=hpl _ (hn.ld y hy).1; omega
   have hyd:=hn.ld y hy;have hb1:=D4 (f:=aH.c_) (p:=λl:aH=>zc n t l.Node) (k:=zc n t y.Node) (l:=pre) (λl hl=>(hn.ld l (by rw [Z]; simp [hl])).2.1)
   have hb2:=Gx (f:=aH.c_) (p:=λl:aH=>zc n t l.Node) (k:=zc n t y.Node) (B:=100000) (by omega) (l:=pre) (λl hl=>(hn.ld l (by rw [Z]; simp [hl])).2.2)
   have hpre:pre.length<=12:=by
    have:n.bE.length=pre.length+(ys.length+1):=by rw [Z]; simp
    omega
   have hkk:=I _ J;have hw1:i64.wrap (s[zc n t y.Node].c_+y.c_)=s[zc n t y.Node].c_+y.c_:=bG ⟨by omega,by omega⟩
   unfold tf;refine Gd.bind_eq hpp (Gd.gA J (Gd.gA J ?_));rw [hw1,RN];refine hnx _ ⟨pre++[y],by rw [Z]; simp,by simp [hl],λk Y=>?_⟩
   rw [SO] at Y;rw [WY,zQ]
   by_cases e:zc n t y.Node=k
   ·subst e
    rw [RU rfl,RU rfl,hkk]
   ·rw [RS e,RS e,I k Y]; omega
  ·rintro i s ⟨pre,Z,hl,I⟩
   rw [Ss] at Z;subst Z;exact Gd.ret ⟨hl,I⟩
 ·intro k I
  have e:(List.replicate N ({ jC:=0,rr:=0,c_:=0 }:bL))[k]={ jC:=0,rr:=0,c_:=0 }:=List.getElem_replicate _;rw [e]
theorem Mw (l:List Int):Gd (dL l) (λb=>b=true↔∃ v ∈ l,0<v):=by
 unfold dL eO;refine Gd.eN (P:=λr=>0<=r↔∃ v ∈ l,0<v) ?_ (λr J=>Gd.ret (by simpa using J))
 refine Gd.kz (λm i _=>i+m=l.length/\∀ v ∈ l.take i,v<=0) ?_ ?_ (l.length:Int).toNat 0 () ⟨by omega,by simp⟩
 ·intro m i _ Y ⟨hi,hno⟩ hnx
  unfold fT oR;refine Gd.gA (by omega) (Gd.ite (λh=>Gd.ret ⟨λ_=>⟨l[i],Sk _,by simpa using h⟩,λ_=>by omega⟩) (λh=>hnx () ⟨by omega,?_⟩))
  rw [Sn (by omega)]
  intro v I;rcases RZ.1 I with I | I
  ·exact hno v I
  ·simp at I; subst I; simpa using h
 ·intro i _ ⟨hi,hno⟩
  rw [R3 (by omega)] at hno
  exact Gd.ret ⟨λh=>by omega,λ⟨v,I,h⟩=>by have:=hno v I; omega⟩
abbrev FB (n:Net) (t:aY) (k:Nat) (l:List (bH×Int)):Int:=acc (λz:bH×Int=>z.2) (λz:bH×Int=>zc n t z.1.Node) k l
structure Qo (n:Net) (t:aY) (p:List Int):Prop where
 len:p.length=n.dS.length
 each:∀ z ∈ n.dS.zip p,0<=z.2/\z.2<=100000/\(z.2=0\/z.1.jC<=z.2/\z.2<=z.1.rr)
 Qp:∀ k,FB n t k (n.dS.zip p)=I5 n t k
theorem Jg {n:Net}{t:aY} (hn:pZ n) (hg:eA n=some t) (ht:v_ n t) (hc:bX n=some 0):
  Gd (mW n) (λx=>(x.2=14/\x.1=[])\/(x.2=0/\Qo n t x.1)):=by
 obtain ⟨N,hN,h24,Z⟩:=Jn hg ht;have h4:=hn.l4;have h5:=hn.l5;obtain ⟨r,hr,hlen,hk⟩:=KQ hn hg ht hN h24 Z;unfold mW;refine Gd.bind_eq hc (Gd.ite (λh=>by simp at h) (λ_=>Gd.bind_eq hg (Gd.bind_eq hr ?_)))
 refine Gd.dE (λi ys s=>i+ys.length=r.length/\ys=r.drop i/\s=(r.take i).map bL.c_) ?_ ?_ _ _ _ ⟨by simp,by simp,by simp⟩
 ·rintro i y ys s nx ⟨hi,hys,rfl⟩ hnx
  simp only [RW] at hi;have hlt:i<r.length:=by omega
  rw [Si hlt] at hys;obtain ⟨rfl,rfl⟩:=WT hys;unfold sI;refine Gd.nd (by simp; omega) (hnx _ ⟨by omega,rfl,?_⟩)
  rw [Sn hlt,Tb]; rfl
 rintro i s ⟨hi,_,rfl⟩;rw [R3 (by simp at hi; omega)]
 refine Gd.dE (λi ys (s:List Int×List Int)=>∃ pre,n.dS=pre++ys/\pre.length=i/\s.1.length=N/\s.2.length=pre.length/\(∀ v ∈ s.1,0<=v)/\(∀ z ∈ pre.zip s.2,0<=z.2/\z.2<=100000/\(z.2=0\/z.1.jC<=z.2/\z.2<=z.1.rr)) /\
   (∀ k (hk:k<s.1.length),s.1[k]+FB n t k (pre.zip s.2)=I5 n t k)) ?_ ?_ _ _ _
  ⟨[],rfl,rfl,by simp [hlen],rfl,?_,by simp,?_⟩
 ·rintro i y ys ⟨rest,out⟩ nx ⟨pre,hp,hpi,Y,I,h0,he,hb⟩ hnx
  simp only at Y I h0 he hb;have hy:y ∈ n.dS:=by rw [hp]; simp
  obtain ⟨hpp,_⟩:=CO ht (hn.gn y hy).1;have hlp:zc n t y.Node<rest.length:=by have:=Z _ (hn.gn y hy).1; omega
  have hgy:=hn.gn y hy;have hr0:=h0 rest[zc n t y.Node] (Sk _);have hb0:=hb _ hlp;have hd:=Kr hn t (zc n t y.Node);have hge:0<=FB n t (zc n t y.Node) (pre.zip out):=D4 (λz hz=>(he z hz).1);have hpl10:pre.length<10:=by
   have:n.dS.length=pre.length+(ys.length+1):=by rw [hp]; simp
   omega
  have step:∀ p:Int,0<=p->p<=rest[zc n t y.Node]->p<=y.rr->(p=0\/y.jC<=p/\p<=y.rr) ->
    Gd (mf rest out nx (zc n t y.Node:Int) rest[zc n t y.Node] p) (λx=>(x.2=14/\x.1=[])\/(x.2=0/\Qo n t x.1)):=by
   intro p p0 pr pm pe;have hw:i64.wrap (rest[zc n t y.Node]-p)=rest[zc n t y.Node]-p:=bG ⟨by omega,by omega⟩
   have hz:(pre++[y]).zip (out++[p])=pre.zip out++[(y,p)]:=by rw [List.zip_append I.symm]; rfl
   unfold mf;rw [hw,RN];refine Gd.nd (by simp; omega) (hnx _ ⟨pre++[y],by rw [hp]; simp,by simp [hpi],by simp [Y],by simp [I],?_,?_,?_⟩)
   ·intro v hv
    rcases W5 hv with hv | rfl
    ·exact h0 v hv
    ·omega
   ·simp only
    rw [hz];intro z hzz;rcases RZ.1 hzz with h1 | h1
    ·exact he z h1
    ·rw [R_] at h1
     subst h1;exact ⟨p0,by simp only; omega,pe⟩
   ·intro k J
    simp only [SO] at J;simp only;rw [hz];unfold FB;rw [zQ,WY];have hbk:=hb k J;unfold FB at hbk
    by_cases e:zc n t y.Node=k
    ·subst e
     rw [RU rfl,RU rfl];simp only; omega
    ·rw [RS e,RS e]; omega
  unfold sJ;refine Gd.bind_eq hpp (Gd.gA hlp (Gd.ite (λhle=>?_) (λ_=>step 0 (by omega) (by omega) (by omega) (.inl rfl))))
  have hle:y.jC<=rest[zc n t y.Node]:=by simpa using hle
  exact step (min y.rr rest[zc n t y.Node]) (by omega) (by omega) (by omega) (.inr ⟨by omega,by omega⟩)
 ·rintro i ⟨rest,out⟩ ⟨pre,hp,hpi,Y,I,h0,he,hb⟩
  simp only at Y I h0 he hb;rw [Ss] at hp;subst hp;refine Gd.eN (Mw rest) (λb hb2=>Gd.ite (λ_=>Gd.ret (.inl ⟨rfl,rfl⟩)) (λh=>Gd.ret (.inr ⟨rfl,I,he,λk=>?_⟩)));have hno:∀ v ∈ rest,v=0:=λv hv=>by
   have h1:=h0 v hv
   by_cases e:0<v
   ·have:=hb2.2 ⟨v,hv,e⟩
    rw [this] at h; cases h
   ·omega
  by_cases hkN:k<rest.length
  ·have:=hb k hkN
   rw [hno _ (Sk _)] at this;show FB n t k (n.dS.zip out)=_;omega
  ·have none:∀ {α:Type} (f:α->Int) (p:α->Nat) (l:List α),(∀ x ∈ l,p x<N)->acc f p k l=0:=by
    intro α f p l
    induction l with
    | nil=>intro _; rfl
    | cons x l ih=>
     intro hx;have h1:=hx x (RR ..);have h2:=ih (λx h=>hx x (RV _ h));show (if p x=k then f x else 0)+acc f p k l=0
     rw [RS (by omega),h2]; rfl
   rw [show I5 n t k=0 from none _ _ _ (λl hl=>Z _ (hn.ld l hl).1)];exact none _ _ _ (λz hz=>Z _ (hn.gn _ (List.of_mem_zip hz).1).1)
 ·intro v hv
  obtain ⟨s,hs,rfl⟩:=SC.1 hv;obtain ⟨k,hk2,rfl⟩:=S3.1 hs;rw [hk k hk2]; exact (Kr hn t k).1
 ·intro k J
  simp only [TL] at J;simp only [TZ];rw [hk k J];show I5 n t k+0=_;omega
theorem Gk {α I:Type}{y:α}{v:I}:∀ {pre:List α}{p:List I},p[pre.length]? = some v->(pre++[y]).zip p=pre.zip p++[(y,v)]
 | [],[],h=>by simp at h
 | [],b::p,h=>by
  have:b=v:=by simpa using h
  subst this;simp
 | a::pre,[],h=>by simp at h
 | a::pre,b::p,h=>by
  have J:p[pre.length]? = some v:=by simpa using h
  have:=Gk (y:=y) J;simp [this]
structure JP (n:Net) (t:aY) (p:List Int):Prop where
 len:p.length=n.bF.length
 L5:∀ z ∈ p,-100000<=z/\z<=100000
 Qp:∀ k,ue (EK t) k 0 p=0
theorem GP {n:Net}{t:aY} (h:pK n) (hn:pZ n) (hg:eA n=some t) (ht:v_ n t) (hc:bX n=some 0) {p:List Int} (hp:Qo n t p):
  Gd (sn n p (List.replicate n.bW.length 0)) (λx=>(x.2=4/\x.1=[])\/(x.2=0/\JP n t x.1)):=by
 have l1:=hn.l1;have l4:=hn.l4;have l5:=hn.l5;have l6:=h.l6;unfold sn;refine Gd.bind_eq hc (Gd.ite (λh=>by simp at h) (λ_=>?_))
 refine Gd.ite (λh=>absurd h (by simp [hp.len])) (λ_=>Gd.nd (by omega) ?_)
 rw [RN];refine Gd.dE (λi ys s=>∃ pre,n.dS=pre++ys/\pre.length=i/\s.length=n.bF.length/\(∀ k,ue (EK t) k 0 s=FB n t k (pre.zip p))/\∀ z ∈ s,-(100000*(i:Int))<=z/\z<=100000*(i:Int)) ?_ ?_ n.dS 0 _
  ⟨[],rfl,rfl,by simp,λk=>FR _ _ _ _,λz hz=>by have:=WW hz; omega⟩
 ·rintro i y ys s nx ⟨pre,I,Y,hsl,hb,hs⟩ hnx
  have hy:y ∈ n.dS:=by rw [I]; simp
  obtain ⟨q1,q2⟩:=VR (hn.gn y hy).1;have hil:i<n.dS.length:=by rw [I]; simp; omega
  have hip:i<p.length:=by rw [hp.len]; exact hil
  have hpi2:=RK hip;have hzip:=Gk (y:=y) (pre:=pre) (p:=p) (v:=p[i]) (by rw [Y]; exact hpi2)
  have hmem:(y,p[i]) ∈ n.dS.zip p:=by
   refine S3.2 ⟨i,by simp [hp.len]; omega,?_⟩
   rw [List.getElem_zip]
   congr 1
   have:n.dS[i]? = some y:=by rw [I,Sv (by omega),Y,S7]; rfl
   rw [RK hil] at this;exact RQ this
  have he:=hp.each _ hmem;simp only at he;have J:pos n y.Node<s.length:=by omega
  have hz:=hs _ (Sk J);have fin:Gd (nx (s.set ((pos n y.Node:Int)).toNat (i64.wrap (s[pos n y.Node]+p[i])))) (λx=>(x.2=4/\x.1=[])\/(x.2=0/\JP n t x.1)):=by
   have hw:i64.wrap (s[pos n y.Node]+p[i])=s[pos n y.Node]+p[i]:=bG ⟨by omega,by omega⟩
   rw [hw,RN];refine hnx _ ⟨pre++[y],by rw [I]; simp,by simp [Y],by simp [hsl],λk=>?_,λz hz2=>?_⟩
   ·rw [CA _ _ _ _ _ _ J,hb k,hzip]
    unfold FB;rw [zQ,Se];show _+(if zc n t y.Node=k then _ else _)=_
    split <;> omega
   ·rcases W5 hz2 with Z | Z
    ·have:=hs z Z; omega
    ·subst Z; omega
  unfold tT;refine Gd.gA hip (Gd.ite (λh0=>?_) (λh0=>?_))
  ·exact Gd.bind_eq q1 (Gd.gA J (Gd.gA hip (Gd.gA J fin)))
  ·have h0:p[i]≠0:=R2 h0
   refine Gd.gA hip (Gd.ite (λZ=>?_) (λ_=>Gd.gA hip (Gd.ite (λZ=>?_) (λ_=>Gd.bind_eq q1 (Gd.gA J (Gd.gA hip (Gd.gA J fin)))))))
   ·have:=RT Z; omega
   ·have:=RT Z; omega
 ·rintro i s ⟨pre,I,Y,hsl,hb,hs⟩
  rw [Ss] at I;subst I;have hb2:∀ k,ue (EK t) k 0 s=I5 n t k:=λk=>(hb k).trans (hp.Qp k);have hs2:∀ z ∈ s,-1000000<=z/\z<=1000000:=λz hz=>by have:=hs z hz; omega
  clear hb hs;refine Gd.dE (λi ys s'=>∃ pre,n.bW=pre++ys/\pre.length=i/\s'=s) ?_ ?_ n.bW 0 _ ⟨[],rfl,rfl,rfl⟩
  ·rintro i y ys s nx ⟨pre,I,Y,rfl⟩ hnx
   have hy:y ∈ n.bW:=by rw [I]; simp
   obtain ⟨_,v2,v3⟩:=h.vt y hy;obtain ⟨q1,q2⟩:=VR v2;have hil:i<n.bW.length:=by rw [I]; simp; omega
   have hst:(List.replicate n.bW.length (0:Int))[i]? = some 0:=by rw [Uk,RU hil]
   have J:pos n y.Node<s.length:=by omega
   have hz:=hs2 _ (Sk J);have hch:0<=y.sZ/\y.sZ<=100000/\0<=y.Discharge/\y.Discharge<=100000:=by
    simp [DL,aW,bI] at v3;omega
   have hw:i64.wrap (0-y.sZ)=0-y.sZ:=bG ⟨by omega,by omega⟩
   have hw2:i64.wrap (s[pos n y.Node]+0)=s[pos n y.Node]:=by rw [bG ⟨by omega,by omega⟩]; omega
   unfold tU;rw [hw];refine Gd.ix (by omega) (by rw [RN]; exact hst) (Gd.ite (λZ=>?_) (λ_=>Gd.ix (by omega) (by rw [RN]; exact hst) (Gd.ite (λZ=>?_) (λ_=>Gd.bind_eq q1 (Gd.gA J (Gd.ix (by omega) (by rw [RN]; exact hst) (Gd.gA J ?_)))))))
   ·have:=RT Z; omega
   ·have:=RT Z; omega
   ·rw [hw2,RN]
    exact hnx _ ⟨pre++[y],by rw [I]; simp,by simp [Y],CT (RK J)⟩
  ·rintro i _ ⟨_,_,_,rfl⟩
   refine Gd.dE (λi ys s'=>∃ pre,n.bE=pre++ys/\pre.length=i/\s'.length=n.bF.length/\(∀ k,ue (EK t) k 0 s'=I5 n t k-acc aH.c_ (λl:aH=>zc n t l.Node) k pre)/\∀ z ∈ s',-(1000000+100000*(i:Int))<=z/\z<=1000000) ?_ ?_ n.bE 0 _
    ⟨[],rfl,rfl,hsl,λk=>by rw [hb2 k]; show _=I5 n t k-0; omega,λz hz=>by have:=hs2 z hz; omega⟩
   ·rintro i y ys s' nx ⟨pre,I,Y,hsl',hb',hs'⟩ hnx
    have hy:y ∈ n.bE:=by rw [I]; simp
    obtain ⟨q1,q2⟩:=VR (hn.ld y hy).1;have hd:=(hn.ld y hy).2;have hil:i<n.bE.length:=by rw [I]; simp; omega
    have J:pos n y.Node<s'.length:=by omega
    have hz:=hs' _ (Sk J);have hw:i64.wrap (s'[pos n y.Node]-y.c_)=s'[pos n y.Node]-y.c_:=bG ⟨by omega,by omega⟩
    unfold tV;refine Gd.bind_eq q1 (Gd.gA J (Gd.gA J ?_));rw [hw,RN];refine hnx _ ⟨pre++[y],by rw [I]; simp,by simp [Y],by simp [hsl'],λk=>?_,λz hz2=>?_⟩
    ·rw [CA _ _ _ _ _ _ J,hb' k,zQ,Se]
     show _+(if zc n t y.Node=k then _ else _)=_
     split <;> omega
    ·rcases W5 hz2 with Z | Z
     ·have:=hs' z Z; omega
     ·subst Z; omega
   ·rintro i s' ⟨pre,I,Y,hsl',hb',hs'⟩
    rw [Ss] at I;subst I;refine Gd.dE (λi ys _=>∃ pre,s'=pre++ys/\∀ z ∈ pre,-100000<=z/\z<=100000) ?_ ?_ s' 0 _ ⟨[],rfl,λz hz=>by simp at hz⟩
    ·rintro i y ys _ nx ⟨pre,I,hr⟩ hnx
     unfold tW;refine Gd.ite (λ_=>Gd.ret (.inl ⟨rfl,rfl⟩)) (λZ=>hnx () ⟨pre++[y],by rw [I]; simp,λz hz=>?_⟩)
     simp only [WG,XK] at Z;rcases RZ.1 hz with h2 | h2
     ·exact hr z h2
     ·rw [R_] at h2
      subst h2; omega
    ·rintro i _ ⟨pre,I,hr⟩
     rw [Ss] at I;subst I;exact Gd.ret (.inr ⟨rfl,hsl',hr,λk=>by rw [hb' k]; show I5 n t k-I5 n t k=0; omega⟩)
theorem Je {n:Net}{t:aY} (h:pK n) (hn:pZ n) (Y:eA n=some t) (ht:v_ n t) (J:bX n=some 0):
  Gd (gF n) (λx=>(x.2≠0/\x.1=[])\/(x.2=0/\JP n t x.1)):=by
 have l6:=h.l6;unfold gF;refine Gd.eN (Jg hn Y ht J) (λx hx=>?_);rcases hx with ⟨e,_⟩ | ⟨e,Z⟩
 ·rw [e]
  exact Gd.ite (λ_=>Gd.ret (.inl ⟨by simp,rfl⟩)) (λh=>by simp at h)
 ·rw [e]
  refine Gd.ite (λh=>by simp at h) (λ_=>Gd.nd (by omega) ?_)
  rw [RN];refine Gd.eN (GP h hn Y ht J Z) (λy I=>Gd.ret ?_);rcases I with ⟨e1,e2⟩ | I
  ·exact .inl ⟨by simp only; omega,e2⟩
  ·exact .inr I
theorem I_ {n:Net}{t:aY} (hg:eA n=some t) (ht:v_ n t) (hn:pZ n) (hc:bX n=some 0) {p:List Int} (hp:JP n t p):ql n p=some 0:=by
 have l1:=hn.l1;rw [<- Gd.eq];unfold ql;refine Gd.bind_eq hc (Gd.ite (λh=>by simp at h) (λ_=>Gd.ite (λh=>absurd h (by simp [hp.len])) (λ_=>Gd.bind_eq hg ?_)))
 refine Gd.dE (λi ys (l:List (Int×Int))=>∃ pre,p=pre++ys/\pre.length=i/\EY l/\(∀ z ∈ l,∃ k:Nat,z.1=(k:Int))/\∀ k:Nat,(sf l (k:Int)).getD 0=ue (EK t) k 0 pre) ?_ ?_ p 0 _ ⟨[],rfl,rfl,EY.nil,λz Y=>by simp at Y,λk=>by simp [sf,xn,ue]⟩
 ·rintro i y ys l nx ⟨pre,I,Z,hk,J,hs⟩ hnx
  have hy:=hp.L5 y (by rw [I]; simp)
  have hpl:p.length=pre.length+(ys.length+1):=by rw [I]; simp
  have hpn:=hp.len;obtain ⟨v,v1,v2,v3,v4⟩:=Ha ht (show i<n.bF.length by omega)
  have hbd:=Ia (EK t) (EK t i) (B:=100000) (by omega) pre 0 (λz Y=>hp.L5 z (by rw [I]; simp [Y]))
  have hw:i64.wrap ((sf l (EK t i:Int)).getD 0+y)=(sf l (EK t i:Int)).getD 0+y:=by
   rw [hs (EK t i)];exact bG ⟨by omega,by omega⟩
  unfold uP;refine Gd.ite (λh=>?_) (λ_=>Gd.ix (by omega) (by rw [RN]; exact v1) (Gd.ix (by omega) (by rw [RN]; exact v3) ?_))
  ·exfalso
   simp only [Tt,Sy] at h;omega
  ·rw [hw]
   refine hnx _ ⟨pre++[y],by rw [I]; simp,by simp [Z],(hk.put _ _).1,λz Y=>?_,λk=>?_⟩
   ·rcases ((hk.put _ _).2 z).1 Y with h1 | h1
    ·exact ⟨EK t i,by rw [h1]⟩
    ·exact J z h1.1
   ·rw [hk.HU,FQ]
    show _=_+((if EK t (0+pre.length)=k then y else 0)+0)
    rw [Se,Z]
    by_cases e:EK t i=k
    ·subst e
     rw [RU rfl,RU rfl,TO,hs]; omega
    ·rw [RS (by omega),RS e,hs]; omega
 ·rintro i l ⟨pre,I,Z,hk,J,hs⟩
  rw [Ss] at I;subst I;have:(l.any λp=>!decide (p.2=0))=false:=by
   rw [List.any_eq_false];intro z Y;obtain ⟨k,hk2⟩:=J z Y;have h1:sf l (k:Int)=some z.2:=hk.find.2 (by rw [<- hk2]; exact Y)
   have h2:=hs k;rw [h1,TO,hp.Qp k] at h2;simp [h2]
  rw [this];exact Gd.ret rfl
theorem Ko {s:RI} (h:∃ q,fits q/\s=ctext q):s.size<=maxLen:=by
 obtain ⟨q,I,rfl⟩:=h;have:=GI I;unfold maxLen; omega
theorem xv (n:Net) (hz:qL n):(∃ e,e≠0/\gF n=some ([],e)) \/
  (∃ t p s,pK n/\pZ n/\eA n=some t/\v_ n t/\JP n t p/\gF n=some (p,0)/\ql n p=some 0/\qv n p=some (s,0)/\Pq n t s/\True):=by
 obtain ⟨e,he,hok⟩:=Wx n hz
 by_cases Z:e=0
 ·subst Z
  have hV:=hok rfl;have hn:=hV.ok hz;obtain ⟨t,hg,ht⟩:=Nn hn;obtain ⟨⟨p,x⟩,hi,hx⟩:=Je hV hn hg ht he;rcases hx with ⟨J,hp⟩ | ⟨hx,I⟩
  ·left
   simp only at J hp;subst hp;exact ⟨x,J,hi⟩
  ·right
   simp only at hx I;subst hx;have hc:=I_ hg ht hn he I;obtain ⟨⟨s,y⟩,hs,hy,Y⟩:=LA hV hn hg ht I.len I.L5 hc;simp only at hy Y;subst hy;exact ⟨t,p,s,hV,hn,hg,ht,I,hi,hc,hs,Y,RM⟩
 ·left
  refine ⟨e,Z,?_⟩;have hsh:mW n=some ([],e):=by
   rw [<- Gd.eq];unfold mW;exact Gd.bind_eq he (Gd.ite (λ_=>Gd.ret rfl) (λh=>absurd (by simpa using h) Z))
  rw [<- Gd.eq];unfold gF;exact Gd.bind_eq hsh (Gd.ite (λ_=>Gd.ret rfl) (λh=>absurd (by simpa using h) Z))
instance QA (p:RI) (l:List RI):Decidable (p ∈ l):=@List.instDecidableMemOfLawfulBEq _ instBEqOfDecidableEq inferInstance p l
theorem ss (l:List RI) (p:RI):bJ l p=some (decide (p ∈ l)):=by
 obtain ⟨b,e,h⟩:=vf l p;rw [e]
 congr 1
 cases b <;> simp_all
theorem B4 {α:Type} (p:α->Option Bool) (kp:α->Bool) (hp:∀ x,p x=some (!kp x)) (z:α) (A:List α) (hA:A.length<=100000):
  Gd ((kz (λk (_:Unit) n=>idx A (k:Int) λy=>(p y).bind λr=>if r then (some (k:Int)) else (n ())) (λ_=>some (-1)) ((A.length:Int)).toNat 0 ()).bind λr=>
   if decide (r=(-1)) then (some A) else (fG (λ(s:List α×Int×Int) n=>if decide (s.2.2<(s.1.length:Int)) then (idx s.1 s.2.2 λy=>(p y).bind λr=>if !r then (idx s.1 s.2.1 λ_=>n (s.1.set (s.2.1).toNat y,i64.wrap (s.2.1+1),i64.wrap (s.2.2+1))) else (n (s.1,s.2.1,i64.wrap (s.2.2+1))))
    else (cE (0<=s.2.1/\s.2.1<=(s.1.length:Int)) (cE (0<=s.2.1/\s.2.1<=((s.1.take (s.2.1).toNat++List.replicate (s.1.length-(s.2.1).toNat) z).length:Int)) (some (tG (s.1.take (s.2.1).toNat++List.replicate (s.1.length-(s.2.1).toNat) z) 0 (s.2.1).toNat))))) eI (A,r,i64.wrap (r+1)))) (λr=>r=A.filter kp):=by
 refine Gd.eN (P:=λr=>(r = -1/\∀ x ∈ A,kp x=true)\/∃ (i:Nat) (h:i<A.length),r=i/\kp A[i]=false/\∀ x ∈ A.take i,kp x=true) ?_ (λr hr=>?_)
 ·refine Gd.kz (λm i _=>i+m=A.length/\∀ x ∈ A.take i,kp x=true) ?_ ?_ (A.length:Int).toNat 0 () ⟨by omega,by simp⟩
  ·intro m i _ nx ⟨hi,hno⟩ hnx
   have hlt:i<A.length:=by omega
   refine Gd.gA hlt ?_;rw [hp];refine Gd.ite (λh=>Gd.ret (.inr ⟨i,hlt,rfl,by simpa using h,hno⟩)) (λh=>hnx () ⟨by omega,?_⟩)
   rw [Sn hlt];intro x hx;rcases RZ.1 hx with hx | hx
   ·exact hno x hx
   ·simp at hx; subst hx; simpa using h
  ·intro i _ ⟨hi,hno⟩
   rw [R3 (by omega)] at hno
   exact Gd.ret (.inl ⟨rfl,hno⟩)
 ·rcases hr with ⟨rfl,hall⟩ | ⟨i,hi,rfl,hki,hpre⟩
  ·exact Gd.ite (λ_=>Gd.ret (Wr.2 hall).symm) (λh=>by simp at h)
  ·refine Gd.ite (λh=>by simp at h) (λ_=>?_)
   have hw0:i64.wrap ((i:Int)+1)=((i+1:Nat):Int):=by rw [bG ⟨by omega,by omega⟩]; omega
   rw [hw0];have Z:A.take i=(A.take (i+1)).filter kp:=by
    rw [Sn hi,Ts,Wr.2 hpre];simp [WX,hki]
   refine Gd.fG (λ(s:List α×Int×Int)=>∃ p q:Nat,s.2.1=p/\s.2.2=q/\p<q/\q<=A.length/\s.1.length=A.length/\s.1.take p=(A.take q).filter kp/\s.1.drop q=A.drop q) (λs=>A.length-s.2.2.toNat) ?_ eI _ ⟨i,i+1,rfl,rfl,by omega,by omega,rfl,Z,rfl⟩ (by unfold eI; omega)
   rintro ⟨l,n1,n2⟩ nx ⟨p,q,h1,h2,hpq,hqA,hl,I,Y⟩ hn;simp only at h1 h2 hl I Y;subst h1; subst h2
   have hwq:i64.wrap ((q:Int)+1)=((q+1:Nat):Int):=by rw [bG ⟨by omega,by omega⟩]; omega
   have hwp:i64.wrap ((p:Int)+1)=((p+1:Nat):Int):=by rw [bG ⟨by omega,by omega⟩]; omega
   rw [hwq];refine Gd.ite (λh=>?_) (λh=>?_)
   ·have hq:q<l.length:=by
     have:(q:Int)<((l.length:Nat):Int):=by simpa using h
     omega
    have hqa:q<A.length:=by omega
    have hv:l[q]=A[q]:=by
     have e1:=Si hq;have e2:=Si hqa;rw [Y,e2] at e1;exact (WT e1).1.symm
    have hd2:l.drop (q+1)=A.drop (q+1):=by
     have:=R7 (List.drop 1) Y;simpa [TA] using this
    have J:(A.take (q+1)).filter kp=(A.take q).filter kp++(if kp A[q] then [A[q]] else []):=by
     rw [Sn hqa,Ts]
     congr 1
     simp only [WX,List.filter_nil]
    refine Gd.gA hq ?_;rw [hp,hv];refine Gd.ite (λhk=>Gd.gA (show p<l.length by omega) ?_) (λhk=>?_)
    ·have hk:kp A[q]=true:=by simpa using hk
     rw [hwp,RN];refine hn _ ⟨p+1,q+1,rfl,rfl,by omega,by omega,by simpa using hl,?_,?_⟩ (by simp only [RN]; omega)
     ·simp only
      have hp:p<(l.set p A[q]).length:=by simp; omega
      rw [Sn hp,Vn,J,RU hk,UA (R9 p),I]
     ·simp only
      rw [TP (by omega),hd2]
    ·have hk:kp A[q]=false:=by simpa using hk
     refine hn _ ⟨p,q+1,rfl,rfl,by omega,by omega,hl,?_,hd2⟩ (by simp only [RN]; omega)
     simp only;rw [J,RS (by simp [hk]),Ss,I]
   ·have hq:l.length<=q:=by
     have:((l.length:Nat):Int)<=(q:Int):=by simpa using h
     omega
    have hqe:q=A.length:=by omega
    refine Gd.nd ⟨WM p,show (p:Int)<=((l.length:Nat):Int) by omega⟩ (Gd.nd ⟨WM p,?_⟩ (Gd.ret ?_))
    ·simp only [RN,R5,Sm,SZ]; omega
    ·unfold tG
     rw [S8,UI,RN,List.take_append_of_le_length (by simp; omega),VT,Nat.min_self,I,hqe,TE]
def FI (W:List BA) (x:aH):Bool:=decide (x.Name ∈ W)
theorem del_eq (W:List BA) (x:aH):ml x W=some (!FI W x):=by
 unfold ml;rw [ss]; rfl
theorem GJ (W:List BA) (A:List aH) (hA:A.length<=1000):Gd (dQ A W) (λr=>r=A.filter (FI W)):=
 B4 (λy=>ml y W) (FI W) (del_eq W) (aH.mk ⟨#[]⟩ ⟨#[]⟩ 0) A (by omega)
theorem JB {l:List RI}{k:Nat}:tG l 0 k=l.take k:=by unfold tG; simp
theorem JH {n:Net} (Y:qL n) (on:List RI):Gd (eD n on) (λe=>e=0->bX n=some 0):=by
 obtain ⟨e,he,_⟩:=Wx n Y;unfold eD;refine Gd.bind_eq he (Gd.ite (λh=>Gd.ret (λJ=>by subst J; simp at h)) (λh=>?_))
 have J:e=0:=by simpa using h
 subst J;refine Gd.dE (Q:=λe=>e=0->bX n=some 0) (λi (ys:List RI) (_:Unit)=>i+ys.length=on.length) ?_ (λ_ _ _=>Gd.ret (λ_=>he)) on 0 () (by simp)
 intro i y ys _ Z hi I;simp only [RW] at hi;unfold qB;refine Gd.eN (P:=λ_=>True) ?_ (λb _=>Gd.ite (λ_=>Gd.ret (λh=>by simp at h)) (λ_=>?_))
 ·unfold cI cN
  refine Gd.eN (P:=λ_=>True) ?_ (λ_ _=>Gd.ret RM);refine Gd.kz (Q:=λ_=>True) (λm i (_:Unit)=>i+m=n.bE.length) ?_ (λ_ _ _=>Gd.ret RM) ((n.bE.length:Int)).toNat 0 () (by omega)
  intro m i _ Z hi I;unfold dI;exact Gd.gA (by omega) (Gd.ite (λ_=>Gd.ret RM) (λ_=>I () (by omega)))
 ·refine Gd.nd (by omega) ?_
  rw [ss];exact Gd.ite (λ_=>Gd.ret (λh=>by simp at h)) (λ_=>I () (by omega))
def rW (n:Net) (on:List RI):Net:=aD.mk n.bF n.aO n.aJ n.dS (n.bE.filter (FI on)) n.bW
theorem Iy {n:Net} (h:pK n) (on:List RI):pS n on=some (rW n on):=by
 have:=h.l1; have:=h.l2; have:=h.l3; have:=h.l4; have:=h.l5; have:=h.l6
 rw [<- Gd.eq];unfold pS kL;refine Gd.eN (P:=λr=>r=n) (Gd.nd (by omega) (Gd.nd (by omega) (Gd.nd (by omega) (Gd.nd (by omega) (Gd.nd (by omega) (Gd.nd (by omega) (Gd.ret rfl))))))) (λr I=>?_)
 subst I;refine Gd.eN (GJ on r.bE (by omega)) (λl hl=>Gd.ret ?_)
 rw [hl]; rfl
theorem qL.rW {n:Net} (h:qL n) (on:List RI):qL (rW n on):=
 ⟨h.nd,h.sw,h.br,h.gn,λx I=>h.ld x (S0.1 I).1,h.st⟩
theorem Mb {n:Net}{on:List RI}{e:Int} (h:eD n on=some e) (I:e≠0):n_ n on=some (aD.mk [] [] [] [] [] [],e):=by
 rw [<- Gd.eq];unfold n_;exact Gd.bind_eq h (Gd.ite (λ_=>Gd.ret rfl) (λk=>absurd (by simpa using k) I))
theorem D3 {n:Net} (I:pK n) {on:List RI} (h:eD n on=some 0):n_ n on=some (rW n on,0):=by
 rw [<- Gd.eq];unfold n_;exact Gd.bind_eq h (Gd.ite (λk=>by simp at k) (λ_=>Gd.bind_eq (Iy I on) (Gd.ret rfl)))
def AF (z:aQ×Rat):Prop:=(z.1.uu:Rat)<OS z.2
open Classical in
noncomputable def zi (z:aQ×Rat):List RI:=if AF z then [z.1.Name] else []
theorem AO {z:aQ×Rat} (h:AF z):zi z=[z.1.Name]:=RU h
theorem CM {z:aQ×Rat} (h:¬ AF z):zi z=[]:=RS h
theorem Io:∀ {l:List RI},(∀ x ∈ l,∃ q,fits q/\x=ctext q)->∃ qs:List Rat,l=qs.map ctext/\∀ q ∈ qs,fits q
 | [],_=>⟨[],rfl,λq h=>by cases h⟩
 | x::l,h=>by
  obtain ⟨q,Y,rfl⟩:=h x (RR ..);obtain ⟨qs,rfl,J⟩:=Io (l:=l) (λy Z=>h y (RV _ Z));refine ⟨q::qs,rfl,λp I=>?_⟩;rcases SA.1 I with rfl | I
  ·exact Y
  ·exact J p I
theorem L1 {I:List aQ}{qs:List Rat}{i:Nat} (h:i<I.length) (Y:i<qs.length):
  ((I.zip qs).take (i+1)).flatMap zi=((I.zip qs).take i).flatMap zi++zi (I[i],qs[i]):=by
 have J:i<(I.zip qs).length:=by simp; omega
 rw [Sn J,U2,List.getElem_zip];simp
theorem EH {n:Net} (hV:pK n) {qs:List Rat} (hl:qs.length=n.aJ.length) (hf:∀ q ∈ qs,fits q):
  oa n (qs.map ctext)=some ((n.aJ.zip qs).flatMap zi):=by
 have h3:=hV.l3;rw [<- Gd.eq];unfold oa;refine Gd.dE (λi (ys:List aQ) (w:List RI)=>i+ys.length=n.aJ.length/\n.aJ.drop i=ys/\w.length<=i/\w=((n.aJ.zip qs).take i).flatMap zi) ?_ ?_ n.aJ 0 [] ⟨by simp,rfl,by simp,by simp⟩
 ·rintro i y ys w nx ⟨hi,hd,hw,hv⟩ hnx
  simp only [RW] at hi;have J:i<n.aJ.length:=by omega
  have Y:i<qs.length:=by omega
  have hy:n.aJ[i]=y:=by
   have e:=Si J;rw [hd] at e; exact (WT e).1.symm
  have hd':n.aJ.drop (i+1)=ys:=by
   have:=R7 (List.drop 1) hd;simpa [TA] using this
  have hL:=(IP hV (Sk J)).l;have Z:=L1 J Y;rw [<- hv] at Z;unfold tz pw;refine Gd.gA (by simpa using Y) ?_
  rw [TZ];refine Gd.eN (F0 (hf _ (Sk Y))) (λa ha=>Gd.eN (Ip ha.1 ha.2.1 (by omega)) (λb hb=>?_))
  rw [<- hy];refine Gd.eN (vZ ⟨by omega,by omega⟩) (λc hc=>Gd.eN (EN hb.1 hc.1 hb.2.1 hc.2.1 (by omega)) (λd I=>?_))
  rw [hb.2.2,hc.2.2,ha.2.2] at I;have hov:0<d↔AF (n.aJ[i],qs[i]):=I.1;clear I;refine Gd.ite (λh=>Gd.nd ?_ (hnx _ ⟨by omega,hd',?_,?_⟩)) (λh=>hnx _ ⟨by omega,hd',by omega,?_⟩)
  ·simp only [RW,W3]; omega
  ·simp; omega
  ·rw [Z,AO (hov.1 (RT h))]
  ·rw [Z,CM (λk=>R2 h (hov.2 k)),Ss]
 ·rintro i w ⟨hi,_,_,hv⟩
  rw [R3 (by simp at hi ⊢; omega)] at hv
  exact Gd.ret hv
theorem G9 {c:Net} (hz:qL c):∃ e,lS c=some e:=by
 suffices h:Gd (lS c) (λ_=>True) by
  obtain ⟨e,he,_⟩:=h;exact ⟨e,he⟩
 unfold lS;refine Gd.eN (P:=λ_=>True) ?_ (λr _=>Gd.ite (λ_=>Gd.ret RM) (λ_=>Gd.ret RM));unfold fZ;rcases xv c hz with ⟨x,hx,hi⟩ | ⟨t,p,s,hV,hn,hg,ht,hb,hi,hfc,hs,I,hv⟩
 ·exact Gd.bind_eq hi (Gd.ite (λ_=>Gd.ret RM) (λk=>absurd (by simpa using k) hx))
 ·obtain ⟨qs,hq,J⟩:=Io I.f
  have Y:qs.length=c.aJ.length:=by
   have:=I.fl;rw [hq,TL] at this;exact this
  have Z:=EH hV (qs:=qs) Y J;rw [<- hq] at Z;exact Gd.bind_eq hi (Gd.ite (λk=>by simp at k) (λ_=>Gd.bind_eq hs (Gd.ite (λk=>by simp at k) (λ_=>Gd.bind_eq Z (Gd.ret RM)))))
def CJ (n:Net) (l:List RI):Prop:=lS (rW n l)=some 0
def nm (n:Net):List RI:=n.bE.map (·.Name)
theorem La {n:Net} (h:pK n):(nm n).Nodup:=by
 have:=h.nd;unfold names at this;exact (SM.1 (SM.1 this).1).2.1
theorem zE (n:Net):(nm n).length=n.bE.length:=by simp [nm]
theorem Lx (l:List RI):tG l 0 ((l.length:Int)).toNat=l:=by simp [tG]
structure Found (n:Net) (l out:List RI):Prop where
 ext:out.take l.length=l
 len:out.length=n.bE.length
 ok:∀ k,l.length<=k->k<=out.length->CJ n (out.take k)
 set:l.Nodup->(∀ x ∈ l,x ∈ nm n)->out.Nodup/\∀ x ∈ out,x ∈ nm n

theorem JW {n:Net}{on:List RI}{e:Int} (h:eD n on=some e) (I:e≠0):dW n on=some (cH.mk [] [],[],e):=by
 rw [<- Gd.eq];unfold dW;exact Gd.bind_eq (Mb h I) (Gd.ite (λ_=>Gd.ret rfl) (λk=>absurd (by simpa using k) I))
theorem IE {n:Net} (J:pK n) {on:List RI} (h:eD n on=some 0) {e:Int} (I:e≠0) (hi:gF (rW n on)=some ([],e)):
  dW n on=some (cH.mk [] [],[],e):=by
 rw [<- Gd.eq];unfold dW fZ;exact Gd.bind_eq (D3 J h) (Gd.ite (λk=>by simp at k) (λ_=>Gd.eN (P:=λr=>r=(cH.mk [] [],[],e)) (Gd.bind_eq hi (Gd.ite (λ_=>Gd.ret rfl) (λk=>absurd (by simpa using k) I))) (λr Y=>by subst Y; exact Gd.ret rfl)))
theorem JX {n:Net} (I:pK n) {on:List RI} (h:eD n on=some 0) {p:List Int}{s:cH}{ov:List RI}
  (hi:gF (rW n on)=some (p,0)) (hs:qv (rW n on) p=some (s,0)) (J:oa (rW n on) s.iI=some ov):
  dW n on=some (s,ov,0):=by
 rw [<- Gd.eq];unfold dW fZ;exact Gd.bind_eq (D3 I h) (Gd.ite (λk=>by simp at k) (λ_=>Gd.eN (P:=λr=>r=(s,ov,0)) (Gd.bind_eq hi (Gd.ite (λk=>by simp at k) (λ_=>Gd.bind_eq hs (Gd.ite (λk=>by simp at k) (λ_=>Gd.bind_eq J (Gd.ret rfl)))))) (λr Y=>by subst Y; exact Gd.ret rfl)))
theorem seq_eq (l:List RI):iF l l=some true:=by
 rw [<- Gd.eq];unfold iF;refine Gd.ite (λh=>by simp at h) (λ_=>?_)
 refine Gd.kz (Q:=λx=>x=true) (λm i (_:Unit)=>i+m=l.length) ?_ (λ_ _ _=>Gd.ret rfl) ((l.length:Int)).toNat 0 () (by omega)
 intro m i _ J hi I;unfold lV;exact Gd.gA (by omega) (Gd.gA (by omega) (Gd.ite (λh=>by simp at h) (λ_=>I () (by omega))))
theorem JI {n:Net} (hc:bX n=some 0) (l:List RI) (hl:l.length<=1000) (hnd:l.Nodup) (hs:∀ x ∈ l,x ∈ nm n):eD n l=some 0:=by
 rw [<- Gd.eq];unfold eD;refine Gd.bind_eq hc (Gd.ite (λh=>by simp at h) (λ_=>?_))
 refine Gd.dE (Q:=λe=>e=0) (λi (ys:List RI) (_:Unit)=>i+ys.length=l.length/\l.drop i=ys) ?_ (λ_ _ _=>Gd.ret rfl) l 0 () ⟨by simp,rfl⟩
 rintro i y ys _ nx ⟨hi,hd⟩ I;simp only [RW] at hi;have Y:i<l.length:=by omega
 have hy:l[i]=y:=by
  have e:=Si Y;rw [hd] at e; exact (WT e).1.symm
 have hd':l.drop (i+1)=ys:=by
  have:=R7 (List.drop 1) hd;simpa [TA] using this
 have Z:y ∈ nm n:=hs y (hy▸Sk Y);obtain ⟨q,hq,J⟩:=S3.1 Z;rw [zE] at hq;have J:n.bE[q].Name=y:=by simpa [nm] using J
 unfold qB;refine Gd.eN (P:=λb=>b=true) ?_ (λb hb=>?_)
 ·unfold cI cN
  refine Gd.eN (P:=λr=>(0:Int)<=r) ?_ (λr hr=>Gd.ret (by simpa using hr))
  refine Gd.kz (Q:=λr=>(0:Int)<=r) (λm i (_:Unit)=>i+m=n.bE.length/\i<=q) ?_ (λi _ h=>by omega) ((n.bE.length:Int)).toNat 0 () ⟨by omega,by omega⟩
  rintro m i _ nx ⟨hi,hiq⟩ I;unfold dI;refine Gd.gA (by omega) (Gd.ite (λ_=>Gd.ret (by omega)) (λh=>I () ⟨by omega,?_⟩))
  refine Nat.lt_of_le_of_ne hiq (λe=>?_);subst e;simp [pq,J] at h
 ·subst hb
  refine Gd.ite (λh=>by simp at h) (λ_=>Gd.nd (by omega) ?_)
  rw [ss,JB,RN];refine Gd.ite (λh=>?_) (λ_=>I () ⟨by omega,hd'⟩)
  exfalso;have h:=RT h;obtain ⟨p,hp,hp2⟩:=List.mem_take_iff_getElem.1 h;rw [<- hy] at hp2;have:p=i:=(List.getElem_inj hnd).1 hp2;omega
def xG (off:List BA) (x:BA):Bool:=!decide (x ∈ off)
theorem MQ (off:List BA) (x:BA):jJ x off=some (!xG off x):=by
 unfold jJ xG;rw [ss,Bool.not_not]; rfl
theorem Jv (off A:List BA) (hA:A.length<=1000):Gd (dR A off) (λr=>r=A.filter (xG off)):=
 B4 (λy=>jJ y off) (xG off) (MQ off) ⟨#[]⟩ A (by omega)
def C7 (n:Net) (names off:List BA):Prop:=CJ n (names.filter (xG off))
theorem II {n:Net} (Y:qL n) (I:pK n) (names off:List BA) (hl:names.length<=1000):Gd (n9 off names n) (λb=>b=true↔C7 n names off):=by
 unfold n9;refine Gd.nd (by omega) (Gd.eN (Jv off names hl) (λr J=>?_))
 subst J;obtain ⟨e,he⟩:=G9 (Y.rW (names.filter (xG off)));refine Gd.bind_eq (Iy I _) (Gd.bind_eq he (Gd.ret ?_));unfold C7 CJ;rw [he];constructor
 ·intro h; rw [RT h]
 ·intro h; exact XL (RQ h)
theorem LC {y:BA}{s L:List BA}{m:Nat} (h:s.Sublist (y::L)) (hl:s.length=m+1):s.Sublist L\/∃ I,s=y::I/\I.Sublist L/\I.length=m:=by
 cases h with
 | cons _ h=>exact .inl h
 | cons_cons _ h=>exact .inr ⟨_,rfl,h,by simpa using hl⟩
theorem B1 {n:Net} (hz:qL n) (hV:pK n) (names:List BA) (hl:names.length<=12):∀ (m:Nat) (off:List BA) (i:Nat),off.length+m<=1000->i<=names.length->∀ f,m<f ->
  Gd (dK f names off (i:Int) (m:Int) names n) (λr=>
   (r.2=true->∃ s,r.1=off++s/\s.Sublist (names.drop i)/\s.length=m/\C7 n names r.1) /\
   (r.2=false->∀ s,s.Sublist (names.drop i)->s.length=m->¬ C7 n names (off++s)))
 | m,off,i,ho,hi,0,hf=>by omega
 | m,off,i,ho,hi,f+1,hf=>by
  show Gd (eF (dK f) names off i m names n) _;unfold eF;refine Gd.ite (λh=>?_) (λh=>?_)
  ·have O:m=0:=by have:=RT h; omega
   subst O;refine Gd.eN (II hz hV names off (by omega)) (λb hb=>Gd.ret ⟨λh=>⟨[],by simp,by simp,rfl,hb.1 h⟩,λh s hs h0 Z=>?_⟩)
   have hs0:=Sg h0;subst hs0;rw [Ss] at Z;have:=hb.2 Z;simp only at h;rw [h] at this; cases this
  ·obtain ⟨k,rfl⟩:∃ k,m=k+1:=⟨m-1,by have:=R2 h; omega⟩
   have hwm:i64.wrap (((k+1:Nat):Int)-1)=(k:Int):=by rw [bG ⟨by omega,by omega⟩]; omega
   refine Gd.fG (λ(s:Int)=>∃ j:Nat,s=j/\i<=j/\j<=names.length/\∀ s,s.Sublist (names.drop i)->s.length=k+1->¬ C7 n names (off++s)\/s.Sublist (names.drop j)) (λs=>names.length-s.toNat) ?_ eI _ ⟨i,rfl,R9 _,hi,λs hs _=>.inr hs⟩ (by unfold eI; omega)
   rintro _ nx ⟨j,rfl,hij,hj,hI⟩ hn;unfold jK;refine Gd.ite (λh=>?_) (λh=>Gd.ret ⟨λh=>by simp at h,λ_ s hs J Z=>?_⟩)
   ·have I:j<names.length:=by have:=RT h; omega
    have hwj:i64.wrap ((j:Int)+1)=((j+1:Nat):Int):=by rw [bG ⟨by omega,by omega⟩]; omega
    have hd:=Si I;rw [hwj,hwm];refine Gd.nd (by omega) (Gd.gA I ?_)
    rw [Lx];refine Gd.nd (by simp only [RW,W3]; omega) ?_
    refine Gd.eN (B1 hz hV names hl k (off++[names[j]]) (j+1) (by simp; omega) I f (by omega)) (λr hr=>Gd.ite (λh=>Gd.ret ⟨λ_=>?_,λh=>by simp at h⟩) (λh=>hn _ ⟨j+1,rfl,by omega,I,λs hs J=>?_⟩ (by simp only [RN]; omega)))
    ·obtain ⟨s,h1,h2,h3,h4⟩:=hr.1 h
     refine ⟨names[j]::s,by simp [h1],?_,by simp [h3],h4⟩
     refine (h2.cons_cons _).trans ?_;rw [<- hd];obtain ⟨d,rfl⟩:∃ d,j=i+d:=⟨j-i,by omega⟩
     rw [<- TA];exact List.drop_sublist _ _
    ·rcases hI s hs J with Y | Y
     ·exact .inl Y
     ·rw [hd] at Y
      rcases LC Y J with Y | ⟨s',rfl,h2,h3⟩
      ·exact .inr Y
      ·have:=hr.2 h s' h2 h3
       rw [Sc] at this;exact .inl this
   ·have I:j=names.length:=by have:=R2 h; omega
    rcases hI s hs J with Y | Y
    ·exact Y Z
    ·rw [I,UB] at Y
     rw [List.sublist_nil.1 Y] at J;simp at J
theorem ID {n:Net} (hz:qL n) (hV:pK n) (on:List BA) (hc:eD n on=some 0) (hl:on.length<=5) (names:List BA) (Y:names=(nm n).filter (λx=>decide (x ∈ on))):
  Gd (mj n on) (λr=>(r.2=0/\r.1.Sublist names/\C7 n names r.1/\∀ s,s.Sublist names->s.length<r.1.length->¬ C7 n names s) \/
   (r=([],8)/\∀ s,s.Sublist names->¬ C7 n names s)):=by
 have hnl:=zE n;have h5:=hV.l5;have J:names.length<=12:=by
  rw [Y]; exact SK (W2 _ _) (by omega)
 unfold mj;refine Gd.bind_eq hc (Gd.ite (λh=>by simp at h) (λ_=>Gd.ite (λh=>?_) (λ_=>?_)))
 ·have:=RT h
  omega
 refine Gd.dE (λi (ys:List aH) (w:List BA)=>i+ys.length=n.bE.length/\n.bE.drop i=ys/\w=((nm n).take i).filter (λx=>decide (x ∈ on))/\w.length<=i) ?_ ?_ n.bE 0 [] ⟨by simp,rfl,by simp,by simp⟩
 ·rintro i y ys w nx ⟨hi,hd,hw,hwl⟩ Z
  simp only [RW] at hi;have hil:i<n.bE.length:=by omega
  have hy:n.bE[i]=y:=by
   have e:=Si hil;rw [hd] at e; exact (WT e).1.symm
  have I:n.bE.drop (i+1)=ys:=by
   have:=R7 (List.drop 1) hd;simpa [TA] using this
  have vp:i<(nm n).length:=by omega
  have hny:(nm n)[i]=y.Name:=by simp [nm,hy]
  have hst:((nm n).take (i+1)).filter (λx=>decide (x ∈ on))=w++(if decide (y.Name ∈ on) then [y.Name] else []):=by
   rw [Sn vp,Ts,<- hw,hny]
   congr 1
   simp only [WX,List.filter_nil]
  unfold sd nr;rw [ss];refine Gd.ite (λh=>Gd.nd (by simp only [RW,W3]; omega) (Z _ ⟨by omega,I,?_,by simp; omega⟩)) (λh=>Z _ ⟨by omega,I,?_,by omega⟩)
  ·rw [hst,RU h]
  ·rw [hst,RS (by rw [h]; simp),Ss]
 ·rintro i w ⟨hi,_,hw,_⟩
  rw [R3 (by simp at hi; omega),<- Y] at hw
  subst hw;refine Gd.fG (λ(s:Int)=>∃ k:Nat,s=k/\k<=w.length+1/\∀ s,s.Sublist w->s.length<k->¬ C7 n w s) (λs=>w.length+1-s.toNat) ?_ eI _ ⟨0,rfl,by omega,λs _ h=>by omega⟩ (by unfold eI; simp; omega)
  rintro _ nx ⟨k,rfl,hk,hI⟩ hn;unfold se;refine Gd.ite (λh=>?_) (λh=>Gd.ret (.inr ⟨rfl,λs hs=>hI s hs ?_⟩))
  ·have hkw:k<=w.length:=by have:=RT h; omega
   have hwk:i64.wrap ((k:Int)+1)=((k+1:Nat):Int):=by rw [bG ⟨by omega,by omega⟩]; omega
   unfold kG;rw [hwk];refine Gd.eN (B1 hz hV w J k [] 0 (by simp; omega) (Nat.zero_le _) eI (by unfold eI; omega)) (λr hr=>Gd.ite (λh=>Gd.ret (.inl ?_)) (λh=>hn _ ⟨k+1,rfl,by omega,λs hs hs1=>?_⟩ (by simp only [RN]; omega)))
   ·obtain ⟨s,h1,h2,h3,h4⟩:=hr.1 h
    rw [Tn] at h1;rw [S8,<- h1] at h2;exact ⟨rfl,h2,h4,λs' hs hl'=>hI s' hs (by rw [h1] at hl'; omega)⟩
   ·by_cases e:s.length=k
    ·have:=hr.2 h s (by rw [S8]; exact hs) e
     rwa [Tn] at this
    ·exact hI s hs (by omega)
  ·have:=hs.length_le
   have:=R2 h;omega
theorem Hq {c:Net} (hz:qL c):∃ r,fZ c=some r:=by
 suffices h:Gd (fZ c) (λ_=>True) by
  obtain ⟨e,he,_⟩:=h;exact ⟨e,he⟩
 unfold fZ;rcases xv c hz with ⟨x,hx,hi⟩ | ⟨t,p,s,hV,hn,hg,ht,hb,hi,hfc,hs,I,hv⟩
 ·exact Gd.bind_eq hi (Gd.ite (λ_=>Gd.ret RM) (λk=>absurd (by simpa using k) hx))
 ·obtain ⟨qs,hq,J⟩:=Io I.f
  have Y:qs.length=c.aJ.length:=by
   have:=I.fl;rw [hq,TL] at this;exact this
  have Z:=EH hV (qs:=qs) Y J;rw [<- hq] at Z;exact Gd.bind_eq hi (Gd.ite (λk=>by simp at k) (λ_=>Gd.bind_eq hs (Gd.ite (λk=>by simp at k) (λ_=>Gd.bind_eq Z (Gd.ret RM)))))
theorem JV {n:Net} (I:pK n) {l:List BA} (h:eD n l=some 0) {r:cH×List RI×Int} (hs:fZ (rW n l)=some r):dW n l=some r:=by
 rw [<- Gd.eq];unfold dW;exact Gd.bind_eq (D3 I h) (Gd.ite (λk=>by simp at k) (λ_=>Gd.bind_eq hs (Gd.ret rfl)))
theorem Jo {n:Net}{l:List BA}{r:cH×List RI×Int} (hs:fZ (rW n l)=some r):CJ n l↔r.2.2=0/\r.2.1=[]:=by
 unfold CJ lS;rw [hs];show (if _ then _ else _)=_↔_
 by_cases I:r.2.2=0
 ·by_cases J:r.2.1=[]
  ·simp [I,J]
  ·have:0<r.2.1.length:=W4.2 J
   simp [I,J]
 ·simp [I]
abbrev Node:=bM
abbrev DU:=bA
abbrev Sw:=aN
theorem vF {α:Type}{l:List α}{i:Nat} (h:i<l.length):∃ x,l[i]? = some x:=⟨_,RK h⟩
theorem DB {α:Type}{l:List α}{i:Nat}{x:α} (h:l[i]? = some x):i<l.length:=(RP.1 h).1
theorem drop_cons {α:Type}{l:List α}{k:Nat}{y:α}{ys:List α} (h:y::ys=l.drop k):l[k]? = some y/\ys=l.drop (k+1):=by
 constructor
 ·have:=R7 (·[0]?) h
  simpa [SB] using this.symm
 ·have:=R7 (List.drop 1) h
  simpa using this
theorem xh (s:RI) (h:s.size<=maxLen):Gd (bB s) (λ_=>True):=by
 unfold bB;refine Gd.nd h (Gd.dE (λ_ _ _=>True) (λi y ys s n _ hn=>?_) (λi s _=>Gd.ret RM) _ _ _ RM);unfold mi;exact Gd.ite (λ_=>Gd.ret RM) (λ_=>hn _ RM)
structure At (l:List Sw) (name:RI) (r:Int):Prop where
 no:r<0->∀ x ∈ l,x.Name≠name
 yes:0<=r->∃ x,l[r.toNat]? = some x/\x.Name=name
theorem Ch (l:List Sw) (name:RI):Gd (ly l name) (At l name):=by
 unfold ly;refine Gd.eN (P:=At l name) ?_ (λa h=>Gd.ret h);unfold b_;refine Gd.kz (λm i _=>i+m=l.length/\∀ x ∈ l.take i,x.Name≠name) ?_ ?_ (l.length:Int).toNat 0 () ⟨by omega,by simp⟩
 ·intro m i _ J ⟨hi,hno⟩ hnx
  unfold cQ;refine Gd.gA (by omega) ?_
  refine Gd.ite (λh=>Gd.ret ⟨λh=>by omega,λ_=>⟨l[i]'(by omega),by rw [show ((i:Int)).toNat=i by omega]; exact RK _,by simpa [lG] using h⟩⟩) (λh=>hnx () ⟨by omega,?_⟩)
  intro x I;rw [Sn (by omega),RZ,R_] at I
  rcases I with I | rfl
  ·exact hno x I
  ·simpa [lG] using h
 ·intro i _ ⟨hi,hno⟩
  refine Gd.ret ⟨λ_=>?_,λh=>by omega⟩
  rw [R3 (by omega)] at hno
  exact hno
def Hz (l:List Sw):Prop:=l.length<=32/\(∀ x ∈ l,bB x.Name=some true)/\(l.map (·.Name)).Nodup
theorem JD (l:List Sw) (hl:∀ x ∈ l,x.Name.size<=maxLen):Gd (kT l) (λe=>e=0↔Hz l):=by
 unfold kT;refine Gd.ite (λh=>Gd.ret ?_) (λh=>?_)
 ·simp only [Sy] at h
  exact ⟨λh=>by omega,λZ=>by have:=Z.1; omega⟩
 ·simp only [XK] at h
  refine Gd.dE (λk ys _=>ys=l.drop k/\k<=l.length/\(∀ x ∈ l.take k,bB x.Name=some true)/\((l.take k).map (·.Name)).Nodup) ?_ ?_ l 0 () ⟨by simp,by omega,by simp,by simp⟩
  ·rintro k y ys _ nx ⟨Y,hk,hn,hd⟩ hnx
   obtain ⟨hy,hys'⟩:=drop_cons Y;have hky:=DB hy;have hym:=RY hy;obtain ⟨b,hb,_⟩:=xh y.Name (hl y hym);have J:l.take (k+1)=l.take k++[y]:=by rw [W_,hy]; rfl
   unfold n6;refine Gd.bind_eq hb (Gd.ite (λh=>Gd.ret ?_) (λh=>?_))
   ·refine ⟨λh=>by omega,λZ=>?_⟩
    have:=Z.2.1 y hym;rw [hb] at this; cases this; simp at h
   ·have hbt:b=true:=by simpa using h
    subst hbt;refine Gd.nd (by omega) ?_
    refine Gd.eN (Ch _ _) (λr hr=>Gd.ite (λh=>Gd.ret ?_) (λh=>?_))
    ·refine ⟨λh=>by omega,λZ=>?_⟩
     simp only [Sy] at h;obtain ⟨x,I,hxn⟩:=hr.yes h;simp only [tG,S8,UI,RN] at I;have hnd:=Z.2.2;rw [SG] at I
     split at I
     case isFalse=>cases I
     rename_i hlt
     rw [<- Te k l,Tb,SM] at hnd;refine absurd hxn (hnd.2.2 _ (SC.2 ⟨x,?_,rfl⟩) _ (SC.2 ⟨y,?_,rfl⟩))
     ·exact RY (i:=r.toNat) (by rw [SG,RU hlt]; exact I)
     ·rw [<- Y]; exact RR ..
    ·simp only [XK] at h
     have hno:=hr.no (by omega)
     simp only [tG,S8,UI,RN] at hno;refine hnx () ⟨hys',by omega,?_,?_⟩
     ·rw [J]
      intro x I;rw [RZ,R_] at I;rcases I with I | rfl
      ·exact hn x I
      ·exact hb
     ·rw [J,Tb,SM]
      refine ⟨hd,by simp,?_⟩
      rintro a ha b hb2 rfl;simp only [TT,VK,R_] at hb2;obtain ⟨x,I,rfl⟩:=SC.1 ha;exact hno x I hb2
  ·rintro k _ ⟨Y,hk,hn,hd⟩
   have:l.length<=k:=by
    have:=R7 List.length Y;simp at this; omega
   rw [R3 this] at hn hd;exact Gd.ret ⟨λ_=>⟨by omega,hn,hd⟩,λ_=>rfl⟩
def Gq (k:Nat) (y:Node):Prop:=(y.Kind=4->0<=y.A/\y.A<k)/\((y.Kind=5\/y.Kind=6)->0<=y.A/\y.A<k/\0<=y.B_/\y.B_<k)
structure BC (c:List Node):Prop where
 pos:0<c.length
 len:c.length<=40
 ok:∀ j y,c[j]? = some y->Gq j y
structure CI (c:List Node) (k:Nat) (l:List Int):Prop where
 len:l.length=c.length
 st:∀ (j:Nat) (v:Int),j<k->l[j]? = some v->0<=v/\v<=j
 ok:∀ j y,j<k->c[j]? = some y->Gq j y
theorem CI.next {c:List Node}{k:Nat}{l:List Int}{y:Node}{v:Int} (h:CI c k l) (Z:c[k]? = some y) (hn:Gq k y) (h0:0<=v) (h1:v<=k):CI c (k+1) (l.set k v):=by
 refine ⟨by simp [h.len],?_,?_⟩
 ·intro j w Y I
  rw [Vk] at I
  split at I
  ·rename_i e
   split at I
   ·cases I; omega
   ·cases I
  ·exact h.st j w (by omega) I
 ·intro j z Y J
  by_cases e:j=k
  ·subst e; rw [Z] at J; cases J; exact hn
  ·exact h.ok j z (by omega) J
theorem Km:jR=eE:=rfl
theorem J_ {c:List Node}{k:Nat}{l:List Int}{y:Node}{Q:Int->Prop}{nx:List Int->Option Int} (h:CI c k l) (hc:c.length<=40) (hy:c[k]? = some y) (I:Q 3) (J:∀ l',CI c (k+1) l'->Gd (nx l') Q)
  (b:Bool) (Z:y.Kind≠4) (hb:b=false->y.Kind≠5/\y.Kind≠6):Gd (eE l nx y k b) Q:=by
 have hk:=DB hy;have hw:i64.wrap ((k:Int)-1)=(k:Int)-1:=bG (by omega)
 have hkn:((k:Int)).toNat=k:=by omega
 unfold eE dT;rw [hw,hkn];refine Gd.ite (λ_=>?_) (λh0=>?_)
 ·refine Gd.ite (λ_=>Gd.ret I) (λh1=>?_)
  simp only [XK] at h1;refine Gd.ite (λh2=>?_) (λ_=>Gd.ret I);simp only [Sy] at h2;obtain ⟨p,hp⟩:=vF (l:=l) (i:=k-1) (by rw [h.len]; omega)
  have Y:(l.set k (k:Int))[((k:Int)-1).toNat]? = some p:=by
   rw [show ((k:Int)-1).toNat=k-1 by omega,Vk,RS (by omega)]; exact hp
  have hpb:=h.st (k-1) p (by omega) hp
  refine Gd.ix (by omega) Y (Gd.ite (λ_=>Gd.ret I) (λh3=>?_))
  simp only [XK] at h3;refine Gd.ix (by omega) Y ?_
  rw [bG (n:=p-1) (by omega)]
  refine Gd.ite (λ_=>Gd.ret I) (λZ=>?_);have Z:y.A=p-1:=by simpa using Z
  obtain ⟨q,hq⟩:=vF (l:=l) (i:=y.A.toNat) (by rw [h.len]; omega)
  have hq':(l.set k (k:Int))[y.A.toNat]? = some q:=by
   rw [Vk,RS (by omega)]; exact hq
  have hqb:=h.st y.A.toNat q (by omega) hq
  refine Gd.ix (by omega) hq' (Gd.gA (by simp [h.len]; omega) ?_)
  rw [List.set_set];exact J _ (h.next hy ⟨λe=>by omega,λ_=>⟨by omega,by omega,by omega,by omega⟩⟩ hqb.1 (by omega))
 ·refine Gd.ite (λ_=>Gd.ret I) (λh1=>?_)
  have:=hb h0;exact J _ (h.next hy ⟨λe=>absurd e Z,λe=>by omega⟩ (by omega) (by omega))
theorem xr (c:List Node) (hc:∀ x ∈ c,x.Name.size<=maxLen):Gd (kA c) (λe=>e=0->BC c):=by
 unfold kA;refine Gd.ite (λ_=>Gd.ret (by omega)) (λh40=>?_)
 simp only [XK] at h40;refine Gd.ite (λ_=>Gd.ret (by omega)) (λh1=>?_)
 simp only [XK] at h1;refine Gd.nd (by omega) ?_
 refine Gd.dE (λk ys l=>ys=c.drop k/\CI c k l) ?_ ?_ c 0 _ ⟨by simp,by simp,λj v hj=>by omega,λj y hj=>by omega⟩
 ·rintro k y ys l nx ⟨Z,J⟩ hnx
  obtain ⟨hy,hys'⟩:=drop_cons Z;have hk:=DB hy;have I:∀ l',CI c (k+1) l'->Gd (nx l') (λe=>e=0->BC c):=λl' h=>hnx l' ⟨hys',h⟩;have hkn:((k:Int)).toNat=k:=by omega
  have hw:i64.wrap ((k:Int)-1)=(k:Int)-1:=bG (by omega)
  have rest:Gd (idx l (k:Int) λy926=>if decide (y.Kind=4) then (if ((decide ((k:Int)=0)) || (!decide (y.A=(i64.wrap ((k:Int)-1))))) || (!decide (y.B_=0)) then (some 3) else (idx (l.set (((k:Int):Int).toNat) ((k:Int))) y.A λy939=>idx (l.set (((k:Int):Int).toNat) ((k:Int))) (k:Int) λy943=>dT nx ((l.set (((k:Int):Int).toNat) ((k:Int))).set (((k:Int):Int).toNat) y939))) else (if decide (y.Kind=5) then (eE l nx y k (decide (y.Kind=5))) else (eE l nx y k (decide (y.Kind=6)))))
    (λe=>e=0->BC c):=by
   rw [hw,hkn];refine Gd.gA (by rw [J.len]; exact hk) ?_
   refine Gd.ite (λh4=>?_) (λh4=>?_)
   ·refine Gd.ite (λ_=>Gd.ret (by omega)) (λY=>?_)
    simp only [WG,XK,WE,Sy] at Y;obtain ⟨q,hq⟩:=vF (l:=l) (i:=y.A.toNat) (by rw [J.len]; omega)
    have hq':(l.set k (k:Int))[y.A.toNat]? = some q:=by
     rw [Vk,RS (by omega)]; exact hq
    have hqb:=J.st y.A.toNat q (by omega) hq
    refine Gd.ix (by omega) hq' (Gd.gA (by simp [J.len]; omega) ?_)
    rw [List.set_set];simp only [Sy] at h4;exact I _ (J.next hy ⟨λe=>by omega,λe=>by omega⟩ hqb.1 (by omega))
   ·simp only [XK] at h4
    refine Gd.ite (λY=>?_) (λY=>?_)
    ·exact J_ J (by omega) hy (by omega) I _ h4 (λh=>by simp only [XK] at h; simp only [Sy] at Y; exact absurd Y h)
    ·exact J_ J (by omega) hy (by omega) I _ h4 (λh=>by simp only [XK] at h Y; exact ⟨Y,h⟩)
  unfold oE;rw [Km];refine Gd.ite (λ_=>Gd.ret (by omega)) (λ_=>?_)
  refine Gd.ite (λ_=>?_) (λ_=>?_)
  ·refine Gd.eN (xh _ (hc y (RY hy))) (λb _=>Gd.ite (λ_=>Gd.ret (by omega)) (λ_=>rest))
  ·exact Gd.ite (λ_=>Gd.ret (by omega)) (λ_=>rest)
 ·rintro k l ⟨Z,J⟩
  have hk:c.length<=k:=by
   have:=R7 List.length Z;simp at this; omega
  have hw:i64.wrap ((c.length:Int)-1)=(c.length:Int)-1:=bG (by omega)
  rw [hw];obtain ⟨q,hq⟩:=vF (l:=l) (i:=((c.length:Int)-1).toNat) (by rw [J.len]; omega)
  refine Gd.ix (by omega) hq (Gd.ite (λ_=>Gd.ret (by omega)) (λ_=>Gd.ret λ_=>⟨by omega,by omega,λj y hj=>J.ok j y (by have:=DB hj; omega) hj⟩))
def JT (r:DU):Prop:=bB r.Switch=some true/\kA r.xT=some 0
def BG (r:DU):Prop:=r.Switch.size<=maxLen/\∀ x ∈ r.xT,x.Name.size<=maxLen
def zM (l:List DU):Prop:=l.length<=24/\∀ r ∈ l,JT r
theorem Dx (l:List DU) (hl:∀ r ∈ l,BG r):Gd (mO l) (λe=>e=0↔zM l):=by
 unfold mO;refine Gd.ite (λh=>Gd.ret ?_) (λh=>?_)
 ·simp only [Sy] at h
  exact ⟨λh=>by omega,λI=>by have:=I.1; omega⟩
 ·simp only [XK] at h
  refine Gd.dE (λk ys _=>(∀ r ∈ ys,r ∈ l)/\∀ r ∈ l,r ∈ ys\/JT r) ?_ ?_ l 0 () ⟨λr h=>h,λr h=>.inl h⟩
  ·rintro k y ys _ nx ⟨Z,h2⟩ hnx
   have Y:=Z y (RR ..);unfold rD;obtain ⟨b,hb,_⟩:=xh y.Switch (hl y Y).1;obtain ⟨e,he,_⟩:=xr y.xT (hl y Y).2;refine Gd.bind_eq hb (Gd.ite (λh=>Gd.ret ?_) (λh=>Gd.bind_eq he (Gd.ite (λh=>Gd.ret ?_) (λI=>hnx () ⟨λr J=>Z r (RV _ J),λr J=>?_⟩))))
   ·refine ⟨λh=>by omega,λI=>?_⟩
    have:=(I.2 y Y).1;rw [hb] at this; cases this; simp at h
   ·have h:e≠0:=by simpa using h
    refine ⟨λI=>absurd I h,λI=>?_⟩;have:=(I.2 y Y).2;rw [he] at this; cases this; simp at h
   ·have hbt:b=true:=by simpa using h
    have het:e=0:=by simpa using I
    subst hbt; subst het
    rcases h2 r J with h | h
    ·rcases SA.1 h with rfl | h
     ·exact .inr ⟨hb,he⟩
     ·exact .inl h
    ·exact .inr h
  ·rintro k _ ⟨Z,h2⟩
   exact Gd.ret ⟨λ_=>⟨by omega,λr J=>(h2 r J).resolve_left (by simp)⟩,λ_=>rfl⟩
theorem KO {c:List Node} (hc:BC c) (st:List Sw):Gd (mP c st) (λ_=>True):=by
 have hl:=hc.len;have hp:=hc.pos;unfold mP;refine Gd.nd (by omega) ?_
 refine Gd.dE (λk ys (l:List Bool)=>ys=c.drop k/\l.length=c.length) ?_ ?_ c 0 _ ⟨by simp,by simp⟩
 ·rintro k y ys l nx ⟨hys,J⟩ hnx
  obtain ⟨hy,hys'⟩:=drop_cons hys;have hk:=DB hy;have hn:=hc.ok k y hy;have Z:∀ l':List Bool,l'.length=c.length->Gd (nx l') (λ_=>True):=λl' h=>hnx l' ⟨hys',h⟩;have I:∀ b:Bool,Gd (idx l (k:Int) λ_=>dF nx (l.set ((k:Int)).toNat b)) (λ_=>True):=λb=>
   Gd.gA (by omega) (Z _ (by simp [J]))
  unfold rE;refine Gd.eN (Ch st y.Name) (λr hr=>?_);refine Gd.ite (λ_=>I true) (λ_=>?_);refine Gd.ite (λ_=>Gd.ite (λh=>?_) (λ_=>I false)) (λ_=>?_)
  ·obtain ⟨x,Y,_⟩:=hr.yes (by simpa using h)
   exact Gd.ix (by simpa using h) Y (I _)
  refine Gd.ite (λ_=>Gd.ite (λh=>?_) (λ_=>I false)) (λ_=>?_)
  ·obtain ⟨x,Y,_⟩:=hr.yes (by simpa using h)
   exact Gd.ix (by simpa using h) Y (I _)
  refine Gd.ite (λh=>?_) (λ_=>?_)
  ·have hA:=hn.1 (by simpa using h)
   obtain ⟨x,Y⟩:=vF (l:=l) (i:=y.A.toNat) (by omega)
   exact Gd.ix hA.1 Y (I _)
  refine Gd.ite (λh=>?_) (λ_=>?_)
  ·have hA:=hn.2 (.inl (by simpa using h))
   obtain ⟨x,Y⟩:=vF (l:=l) (i:=y.A.toNat) (by omega)
   obtain ⟨z,hz⟩:=vF (l:=l) (i:=y.B_.toNat) (by omega)
   exact Gd.ix hA.1 Y (Gd.ite (λ_=>Gd.ix hA.2.2.1 hz (I _)) (λ_=>I _))
  refine Gd.ite (λh=>?_) (λ_=>Z _ J)
  ·have hA:=hn.2 (.inr (by simpa using h))
   obtain ⟨x,Y⟩:=vF (l:=l) (i:=y.A.toNat) (by omega)
   obtain ⟨z,hz⟩:=vF (l:=l) (i:=y.B_.toNat) (by omega)
   exact Gd.ix hA.1 Y (Gd.ite (λ_=>I _) (λ_=>Gd.ix hA.2.2.1 hz (I _)))
 ·rintro k l ⟨hys,J⟩
  rw [bG (n:=(c.length:Int)-1) (by omega)]
  obtain ⟨q,hq⟩:=vF (l:=l) (i:=((c.length:Int)-1).toNat) (by omega)
  exact Gd.ix (by omega) hq (Gd.ret RM)
def yn (st:List Sw) (I:Bool) (name:RI) (r:DU):Prop:=r.Close=I->r.Switch=name->mP r.xT st=some true
theorem GO {l:List DU} (hl:zM l) (hz:∀ r ∈ l,BG r) {st:List Sw} (hs:Hz st) (hsz:∀ x ∈ st,x.Name.size<=maxLen) (I:Bool) {name:RI} (hn:∃ x ∈ st,x.Name=name):
  Gd (nj l st I name) (λr=>r.2=0/\(r.1=[]↔∀ r ∈ l,yn st I name r)):=by
 unfold nj;obtain ⟨e,he,heq⟩:=Dx l hz;obtain ⟨f,hf,hfq⟩:=JD st hsz;have e0:=heq.2 hl;have f0:=hfq.2 hs;subst e0; subst f0
 refine Gd.bind_eq he (Gd.ite (λh=>by simp at h) (λ_=>Gd.bind_eq hf (Gd.ite (λh=>by simp at h) (λ_=>?_))))
 refine Gd.eN (Ch st name) (λi hi=>Gd.ite (λh=>?_) (λ_=>?_))
 ·obtain ⟨x,hx,hxn⟩:=hn
  exact absurd hxn (hi.no (by simpa using h) x hx)
 have h24:=hl.1;refine Gd.dE (λk ys (out:List Int)=>ys=l.drop k/\out.length<=k/\(out=[]↔∀ r ∈ l.take k,yn st I name r)) ?_ ?_ l 0 [] ⟨by simp,by simp,by simp⟩
 ·rintro k y ys out nx ⟨hys,hlen,hq⟩ hnx
  obtain ⟨hy,hys'⟩:=drop_cons hys;have hk:=DB hy;have htake:l.take (k+1)=l.take k++[y]:=by rw [W_,hy]; rfl
  have Y:(∀ r ∈ l.take (k+1),yn st I name r)↔(∀ r ∈ l.take k,yn st I name r)/\yn st I name y:=by
   rw [htake];constructor
   ·intro h; exact ⟨λr Z=>h r (RO _ Z),h y (by simp)⟩
   ·rintro ⟨h1,h2⟩ r Z
    rcases RZ.1 Z with Z | Z
    ·exact h1 r Z
    ·rw [R_] at Z; subst Z; exact h2
  have J:yn st I name y->Gd (nx out) (λr=>r.2=0/\(r.1=[]↔∀ r ∈ l,yn st I name r)):=λha=>
   hnx out ⟨hys',by omega,by rw [Y,hq]; exact ⟨λh=>⟨h,ha⟩,λh=>h.1⟩⟩
  have hcond:BC y.xT:=by
   obtain ⟨e,he,hq⟩:=xr y.xT (hz y (RY hy)).2;have:=(hl.2 y (RY hy)).2;rw [he] at this; cases this; exact hq rfl
  obtain ⟨b,hb,_⟩:=KO hcond st;unfold qx gW;refine Gd.ite (λh1=>Gd.ite (λh2=>Gd.bind_eq hb (Gd.ite (λh3=>?_) (λh3=>J ?_))) (λh2=>J ?_)) (λh1=>J ?_)
  ·refine Gd.nd (by simp; omega) (hnx _ ⟨hys',by simp; omega,?_⟩)
   constructor
   ·intro h; simp at h
   ·intro h
    have:=(Y.1 h).2 (by simpa using h1) (by simpa using h2)
    rw [hb] at this; cases this; simp at h3
  ·intro _ _; rw [hb]; simpa using h3
  ·intro _ h; exact absurd h (by simpa using h2)
  ·intro h _; exact absurd h (by simpa using h1)
 ·rintro k out ⟨hys,hlen,hq⟩
  have hk:l.length<=k:=by
   have:=R7 List.length hys;simp at this; omega
  rw [R3 hk] at hq;exact Gd.ret ⟨rfl,hq⟩
theorem EJ {l:List DU} (hl:zM l) (Z:∀ r ∈ l,BG r) {st:List Sw} (hs:Hz st) (Y:∀ x ∈ st,x.Name.size<=maxLen) (I:Bool) {name:RI} (hn:∃ x ∈ st,x.Name=name):
  Gd (lZ l st I name) (λr=>r.2=0/\(r.1=true↔∀ r ∈ l,yn st I name r)):=by
 unfold lZ;refine Gd.eN (GO hl Z hs Y I hn) (λr J=>Gd.ret ⟨J.1,?_⟩);rw [J.1,<- J.2];cases r.1 <;> simp <;> omega
structure NX (n:Net) (on:List BA) (s:cH) (ov:List BA):Prop where
 Px:eD n on=some 0
 cn:bX n=some 0
 v:pK n
 al:s.fP.length<=100000
 fl:s.iI.length=n.aJ.length
 ff:∀ x ∈ s.iI,∃ q,fits q/\x=ctext q
 oe:oa n s.iI=some ov
 ol:ov.length<=24
 om:∀ x ∈ ov,∃ b ∈ n.aJ,b.Name=x
 Rf:∃ p,gF (rW n on)=some (p,0)/\True
theorem Jp {l:List (aQ×Rat)}:∀ {x:BA},x ∈ l.flatMap zi->∃ z ∈ l,z.1.Name=x:=by
 intro x I;obtain ⟨z,J,I⟩:=TN.1 I;refine ⟨z,J,?_⟩
 by_cases h:AF z
 ·rw [AO h] at I
  simp at I;exact I.symm
 ·rw [CM h] at I
  simp at I
theorem DE:∀ (l:List (aQ×Rat)),(l.flatMap zi).length<=l.length
 | []=>by simp
 | z::l=>by
  have:=DE l;have:(zi z).length<=1:=by
   by_cases h:AF z
   ·rw [AO h]; simp
   ·rw [CM h]; simp
  simp only [S6,R5,RW];omega
theorem BH {n:Net} (Y:qL n) (on:List BA):Gd (dW n on) (λr=>(r.2.2≠0->r=(cH.mk [] [],[],r.2.2))/\(r.2.2=0->NX n on r.1 r.2.1)):=by
 obtain ⟨e,he,hok⟩:=JH Y on
 by_cases h0:e=0
 ·subst h0
  have J:=hok rfl;have Z:pK n:=by
   obtain ⟨f,hf,hs⟩:=Wx n Y;rw [J] at hf;exact hs (RQ hf).symm
  rcases xv (rW n on) (Y.rW on) with ⟨x,hx,hi⟩ | ⟨t,p,s,hV',hn,hg,ht,hb,hi,hfc,hs,I,hv⟩
  ·rw [IE Z he hx hi]
   exact Gd.ret ⟨λ_=>rfl,λh=>absurd h hx⟩
  ·obtain ⟨qs,hq,hqf⟩:=Io I.f
   have hql:qs.length=(rW n on).aJ.length:=by
    have:=I.fl;rw [hq,TL] at this;exact this
   have ho:=EH hV' (qs:=qs) hql hqf;rw [<- hq] at ho;rw [JX Z he hi hs ho];refine Gd.ret ⟨λh=>absurd rfl h,λ_=>⟨he,J,Z,?_,I.fl,I.f,ho,?_,?_,p,hi,hv⟩⟩
   ·have:=I.al
    have:=ht.L4;show s.fP.length<=100000;omega
   ·refine SK (DE _) ?_
    rw [List.length_zip];exact SK (Nat.min_le_left _ _) Z.l3
   ·intro x hx
    obtain ⟨z,Y,he⟩:=Jp hx;exact ⟨z.1,(List.of_mem_zip Y).1,he⟩
 ·rw [JW he h0]
  exact Gd.ret ⟨λ_=>rfl,λh=>absurd h h0⟩
def Pn {α:Type} (p:α->Bool) (l:List α) (r:Int):Prop:=(r = -1/\∀ x ∈ l,p x=false)\/∃ i,∃ h:i<l.length,r=(i:Int)/\p l[i]=true/\∀ x ∈ l.take i,p x=false
theorem HZ {α:Type} (p:α->Bool) (l:List α):
  Gd (kz (λk (_:Unit) n=>idx l (k:Int) λy=>if p y then (some (k:Int)) else (n ())) (λ_=>some (-1)) ((l.length:Int):Int).toNat 0 ()) (Pn p l):=by
 refine Gd.kz (λm i _=>i+m=l.length/\∀ x ∈ l.take i,p x=false) ?_ ?_ (l.length:Int).toNat 0 () ⟨by omega,by simp⟩
 ·intro m i _ Y ⟨hi,hno⟩ hnx
  have I:i<l.length:=by omega
  refine Gd.gA I (Gd.ite (λh=>Gd.ret (.inr ⟨i,I,rfl,h,hno⟩)) (λh=>hnx () ⟨by omega,?_⟩))
  rw [Sn I];intro x J;rcases RZ.1 J with J | J
  ·exact hno x J
  ·rw [R_.1 J]; exact h
 ·intro i _ ⟨hi,hno⟩
  refine Gd.ret (.inl ⟨rfl,?_⟩);have:l.take i=l:=R3 (by omega)
  rw [this] at hno;exact hno
theorem OG (l:List aH) (e:aE):Gd (dJ l e) (Pn (λx=>decide (x.Name=e.Name)) l):=HZ _ l
theorem OF (l:List bH) (e:aE):Gd (dP l e) (Pn (λx=>decide (x.Name=e.Name)) l):=HZ _ l
theorem OI (l:List aZ) (e:aE):Gd (cV l e) (Pn (λx=>decide (x.Name=e.Name)) l):=HZ _ l
theorem OH (l:List aH) (x:BA):Gd (dC l x) (Pn (λy=>decide (y.Name=x)) l):=HZ _ l
theorem AS (n:Net) (hl:n.bE.length<=12):qH n=some (nm n):=by
 rw [<- Gd.eq];unfold qH;refine Gd.dE (λi (ys:List aH) (w:List BA)=>i+ys.length=n.bE.length/\n.bE.drop i=ys/\w=(n.bE.take i).map (·.Name)) ?_ ?_ n.bE 0 [] ⟨by simp,rfl,by simp⟩
 ·rintro i y ys w nx ⟨hi,J,Y⟩ Z
  simp only [RW] at hi;unfold uU;have I:i<n.bE.length:=by omega
  have hy:n.bE[i]=y:=by
   rw [Si I] at J;exact (WT J).1
  refine Gd.nd ?_ (Z _ ⟨by omega,?_,?_⟩)
  ·rw [Y]; simp; omega
  ·rw [Si I] at J
   exact (WT J).2
  ·rw [Y,Sn I,hy]; simp
 ·rintro i w ⟨hi,J,Y⟩
  refine Gd.ret ?_;rw [Y,R3 (by simp at hi; omega)]
  rfl
abbrev Ev:=aE
def DP (e:Ev):Prop:=e.Kind.size<=maxLen/\e.Name.size<=maxLen
theorem MA (s:BA) (h:s.size<=maxLen):Gd (dU s) (λ_=>True):=by
 unfold dU;refine Gd.nd h (Gd.dE (λ_ _ _=>True) (λi y ys s I _ hn=>?_) (λ_ _ _=>Gd.ret RM) _ _ _ RM);unfold mM;exact Gd.ite (λ_=>Gd.ret RM) (λ_=>hn _ RM)
theorem IJ {e:Ev} (h:DP e):Gd (cL e) (λr=>r=0->0<=e.Time/\e.Time<=200000):=by
 unfold cL;refine Gd.ite (λ_=>Gd.ret (λh=>by simp at h)) (λht=>Gd.eN (MA e.Kind h.1) (λb _=>Gd.ite (λ_=>?_) (λ_=>Gd.ret (λh=>by simp at h))))
 refine Gd.eN (xh e.Name h.2) (λb _=>Gd.ite (λ_=>Gd.ret (λh=>by simp at h)) (λ_=>Gd.ite (λ_=>Gd.ret (λh=>by simp at h)) (λ_=>Gd.ret (λ_=>?_))))
 simp at ht;omega
theorem BV {t v:Int}{k s:BA} (ht:0<=t/\t<=200000) (I:dU k=some true) (hs:bB s=some true) (J:-1000000<=v/\v<=1000000):
  cL (aE.mk t k s v)=some 0:=by
 rw [<- Gd.eq];unfold cL;refine Gd.ite (λk=>?_) (λ_=>Gd.bind_eq I (Gd.ite (λ_=>Gd.bind_eq hs (Gd.ite (λk=>by simp at k) (λ_=>Gd.ite (λk=>?_) (λ_=>Gd.ret rfl)))) (λk=>by simp at k)))
 ·simp at k; omega
 ·simp at k; omega
theorem Jy:dU (⟨#[115,104,101,100]⟩)=some true:=by kernel_rfl
theorem Hc:dU (⟨#[112,114,111,111,102]⟩)=some true:=by kernel_rfl
theorem append_eq {l:List Ev}{e:Ev} (hl:l.length<300) (ht:∀ x ∈ l,x.Time<=e.Time) (I:cL e=some 0):
  ∃ k,cZ (aL.mk l) e=some (k,0,aL.mk (l++[e])):=by
 suffices h:Gd (cZ (aL.mk l) e) (λr=>∃ k,r=(k,0,aL.mk (l++[e]))) by
  obtain ⟨r,Y,k,rfl⟩:=h;exact ⟨k,Y⟩
 unfold cZ;refine Gd.bind_eq I (Gd.ite (λk=>by simp at k) (λ_=>Gd.ite (λJ=>?_) (λ_=>?_)))
 ·have h0:0<l.length:=by simpa using J
  have Z:i64.wrap ((l.length:Int)-1)=((l.length-1:Nat):Int):=by
   rw [bG ⟨by omega,by omega⟩]; omega
  rw [Z];refine Gd.gA (by simp; omega) (Gd.ite (λk=>?_) (λ_=>?_))
  ·have:=ht _ (Sk (by omega:l.length-1<l.length))
   simp at k;omega
  ·refine Gd.ite (λk=>?_) (λ_=>Gd.nd ?_ (Gd.ret ⟨_,rfl⟩))
   ·simp at k; omega
   ·simp; omega
 ·refine Gd.ite (λk=>?_) (λ_=>Gd.nd ?_ (Gd.ret ⟨_,rfl⟩))
  ·simp at k; omega
  ·simp; omega
theorem Kf {n:Net} (h:pK n) {b:aQ} (J:b ∈ n.aJ):0<=b.yh/\b.yh<=200000:=by
 obtain ⟨_,_,_,_,I⟩:=h.vb b J;unfold iS at I
 split at I
 ·omega
 ·rename_i h6
  simp [bI] at h6;omega
theorem copy_eq {n:Net} (h:pK n):kL n=some n:=by
 have:=h.l1; have:=h.l2; have:=h.l3; have:=h.l4; have:=h.l5; have:=h.l6
 rw [<- Gd.eq];unfold kL;exact Gd.nd (by omega) (Gd.nd (by omega) (Gd.nd (by omega) (Gd.nd (by omega) (Gd.nd (by omega) (Gd.nd (by omega) (Gd.ret rfl))))))
structure xO (n:Net) (w:bQ):Prop where
 b:w.lv=n.aJ
 f:w.mr.length=n.aJ.length
 a:w.sU.length=n.aJ.length
 o:w.over.length=n.aJ.length
theorem Gf {n:Net}{w:bQ} (h:xO n w) (hl:n.aJ.length<=24):Gd (jT w) (λr=>r.length<=24):=by
 unfold jT;rw [h.b];refine Gd.dE (λi (ys:List aQ) (s:List BA)=>i+ys.length=n.aJ.length/\s.length<=i) ?_ ?_ n.aJ 0 [] ⟨by simp,by simp⟩
 ·rintro i y ys s J ⟨hi,hs⟩ I
  simp only [RW] at hi;unfold qz lA;refine Gd.gA (by rw [h.o]; omega) (Gd.ite (λ_=>Gd.nd ?_ (I _ ⟨by omega,?_⟩)) (λ_=>I _ ⟨by omega,by omega⟩))
  ·simp only [RW,W3]; omega
  ·simp; omega
 ·rintro i s ⟨hi,hs⟩
  exact Gd.ret (by simp at hi; omega)
theorem LX {n:Net}{w:bQ} (h:xO n w) (hV:pK n) {fl:List BA} (hl:fl.length=n.aJ.length) (hf:∀ x ∈ fl,∃ q,fits q/\x=ctext q) (d:Int):
  Gd (lM w fl d) (λr=>xO n r.2.2):=by
 have I:=hV.l3;unfold lM;refine Gd.eN (P:=λ_=>True) ?_ (λr _=>Gd.ite (λ_=>Gd.ret h) (λ_=>Gd.ite (λ_=>Gd.ret h) (λ_=>Gd.ite (λ_=>Gd.ret h) (λ_=>?_))))
 ·unfold rj
  exact Gd.ite (λ_=>Gd.ret RM) (λ_=>Gd.eN (Fm (λs hs=>Ko (hf s hs))) (λ_ _=>Gd.ret RM))
 ·rw [h.b]
  refine Gd.dE (λi (ys:List aQ) (s:List aA×List Int×List Bool)=>i+ys.length=n.aJ.length/\(∀ y ∈ ys,y ∈ n.aJ)/\s.1.length=n.aJ.length/\s.2.1.length=n.aJ.length/\s.2.2.length=n.aJ.length) ?_ ?_ n.aJ 0 (w.mr,w.sU,w.over) ⟨by simp,λ_ h=>h,h.f,h.a,h.o⟩
  ·rintro i y ys ⟨s1,s2,s3⟩ nx ⟨hi,hd,h1,J,I⟩ Z
   simp only [RW] at hi;simp only at h1 J I;have hy:=IP hV (hd y (RR ..));have hL:=hy.l;have hS:=Kf hV (hd y (RR ..));have Y:∀ z ∈ ys,z ∈ n.aJ:=λz hz=>hd z (RV _ hz);have hif:i<fl.length:=by omega
   obtain ⟨q,hq,hqe⟩:=hf _ (Sk hif);unfold qA gX;refine Gd.gA hif ?_;rw [hqe];refine Gd.eN (F0 hq) (λa ha=>Gd.eN (Ip ha.1 ha.2.1 (by omega)) (λb hb=>Gd.gA (by rw [h1]; omega) ?_))
   refine Gd.eN (vZ ⟨by omega,by omega⟩) (λc hc=>Gd.eN (EN hb.1 hc.1 hb.2.1 hc.2.1 (by omega)) (λe _=>?_))
   refine Gd.ite (λ_=>Gd.gA (by rw [J]; omega) (Gd.gA (by rw [I]; omega) (Z _ ⟨by omega,Y,by simpa using h1,by simpa using J,by simpa using I⟩))) (λ_=>?_)
   refine Gd.gA (by rw [J]; omega) (Gd.gA (by rw [J]; omega) (Gd.gA (by simp; omega) (Gd.ite (λ_=>Gd.gA (by rw [I]; omega) (Z _ ⟨by omega,Y,by simpa using h1,by simpa using J,by simpa using I⟩)) (λ_=>?_))))
   refine Gd.eN (vZ ⟨by omega,by omega⟩) (λc2 hc2=>Gd.eN (EN hb.1 hc2.1 hb.2.1 hc2.2.1 (by omega)) (λe2 _=>?_))
   exact Gd.ite (λ_=>Gd.gA (by rw [I]; omega) (Z _ ⟨by omega,Y,by simpa using h1,by simpa using J,by simpa using I⟩)) (λ_=>Z _ ⟨by omega,Y,by simpa using h1,by simpa using J,by simpa using I⟩)
  ·rintro i ⟨s1,s2,s3⟩ ⟨hi,hd,h1,J,I⟩
   have hw:xO n (bQ.mk n.aJ s1 s2 s3 (i64.wrap (w.time+d))):=⟨rfl,h1,J,I⟩;exact Gd.eN (Gf hw hV.l3) (λr _=>Gd.ret hw)
theorem M9 {n:Net} (Y:bX n=some 0) (J:pK n):∃ w,qy n=some (some w,0)/\xO n w:=by
 suffices h:Gd (qy n) (λr=>∃ w,r=(some w,0)/\xO n w) by
  obtain ⟨r,I,w,rfl,Z⟩:=h;exact ⟨w,I,Z⟩
 have:=J.l3;unfold qy;refine Gd.bind_eq Y (Gd.ite (λk=>by simp at k) (λ_=>Gd.bind_eq (copy_eq J) ?_))
 refine Gd.eN (Av (by omega)) (λr I=>Gd.nd (by omega) (Gd.nd (by omega) (Gd.ret ⟨_,rfl,?_⟩)))
 obtain ⟨z,rfl,_⟩:=I;exact ⟨rfl,by simp,by simp,by simp⟩
abbrev Rm:=aT
abbrev BX:BA:=⟨#[111,112,101,110]⟩
abbrev zo:BA:=⟨#[99,108,111,115,101]⟩
abbrev HJ:BA:=⟨#[98,97,99,107]⟩
abbrev xP:BA:=⟨#[115,104,101,100]⟩
abbrev uM:BA:=⟨#[112,114,111,111,102]⟩
structure NY (held:List BA) (n:Net) (e:Ev) (l:List aZ):Prop where
 k:e.Kind=BX\/e.Kind=zo
 h:e.Name ∉ held
 s:∃ i,∃ h:i<n.aO.length,n.aO[i].Name=e.Name/\∃ b,l=n.aO.set i (aZ.mk n.aO[i].Name n.aO[i].A n.aO[i].B_ n.aO[i].xo b)
structure Qa (held:List BA) (n:Net) (on:List BA) (e:Ev) (c:cS):Prop where
 sz:qL c.n
 br:c.n.aJ=n.aJ
 ln:nm c.n=nm n
 sw:c.n.aO=n.aO\/NY held n e c.n.aO
 on:e.Kind≠HJ/\c.on=on\/e.Kind=HJ/\e.Name ∈ nm n/\e.Name ∉ on/\c.on=on++[e.Name]
 ks:e.Kind≠xP/\e.Kind≠uM
 hn:e.Kind=BX\/e.Kind=zo->e.Name ∉ held
structure Gt (l:List DU):Prop where
 ok:zM l
 sz:∀ r ∈ l,BG r
theorem LG {n:Net} (h:pK n):(n.aO.map (·.Name)).Nodup:=by
 have:=h.nd;unfold names at this;simp only [SM,Sc] at this;exact this.2.1.1
theorem G8 {r:Rm}{n:Net} (Y:qL n) (hV:pK n) (hr:Gt r.rules) {on:List BA}{e:Ev} (he:DP e) (hk:e.Kind=BX\/e.Kind=zo):
  Gd (ny r (cS.mk n on) e) (λc=>c.1=0->Qa r.held n on e c.2):=by
 have h2:=hV.l2;unfold ny;refine Gd.eN (OI _ e) (λi hi=>Gd.ite (λ_=>Gd.ret (λh=>by simp at h)) (λh0=>Gd.ite (λ_=>Gd.ret (λh=>by simp at h)) (λ_=>?_)))
 rcases hi with ⟨rfl,_⟩ | ⟨i,I,rfl,hp,_⟩
 ·simp at h0
 have hp:n.aO[i].Name=e.Name:=by simpa using hp
 refine Gd.gA I (Gd.ite (λ_=>Gd.ret (λh=>by simp at h)) (λ_=>?_))
 rw [ss];refine Gd.ite (λ_=>Gd.ret (λh=>by simp at h)) (λhh=>?_)
 have hh:e.Name ∉ r.held:=by simpa using hh
 refine Gd.dE (λj (ys:List aZ) (s:List aN)=>j+ys.length=n.aO.length/\n.aO.drop j=ys/\s=(n.aO.take j).map (λy=>aN.mk y.Name (!y.Open))) ?_ ?_ n.aO 0 [] ⟨by simp,rfl,by simp⟩
 ·rintro j y ys s nx ⟨hj,hd,hs⟩ hnx
  simp only [RW] at hj;unfold qE;have Z:j<n.aO.length:=by omega
  have hy:n.aO[j]=y:=by
   rw [Si Z] at hd;exact (WT hd).1
  refine Gd.nd ?_ (hnx _ ⟨by omega,?_,?_⟩)
  ·rw [hs]; simp; omega
  ·rw [Si Z] at hd
   exact (WT hd).2
  ·rw [hs,Sn Z,hy]; simp
 ·rintro j s ⟨hj,hd,hs⟩
  rw [R3 (by simp at hj; omega)] at hs
  have hso:Hz s:=by
   refine ⟨by rw [hs]; simpa using h2,?_,?_⟩
   ·intro x J
    rw [hs] at J;obtain ⟨y,hy,rfl⟩:=SC.1 J;exact (hV.vs y hy).1
   ·rw [hs,List.map_map]
    exact LG hV
  have hsz:∀ x ∈ s,x.Name.size<=maxLen:=by
   intro x J;rw [hs] at J;obtain ⟨y,hy,rfl⟩:=SC.1 J;exact Y.sw y hy
  have vp:∃ x ∈ s,x.Name=e.Name:=by
   refine ⟨aN.mk n.aO[i].Name (!n.aO[i].Open),?_,hp⟩;rw [hs];exact SC.2 ⟨n.aO[i],Sk I,rfl⟩
  refine Gd.eN (EJ hr.ok hr.sz hso hsz _ vp) (λb _=>Gd.ite (λ_=>Gd.ret (λh=>by simp at h)) (λ_=>Gd.gA I (Gd.ret (λ_=>?_))))
  refine ⟨⟨Y.nd,?_,Y.br,Y.gn,Y.ld,Y.st⟩,rfl,rfl,.inr ⟨hk,hh,i,I,hp,_,rfl⟩,.inl ⟨?_,rfl⟩,?_,λ_=>hh⟩
  ·intro x J
   rcases W5 J with J | rfl
   ·exact Y.sw x J
   ·show (n.aO[i]).Name.size<=maxLen
    exact Y.sw _ (Sk I)
  ·rcases hk with h | h <;> rw [h] <;> decide
  ·rcases hk with h | h <;> rw [h] <;> decide
theorem OO (n:Net) (i:Nat) (h:i<n.bE.length) (v:Int):(n.bE.set i (aH.mk n.bE[i].Name n.bE[i].Node v)).map (·.Name)=nm n:=by
 unfold nm;rw [List.map_set];show (n.bE.map (·.Name)).set i (n.bE[i].Name)=_;have:(n.bE.map (·.Name))[i]'(by simpa using h)=n.bE[i].Name:=by simp
 rw [<- this];exact V_ (by simpa using h)
theorem I7 {r:Rm}{n:Net} (Y:qL n) (hV:pK n) (hr:Gt r.rules) {on:List BA} (ho:on.length<=1000) {e:Ev} (he:DP e):
  Gd (ob r (cS.mk n on) e) (λc=>c.1=0->Qa r.held n on e c.2):=by
 unfold ob;refine Gd.eN (OG _ e) (λi hi=>Gd.eN (OF _ e) (λj hj=>?_));have main:∀ c:Bool,(c=true->e.Kind=BX\/e.Kind=zo)->(e.Kind=BX\/e.Kind=zo->c=true)->Gd (kB r (cS.mk n on) e i j c) (λc=>c.1=0->Qa r.held n on e c.2):=by
  intro c hc hc2;unfold kB iL;refine Gd.ite (λh=>Gd.eN (G8 Y hV hr he (hc h)) (λa ha=>Gd.ret ha)) (λhno=>?_);have Z:e.Kind=BX\/e.Kind=zo->e.Name ∉ r.held:=λh=>by rw [hc2 h] at hno; cases hno
  refine Gd.ite (λJ=>?_) (λhk1=>Gd.ite (λJ=>?_) (λhk2=>Gd.ite (λJ=>?_) (λhk3=>Gd.ite (λJ=>?_) (λ_=>Gd.ret (λh=>by simp at h)))))
  ·refine Gd.ite (λ_=>Gd.ret (λh=>by simp at h)) (λh0=>Gd.ite (λ_=>Gd.ret (λh=>by simp at h)) (λ_=>?_))
   have J:=RT J;rcases hi with ⟨rfl,_⟩ | ⟨i,I,rfl,hp,_⟩
   ·simp at h0
   refine Gd.gA I (Gd.ret (λ_=>⟨⟨Y.nd,Y.sw,Y.br,Y.gn,?_,Y.st⟩,rfl,OO n i I _,.inl rfl,.inl ⟨by rw [J]; decide,rfl⟩,by rw [J]; decide,Z⟩))
   intro x hx;rcases W5 hx with hx | rfl
   ·exact Y.ld x hx
   ·show (n.bE[i]).Name.size<=maxLen
    exact Y.ld _ (Sk I)
  ·refine Gd.ite (λ_=>Gd.ret (λh=>by simp at h)) (λh0=>?_)
   have J:=RT J;rcases hj with ⟨rfl,_⟩ | ⟨j,I,rfl,hp,_⟩
   ·simp at h0
   refine Gd.gA I (Gd.ite (λ_=>Gd.ret (λh=>by simp at h)) (λ_=>Gd.gA I (Gd.ret (λ_=>⟨⟨Y.nd,Y.sw,Y.br,?_,Y.ld,Y.st⟩,rfl,rfl,.inl rfl,.inl ⟨by rw [J]; decide,rfl⟩,by rw [J]; decide,Z⟩))))
   intro x hx;rcases W5 hx with hx | rfl
   ·exact Y.gn x hx
   ·show (n.dS[j]).Name.size<=maxLen
    exact Y.gn _ (Sk I)
  ·refine Gd.ite (λ_=>Gd.ret (λh=>by simp at h)) (λh0=>?_)
   have J:=RT J;rcases hi with ⟨rfl,_⟩ | ⟨i,I,rfl,hp,_⟩
   ·simp at h0
   have hp:n.bE[i].Name=e.Name:=by simpa using hp
   rw [ss];refine Gd.ite (λ_=>Gd.ret (λh=>by simp at h)) (λhh=>Gd.gA I (Gd.ite (λ_=>Gd.ret (λh=>by simp at h)) (λ_=>Gd.nd ?_ (Gd.ret (λ_=>?_)))))
   ·simp; omega
   ·have hh:e.Name ∉ on:=by simpa using hh
    exact ⟨Y,rfl,rfl,.inl rfl,.inr ⟨J,SC.2 ⟨_,Sk I,hp⟩,hh,rfl⟩,by rw [J]; decide,Z⟩
  ·have J:=RT J
   exact Gd.ite (λ_=>Gd.ret (λh=>by simp at h)) (λ_=>Gd.ret (λ_=>⟨Y,rfl,rfl,.inl rfl,.inl ⟨by rw [J]; decide,rfl⟩,by rw [J]; decide,Z⟩))
 refine Gd.ite (λh=>main _ (λ_=>.inl (RT h)) (λ_=>h)) (λh=>main _ (λh=>.inr (RT h)) (λk=>?_));rcases k with k | k
 ·exact absurd k (R2 h)
 ·exact XL k
theorem M5 (off:List BA) (x:BA):iM x off=some (!xG off x):=by
 unfold iM xG;rw [ss];simp
theorem M6 (off A:List BA) (hA:A.length<=1000):Gd (dO A off) (λr=>r=A.filter (xG off)):=
 B4 (λx=>iM x off) (xG off) (M5 off) _ A (by omega)
theorem Nc (ex:List BA) (x:BA):kN x ex=some (!decide (x ∈ ex)):=by
 unfold kN;rw [ss];simp
theorem Nd (ex A:List BA) (hA:A.length<=1000):Gd (dX A ex) (λr=>r=A.filter (λx=>decide (x ∈ ex))):=
 B4 (λx=>kN x ex) (λx=>decide (x ∈ ex)) (Nc ex) _ A (by omega)
structure C4 (n:Net) (on:List BA):Prop where
 nd:on.Nodup
 s:∀ x ∈ on,x ∈ nm n
theorem C4.len {n:Net}{on:List BA} (h:C4 n on):on.length<=n.bE.length:=by
 have:=FW on (nm n) h.nd h.s;rw [zE] at this;exact this
theorem C4.Px {n:Net}{on:List BA} (h:C4 n on) (I:bX n=some 0) (hl:n.bE.length<=12):eD n on=some 0:=
 JI I on (SK h.len (by omega)) h.nd h.s
theorem C4.filter {n:Net}{on:List BA} (h:C4 n on) (p:BA->Bool):C4 n (on.filter p):=
 ⟨h.nd.sublist List.filter_sublist,λx I=>h.s x ((S0.1 I).1)⟩
theorem Ge {n:Net}{a b:List BA} (h:∀ x ∈ nm n,x ∈ a↔x ∈ b):rW n a=rW n b:=by
 unfold rW
 congr 1
 refine List.filter_congr (λx I=>?_);unfold FI;have:=h x.Name (SC.2 ⟨x,I,rfl⟩);exact XI.2 this
structure Own (k:BA) (t:Int) (names:List BA) (l:List Ev):Prop where
 n:l.map (·.Name)=names
 k:∀ e ∈ l,e.Kind=k/\e.Time=t
 c:∀ e ∈ l,cL e=some 0
theorem Own.add {k:BA}{t v:Int}{names:List BA}{l:List Ev} (h:Own k t names l) (s:BA) (I:cL (aE.mk t k s v)=some 0):Own k t (names++[s]) (l++[aE.mk t k s v]):=
 ⟨by simp [h.n],λe he=>by
  rcases RZ.1 he with he | he
  ·exact h.k e he
  ·rw [R_.1 he]; exact ⟨rfl,rfl⟩,λe he=>by
  rcases RZ.1 he with he | he
  ·exact h.c e he
  ·rw [R_.1 he]; exact I⟩
theorem Own.len {k:BA}{t:Int}{names:List BA}{l:List Ev} (h:Own k t names l):l.length=names.length:=by
 rw [<- h.n]; simp
theorem Hh {r:Rm} (hz:qL r.cG) (hV:pK r.cG) (hc:bX r.cG=some 0) (hl:r.cG.bE.length<=5) (hon:C4 r.cG r.on)
  (ht:0<=r.time/\r.time<=200000) (hlog:∀ x ∈ r.log.eV,x.Time<=r.time) (hll:r.log.eV.length<=200) {over:List BA} (ho:over.length<=24) (hov:∀ x ∈ over,∃ b ∈ r.cG.aJ,b.Name=x):
  Gd (nB r over) (λr'=>
   (mj r.cG r.on=some ([],8)/\∃ ev,Own uM r.time over ev/\r'=aT.mk r.cG r.rules r.on r.held r.watch r.state r.time (aL.mk (r.log.eV++ev)) over) \/
   ∃ off st ev,Own xP r.time off ev/\NX r.cG (r.on.filter (xG off)) st []/\(∀ x ∈ off,x ∈ r.on)/\off.length<=5 /\
    r'=aT.mk r.cG r.rules (r.on.filter (xG off)) r.held r.watch st r.time (aL.mk (r.log.eV++ev)) r.over):=by
 have h5:=hV.l5;have hol:=hon.len;have hck:=hon.Px hc h5;have hnl:=zE r.cG;obtain ⟨⟨off,e⟩,hre,hrs⟩:=ID hz hV r.on hck (by omega) _ rfl
 unfold nB;refine Gd.bind_eq hre (Gd.ite (λh=>?_) (λh=>?_))
 ·rcases hrs with ⟨h0,_⟩ | ⟨h8,_⟩
  ·exact absurd h0 (by simpa using h)
  refine Gd.dE (λi (ys:List BA) (s:List Ev)=>i+ys.length=over.length/\over.drop i=ys/\∃ ev,Own uM r.time (over.take i) ev/\s=r.log.eV++ev) ?_ ?_ over 0 r.log.eV ⟨by simp,rfl,[],⟨by simp,by simp,by simp⟩,by simp⟩
  ·rintro i y ys s nx ⟨hi,hd,ev,I,rfl⟩ hnx
   simp only [RW] at hi;have Z:i<over.length:=by omega
   have Y:=hd;rw [Si Z] at Y;have hy:over[i]=y:=(WT Y).1;have hel:=I.len;unfold qF;obtain ⟨b,hb,hbn⟩:=hov y (hy▸Sk Z);have hac:cL (aE.mk r.time uM y 0)=some 0:=BV ht Hc (by rw [<- hbn]; exact (hV.vb b hb).1) (by omega)
   obtain ⟨k,hk⟩:=append_eq (l:=r.log.eV++ev) (e:=aE.mk r.time uM y 0) (by simp only [R5,hel,Sm]; omega) (by
    intro x J;rcases RZ.1 J with J | J
    ·exact hlog x J
    ·exact Int.le_of_eq (I.k x J).2) hac
   refine Gd.bind_eq hk (hnx _ ⟨by omega,(WT Y).2,ev++[aE.mk r.time uM y 0],?_,by simp⟩)
   rw [Sn Z,hy];exact I.add y hac
  ·rintro i s ⟨hi,hd,ev,I,rfl⟩
   rw [R3 (by simp at hi; omega)] at I
   exact Gd.ret (.inl ⟨by rw [hre,h8],ev,I,rfl⟩)
 ·have h0:e=0:=by simpa using h
  subst h0;rcases hrs with ⟨_,hsub,hacc,_⟩ | ⟨h8,_⟩
  ·simp only at hsub hacc
   have vp:∀ x ∈ off,x ∈ nm r.cG/\x ∈ r.on:=λx J=>by
    have:=hsub.subset J;rw [S0] at this;exact ⟨this.1,by simpa using this.2⟩
   have hofl:off.length<=5:=by
    refine SK hsub.length_le (SK (W2 _ _) (by omega))
   refine Gd.dE (λi (ys:List BA) (s:List Ev)=>i+ys.length=off.length/\off.drop i=ys/\∃ ev,Own xP r.time (off.take i) ev/\s=r.log.eV++ev) ?_ ?_ off 0 r.log.eV ⟨by simp,rfl,[],⟨by simp,by simp,by simp⟩,by simp⟩
   ·rintro i y ys s nx ⟨hi,hd,ev,I,rfl⟩ hnx
    simp only [RW] at hi;have Z:i<off.length:=by omega
    have Y:=hd;rw [Si Z] at Y;have hy:off[i]=y:=(WT Y).1;have hel:=I.len;unfold qG;obtain ⟨b,hb,hbn⟩:=SC.1 (vp y (hy▸Sk Z)).1;refine Gd.eN (OH _ y) (λj hj=>?_);rcases hj with ⟨_,hno⟩ | ⟨j,hjl,rfl,hp,_⟩
    ·have:=hno b hb
     simp [hbn] at this
    have hld:=hV.vl _ (Sk hjl);have hdm:0<=r.cG.bE[j].c_/\r.cG.bE[j].c_<=100000:=by
     have:=hld.2.2;simp [aW,bI] at this;omega
    refine Gd.gA hjl ?_;have hac:cL (aE.mk r.time xP y r.cG.bE[j].c_)=some 0:=BV ht Jy (by rw [<- hbn]; exact (hV.vl b hb).1) (by omega)
    obtain ⟨k,hk⟩:=append_eq (l:=r.log.eV++ev) (e:=aE.mk r.time xP y r.cG.bE[j].c_) (by simp only [R5,hel,Sm]; omega) (by
     intro x J;rcases RZ.1 J with J | J
     ·exact hlog x J
     ·exact Int.le_of_eq (I.k x J).2) hac
    refine Gd.bind_eq hk (hnx _ ⟨by omega,(WT Y).2,ev++[aE.mk r.time xP y r.cG.bE[j].c_],?_,by simp⟩)
    rw [Sn Z,hy];exact I.add y hac
   ·rintro i s ⟨hi,hd,ev,I,rfl⟩
    rw [R3 (by simp at hi; omega)] at I
    refine Gd.eN (M6 off r.on (by omega)) (λon' hon'=>?_)
    subst hon';have hon2:=hon.filter (xG off);have hck2:=hon2.Px hc h5;obtain ⟨s,hs,hsg⟩:=BH hz (r.on.filter (xG off));obtain ⟨q,hq⟩:=Hq (hz.rW (r.on.filter (xG off)));have hqs:=JV hV hck2 hq;rw [hs] at hqs;have hqs:=RQ hqs;subst hqs;have hw:rW r.cG (((nm r.cG).filter (λx=>decide (x ∈ r.on))).filter (xG off))=rW r.cG (r.on.filter (xG off)):=Ge (λx J=>by
     simp only [S0,J,true_and,Sy])
    have hord:CJ r.cG (r.on.filter (xG off)):=by
     unfold C7 CJ at hacc;rw [hw] at hacc;exact hacc
    obtain ⟨e0,e1⟩:=(Jo hq).1 hord;have hst:=hsg.2 e0;rw [e1] at hst;exact Gd.bind_eq hs (Gd.ret (.inr ⟨off,s.1,ev,I,hst,λx J=>(vp x J).2,hofl,rfl⟩))
  ·simp at h8
structure Inv (r:Rm):Prop where
 sz:qL r.cG
 ru:Gt r.rules
 on:C4 r.cG r.on
 ll:r.cG.bE.length<=5
 st:∃ ov,NX r.cG r.on r.state ov
 w:xO r.cG r.watch
 tm:0<=r.time/\r.time<=200000
 lt:∀ x ∈ r.log.eV,x.Time<=r.time
 lc:r.log.eV.length<=250
 ol:r.over.length<=24
 lk:∀ x ∈ r.log.eV,cL x=some 0
def As (r:Rm) (e:Ev):Option bQ:=
 if 1<=e.Time-r.time then (lM r.watch r.state.iI (e.Time-r.time)).map (·.2.2) else some r.watch
structure Pe (r:Rm) (e:Ev) (r':Rm):Prop where
  c:cL e=some 0
  t:r.time<=e.Time
  t':r'.time=e.Time
  ru:r'.rules=r.rules
  he:r'.held=r.held
  k:e.Kind≠xP/\e.Kind≠uM
  sw:r'.cG.aO=r.cG.aO\/NY r.held r.cG e r'.cG.aO
  hn:e.Kind=BX\/e.Kind=zo->e.Name ∉ r.held
  ln:nm r'.cG=nm r.cG
  wa:As r e=some r'.watch
  x:∃ on1,(e.Kind≠HJ/\on1=r.on\/e.Kind=HJ/\e.Name ∈ nm r.cG/\e.Name ∉ r.on/\on1=r.on++[e.Name]) /\
    ∃ st1 ov1 ex,NX r'.cG on1 st1 ov1/\jT r'.watch=some ex /\
    ((ov1.filter (λx=>decide (x ∈ ex))=[]/\r'.on=on1/\r'.state=st1/\r'.over=[]/\r'.log.eV=r.log.eV++[e]) \/
     (mj r'.cG on1=some ([],8)/\r'.on=on1/\r'.state=st1/\r'.over=ov1.filter (λx=>decide (x ∈ ex))/\∃ ev,Own uM e.Time r'.over ev/\r'.log.eV=r.log.eV++[e]++ev) \/
     (∃ off ev,Own xP e.Time off ev/\r'.on=on1.filter (xG off)/\NX r'.cG r'.on r'.state []/\(∀ x ∈ off,x ∈ on1)/\r'.over=[]/\r'.log.eV=r.log.eV++[e]++ev))
theorem xO.QW {n m:Net}{w:bQ} (h:xO n w) (e:m.aJ=n.aJ):xO m w:=⟨by rw [h.b,e],by rw [h.f,e],by rw [h.a,e],by rw [h.o,e]⟩
theorem Nh {r:Rm} (h:Inv r) {e:Ev} (hc:cL e=some 0) (ht:r.time<=e.Time) (ht2:0<=e.Time/\e.Time<=200000) (hl:r.log.eV.length<200)
  {c:cS} (I:Qa r.held r.cG r.on e c) {st:cH}{ov:List BA} (hs:NX c.n c.on st ov) {w:bQ} (hw:xO c.n w) (hwe:As r e=some w):
  Gd (jU r e (0,c) (st,ov,0) w.lv w.mr w.sU w.over w.time) (λq=>q.1=0/\Inv q.2/\Pe r e q.2):=by
 have hll:c.n.bE.length=r.cG.bE.length:=by
  have:=R7 List.length I.ln
  rwa [zE,zE] at this
 have h5:=h.ll;have hon:C4 c.n c.on:=by
  rcases I.on with ⟨_,ho⟩ | ⟨_,O,hno,ho⟩
  ·rw [ho]; exact ⟨h.on.nd,λx J=>by rw [I.ln]; exact h.on.s x J⟩
  ·rw [ho]
   refine ⟨?_,λx J=>?_⟩
   ·rw [SM]
    refine ⟨h.on.nd,by simp,λa ha b hb=>?_⟩
    rw [R_.1 hb];intro k; rw [k] at ha; exact hno ha
   ·rw [I.ln]
    rcases RZ.1 J with J | J
    ·exact h.on.s x J
    ·rw [R_.1 J]; exact O
 have hlt:∀ x ∈ r.log.eV++[e],x.Time<=e.Time:=λx J=>by
  rcases RZ.1 J with J | J
  ·exact Int.le_trans (h.lt x J) ht
  ·rw [R_.1 J]; exact Ub _
 have hlk:∀ x ∈ r.log.eV++[e],cL x=some 0:=λx J=>by
  rcases RZ.1 J with J | J
  ·exact h.lk x J
  ·rw [R_.1 J]; exact hc
 unfold jU nt;obtain ⟨k,hk⟩:=append_eq (l:=r.log.eV) (e:=e) (by omega) (λx J=>Int.le_trans (h.lt x J) ht) hc
 refine Gd.bind_eq hk ?_;obtain ⟨ex,Z,hexl⟩:=Gf hw hs.v.l3;refine Gd.bind_eq Z (Gd.eN (Nd ex ov (SK hs.ol (by omega))) (λov' ho'=>?_))
 subst ho';have hol:(ov.filter (λx=>decide (x ∈ ex))).length<=24:=SK (W2 _ _) hs.ol;refine Gd.ite (λhp=>?_) (λhp=>?_)
 ·refine Gd.eN (Hh (r:=aT.mk c.n r.rules c.on r.held w st e.Time (aL.mk (r.log.eV++[e])) []) I.sz hs.v hs.cn (by simp only; omega) hon ht2 hlt (by simp; omega) hol (λx J=>hs.om x (S0.1 J).1)) (λq hq=>Gd.ret ⟨rfl,?_⟩)
  rcases hq with ⟨hre,ev,Y,rfl⟩ | ⟨off,st',ev,Y,hst,hoff,hofl,rfl⟩
  ·have hel:ev.length<=24:=by rw [Y.len]; exact hol
   refine ⟨⟨I.sz,h.ru,hon,by simp only; omega,⟨ov,hs⟩,hw,ht2,?_,?_,hol,?_⟩,⟨hc,ht,rfl,rfl,rfl,I.ks,I.sw,I.hn,I.ln,hwe,c.on,I.on,st,ov,ex,hs,Z,.inr (.inl ⟨hre,rfl,rfl,rfl,ev,Y,rfl⟩)⟩⟩
   ·intro x J
    rcases RZ.1 J with J | J
    ·exact hlt x J
    ·exact Int.le_of_eq (Y.k x J).2
   ·simp only [R5,RW,W3]; omega
   ·intro x J
    rcases RZ.1 J with J | J
    ·exact hlk x J
    ·exact Y.c x J
  ·have hel:=Y.len
   refine ⟨⟨I.sz,h.ru,hon.filter _,by simp only; omega,⟨[],hst⟩,hw,ht2,?_,?_,by simp,?_⟩,⟨hc,ht,rfl,rfl,rfl,I.ks,I.sw,I.hn,I.ln,hwe,c.on,I.on,st,ov,ex,hs,Z,.inr (.inr ⟨off,ev,Y,rfl,hst,hoff,rfl,rfl⟩)⟩⟩
   ·intro x J
    rcases RZ.1 J with J | J
    ·exact hlt x J
    ·exact Int.le_of_eq (Y.k x J).2
   ·simp only [R5,RW,W3,hel]; omega
   ·intro x J
    rcases RZ.1 J with J | J
    ·exact hlk x J
    ·exact Y.c x J
 ·have h0:ov.filter (λx=>decide (x ∈ ex))=[]:=by
   simp only [XK] at hp;exact List.length_eq_zero_iff.1 (Nat.le_zero.1 (Nat.not_lt.1 (λk=>hp (Int.ofNat_lt.2 k))))
  refine Gd.ret ⟨rfl,⟨I.sz,h.ru,hon,by simp only; omega,⟨ov,hs⟩,hw,ht2,hlt,by simp; omega,by simp,hlk⟩,⟨hc,ht,rfl,rfl,rfl,I.ks,I.sw,I.hn,I.ln,hwe,c.on,I.on,st,ov,ex,hs,Z,.inl ⟨h0,rfl,rfl,rfl,rfl⟩⟩⟩
theorem Ni {r:Rm} (h:Inv r) {e:Ev} (he:DP e):Gd (jQ r e) (λq=>Inv q.2/\(q.1≠0->q.2=r)/\(q.1=0->Pe r e q.2)):=by
 obtain ⟨ov0,Y⟩:=h.st;have hV:=Y.v;have hol:=h.on.len;have h5:=h.ll;have no:∀ k:Int,k≠0->Gd (some (k,r)) (λq:Int×Rm=>Inv q.2/\(q.1≠0->q.2=r)/\(q.1=0->Pe r e q.2)):=λk hk=>Gd.ret ⟨h,λ_=>rfl,λI=>absurd I hk⟩;unfold jQ;obtain ⟨k,hk,hkt⟩:=IJ he;refine Gd.bind_eq hk (Gd.ite (λI=>no k (by simpa using I)) (λI=>?_))
 have I:k=0:=by simpa using I
 subst I;have ht2:=hkt rfl;refine Gd.ite (λ_=>no _ (by decide)) (λht=>?_)
 have ht:r.time<=e.Time:=by simpa using ht
 have htm:=h.tm;have hlc:=h.lc;refine Gd.eN (P:=λx=>x=r.log.eV) (by unfold fX; exact Gd.nd (by omega) (Gd.ret rfl)) (λal hal=>?_)
 subst hal;refine Gd.ite (λ_=>no _ (by decide)) (λhl=>Gd.bind_eq (copy_eq hV) (Gd.nd (by omega) (Gd.eN (I7 h.sz hV h.ru (by omega) he) (λc hce=>?_))))
 have hl:r.log.eV.length<200:=by
  simp at hl; omega
 obtain ⟨f,c⟩:=c;refine Gd.ite (λI=>no f (by simpa using I)) (λI=>?_)
 have I:f=0:=by simpa using I
 subst I;have J:=hce rfl;refine Gd.eN (BH J.sz c.on) (λs hs=>?_);obtain ⟨st,ov,g⟩:=s;refine Gd.ite (λI=>no g (by simpa using I)) (λI=>?_)
 have I:g=0:=by simpa using I
 subst I;have hst:=hs.2 rfl;have hw0:=h.w.QW J.br;have hd:i64.wrap (e.Time-r.time)=e.Time-r.time:=bG ⟨by omega,by omega⟩
 refine Gd.ite (λ_=>no _ (by decide)) (λ_=>?_)
 rw [hd];have fin:∀ w,xO c.n w->As r e=some w->Gd (jU r e (0,c) (st,ov,0) w.lv w.mr w.sU w.over w.time) (λq=>Inv q.2/\(q.1≠0->q.2=r)/\(q.1=0->Pe r e q.2)):=λw hw hwe=>
  (Nh h hk ht ht2 hl J hst hw hwe).mono (λq Z=>⟨Z.2.1,λk=>absurd Z.1 k,λ_=>Z.2.2⟩)
 refine Gd.ite (λh1=>?_) (λh1=>?_)
 ·obtain ⟨q,Z,hqw⟩:=LX h.w hV Y.fl Y.ff (e.Time-r.time)
  refine Gd.bind_eq Z (fin q.2.2 (hqw.QW J.br) ?_);unfold As;rw [RU (RT h1),Z]
  rfl
 ·refine fin r.watch hw0 ?_
  unfold As;rw [RS (R2 h1)]
end Go.Sim
