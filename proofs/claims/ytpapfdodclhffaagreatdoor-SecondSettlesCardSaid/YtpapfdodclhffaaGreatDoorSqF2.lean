/-
  The proof, part F2.
-/
import Derived.Test.YtpapfdodclhffaaGreatDoorSqF1
set_option linter.unusedVariables false
set_option linter.unusedSimpArgs false
set_option linter.unusedSectionVars false
set_option linter.unnecessarySimpa false
namespace Go.Sim
abbrev XI := @Int.natCast_nonneg
abbrev XN := @List.cons.inj
abbrev XQ := @List.eq_of_mem_replicate
abbrev XR := @List.filter_cons
abbrev XS := @List.getElem_set
abbrev XX := @List.length_filter_le
abbrev X5 := @List.set_append_right
abbrev YY := @Rat.intCast_le_intCast
end Go.Sim
namespace Go.Sim
open Go
open _root_.Go.IntKind (i64 u64 u32 u8)
def He (n i:Nat):List Nat:=(List.range i).map (·+1)++List.replicate (n-i) 0
theorem C2 (n:Nat):He n 0=List.replicate n 0:=by simp [He]
theorem C1 (n:Nat):He n n=zX n:=by simp [He,zX]
theorem Ho {n i:Nat} (hi:i<n):(He n i)[i]? = some 0:=by
 unfold He;rw [SB (by simp),UE,R9 (by simp; omega)]
theorem Cm {n i:Nat} (hi:i<n):(He n i).set i (i+1)=He n (i+1):=by
 unfold He;rw [X5 _ _ (by simp)]
 have e:n-i=(n-(i+1))+1:=by omega
 rw [e,UL,V1];simp
theorem MY {n i:Nat} (hi:i<n):(He n (i+1))[i]? = some (i+1):=by
 rw [<- Cm hi,SC (by simp [He]; omega)]
theorem DY {n:Nat}{rows:List (List LR)} (h:rows.length=n):sY (zX n) ([]::rows)=rows:=by
 apply TP;intro i;unfold sY;rw [SD]
 by_cases hi:i<n
 ·rw [FN hi,Tq,IZ,RY (by omega)]; rfl
 ·rw [S3 (by rw [yf]; omega),S3 (by omega)]; rfl
theorem M6 {rows:List (List LR)}{n:Nat} (hl:rows.length=n) (hn:n<=1000) (Z:∀ y ∈ rows,y.length<=1000):Gd (wD rows) (λr=>r=(zX n,[]::rows)):=by
 unfold wD;rw [hl];refine Gd.nd (by omega) ?_
 rw [RZ];refine Gd.eL (λi l s=>∃ pre,rows=pre++l/\pre.length=i/\s=(He n i,[]::pre)) ?_ ?_ rows 0 _ ⟨[],rfl,rfl,by rw [C2]⟩
 ·rintro i y ys _ nx ⟨pre,J,I,rfl⟩ Y
  have hi:i<n:=by rw [<- hl,J,Sg,R_]; omega
  have hy:=Z y (by rw [J]; simp)
  unfold xj;refine Gd.nd (by simp; omega) (Gd.ix (by omega) (by rw [RZ]; exact Ho hi) (Y _ ⟨pre++[y],by rw [J]; simp,by simp [I],?_⟩))
  rw [RZ,R_,I,Cm hi];simp
 ·rintro i _ ⟨pre,J,I,rfl⟩
  rw [SN] at J;subst J;refine Gd.ret ?_;rw [<- I,hl,C1]
theorem vU.short {rows:List (List LR)}{n w W:Nat}{m:Mt} (h:vU rows n w W m) (J:w<=1000):∀ y ∈ rows,y.length<=1000:=by
 intro y I;obtain ⟨i,hi,he⟩:=Ti.1 I;obtain ⟨l,h1,h2,_⟩:=h.row i (by rw [<- h.len]; exact hi)
 rw [RY hi] at h1;have:=RX h1;rw [<- he,this]; omega
theorem Ka {rows:List (List LR)}{n W:Nat}{A m0:Mt} (hn:n<=400) (hW:W<=100000) (hp:Pd n A) (h0:Gj n A 0 m0) (hM:vU rows n (2*n) W m0)
  (hB:∀ k m,k<=n->Gj n A k m->∀ i c,i<n->c<2*n->RB (m i c) W):
  Gd (sH rows (n:Int)) (λr=>∃ I m,r.1=(zX n,[]::I)/\r.2.length=n/\Gj n A n m/\vU I n (2*n) W m):=by
 unfold sH;refine Gd.fH (M6 hM.len (by omega) (hM.short (by omega))) (λr hr=>?_)
 subst hr;refine Gd.iV (λs=>∃ (k:Nat) (l:List Int) (I:List (List LR)) (m:Mt),s=(l,(k:Int),zX n,[]::I)/\l.length=k/\k<=n/\Gj n A k m/\vU I n (2*n) W m) (λs=>((n:Int)-s.2.1).toNat) ?_ gO _
  ⟨0,[],rows,m0,rfl,rfl,by omega,h0,hM⟩ (by simp only [gO]; omega)
 rintro _ nx ⟨k,l,I,m,rfl,hl,hk,Z,hM'⟩ Y;show Gd (nT (n:Int) l (k:Int) (zX n) ([]::I) nx) _
 by_cases h:k<n
 ·have hd:=Z.Ou hp h
  refine J_ hl h (by omega) (by omega) (by omega) (by omega) hW hd hM' (λc hc=>?_) (λi c hi hc=>hB (k+1) _ (by omega) (Z.step h hd) i c hi hc) (λJ hM''=>?_)
  ·rw [Z.left k c h (by omega) hc,rF (by omega)]
  ·exact Y _ ⟨k+1,_,J,_,rfl,by simp [hl],by omega,Z.step h hd,hM''⟩ (by simp only; omega)
 ·obtain rfl:k=n:=by omega
  unfold nT;refine Gd.ite (λh=>absurd h (by simp)) (λ_=>Gd.ret ⟨I,m,rfl,hl,Z,hM'⟩)
theorem Bg {n:Nat} (hn:n<=1000):Gd (oR (n:Int)) (λr=>∃ z,r=List.replicate n z/\qB z/\RL z 2/\rv z=0):=by
 unfold oR;refine Gd.fH (wT (n:=0) (by omega)) (λz I=>Gd.nd (by simp; omega) (Gd.ret ⟨z,zq _ _,I.1,I.2.1,by rw [I.2.2]; rfl⟩))
theorem vU.snoc {rows:List (List LR)}{n w W:Nat}{m:Mt} (h:vU rows n w W m) {l:List LR} (h2:l.length=w) (I:∀ c,c<w->∃ y,l[c]? = some y/\qB y/\RL y W/\rv y=m n c):vU (rows++[l]) (n+1) w W m:=by
 refine ⟨by simp [h.len],λi hi=>?_⟩
 by_cases e:i<n
 ·obtain ⟨l',a,b,c⟩:=h.row i e
  exact ⟨l',by rw [S9 (by rw [h.len]; exact e)]; exact a,b,c⟩
 ·obtain rfl:i=n:=by omega
  exact ⟨l,by rw [SB (by rw [h.len]; omega),h.len,Tk]; rfl,h2,I⟩
def Fg (n:Nat) (A:Mt):Mt:=λi c=>if c<n then A i c else dl i (c-n)
theorem Lu (n:Nat) (A:Mt):Gj n A 0 (Fg n A):=by
 have e:∀ i j,Fg n A i (n+j)=dl i j:=λi j=>by unfold Fg; rw [R8 (by omega)]; congr 1; omega
 refine ⟨λi c hi J=>?_,λi j _ _ _=>e i j,λi c _ _ h=>by omega⟩
 have h1:sm n (λj=>Fg n A i (n+j)*A j c)=Fg n A i (n+i)*A i c:=DW (p:=i) hi (λj Y I=>by rw [e,rF (λx=>I x.symm)]; grind)
 rw [h1,e,sC];unfold Fg;rw [if_pos J]; grind
theorem Ng {n k W:Nat}{y:List LR}{z one:LR}{A:Mt} (hk:k<n) (hy:y.length=n) (J:∀ c,c<n->∃ v,y[c]? = some v/\qB v/\RL v W/\rv v=A k c) (Y:qB z/\RL z 2/\rv z=0) (I:qB one/\RL one 2/\rv one=1) (Z:2<=W):
  ((([]++y)++List.replicate n z).set (n+k) one).length=2*n/\∀ c,c<2*n->∃ v,((([]++y)++List.replicate n z).set (n+k) one)[c]? = some v/\qB v/\RL v W/\rv v=Fg n A k c:=by
 refine ⟨by simp [hy]; omega,λc hc=>?_⟩
 rw [TG];unfold Fg
 by_cases h1:c<n
 ·obtain ⟨v,a,b,d,e⟩:=J c h1
  refine ⟨v,?_,b,d,by rw [R9 h1]; exact e⟩
  rw [Sx (by omega),S9 (by omega)]; exact a
 ·by_cases h2:c=n+k
  ·subst h2
   refine ⟨one,by rw [SC (by simp [hy]; omega)],I.1,I.2.1.mono Z,?_⟩
   rw [R8 h1,I.2.2,TN,sC]
  ·refine ⟨z,?_,Y.1,Y.2.1.mono Z,?_⟩
   ·rw [Sx (by omega),SB (by omega),UE,R9 (by omega)]
   ·rw [R8 h1,Y.2.2,rF (by omega)]
theorem HO {rows:List (List LR)}{n W:Nat}{A:Mt} (hn:n<=400) (hW:W<=100000) (hW2:2<=W) (hp:Pd n A) (hM:vU rows n n W A)
  (hB:∀ k m,k<=n->Gj n A k m->∀ i c,i<n->c<2*n->RB (m i c) W):
  Gd (rO rows) (λr=>r.2=true/\∃ m,Gj n A n m/\vU r.1 n n W (λi c=>m i (n+c))):=by
 unfold rO;rw [hM.len];refine Gd.nd (by omega) ?_
 rw [RZ];refine Gd.lH (λM i s=>i+M=n/\∃ pre:List (List LR),s=(He n i,[]::pre)/\vU pre i (2*n) W (Fg n A)) ?_ ?_ n 0 _ ⟨by omega,[],by rw [C2],⟨rfl,λi hi=>by omega⟩⟩
 ·rintro M i _ nx ⟨hiM,pre,rfl,I⟩ hnx
  have hi:i<n:=by omega
  obtain ⟨y,y1,y2,y3⟩:=hM.row i hi;unfold uL;rw [hM.len];refine Gd.ix (y:=y) (by omega) (by rw [RZ]; exact y1) (Gd.nd (by simp; omega) (Gd.fH (Bg (by omega)) ?_))
  rintro _ ⟨z,rfl,hz⟩;refine Gd.nd (by simp; omega) (Gd.ix (by omega) (by rw [RZ]; exact Ho hi) ?_)
  have hlen:([]::pre:List (List LR)).length=i+1:=by simp [I.len]
  rw [hlen,RZ,Cm hi];refine Gd.ix (by omega) (by rw [RZ]; exact MY hi) (Gd.fH (wT (n:=1) (by omega)) (λone ho=>?_))
  have ho2:qB one/\RL one 2/\rv one=1:=⟨ho.1,ho.2.1,by rw [ho.2.2]; rfl⟩
  have hrow:=Ng hi y2 y3 hz ho2 hW2;have hat:((([]::pre++[([]++y)++List.replicate n z]:List (List LR))[i+1]?).getD [])=([]++y)++List.replicate n z:=by
   rw [Ur,List.getElem?_cons_succ,SB (by rw [I.len]; omega),I.len,Tk]; rfl
  rw [hat];have hwr:i64.wrap ((n:Int)+(i:Int))=((n+i:Nat):Int):=by rw [bZ ⟨by omega,by omega⟩]; omega
  rw [hwr];refine Gd.ix (y:=z) (by omega) ?_ (hnx _ ⟨by omega,pre++[(([]++y)++List.replicate n z).set (n+i) one],?_,I.snoc hrow.1 hrow.2⟩)
  ·rw [RZ,TG,SB (by omega),UE,R9 (by omega)]
  ·rw [RZ,Ur,List.set_cons_succ,X5 _ _ (by rw [I.len]; omega),I.len,Tk]
   rfl
 ·rintro i _ ⟨hi,pre,rfl,I⟩
  obtain rfl:i=n:=by omega
  show Gd ((sH (sY (He i i) ([]::pre)) (i:Int)).bind _) _;rw [C1,DY I.len];refine Gd.fH (Ka hn hW hp (Lu i A) I hB) ?_;rintro ⟨⟨sg,ls⟩,pv⟩ ⟨J,m,he,hpl,hG,hM'⟩;obtain ⟨rfl,rfl⟩:=Prod.mk.inj he;simp only at hpl ⊢;rw [hpl];refine Gd.ite (λh=>absurd (R7 h) (by omega)) (λ_=>?_)
  rw [yf];refine Gd.nd (by omega) ?_
  rw [RZ];refine Gd.lH (λM k s=>k+M=i/\∃ rs:List (List LR),s=(zX i,[]::rs)/\rs.length=i/\∀ q,q<i->rs[q]? = if q<k then (J[q]?).map (·.drop i) else J[q]?) ?_ ?_ i 0 _
   ⟨by omega,J,rfl,hM'.len,λq _=>by rw [R8 (by omega)]⟩
  ·rintro M k _ nx ⟨hkM,rs,rfl,Y,Z⟩ hnx
   have hk:k<i:=by omega
   obtain ⟨l,l1,l2,l3⟩:=hM'.row k hk;have hat:rs[k]? = some l:=by rw [Z k hk,R8 (by omega),l1]
   unfold uM;rw [hM.len];refine qU hk ?_;rw [IZ,hat,Ug];refine Gd.nd (by omega) (qU hk (Gd.nd ?_ ?_))
   ·rw [RZ]
    refine Nt (λj hj=>?_);have hjn:j<i:=by
     have:=(R3.1 hj).1
     rwa [yf] at this
    rw [FN hjn] at hj;have:=RX hj;omega
   ·rw [RZ,RZ,CA hk,O4]
    refine hnx _ ⟨by omega,_,rfl,by rw [Tp]; exact Y,λq hq=>?_⟩
    by_cases e:k=q
    ·subst e
     rw [SC (by omega),R9 (by omega),l1]; rfl
    ·rw [Sx e,Z q hq]
     by_cases e2:q<k
     ·rw [R9 e2,R9 (by omega)]
     ·rw [R8 e2,R8 (by omega)]
  ·rintro k _ ⟨hk,rs,rfl,Y,Z⟩
   refine Gd.ret ⟨rfl,m,hG,?_⟩;show vU (sY (zX i) ([]::rs)) i i W _;rw [DY Y];refine ⟨Y,λq hq=>?_⟩;obtain ⟨l,l1,l2,l3⟩:=hM'.row q hq;refine ⟨l.drop i,by rw [Z q hq,R9 (by omega),l1]; rfl,by rw [Tx]; omega,λc hc=>?_⟩
   obtain ⟨v,a,b,d,e⟩:=l3 (i+c) (by omega)
   exact ⟨v,by rw [SK]; exact a,b,d,e⟩
def wq (k:Nat):Rat:=(((WB ^ k:Nat):Int):Rat)
theorem xq (a b:Nat):wq a*wq b=wq (a+b):=by unfold wq; rw [Yi,SX,YZ]
theorem xr (a:Nat):1<=wq a:=by
 unfold wq;have h:(1:Nat)<=WB ^ a:=Nat.one_le_pow _ _ (by decide)
 have h2:(1:Int)<=((WB ^ a:Nat):Int):=by omega
 have:=YY.2 h2
 rwa [Rat.intCast_one] at this
theorem zF {a b:Nat} (h:a<=b):wq a<=wq b:=by
 unfold wq;have h:WB ^ a<=WB ^ b:=Yk (by decide) h
 exact YY.2 (by omega)
theorem CX {x y a b:Rat} (h1:-a<=x) (h2:x<=a) (Y:-b<=y) (Z:y<=b):-(a*b)<=x*y/\x*y<=a*b:=by
 have e1:=Rat.mul_nonneg (show 0<=a-x by grind) (show 0<=b+y by grind)
 have e2:=Rat.mul_nonneg (show 0<=a+x by grind) (show 0<=b-y by grind)
 have I:=Rat.mul_nonneg (show 0<=a-x by grind) (show 0<=b-y by grind)
 have J:=Rat.mul_nonneg (show 0<=a+x by grind) (show 0<=b+y by grind)
 constructor <;> grind
theorem L3 {z:Int}{k:Nat} (h1:-wq k<=(z:Rat)) (h2:(z:Rat)<=wq k):z.natAbs<WB ^ (k+1):=by
 unfold wq at h1 h2;rw [<- Y0] at h1;have a1:=YY.1 h1;have I:=YY.1 h2;have J:WB ^ k<WB ^ (k+1):=Nat.pow_lt_pow_right (by decide) (by omega)
 omega
theorem A9 {p q:Rat}{k:Nat} (I:vO p) (J:vO q) (p1:-wq k<=p) (p2:p<=wq k) (Z:-wq k<=q) (q2:q<=wq k) (Y:q≠0) (hk:k<=186):RB (p / q) (k+1):=by
 obtain ⟨a,rfl⟩:=I;obtain ⟨b,rfl⟩:=J;exact RB.ratio (L3 p1 p2) (L3 Z q2) (λe=>Y (by rw [e]; rfl)) (by omega)
theorem RB.zero:RB 0 1:=by
 have:=RB.small (m:=0) (by decide)
 simpa using this
theorem RB.one:RB 1 1:=by
 have:=RB.small (m:=1) (by decide)
 simpa using this
theorem RB.dl (i j:Nat):RB (dl i j) 1:=by
 rcases yC i j with h | h <;> rw [h]
 ·exact RB.zero
 ·exact RB.one
theorem RB.sm {f:Nat->Rat}{a:Nat}:∀ {n:Nat},n*(a+1)+1<=700000->(∀ j,j<n->RB (f j) a)->RB (sm n f) (n*(a+1)+1)
 | 0,_,_=>RB.zero.mono (by omega)
 | n+1,hn,h=>by
  have e:(n+1)*(a+1)=n*(a+1)+(a+1):=Nat.succ_mul _ _;have h1:=RB.sm (n:=n) (by omega) (λj I=>h j (by omega))
  exact (h1.add (h n (by omega)) (by omega)).mono (by omega)
structure Nb (n:Nat) (A:Mt) (L:Nat->Rat) (B:Mt) (R:Nat->Rat):Prop where
 s:KH n A L B R
 hP:pr n R<=wq 60
 hL:∀ i,i<n->L i<=wq 18
theorem Nb.R {n:Nat}{A B:Mt}{L R:Nat->Rat} (h:Nb n A L B R) {i:Nat} (hi:i<n):R i<=wq 60:=by
 have key:∀ {m:Nat},(∀ j,j<m->1<=R j)->i<m->R i<=pr m R:=by
  intro m
  induction m with
  | zero=>intro _ h; omega
  | succ m ih=>
   intro h1 hi;have p1:1<=pr m R:=FG (λj I=>h1 j (by omega))
   show R i<=pr m R*R m
   by_cases e:i=m
   ·subst e
    have:=Rat.mul_le_mul_of_nonneg_right p1 (show 0<=R i by have:=h1 i hi; grind)
    grind
   ·have a:=ih (λj I=>h1 j (by omega)) (by omega)
    have:=Rat.mul_le_mul_of_nonneg_left (h1 m (by omega)) (show 0<=pr m R by grind)
    grind
 exact Y2 (key (λj I=>h.s.R1 I) hi) h.hP
theorem Nb.L0 {n:Nat}{A B:Mt}{L R:Nat->Rat} (h:Nb n A L B R) {i:Nat} (hi:i<n):L i≠0:=λe=>by
 have:=h.s.l1 i hi; rw [e] at this; exact absurd this (by decide)
theorem Nb.ab {n:Nat}{A B:Mt}{L R:Nat->Rat} (h:Nb n A L B R) {i c:Nat} (hi:i<n) (I:c<n):-wq 60<=L i*A i c/\L i*A i c<=wq 60:=by
 have h1:=h.s.ab i c hi I;have h2:=OA (f:=B i) (h.s.b0 i) I;have J:=h.s.rs i hi;have Y:=h.R hi;constructor <;> grind
theorem Nb.A {n:Nat}{A B:Mt}{L R:Nat->Rat} (h:Nb n A L B R) {i c:Nat} (hi:i<n) (I:c<n):RB (A i c) 61:=by
 have e:A i c=(L i*A i c) / L i:=by
  rw [YX];have:=Y4 (L i) (h.L0 hi)
  grind
 rw [e];have l1:=h.s.l1 i hi;have l2:=h.hL i hi;have l3:=zF (show 18<=60 by omega)
 have w:=xr 60;exact A9 (h.s.ai i c hi I) (h.s.li i hi) (h.ab hi I).1 (h.ab hi I).2 (by grind) (by grind) (h.L0 hi) (by omega)
def Dk (A:Mt) (L:Nat->Rat) (k:Nat):Rat:=rE k (λr c=>L r*A r c)
theorem Nb.D0 {n:Nat}{A B:Mt}{L R:Nat->Rat} (h:Nb n A L B R) (Y:Pd n A):∀ {k:Nat},k<=n->Dk A L k≠0/\∃ m,Gj n A k m
 | 0,_=>⟨by show (1:Rat)≠0; decide,_,Lu n A⟩
 | k+1,hk=>by
  obtain ⟨d,m,I⟩:=h.D0 Y (k:=k) (by omega)
  have J:=I.Ou Y (by omega)
  refine ⟨?_,_,I.step (by omega) J⟩
  have e:=I.rE (k:=k) (by omega) (L:=L) (λi hi=>h.L0 hi)
  show Sim.rE (k+1) (λr c=>L r*A r c)≠0;rw [e];intro Z;rcases Y3.1 Z with h1 | h1
  ·rcases Y3.1 h1 with h2 | h2
   ·exact h.L0 (by omega) h2
   ·exact J h2
  ·exact d h1
theorem Nb.Db {n:Nat}{A B:Mt}{L R:Nat->Rat} (h:Nb n A L B R) {k:Nat} (I:k<=n):vO (Dk A L k)/\-wq 60<=Dk A L k/\Dk A L k<=wq 60:=by
 obtain ⟨a,b,c⟩:=h.s.rE I;have:=h.hP;refine ⟨a,?_,?_⟩ <;> unfold Dk <;> grind
theorem Nb.num {n:Nat}{A B m:Mt}{L R:Nat->Rat} (h:Nb n A L B R) (hp:Pd n A) {k:Nat} (hG:Gj n A k m) (J:k<=n) {i p:Nat} (hi:i<n) (Y:p<k):RB (m i (n+p)) 140:=by
 obtain ⟨N,n1,n2,n3,e⟩:=hG.num h.s J hi Y;obtain ⟨d1,d2,d3⟩:=h.Db J;have d0:=(h.D0 hp J).1;have hP:=h.hP;have p1:1<=pr n R:=FG (λj hj=>h.s.R1 hj);have r1:=h.s.R1 hi;have r2:=h.R hi;have hNb:pr n R*R i<=wq 120:=by
  rw [<- xq 60 60];exact rS hP r2 (by grind) (by grind)
 have lp:=h.s.l1 p (by omega)
 have Z:=h.hL p (by omega)
 have t:=CX (x:=N) (y:=L p) (a:=wq 120) (b:=wq 18) (by grind) (by grind) (by have:=xr 18; grind) Z
 rw [xq] at t;have s0:(if k<=i then L i else 1)≠0:=by
  split
  ·exact h.L0 hi
  ·decide
 have s1:vO (if k<=i then L i else 1):=by
  split
  ·exact h.s.li i hi
  ·exact ⟨1,rfl⟩
 have s2:1<=(if k<=i then L i else 1)/\(if k<=i then L i else 1)<=wq 18:=by
  split
  ·exact ⟨h.s.l1 i hi,h.hL i hi⟩
  ·exact ⟨Y1,xr 18⟩
 generalize (if k<=i then L i else 1)=s at e s0 s1 s2
 have u:=CX (x:=s) (y:=Dk A L k) (a:=wq 18) (b:=wq 60) (by have:=xr 18; grind) s2.2 d2 d3
 rw [xq] at u;have e2:m i (n+p)=(N*L p) / (s*Dk A L k):=by
  have e3:s*m i (n+p)*Dk A L k=N*L p:=e;rw [<- e3,YX];have h3:s*Dk A L k≠0:=λI=>by
   rcases Y3.1 I with h1 | h1
   ·exact s0 h1
   ·exact d0 h1
  have:=Y4 _ h3
  grind
 rw [e2];have w1:=zF (show 18+60<=139 by omega)
 have w2:=zF (show 120+18<=139 by omega)
 refine A9 (tU n1 (h.s.li p (by omega))) (tU s1 d1) (by grind) (by grind) (by grind) (by grind) ?_ (by omega)
 intro I;rcases Y3.1 I with h1 | h1
 ·exact s0 h1
 ·exact d0 h1
theorem Nb.rb {n:Nat}{A B:Mt}{L R:Nat->Rat} (h:Nb n A L B R) (hp:Pd n A) (hn:n<=24) (k:Nat) (m:Mt) (Z:k<=n) (J:Gj n A k m) (i c:Nat) (hi:i<n) (hc:c<2*n):RB (m i c) 6000:=by
 have right:∀ p,p<n->RB (m i (n+p)) 140:=λp Y=>by
  by_cases e:p<k
  ·exact h.num hp J Z hi e
  ·rw [J.right i p hi Y (by omega)]
   exact (RB.dl i p).mono (by omega)
 by_cases I:c<n
 ·rw [J.OM Z hi I]
  have h1:RB (sm k (λj=>m i (n+j)*A j c)) (k*202+1):=RB.sm (a:=201) (by omega) (λj hj=>(right j (by omega)).mul (h.A (by omega) I) (by omega))
  have h2:RB (if k<=i then A i c else 0) 61:=by
   split
   ·exact h.A hi I
   ·exact RB.zero.mono (by omega)
  exact (h1.add h2 (by omega)).mono (by omega)
 ·have e:c=n+(c-n):=by omega
  rw [e];exact (right (c-n) (by omega)).mono (by omega)
theorem JV (l:List Int) (p:Int):Gd (mC l p) (λr=>(r = -1/\p ∉ l)\/∃ (k:Nat) (h:k<l.length),r=k/\l[k]=p):=by
 unfold mC;refine Gd.lH (λm i _=>i+m=l.length/\p ∉ l.take i) ?_ ?_ (l.length:Int).toNat 0 () ⟨by omega,by simp⟩
 ·intro m i _ J ⟨hi,hno⟩ hnx
  unfold pK;refine Gd.iT (by omega) (Gd.ite (λh=>Gd.ret (.inr ⟨i,by omega,rfl,?_⟩)) (λh=>hnx () ⟨by omega,?_⟩))
  ·have:p=l[i]:=by simpa using h
   exact this.symm
  ·rw [Su (by omega),Sf,Sy]
   rintro (I | I)
   ·exact hno I
   ·simp [I] at h
 ·intro i _ ⟨hi,hno⟩
  rw [Sh (by omega)] at hno
  exact Gd.ret (.inl ⟨rfl,hno⟩)
structure KF (M:bJ) (n N:Nat) (F:Nat->Nat) (l:List (Rat×Nat×Nat)) (t:Rat):Prop where
 hn:n<=23
 free:M.sd=(List.range n).map (λi=>(F i:Int))
 inj:∀ i j,i<n->j<n->F i=F j->i=j
 lt:∀ i,i<n->F i<N
 hN:N<=24
 ll:l.length<=24
 el:∀ e ∈ l,e.2.1<N/\e.2.2<N
 fr:M.qD=l.map (λe=>(e.2.1:Int))
 to:M.To=l.map (λe=>(e.2.2:Int))
 bl:M.B_.length=l.length
 b:∀ (k:Nat) (y:LR),M.B_[k]? = some y->∃ e,l[k]? = some e/\qB y/\RL y 2/\rv y=t / e.1
def ND:Option Nat->Int
 | none=>-1
 | some i=>(i:Int)
def eo (o:Option Nat) (r:Nat):Rat:=if o=some r then 1 else 0
theorem vL (i r:Nat):eo (some i) r=dl i r:=by
 unfold eo dl
 by_cases e:i=r
 ·subst e; rw [R9 rfl,R9 rfl]
 ·rw [R8 (λh=>e (RX h)),R8 e]
theorem vK (r:Nat):eo none r=0:=R8 (by simp)
theorem GU {M:bJ}{n N:Nat}{F:Nat->Nat}{l:List (Rat×Nat×Nat)}{t:Rat} (h:KF M n N F l t) (u:Nat):
  Gd (nc M (u:Int)) (λr=>∃ o:Option Nat,r=ND o/\(∀ i,o=some i->i<n/\F i=u)/\∀ r,r<n->eo o r=dl (F r) u):=by
 unfold nc;refine Gd.fH (JV _ _) (λr I=>Gd.ret ?_);rw [h.free] at I;rcases I with ⟨rfl,Z⟩ | ⟨k,hk,rfl,e⟩
 ·refine ⟨none,rfl,λi hi=>by simp at hi,λr I=>?_⟩
  rw [vK,rF];intro e;exact Z (SV.2 ⟨r,S0.2 I,by rw [e]⟩)
 ·have J:k<n:=by simpa using hk
  have e2:F k=u:=by simp at e; omega
  refine ⟨some k,rfl,λi hi=>by obtain rfl:=RX hi; exact ⟨J,e2⟩,λr I=>?_⟩
  rw [vL]
  by_cases Y:k=r
  ·subst Y; rw [sC,e2,sC]
  ·rw [rF Y,rF]
   intro e4;exact Y (h.inj k r J I (by omega))
theorem vU.EN {rows:List (List LR)}{n w W:Nat}{m:Mt} (h:vU rows n w W m) {p q:Nat} (J:p<n) (Y:q<w) {e:LR}{d:Rat} (he:qB e) (I:RL e W) (Z:rv e=m p q+d):
  vU (rows.set p (((rows[p]?).getD []).set q e)) n w W (λr c=>m r c+d*(dl p r*dl q c)):=by
 refine (h.set J Y he I).congr (λr c _ _=>?_)
 by_cases e1:r=p/\c=q
 ·obtain ⟨rfl,rfl⟩:=e1
  rw [if_pos ⟨rfl,rfl⟩,sC,sC,Z]; grind
 ·rw [R8 e1]
  by_cases e2:p=r
  ·rw [rF (i:=q) (λe=>e1 ⟨e2.symm,e.symm⟩)]; grind
  ·rw [rF e2]; grind
abbrev KD:=List (List LR)->Option bJ
theorem Oo {n W:Nat}{nx:KD}{b:LR}{oi oj:Option Nat}{rows:List (List LR)}{m:Mt}{Q:bJ->Prop} (Z:vU rows n n W m) (hW:W<=1000) (hb:qB b) (hbl:RL b 2)
  (hi:∀ i,oi=some i->i<n) (J:∀ j,oj=some j->j<n) (hne:∀ i,oi=some i->oj≠some i)
  (Y:∀ I,vU I n n (W+3) (λr c=>m r c-rv b*(eo oi r*eo oj c)-rv b*(eo oj r*eo oi c))->Gd (nx ([]::I)) Q):
  Gd (kT (zX n) nx b (ND oi) (ND oj) ([]::rows)) Q:=by
 unfold kT iM;cases oi with
 | none=>
  refine Gd.ite (λh=>absurd h (by simp [ND])) (λ_=>Y rows ((Z.mono (by omega)).congr (λr c _ _=>?_)))
  rw [vK,vK]; grind
 | some i=>
  cases oj with
  | none=>
   refine Gd.ite (λh=>absurd h (by simp [ND])) (λ_=>Y rows ((Z.mono (by omega)).congr (λr c _ _=>?_)))
   rw [vK,vK]; grind
  | some j=>
   have hi:=hi i rfl;have J:=J j rfl;have hij:i≠j:=λe=>hne i rfl (by rw [e])
   show Gd (if ((decide (0<=(i:Int)) && decide (0<=(j:Int)))=true) then _ else _) Q
   refine Gd.ite (λ_=>?_) (λh=>absurd h (by simp))
   show Gd (idx (zX n) (i:Int) _) Q;refine qU hi (qU J (qU hi (ux Z hi J (λy1 a1 a2 a3=>Gd.fH (zD a1 hb a2 hbl (by omega)) (λr1 b1=>?_)))))
   show Gd (idx (zX n) (j:Int) _) Q;refine qU J (ux Z J hi (λy2 c1 c2 c3=>Gd.fH (zD c1 hb c2 hbl (by omega)) (λr2 d1=>?_)))
   show Gd (idx ((([]::rows:List (List LR))[i+1]?).getD []) (j:Int) _) Q;refine ux Z hi J (λ_ _ _ _=>?_);have h2:=(Z.mono (show W<=W+3 by omega)).EN hi J (d:=-rv b) b1.1 (b1.2.1.mono (by omega)) (by rw [b1.2.2,a3]; grind)
   show Gd (idx ((([]::(rows.set i (((rows[i]?).getD []).set j r1)):List (List LR))[j+1]?).getD []) (i:Int) _) Q;refine ux h2 J hi (λ_ _ _ _=>?_);have h3:=h2.EN J hi (d:=-rv b) d1.1 (d1.2.1.mono (by omega)) (by
    rw [d1.2.2,c3,rF hij]; grind)
   refine Y _ (h3.congr (λr c _ _=>?_));rw [vL,vL,vL,vL]; grind
theorem Oq {n W:Nat}{nx:KD}{b:LR}{oi oj:Option Nat}{rows:List (List LR)}{m:Mt}{Q:bJ->Prop} (hM:vU rows n n W m) (hW:W<=900) (hb:qB b) (Y:RL b 2)
  (hi:∀ i,oi=some i->i<n) (hj:∀ j,oj=some j->j<n) (Z:∀ i,oi=some i->oj≠some i)
  (hnx:∀ I,vU I n n (W+6) (λr c=>m r c+rv b*(eo oj r*eo oj c)-rv b*(eo oi r*eo oj c)-rv b*(eo oj r*eo oi c))->Gd (nx ([]::I)) Q):
  Gd (kU (zX n) nx b (ND oi) (ND oj) ([]::rows)) Q:=by
 unfold kU;cases oj with
 | none=>
  refine Gd.ite (λh=>absurd h (by simp [ND])) (λ_=>Oo (oj:=none) (hM.mono (show W<=W+3 by omega)) (by omega) hb Y hi hj Z (λI h'=>hnx I (h'.congr (λr c _ _=>?_))))
  rw [vK,vK]; grind
 | some j=>
  have J:=hj j rfl;show Gd (if (decide (0<=(j:Int))=true) then _ else _) Q
  refine Gd.ite (λ_=>?_) (λh=>absurd h (by simp))
  show Gd (idx (zX n) (j:Int) _) Q;refine qU J (qU J (ux hM J J (λy1 a1 a2 a3=>Gd.fH (yd a1 hb a2 Y (by omega)) (λr1 b1=>ux hM J J (λ_ _ _ _=>?_)))))
  have h2:=(hM.mono (show W<=W+3 by omega)).EN J J (d:=rv b) b1.1 (b1.2.1.mono (by omega)) (by rw [b1.2.2,a3])
  refine Oo (oj:=some j) h2 (by omega) hb Y hi hj Z (λI h'=>hnx I (h'.congr (λr c _ _=>?_)))
  rw [vL,vL]
theorem HQ (l:List (Rat×(Nat->Rat))) (e:Rat×(Nat->Rat)) (r c:Nat):jP (l++[e]) r c=jP l r c+e.1*e.2 r*e.2 c:=by
 induction l with
 | nil=>show e.1*e.2 r*e.2 c+0=0+_; grind
 | cons a l ih=>show a.1*a.2 r*a.2 c+jP (l++[e]) r c=a.1*a.2 r*a.2 c+jP l r c+_; rw [ih]; grind
theorem E1 {α:Type}{l:List α}{k:Nat}{e:α} (f:α->Int) (h:l[k]? = some e):(l.map f)[k]? = some (f e):=by rw [SD,h]; rfl
theorem P0 {M:bJ}{n N:Nat}{F:Nat->Nat}{l:List (Rat×Nat×Nat)}{t:Rat} (h:KF M n N F l t) {k W:Nat}{e:Rat×Nat×Nat} (he:l[k]? = some e) {b:LR} (hb:qB b) (J:RL b 2) (hbv:rv b=t / e.1)
  {nx:KD}{rows:List (List LR)}{pre:List (Rat×Nat×Nat)}{Q:bJ->Prop} (hW:W<=800) (hM:vU rows n n W (jP ((pre.map (zR t)).map (oL F))))
  (hnx:∀ I,vU I n n (W+9) (jP (((pre++[e]).map (zR t)).map (oL F)))->Gd (nx ([]::I)) Q):
  Gd (lZ M (zX n) k b ([]::rows) nx) Q:=by
 obtain ⟨q,u,v⟩:=e;unfold lZ;rw [h.fr,h.to];have f1:=E1 (λe:Rat×Nat×Nat=>(e.2.1:Int)) he;have f2:=E1 (λe:Rat×Nat×Nat=>(e.2.2:Int)) he;have new:∀ r c,jP (((pre++[(q,u,v)]).map (zR t)).map (oL F)) r c=jP ((pre.map (zR t)).map (oL F)) r c+rv b*(dl (F r) u-dl (F r) v)*(dl (F c) u-dl (F c) v):=λr c=>by
  rw [Tu,Tu];show jP (_++[_]) r c=_;rw [HQ,hbv]; rfl
 refine Gd.ix (by omega) (by rw [RZ]; exact f1) ?_
 refine Gd.fH (GU h u) ?_;rintro _ ⟨oi,rfl,i1,i2⟩;refine Gd.ix (by omega) (by rw [RZ]; exact f2) ?_
 refine Gd.fH (GU h v) ?_;rintro _ ⟨oj,rfl,j1,j2⟩;refine Gd.ix (by omega) (by rw [RZ]; exact f1) (Gd.ix (by omega) (by rw [RZ]; exact f2) ?_)
 refine Gd.ite (λY=>?_) (λY=>?_)
 ·have e1:u=v:=by have:=R7 Y; simp only at this; omega
  subst e1;unfold iM;refine hnx rows ((hM.mono (by omega)).congr (λr c _ _=>?_))
  rw [new]; grind
 ·have e1:u≠v:=λe=>by subst e; simp at Y
  have hne:∀ i,oi=some i->oj≠some i:=λi hi hj=>by
   have:=(i1 i hi).2;have:=(j1 i hj).2;omega
  have Z:∀ I,vU I n n (W+9) (λr c=>jP ((pre.map (zR t)).map (oL F)) r c+rv b*(eo oi r*eo oi c)+rv b*(eo oj r*eo oj c)-rv b*(eo oi r*eo oj c)-rv b*(eo oj r*eo oi c))->Gd (nx ([]::I)) Q:=λI h'=>
   hnx I (h'.congr (λr c hr hc=>by rw [new,i2 r hr,i2 c hc,j2 r hr,j2 c hc]; grind))
  cases oi with
  | none=>
   refine Gd.ite (λh=>absurd h (by simp [ND])) (λ_=>Oq (oi:=none) (hM.mono (show W<=W+3 by omega)) (by omega) hb J (λi hi=>(i1 i hi).1) (λj hj=>(j1 j hj).1) hne (λI h'=>Z I ((h'.mono (by omega)).congr (λr c _ _=>?_))))
   rw [vK,vK]; grind
  | some i=>
   have hi:=(i1 i rfl).1;show Gd (if (decide (0<=(i:Int))=true) then _ else _) Q
   refine Gd.ite (λ_=>?_) (λh=>absurd h (by simp))
   show Gd (idx (zX n) (i:Int) _) Q;refine qU hi (qU hi (ux hM hi hi (λy1 a1 a2 a3=>Gd.fH (yd a1 hb a2 J (by omega)) (λr1 b1=>ux hM hi hi (λ_ _ _ _=>?_)))))
   have h2:=(hM.mono (show W<=W+3 by omega)).EN hi hi (d:=rv b) b1.1 (b1.2.1.mono (by omega)) (by rw [b1.2.2,a3])
   refine Oq (oi:=some i) h2 (by omega) hb J (λi hi=>(i1 i hi).1) (λj hj=>(j1 j hj).1) hne (λI h'=>Z I ((h'.mono (by omega)).congr (λr c _ _=>?_)))
   rw [vL,vL]
structure Oe (rows:List (List LR)) (n:Nat) (A:Mt):Prop where
 ex:∃ m,Gj n A n m/\vU rows n n 6000 (λi c=>m i (n+c))
theorem JX {M:bJ}{n N:Nat}{F:Nat->Nat}{l:List (Rat×Nat×Nat)}{t:Rat} (h:KF M n N F l t) {B:Mt}{L R:Nat->Rat} (hp:Pd n (jP ((l.map (zR t)).map (oL F)))) (hB:Nb n (jP ((l.map (zR t)).map (oL F))) L B R):
  Gd (ot M) (λM'=>∃ rows,M'={ M with sE:=rows }/\Oe rows n (jP ((l.map (zR t)).map (oL F)))):=by
 have hn:=h.hn;have hfl:M.sd.length=n:=by rw [h.free]; simp
 unfold ot;rw [hfl,RZ,Tl];refine Gd.nd (by omega) (Gd.nd (by omega) ?_)
 rw [RZ];refine Gd.lH (λm i s=>i+m=n/\∃ pre:List (List LR),s=(He n i,[]::pre)/\vU pre i n 2 (λ_ _=>0)) ?_ ?_ n 0 _ ⟨by omega,[],by rw [C2],⟨rfl,λi hi=>by omega⟩⟩
 ·rintro m i _ nx ⟨him,pre,rfl,I⟩ hnx
  have hi:i<n:=by omega
  unfold q9;rw [hfl];refine Gd.fH (Bg (by omega)) ?_
  rintro _ ⟨z,rfl,hz⟩;refine Gd.ix (by omega) (by rw [RZ]; exact Ho hi) (hnx _ ⟨by omega,pre++[List.replicate n z],?_,I.snoc (by simp) (λc hc=>⟨z,by rw [UE,R9 hc],hz.1,hz.2.1,hz.2.2⟩)⟩)
  rw [RZ,R_,I.len,Cm hi]; rfl
 ·rintro i _ ⟨hi,pre,rfl,I⟩
  obtain rfl:i=n:=by omega
  show Gd (eL (λk y s1523 n=>lZ M (He i i) k y s1523 n) _ 0 M.B_ ([]::pre)) _;rw [C1];refine Gd.eL (λk ys s=>∃ (bs:List LR) (rows:List (List LR)),M.B_=bs++ys/\bs.length=k/\s=[]::rows/\vU rows i i (2+9*k) (jP (((l.take k).map (zR t)).map (oL F)))) ?_ ?_ M.B_ 0 _ ⟨[],pre,rfl,rfl,rfl,by rw [WV]; exact I⟩
  ·rintro k y ys _ nx ⟨bs,rows,J,Y,rfl,hM⟩ hnx
   have hy:M.B_[k]? = some y:=by rw [J,SB (by omega),Y,Tk]; rfl
   obtain ⟨e,he,y1,y2,y3⟩:=h.b k y hy;have Z:=(R3.1 he).1;have hll:=h.ll;have e2:l.take (k+1)=l.take k++[e]:=by
    rw [Su Z,(R3.1 he).2]
   refine P0 h he y1 y2 y3 (by omega) hM (λrows' h'=>hnx _ ⟨bs++[y],rows',by rw [J]; simp,by simp [Y],rfl,?_⟩)
   rw [e2];exact h'.mono (by omega)
  ·rintro k _ ⟨bs,rows,J,Y,rfl,hM⟩
   have hll:=h.ll;have hbl:=h.bl;rw [SN] at J;have Z:k=l.length:=by rw [<- hbl,J,Y]
   rw [Z,TY] at hM;show Gd ((rO (sY (zX i) ([]::rows))).bind _) _;rw [DY hM.len];refine Gd.fH (HO (by omega) (by omega) (by omega) hp (hM.mono (by omega)) (hB.rb hp (by omega))) (λr hr=>Gd.ret ⟨r.1,rfl,⟨hr.2⟩⟩)
abbrev Net:=aG
theorem Gd.forAll {R α Z:Type}{Q:R->Prop}{I:Nat->α->Z->(Z->Option R)->Option R}{k:Z->Option R}{l:List α} (P:α->Prop) (J:Z->Prop)
  (hb:∀ i y s n,y ∈ l->J s->(P y->∀ s',J s'->Gd (n s') Q)->Gd (I i y s n) Q) (hk:(∀ x ∈ l,P x)->∀ s,J s->Gd (k s) Q) (s:Z) (hs:J s):Gd (Sim.eL I k 0 l s) Q:=by
 have key:∀ (ys pre:List α) (i:Nat) (s:Z),l=pre++ys->(∀ x ∈ pre,P x)->J s->Gd (Sim.eL I k i ys s) Q:=by
  intro ys
  induction ys with
  | nil=>intro pre i s hl hp hs; exact hk (by rw [hl,SN]; exact hp) s hs
  | cons y ys ih=>
   intro pre i s hl hp hs;refine hb i y s _ (by rw [hl]; exact S8 _ (R6 ..)) hs (λhP s' hs'=>?_)
   exact ih (pre++[y]) (i+1) s' (by rw [hl]; simp) (λx Y=>by
    rcases Sf.1 Y with Y | Y
    ·exact hp x Y
    ·simp at Y; subst Y; exact hP) hs'
 exact key l [] 0 s rfl (by simp) hs
theorem GO (s:RU) (h:s.size<=maxLen):Gd (bX s) (λ_=>True):=by
 unfold bX;refine Gd.nd h (Gd.eL (λ_ _ _=>True) (λi y ys s n _ hn=>?_) (λi s _=>Gd.ret RW) _ _ _ RW);unfold py;exact Gd.ite (λ_=>Gd.ret RW) (λ_=>hn _ RW)
theorem EC (l:List RU) (p:RU):Gd (bU l p) (λr=>(r = -1/\p ∉ l)\/∃ (k:Nat) (h:k<l.length),r=k/\l[k]=p):=by
 unfold bU;refine Gd.lH (λm i _=>i+m=l.length/\p ∉ l.take i) ?_ ?_ (l.length:Int).toNat 0 () ⟨by omega,by simp⟩
 ·intro m i _ J ⟨hi,hno⟩ hnx
  unfold mU;refine Gd.iT (by omega) (Gd.ite (λh=>Gd.ret (.inr ⟨i,by omega,rfl,?_⟩)) (λh=>hnx () ⟨by omega,?_⟩))
  ·have:p=l[i]:=by simpa using h
   exact this.symm
  ·rw [Su (by omega),Sf,Sy]
   rintro (I | I)
   ·exact hno I
   ·simp [I] at h
 ·intro i _ ⟨hi,hno⟩
  rw [Sh (by omega)] at hno
  exact Gd.ret (.inl ⟨rfl,hno⟩)
theorem Az {l:List RU}{p:RU} (h:p ∈ l):∃ k:Nat,bU l p=some (k:Int)/\∃ J:k<l.length,l[k]=p:=by
 obtain ⟨r,Y,h2⟩:=EC l p;rcases h2 with ⟨_,I⟩ | ⟨k,J,rfl,e⟩
 ·exact absurd h I
 ·exact ⟨k,Y,J,e⟩
theorem vR (l:List RU) (p:RU):Gd (cI l p) (λb=>b=true↔p ∈ l):=by
 unfold cI;refine Gd.fH (EC l p) (λr J=>Gd.ret ?_);rcases J with ⟨rfl,I⟩ | ⟨k,Y,rfl,e⟩
 ·simp [I]
 ·have:p ∈ l:=e▸Sz _
  simp [this]
theorem vW (c:bC) (name:RU) (nodes:List RU) (h:name.size<=maxLen):
  Gd (cX c name nodes) (λr=>r.1=0->∀ x ∈ nodes,x ∈ c.nodes):=by
 unfold cX;refine Gd.fH (GO name h) (λa _=>Gd.ite (λ_=>Gd.ret (λh=>by simp at h)) (λ_=>Gd.ite (λ_=>Gd.ret (λh=>by simp at h)) (λ_=>?_)))
 refine Gd.forAll (λx=>x ∈ c.nodes) (λ_=>True) ?_ ?_ () RW
 ·intro i y s n Y _ hn
  unfold jV;refine Gd.fH (vR c.nodes y) (λb J=>Gd.ite (λ_=>Gd.ret (λh=>by simp at h)) (λh=>hn (J.1 (by simpa using h)) _ RW))
 ·intro I s _
  refine Gd.ite (λh=>?_) (λ_=>Gd.ret (λ_=>I));have h2:nodes.length=2:=by
   have:((nodes.length:Nat):Int)=2:=by simpa using h
   omega
  have e1:(0:Int)=((0:Nat):Int):=rfl;have e2:(1:Int)=((1:Nat):Int):=rfl;rw [e1,e2];exact Gd.iT (by omega) (Gd.iT (by omega) (Gd.ite (λ_=>Gd.ret (λh=>by simp at h)) (λ_=>Gd.ret (λ_=>I))))
structure pU (n:Net):Prop where
 nd:∀ x ∈ n.bP,x.size<=maxLen
 sw:∀ x ∈ n.aT,x.Name.size<=maxLen
 br:∀ x ∈ n.aL,x.Name.size<=maxLen
 gn:∀ x ∈ n.dI,x.Name.size<=maxLen
 ld:∀ x ∈ n.bM,x.Name.size<=maxLen
 st:∀ x ∈ n.cB,x.Name.size<=maxLen
structure qT (n:Net):Prop where
 l1:n.bP.length<=24
 l2:n.aT.length<=32
 l3:n.aL.length<=24
 l4:n.dI.length<=10
 l5:n.bM.length<=12
 sw:∀ x ∈ n.aT,x.A ∈ n.bP/\x.B_ ∈ n.bP
 br:∀ x ∈ n.aL,x.qD ∈ n.bP/\x.To ∈ n.bP
 gn:∀ x ∈ n.dI,x.Node ∈ n.bP/\0<=x.kB/\x.kB<=x.rB/\x.rB<=100000
 ld:∀ x ∈ n.bM,x.Node ∈ n.bP/\0<=x.dY/\x.dY<=100000
theorem M_ (c:bC) (n:Net) (Z:pU n):
  Gd (iQ c n) (λr=>r.1=0->(∀ x ∈ n.dI,x.Node ∈ c.nodes/\0<=x.kB/\x.kB<=x.rB/\x.rB<=100000)/\(∀ x ∈ n.bM,x.Node ∈ c.nodes/\0<=x.dY/\x.dY<=100000)):=by
 unfold iQ;refine Gd.forAll (λx=>x.Node ∈ c.nodes/\0<=x.kB/\x.kB<=x.rB/\x.rB<=100000) (λ_=>True) ?_ ?_ _ RW
 ·intro i y s nx I _ hn
  unfold kZ;refine Gd.fH (vW _ _ _ (Z.gn y I)) (λr J=>Gd.ite (λh=>Gd.ret (λh2=>absurd h2 (by simpa using h))) (λh=>Gd.ite (λ_=>Gd.ret (λh2=>by simp at h2)) (λh2=>hn ?_ _ RW)))
  have Y:r.1=0:=by simpa using h
  have:=J Y y.Node (by simp)
  simp [bI,cA] at h2;exact ⟨this,by omega,by omega,by omega⟩
 ·intro hg s _
  refine Gd.forAll (λx=>x.Node ∈ c.nodes/\0<=x.dY/\x.dY<=100000) (λ_=>True) ?_ ?_ _ RW
  ·intro i y s nx I _ hn
   unfold k_;refine Gd.fH (vW _ _ _ (Z.ld y I)) (λr J=>Gd.ite (λh=>Gd.ret (λh2=>absurd h2 (by simpa using h))) (λh=>Gd.ite (λ_=>Gd.ret (λh2=>by simp at h2)) (λh2=>hn ?_ _ RW)))
   have Y:r.1=0:=by simpa using h
   have:=J Y y.Node (by simp)
   simp [bI,cA] at h2;exact ⟨this,by omega,by omega⟩
  ·intro hl s _
   refine Gd.forAll (λ_=>True) (λ_=>True) ?_ ?_ _ RW
   ·intro i y s nx I _ hn
    unfold lf;refine Gd.fH (vW _ _ _ (Z.st y I)) (λr J=>Gd.ite (λh=>Gd.ret (λh2=>absurd h2 (by simpa using h))) (λh=>Gd.ite (λ_=>Gd.ret (λh2=>by simp at h2)) (λ_=>hn RW _ RW)))
   ·intro _ s _
    exact Gd.ret λ_=>⟨hg,hl⟩
theorem K6 (n:Net) (Z:pU n):Gd (cR n) (λe=>e=0->qT n):=by
 unfold cR;refine Gd.ite (λ_=>Gd.ret (λh=>by simp at h)) (λhl=>?_)
 simp only [XB,Za,Int.not_lt] at hl;refine Gd.forAll (λ_=>True) (λ_=>True) ?_ ?_ _ RW
 ·intro i y s nx Y _ hn
  unfold oy;exact Gd.fH (vW _ _ _ (Z.nd y Y)) (λr I=>Gd.ite (λh=>Gd.ret (λh2=>absurd h2 (by simpa using h))) (λh=>hn RW _ RW))
 intro _ s _;refine Gd.forAll (λx=>x.A ∈ n.bP/\x.B_ ∈ n.bP) (λ_=>True) ?_ ?_ _ RW
 ·intro i y s nx Y _ hn
  unfold oz;refine Gd.fH (vW _ _ _ (Z.sw y Y)) (λr I=>Gd.ite (λh=>Gd.ret (λh2=>absurd h2 (by simpa using h))) (λh=>hn ?_ _ RW))
  have J:r.1=0:=by simpa using h
  exact ⟨I J y.A (by simp),I J y.B_ (by simp)⟩
 intro hsw s _;refine Gd.forAll (λx=>x.qD ∈ n.bP/\x.To ∈ n.bP) (λ_=>True) ?_ ?_ _ RW
 ·intro i y s nx Y _ hn
  unfold oA;refine Gd.fH (vW _ _ _ (Z.br y Y)) (λr I=>Gd.ite (λh=>Gd.ret (λh2=>absurd h2 (by simpa using h))) (λh=>Gd.ite (λh=>Gd.ret (λh2=>absurd h2 (by simpa using h))) (λ_=>hn ?_ _ RW)))
  have J:r.1=0:=by simpa using h
  exact ⟨I J y.qD (by simp),I J y.To (by simp)⟩
 intro hbr s _;refine Gd.fH (M_ _ n Z) (λr I=>Gd.ret (λh=>?_));obtain ⟨hg,hl2⟩:=I h;exact ⟨by omega,by omega,by omega,by omega,by omega,hsw,hbr,hg,hl2⟩
def F0 (N:Nat) (l:List cS):Prop:=∀ e ∈ l,0<=e.a0/\e.a0<N/\0<=e.a1/\e.a1<N
structure AH (N:Nat) (many:Int) (out:List Int):Prop where
 len:out.length=N
 MM:∀ v ∈ out,-1<=v/\v<many
def Cl (N:Nat) (l:List Int):Prop:=∀ a ∈ l,0<=a/\a<(N:Int)
def tG (out:List Int):Nat:=out.countP (λv=>decide (v<0))
theorem AH.set {N:Nat}{many:Int}{out:List Int} (h:AH N many out) {v:Int} (J:0<=v/\v<many) (i:Nat):AH N many (out.set i v):=
 ⟨by simp [h.len],λx I=>by
  rcases X0 I with I | rfl
  ·exact h.MM x I
  ·omega⟩
theorem GM {out:List Int}{i:Nat} (hi:i<out.length) (hn:out[i]<0) {v:Int} (J:0<=v):tG (out.set i v)+1=tG out:=by
 unfold tG;rw [List.countP_set hi];have h1:decide (out[i]<0)=true:=Zb hn;have h2:decide (v<0)=false:=Y_ (by omega)
 rw [h1,h2];have I:0<out.countP (λv=>decide (v<0)):=List.countP_pos_iff.2 ⟨_,Sz hi,h1⟩;simp;omega
def zS (a b:List Int):Prop:=∀ (i:Nat) (v:Int),a[i]? = some v->0<=v->∃ w,b[i]? = some w/\0<=w
theorem zS.refl (a:List Int):zS a a:=λi v h I=>⟨v,h,I⟩
theorem zS.set {a b:List Int} (h:zS a b) (i:Nat) {v:Int} (Z:0<=v):zS a (b.set i v):=by
 intro j w Y hw;obtain ⟨u,J,I⟩:=h j w Y hw
 by_cases e:i=j
 ·subst e
  exact ⟨v,by simp [(R3.1 J).1],Z⟩
 ·exact ⟨u,by rw [Sx e]; exact J,I⟩
theorem Ma (N:Nat) (hN:N<=24) (l:List cS) (hl:F0 N l) (hll:l.length<=64) (wo:Int):Gd (qC N l wo) (λr=>r.length=N/\∀ v ∈ r,0<=v/\v<N):=by
 unfold qC;refine Gd.nd ⟨rfl,by omega,by omega⟩ (Gd.nd (by omega) ?_)
 rw [zq];refine Gd.lH (λm i s=>i+m=N/\0<=s.2/\s.2<=(i:Int)/\AH N s.2 s.1/\∀ (j:Nat) (v:Int),j<i->s.1[j]? = some v->0<=v) ?_ ?_ (N:Int).toNat 0 (List.replicate N (-1),0) ⟨by omega,by simp,by simp,⟨by simp,by simp⟩,by simp⟩
 ·rintro m i ⟨out,many⟩ nx ⟨hi,h0,hmi,hp,hk⟩ hn
  simp only at h0 hmi hp hk;have hilt:i<out.length:=by rw [hp.len]; omega
  unfold rU;refine Gd.iT hilt (Gd.ite (λh=>?_) (λh=>?_))
  ·have hge:0<=out[i]:=by simpa using h
   unfold lK;refine hn _ ⟨by omega,h0,by show many<=((i+1:Nat):Int); omega,hp,λj v hj hv=>?_⟩
   by_cases e:j=i
   ·subst e
    rw [RY hilt] at hv;cases hv; exact hge
   ·exact hk j v (by omega) hv
  ·have hneg:out[i]<0:=by simpa using h
   refine Gd.iT hilt ?_;rw [RZ];have hw:i64.wrap (many+1)=many+1:=bZ ⟨by omega,by omega⟩
   have hp1:AH N (many+1) out:=⟨hp.len,λv hv=>by have:=hp.MM v hv; omega⟩
   have hbase0:2*tG (out.set i many)+[(i:Int)].length<=2*N+1:=by
    have hc:tG (out.set i many)<=N:=by unfold tG; rw [<- hp.len,<- Tp (as:=out) (i:=i) (a:=many)]; exact UW
    simp only [S4]; omega
   refine Gd.iV (λ(s:List Int×List Int)=>AH N (many+1) s.1/\zS (out.set i many) s.1/\Cl N s.2/\2*tG s.1+s.2.length<=2*N+1) (λs=>2*tG s.1+s.2.length) ?_ gO _ ⟨hp1.set ⟨h0,by omega⟩ i,zS.refl _,by intro a ha; simp at ha; omega,hbase0⟩ ?_
   ·rintro ⟨o,todo⟩ nx2 ⟨hq,hkp,htd,htot⟩ hn2
    simp only at hq hkp htd htot;unfold rV;refine Gd.ite (λhne=>?_) (λ_=>?_)
    ·have hne:0<todo.length:=by
      have:(0:Int)<((todo.length:Nat):Int):=by simpa using hne
      omega
     obtain ⟨at_,ts,rfl⟩:∃ a ts,todo=a::ts:=by
      cases todo with
      | nil=>simp at hne
      | cons a ts=>exact ⟨a,ts,rfl⟩
     refine Gd.ix (y:=at_) (by decide) rfl (Gd.nd ⟨by omega,by simp only [R_]; omega⟩ ?_)
     have hat:=htd at_ (R6 ..);have hsl:pM (at_::ts) (1:Int).toNat (at_::ts).length=ts:=by
      unfold pM;rw [show (1:Int).toNat=1 from rfl,Xq,Tr,Sh (by simp)]
     rw [hsl];simp only [R_] at htot;have push:∀ (b:List Int) (td:List Int) (q:Int) (nn:(List Int×List Int)->Option (List Int)),0<=q->q<N->AH N (many+1) b->zS (out.set i many) b->Cl N td->2*tG b+td.length<=2*tG o+ts.length ->
       (∀ s',(AH N (many+1) s'.1/\zS (out.set i many) s'.1/\Cl N s'.2/\2*tG s'.1+s'.2.length<=2*tG o+ts.length)->Gd (nn s') (λr=>r.length=N/\∀ v ∈ r,0<=v/\v<N)) ->
       Gd (Sim.idx b q λy7689=>if decide (y7689<0) then (Sim.idx b q λy7694=>cZ ((td.length+([q]).length)*8<=140737488355328) (fL nn (b.set (q:Int).toNat many) (td++([q])))) else (fL nn b td)) (λr=>r.length=N/\∀ v ∈ r,0<=v/\v<N):=by
      intro b td q nn q0 qN hb J I Y Z;have hql:q.toNat<b.length:=by rw [hb.len]; omega
      have hget:b[q.toNat]? = some b[q.toNat]:=RY hql;unfold fL;refine Gd.ix q0 hget (Gd.ite (λh=>Gd.ix q0 hget (Gd.nd ?_ (Z _ ⟨hb.set ⟨h0,by omega⟩ _,J.set _ h0,?_,?_⟩))) (λh=>Z _ ⟨hb,J,I,Y⟩))
      ·have h1:b[q.toNat]<0:=by simpa using h
       have hc:tG o<=N:=by unfold tG; rw [<- hq.len]; exact UW
       simp;omega
      ·intro a ha
       rcases Sf.1 ha with ha | ha
       ·exact I a ha
       ·simp at ha; omega
      ·have h1:b[q.toNat]<0:=by simpa using h
       have:=GM hql h1 h0;simp;omega
     have hc:tG o<=N:=by unfold tG; rw [<- hq.len]; exact UW
     ·refine Gd.forAll (λ_=>True) (λ(s:List Int×List Int)=>AH N (many+1) s.1/\zS (out.set i many) s.1/\Cl N s.2/\2*tG s.1+s.2.length<=2*tG o+ts.length) ?_ ?_ _ ⟨hq,hkp,(λa ha=>htd a (Sa _ ha):Cl N ts),Sj (2*tG o+ts.length)⟩
      ·rintro k e ⟨b,td⟩ nn he ⟨hb,J,I,Y⟩ Z
       simp only at hb J I Y;obtain ⟨e1,e2,e3,e4⟩:=hl e he;have hw1:i64.wrap (e.a0+e.a1)=e.a0+e.a1:=bZ ⟨by omega,by omega⟩
       have hw2:i64.wrap (e.a0+e.a1-at_)=e.a0+e.a1-at_:=bZ ⟨by omega,by omega⟩
       unfold rW;rw [hw1,hw2];refine Gd.ite (λ_=>Z RW _ ⟨hb,J,I,Y⟩) (λ_=>Gd.ite (λh=>?_) (λ_=>Gd.ite (λ_=>Z RW _ ⟨hb,J,I,Y⟩) (λh=>?_)))
       ·have h:e.a0=at_:=by simpa using h
        exact push b td _ nn (by omega) (by omega) hb J I Y (λs' hs'=>Z RW s' hs')
       ·have h:e.a1=at_:=by simpa using h
        exact push b td _ nn (by omega) (by omega) hb J I Y (λs' hs'=>Z RW s' hs')
      ·rintro _ ⟨b,td⟩ ⟨hb,J,I,Y⟩
       simp only at hb J I Y;exact hn2 _ ⟨hb,J,I,by show 2*tG b+td.length<=2*N+1; omega⟩ (by simp only [R_]; omega)
    ·unfold lK
     rw [hw];refine hn _ ⟨by omega,by show (0:Int)<=many+1; omega,by show many+1<=((i+1:Nat):Int); omega,hq,λj v hj hv=>?_⟩
     have hjl:j<out.length:=by omega
     have hbase:∃ w,(out.set i many)[j]? = some w/\0<=w:=by
      by_cases e:i=j
      ·subst e; exact ⟨many,by simp [hilt],h0⟩
      ·exact ⟨out[j],by rw [Sx e]; exact RY hjl,hk j _ (by omega) (RY hjl)⟩
     obtain ⟨w,hw1,hw0⟩:=hbase;obtain ⟨u,hu,hu0⟩:=hkp j w hw1 hw0;simp only at hv;rw [hu] at hv; cases hv; exact hu0
   ·refine Vh hbase0 ?_
    unfold gO; omega
 ·rintro i ⟨out,many⟩ ⟨hi,h0,hmi,hp,hk⟩
  simp only at h0 hmi hp hk;refine Gd.ret ⟨hp.len,λv hv=>?_⟩;obtain ⟨j,hj,hje⟩:=Ti.1 hv;have hj:j<out.length:=hj;have h1:=hp.MM v hv;have h2:=hk j v (by have:=hp.len; omega) (by rw [RY hj]; exact SJ some hje)
  omega
theorem Ex (N:Nat) (hN:N<=24) (l:List cS) (hl:F0 N l) (I:l.length<=64):s9 N l=some 0:=by
 rw [<- Gd.eq];unfold s9;refine Gd.ite (λh=>?_) (λ_=>Gd.forAll (Q:=λx=>x=0) (λ_=>True) (λ_=>True) ?_ (λ_ _ _=>Gd.ret rfl) _ RW)
 ·simp at h; omega
 ·intro i e s n he _ hn
  obtain ⟨e1,e2,J,Y⟩:=hl e he;unfold uH;exact Gd.ite (λh=>by simp at h; omega) (λ_=>Gd.ite (λh=>by simp at h; omega) (λ_=>Gd.ite (λh=>by simp at h; omega) (λ_=>Gd.ite (λh=>by simp at h; omega) (λ_=>hn RW _ RW))))
theorem K8 (N:Nat) (hN:N<=24) (l:List cS) (hl:F0 N l) (I:l.length<=64):Gd (kW N l) (λr=>r.1.length=N/\Cl N r.1):=by
 unfold kW;refine Gd.bind_eq (Ex N hN l hl I) (Gd.ite (λh=>by simp at h) (λ_=>Gd.fH (Ma N hN l hl I (-1)) (λr J=>Gd.ret J)))
theorem Lt (n:Net) (hn:qT n) (o:Bool):Gd (rI n o) (λr=>r.1.length<=32/\F0 n.bP.length r.1):=by
 unfold rI;refine Gd.eL (λi ys s=>i+ys.length=n.aT.length/\(∀ y ∈ ys,y ∈ n.aT)/\s.1.length<=i/\s.2.length<=i/\F0 n.bP.length s.1) ?_ ?_ _ _ _ ⟨by simp,λ_ h=>h,by simp,by simp,by intro e he; simp at he⟩
 ·rintro i y ys ⟨a,b⟩ nx ⟨hi,O,ha,hb,he⟩ J
  simp only [R_] at hi ha hb he;have h2:=hn.l2;have Y:∀ z ∈ ys,z ∈ n.aT:=λz hz=>O z (Sa _ hz);unfold tF pD;refine Gd.ite (λ_=>?_) (λ_=>J _ ⟨by omega,Y,by simp only; omega,by simp only; omega,he⟩)
  obtain ⟨h1,Z⟩:=hn.sw y (O y (R6 ..));obtain ⟨p,hp,hpl,_⟩:=Az h1;obtain ⟨q,hq,hql,_⟩:=Az Z;refine Gd.bind_eq hp (Gd.bind_eq hq (Gd.nd (by simp; omega) (Gd.nd (by simp; omega) (J _ ⟨by omega,Y,by simp; omega,by simp; omega,?_⟩))))
  intro e I;rcases Sf.1 I with I | I
  ·exact he e I
  ·simp at I; subst I
   exact ⟨by simp only; omega,by simp only; omega,by simp only; omega,by simp only; omega⟩
 ·rintro i ⟨a,b⟩ ⟨hi,O,ha,hb,he⟩
  have h2:=hn.l2;simp only [XY] at hi ha;exact Gd.ret ⟨by simp only; omega,he⟩
theorem K5 (n:Net) (hn:qT n):Gd (pS n) (λr=>r.length=n.bP.length/\Cl n.bP.length r):=by
 unfold pS;refine Gd.fH (Lt n hn false) (λr I=>?_);have h1:=hn.l1;exact Gd.fH (K8 n.bP.length hn.l1 r.1 I.2 (by omega)) (λr I=>Gd.ret I)
structure Q9 (n:Net) (t:bL):Prop where
 bl:t.rA.length=n.bP.length
 bi:Cl t.cH.length t.rA
 ii:Cl t.cH.length t.cH
 il:t.cH.length<=24
theorem Nv {R:Type}{Q:R->Prop} (N:Nat) (hN:N<=24) (I:Nat->Int->Int->(Int->Option R)->Option R) (hb:∀ k y n nx,I k y n nx=nx (max n (i64.wrap (y+1)))) (K:Int->Option R) (l:List Int) (hl:Cl N l)
  (hk:∀ m:Nat,m<=N->Cl m l->Gd (K (m:Int)) Q):Gd (eL I K 0 l 0) Q:=by
 have key:∀ (ys pre:List Int) (i m:Nat),l=pre++ys->m<=N->Cl m pre->Gd (eL I K i ys (m:Int)) Q:=by
  intro ys
  induction ys with
  | nil=>intro pre i m e O Z; rw [SN] at e; subst e; exact hk m O Z
  | cons y ys ih=>
   intro pre i m e O Z;have hy:=hl y (by rw [e]; exact S8 _ (R6 ..))
   show Gd (I i y (m:Int) (λs=>eL I K (i+1) ys s)) Q;rw [hb,bZ ⟨by omega,by omega⟩]
   have Y:max (m:Int) (y+1)=((max m (y+1).toNat:Nat):Int):=by omega
   rw [Y];refine ih (pre++[y]) (i+1) _ (by rw [e]; simp) (by omega) (λa J=>?_)
   rcases Sf.1 J with J | J
   ·have:=Z a J; omega
   ·simp at J; subst J; omega
 have:=key l [] 0 0 rfl (by omega) (by intro a J; simp at J)
 exact this
abbrev BA:=RU
abbrev Seen:=List (RU×Bool)
theorem LX (l:List (RU×Bool)) (k I:RU):(sX (wY l k true) I).getD false=((sX l I).getD false || decide (k=I)):=by
 have key:∀ (l:List (RU×Bool)) (i:Nat),(∀ p,xO l I i=some p->xO (l++[(k,true)]) I i=some p)/\(xO l I i=none->xO (l++[(k,true)]) I i=if k=I then some (i+l.length,true) else none):=by
  intro l
  induction l with
  | nil=>intro i; refine ⟨λp h=>by simp [xO] at h,λ_=>?_⟩; simp [xO]
  | cons q l ih=>
   obtain ⟨a,b⟩:=q;intro i;simp only [Ur,xO]
   by_cases h:a=I
   ·simp [h]
   ·simp only [h,TV]
    refine ⟨(ih (i+1)).1,λhn=>?_⟩;rw [(ih (i+1)).2 hn];simp; split
    ·simp; omega
    ·rfl
 have J:∀ (l:List (RU×Bool)) (i j:Nat) (v:Bool),xO l k i=some (j,v)->sX (l.set (j-i) (k,true)) I=if k=I then some true else sX l I:=by
  intro l;unfold sX;have:∀ (l:List (RU×Bool)) (i j:Nat) (v:Bool) (q:Nat),xO l k i=some (j,v)->((xO (l.set (j-i) (k,true)) I q).map (·.2))=if k=I then some true else (xO l I q).map (·.2):=by
   intro l
   induction l with
   | nil=>intro i j v q h; simp [xO] at h
   | cons p l ih=>
    obtain ⟨a,b⟩:=p;intro i j v q h;simp only [xO] at h
    split at h
    ·rename_i e
     simp only [Sn,UB] at h;obtain ⟨rfl,rfl⟩:=h;subst e;rw [Tk,List.set_cons_zero];simp only [xO]
     by_cases e:a=I <;> simp [e]
    ·rename_i e
     obtain ⟨h1,h2,_⟩:=HT h;rw [show j-i=(j-(i+1))+1 by omega,List.set_cons_succ]
     simp only [xO];have:=ih (i+1) j v (q+1) h
     by_cases e2:a=I
     ·subst e2
      have Y:k≠a:=λx=>e x.symm;simp [Y]
     ·simp only [e2,TV]; exact this
  intro i j v h;exact this l i j v 0 h
 unfold wY;cases h:xO l k 0 with
 | none=>
  simp only;unfold sX;cases h2:xO l I 0 with
  | none=>
   rw [(key l 0).2 h2]
   by_cases e:k=I <;> simp [e]
  | some p=>
   rw [(key l 0).1 p h2]
   by_cases e:k=I
   ·subst e; rw [h] at h2; cases h2
   ·simp [e]
 | some p=>
  obtain ⟨j,v⟩:=p;simp only;have:=J l 0 j v h;rw [UQ] at this;rw [this]
  by_cases e:k=I <;> simp [e]
def qY (P:List BA) (s:Seen):Prop:=∀ k:BA,(sX s k).getD false=true↔k ∈ P
theorem qY.nil:qY [] ([]:Seen):=λk=>by simp [sX,xO]
theorem qY.put {P:List BA}{s:Seen} (h:qY P s) (k:BA):qY (P++[k]) (wY s k true):=λI=>by
 rw [LX,TI,h I,Sf,Sy,SO];exact or_congr Iff.rfl ⟨λe=>e.symm,λe=>e.symm⟩
structure PF (ns P:List BA) (name:BA) (nodes:List BA):Prop where
 nm:bX name=some true
 nw:name ∉ P
 at_:∀ x ∈ nodes,x ∈ ns
 two:∀ a b,nodes=[a,b]->a≠b
theorem vV {c:bC}{P:List BA} (hs:qY P c.seen) {name:BA} (nodes:List BA) (h:name.size<=maxLen):
  Gd (cX c name nodes) (λr=>r.1=0->PF c.nodes P name nodes/\qY (P++[name]) r.2.seen):=by
 unfold cX;obtain ⟨b,Z,_⟩:=GO name h;refine Gd.bind_eq Z (Gd.ite (λ_=>Gd.ret (λh=>by simp at h)) (λJ=>Gd.ite (λ_=>Gd.ret (λh=>by simp at h)) (λhsn=>?_)))
 have J:b=true:=by simpa using J
 subst J;have hnw:name ∉ P:=λO=>by rw [(hs name).2 O] at hsn; cases hsn
 refine Gd.forAll (λx=>x ∈ c.nodes) (λ_=>True) ?_ ?_ () RW
 ·intro i y s n hy _ hn
  unfold jV;refine Gd.fH (vR c.nodes y) (λb Z=>Gd.ite (λ_=>Gd.ret (λh=>by simp at h)) (λh=>hn (Z.1 (by simpa using h)) _ RW))
 ·intro I s _
  refine Gd.ite (λh=>?_) (λh2=>Gd.ret (λ_=>⟨⟨Z,hnw,I,λa b e=>?_⟩,hs.put name⟩))
  ·have h2:nodes.length=2:=by
    have:((nodes.length:Nat):Int)=2:=by simpa using h
    omega
   obtain ⟨a,b,rfl⟩:∃ a b,nodes=[a,b]:=by
    match nodes,h2 with
    | [a,b],_=>exact ⟨a,b,rfl⟩
   refine Gd.ix (y:=a) (by decide) rfl (Gd.ix (y:=b) (by decide) rfl (Gd.ite (λ_=>Gd.ret (λh=>by simp at h)) (λY=>Gd.ret (λ_=>⟨⟨Z,hnw,I,λp q e=>?_⟩,hs.put name⟩))))
   have Y:a≠b:=by simpa using Y
   simp at e;rw [<- e.1,<- e.2]; exact Y
  ·subst e
   simp at h2
theorem xy {c:bC}{P:List BA} (hs:qY P c.seen) {name:BA}{nodes:List BA} (h:PF c.nodes P name nodes):
  cX c name nodes=some (0,⟨wY c.seen name true,c.nodes⟩):=by
 rw [<- Gd.eq];unfold cX;refine Gd.bind_eq h.nm (Gd.ite (λh=>by simp at h) (λ_=>Gd.ite (λY=>absurd ((hs name).1 Y) h.nw) (λ_=>?_)))
 refine Gd.forAll (λ_=>True) (λ_=>True) ?_ ?_ () RW
 ·intro i y s n hy _ hn
  unfold jV;refine Gd.fH (vR c.nodes y) (λb Z=>Gd.ite (λI=>?_) (λ_=>hn RW _ RW));have:=Z.2 (h.at_ y hy);simp [this] at I
 ·intro _ s _
  refine Gd.ite (λh2=>?_) (λ_=>Gd.ret rfl);have h2:nodes.length=2:=by
   have:((nodes.length:Nat):Int)=2:=by simpa using h2
   omega
  obtain ⟨a,b,rfl⟩:∃ a b,nodes=[a,b]:=by
   match nodes,h2 with
   | [a,b],_=>exact ⟨a,b,rfl⟩
  have J:=h.two a b rfl;exact Gd.ix (y:=a) (by decide) rfl (Gd.ix (y:=b) (by decide) rfl (Gd.ite (λe=>absurd (by simpa using e) J) (λ_=>Gd.ret rfl)))
def names (n:Net):List BA:=n.bP++n.aT.map (·.Name)++n.aL.map (·.Name)++n.dI.map (·.Name)++n.bM.map (·.Name)++n.cB.map (·.Name)
theorem wa {R α:Type}{Q:R->Prop}{I:Nat->α->Seen->(Seen->Option R)->Option R}{k:Seen->Option R}{l:List α} (nm:α->BA) (P:List BA)
  (Z:∀ (i:Nat) (y:α) (s:Seen) (n:Seen->Option R) (pre:List α),(∃ Y,l=pre++y::Y)->qY (P++pre.map nm) s->Gd (n (wY s (nm y) true)) Q->Gd (I i y s n) Q) (hk:∀ s,qY (P++l.map nm) s->Gd (k s) Q) (s:Seen) (hs:qY P s):Gd (eL I k 0 l s) Q:=by
 refine Gd.seen (λpre s=>qY (P++pre.map nm) s) ?_ hk s (by simpa using hs)
 intro i y s n pre J hs hn;refine Z i y s n pre J hs (hn _ ?_);have:=hs.put (nm y);rw [Tu,<- Sr]; exact this
theorem uC {R α:Type}{Q:R->Prop}{I:Nat->α->Seen->(Seen->Option R)->Option R}{k:Seen->Option R}{l:List α} (nm:α->BA) (P:List BA) (C:α->Prop)
  (hb:∀ (i:Nat) (y:α) (s:Seen) (n:Seen->Option R) (pre:List α),y ∈ l->qY (P++pre.map nm) s->(nm y ∉ P++pre.map nm->C y->∀ s',qY (P++pre.map nm++[nm y]) s'->Gd (n s') Q)->Gd (I i y s n) Q)
  (hk:∀ s,qY (P++l.map nm) s->(∀ x ∈ l,C x)->(P.Nodup->(P++l.map nm).Nodup)->Gd (k s) Q) (s:Seen) (hs:qY P s):Gd (eL I k 0 l s) Q:=by
 refine Gd.seen (λpre s=>qY (P++pre.map nm) s/\(∀ x ∈ pre,C x)/\(P.Nodup->(P++pre.map nm).Nodup)) ?_ (λs h=>hk s h.1 h.2.1 h.2.2) s ⟨by simpa using hs,by simp,λh=>by simpa using h⟩
 rintro i y s n pre Z ⟨h1,h2,h3⟩ hn;refine hb i y s n pre (yc Z).2.1 h1 (λY hC s' hs'=>hn s' ⟨by rw [Tu,<- Sr]; exact hs',λx J=>?_,λhP=>?_⟩)
 ·rcases Sf.1 J with J | J
  ·exact h2 x J
  ·simp at J; subst J; exact hC
 ·rw [Tu,<- Sr,S1]
  refine ⟨h3 hP,by simp,λa ha b hb=>?_⟩
  simp at hb; subst hb
  intro e; subst e; exact Y ha
def Gx (g:bK):Bool:=!(((!(bI g.kB)) || (cA g.rB g.kB 100000)) || (!(bI g.Bi)))
def EK (s:bW):Bool:=!(((!(bI s.sf)) || (!(bI s.Discharge))) || (!(bI s.s6)))
structure qJ (n:Net):Prop where
 l1:n.bP.length<=24
 l2:n.aT.length<=32
 l3:n.aL.length<=24
 l4:n.dI.length<=10
 l5:n.bM.length<=12
 l6:n.cB.length<=4
 nd:(names n).Nodup
 vn:∀ x ∈ n.bP,bX x=some true
 vs:∀ x ∈ n.aT,bX x.Name=some true/\x.A ∈ n.bP/\x.B_ ∈ n.bP/\x.A≠x.B_
 vb:∀ x ∈ n.aL,bX x.Name=some true/\x.qD ∈ n.bP/\x.To ∈ n.bP/\x.qD≠x.To/\kO x=0
 vg:∀ x ∈ n.dI,bX x.Name=some true/\x.Node ∈ n.bP/\Gx x=true
 vl:∀ x ∈ n.bM,bX x.Name=some true/\x.Node ∈ n.bP/\bI x.dY=true
 vt:∀ x ∈ n.cB,bX x.Name=some true/\x.Node ∈ n.bP/\EK x=true
theorem Xu (n:Net) (hz:pU n):Gd (cR n) (λe=>e=0->qJ n):=by
 unfold cR;refine Gd.ite (λ_=>Gd.ret (λh=>by simp at h)) (λhl=>?_)
 simp only [XB,Za,Int.not_lt] at hl;refine uC (id:BA->BA) [] (λx=>bX x=some true) ?_ ?_ _ qY.nil
 ·intro i y s nx pre J hs hn
  unfold oy;exact Gd.fH (vV (c:=⟨s,n.bP⟩) hs [] (hz.nd y J)) (λr I=>Gd.ite (λh=>Gd.ret (λh2=>absurd h2 (by simpa using h))) (λh=>by
   obtain ⟨h1,h2⟩:=I (by simpa using h)
   exact hn h1.nw h1.nm _ h2))
 intro s hs hvn Z;simp only [List.map_id,TG] at hs Z;refine uC (λx:aX=>x.Name) _ (λx=>bX x.Name=some true/\x.A ∈ n.bP/\x.B_ ∈ n.bP/\x.A≠x.B_) ?_ ?_ _ hs
 ·intro i y s nx pre J hs hn
  unfold oz;exact Gd.fH (vV (c:=⟨s,n.bP⟩) hs [y.A,y.B_] (hz.sw y J)) (λr I=>Gd.ite (λh=>Gd.ret (λh2=>absurd h2 (by simpa using h))) (λh=>by
   obtain ⟨h1,h2⟩:=I (by simpa using h)
   exact hn h1.nw ⟨h1.nm,h1.at_ _ (by simp),h1.at_ _ (by simp),h1.two _ _ rfl⟩ _ h2))
 intro s hs hvs hnd2;refine uC (λx:aS=>x.Name) _ (λx=>bX x.Name=some true/\x.qD ∈ n.bP/\x.To ∈ n.bP/\x.qD≠x.To/\kO x=0) ?_ ?_ _ hs
 ·intro i y s nx pre J hs hn
  unfold oA;exact Gd.fH (vV (c:=⟨s,n.bP⟩) hs [y.qD,y.To] (hz.br y J)) (λr I=>Gd.ite (λh=>Gd.ret (λh2=>absurd h2 (by simpa using h))) (λh=>Gd.ite (λY=>Gd.ret (λh2=>absurd h2 (by simpa using Y))) (λY=>by
   obtain ⟨h1,h2⟩:=I (by simpa using h)
   exact hn h1.nw ⟨h1.nm,h1.at_ _ (by simp),h1.at_ _ (by simp),h1.two _ _ rfl,by simpa using Y⟩ _ h2)))
 intro s hs hvb hnd3;refine Gd.fH (P:=λr=>r.1=0->(∀ x ∈ n.dI,bX x.Name=some true/\x.Node ∈ n.bP/\Gx x=true)/\(∀ x ∈ n.bM,bX x.Name=some true/\x.Node ∈ n.bP/\bI x.dY=true) /\
  (∀ x ∈ n.cB,bX x.Name=some true/\x.Node ∈ n.bP/\EK x=true)/\(names n).Nodup) ?_ (λr I=>Gd.ret (λh=>by
   obtain ⟨a,b,c,d⟩:=I h;exact ⟨by omega,by omega,by omega,by omega,by omega,by omega,d,hvn,hvs,hvb,a,b,c⟩))
 unfold iQ;refine uC (λx:bK=>x.Name) _ (λx=>bX x.Name=some true/\x.Node ∈ n.bP/\Gx x=true) ?_ ?_ _ hs
 ·intro i y s nx pre J hs hn
  unfold kZ;exact Gd.fH (vV (c:=⟨s,n.bP⟩) hs [y.Node] (hz.gn y J)) (λr I=>Gd.ite (λh=>Gd.ret (λh2=>absurd h2 (by simpa using h))) (λh=>Gd.ite (λ_=>Gd.ret (λh2=>by simp at h2)) (λY=>by
   obtain ⟨h1,h2⟩:=I (by simpa using h)
   exact hn h1.nw ⟨h1.nm,h1.at_ _ (by simp),by unfold Gx; rw [Y]; rfl⟩ _ h2)))
 intro s hs hvg hnd4;refine uC (λx:aI=>x.Name) _ (λx=>bX x.Name=some true/\x.Node ∈ n.bP/\bI x.dY=true) ?_ ?_ _ hs
 ·intro i y s nx pre J hs hn
  unfold k_;exact Gd.fH (vV (c:=⟨s,n.bP⟩) hs [y.Node] (hz.ld y J)) (λr I=>Gd.ite (λh=>Gd.ret (λh2=>absurd h2 (by simpa using h))) (λh=>Gd.ite (λ_=>Gd.ret (λh2=>by simp at h2)) (λY=>by
   obtain ⟨h1,h2⟩:=I (by simpa using h)
   exact hn h1.nw ⟨h1.nm,h1.at_ _ (by simp),by simpa using Y⟩ _ h2)))
 intro s hs hvl hnd5;refine uC (λx:bW=>x.Name) _ (λx=>bX x.Name=some true/\x.Node ∈ n.bP/\EK x=true) ?_ ?_ _ hs
 ·intro i y s nx pre J hs hn
  unfold lf;exact Gd.fH (vV (c:=⟨s,n.bP⟩) hs [y.Node] (hz.st y J)) (λr I=>Gd.ite (λh=>Gd.ret (λh2=>absurd h2 (by simpa using h))) (λh=>Gd.ite (λ_=>Gd.ret (λh2=>by simp at h2)) (λY=>by
   obtain ⟨h1,h2⟩:=I (by simpa using h)
   exact hn h1.nw ⟨h1.nm,h1.at_ _ (by simp),by unfold EK; rw [Y]; rfl⟩ _ h2)))
 intro s hs hvt hnd6;exact Gd.ret λ_=>⟨hvg,hvl,hvt,hnd6 (hnd5 (hnd4 (hnd3 (hnd2 (Z List.nodup_nil)))))⟩
theorem J3 {A B C:List BA}{x:BA} (h:(A++(B++x::C)).Nodup):x ∉ A++B:=by
 rw [<- Sr,S1] at h;exact λO=>h.2.2 x O x (R6 ..) rfl
theorem fresh {P:List BA}{α:Type}{nm:α->BA}{l pre:List α}{y:α} (h:(P++l.map nm).Nodup) (J:∃ I,l=pre++y::I):nm y ∉ P++pre.map nm:=by
 obtain ⟨I,rfl⟩:=J;rw [Tu,U6] at h;exact J3 h
theorem Ht (n:Net) (h:qJ n):cR n=some 0:=by
 have J:=h.nd;unfold names at J;have n5:=(S1.1 J).1;have n4:=(S1.1 n5).1;have Z:=(S1.1 n4).1;have n2:=(S1.1 Z).1;have n1:=(S1.1 n2).1;have g1:=h.l1; have g2:=h.l2; have g3:=h.l3; have g4:=h.l4; have g5:=h.l5; have g6:=h.l6
 rw [<- Gd.eq];unfold cR;refine Gd.ite (λhl=>?_) (λ_=>?_)
 ·simp only [TI,SO] at hl
  omega
 refine wa (id:BA->BA) [] ?_ ?_ _ qY.nil
 ·intro i y s Y pre I hs hn
  have hy:=(yc I).2.1;have hf:=fresh (P:=[]) (nm:=id) (by simpa using n1) I
  unfold oy;exact Gd.bind_eq (xy (c:=⟨s,n.bP⟩) hs ⟨h.vn y hy,hf,by simp,by simp⟩) (Gd.ite (λh=>by simp at h) (λ_=>hn))
 intro s hs;simp only [List.map_id,TG] at hs;refine wa (λx:aX=>x.Name) _ ?_ ?_ _ hs
 ·intro i y s Y pre I hs hn
  obtain ⟨a,b,c,d⟩:=h.vs y (yc I).2.1;unfold oz;exact Gd.bind_eq (xy (c:=⟨s,n.bP⟩) hs ⟨a,fresh n2 I,by simp [b,c],λp q e=>by simp at e; rw [<- e.1,<- e.2]; exact d⟩) (Gd.ite (λh=>by simp at h) (λ_=>hn))
 intro s hs;refine wa (λx:aS=>x.Name) _ ?_ ?_ _ hs
 ·intro i y s Y pre I hs hn
  obtain ⟨a,b,c,d,e⟩:=h.vb y (yc I).2.1;unfold oA;exact Gd.bind_eq (xy (c:=⟨s,n.bP⟩) hs ⟨a,fresh Z I,by simp [b,c],λp q e=>by simp at e; rw [<- e.1,<- e.2]; exact d⟩) (Gd.ite (λh=>by simp at h) (λ_=>Gd.ite (λh=>by simp [e] at h) (λ_=>hn)))
 intro s hs;refine Gd.fH (P:=λr=>r.1=0) ?_ (λr hr=>Gd.ret hr);unfold iQ;refine wa (λx:bK=>x.Name) _ ?_ ?_ _ hs
 ·intro i y s Y pre I hs hn
  obtain ⟨a,b,c⟩:=h.vg y (yc I).2.1;unfold Gx at c;unfold kZ;exact Gd.bind_eq (xy (c:=⟨s,n.bP⟩) hs ⟨a,fresh n4 I,by simp [b],by simp⟩) (Gd.ite (λh=>by simp at h) (λ_=>Gd.ite (λh=>by rw [h] at c; cases c) (λ_=>hn)))
 intro s hs;refine wa (λx:aI=>x.Name) _ ?_ ?_ _ hs
 ·intro i y s Y pre I hs hn
  obtain ⟨a,b,c⟩:=h.vl y (yc I).2.1;unfold k_;exact Gd.bind_eq (xy (c:=⟨s,n.bP⟩) hs ⟨a,fresh n5 I,by simp [b],by simp⟩) (Gd.ite (λh=>by simp at h) (λ_=>Gd.ite (λh=>by simp [c] at h) (λ_=>hn)))
 intro s hs;refine wa (λx:bW=>x.Name) _ ?_ ?_ _ hs
 ·intro i y s Y pre I hs hn
  obtain ⟨a,b,c⟩:=h.vt y (yc I).2.1;unfold EK at c;unfold lf;exact Gd.bind_eq (xy (c:=⟨s,n.bP⟩) hs ⟨a,fresh J I,by simp [b],by simp⟩) (Gd.ite (λh=>by simp at h) (λ_=>Gd.ite (λh=>by rw [h] at c; cases c) (λ_=>hn)))
 intro s hs;exact Gd.ret rfl
def M7 (n:Net) (q:Nat):Net:={ n with aL:=n.aL.take q++n.aL.drop (q+1) }
theorem IK {α:Type} (l:List α) (q:Nat):(l.take q++l.drop (q+1)).Sublist l:=by
 have h1:(l.drop (q+1)).Sublist (l.drop q):=by rw [<- TW]; exact List.drop_sublist _ _
 have:=(Ux (l.take q)).append h1
 rwa [TA] at this
theorem qJ.cut {n:Net} (h:qJ n) (q:Nat):qJ (M7 n q):=by
 have hs:=IK n.aL q;have I:(names (M7 n q)).Sublist (names n):=by
  unfold names M7;exact ((((Ux _).append (hs.map _)).append (Ux _)).append (Ux _)).append (Ux _)
 exact ⟨h.l1,h.l2,S6 hs.length_le h.l3,h.l4,h.l5,h.l6,I.nodup h.nd,h.vn,h.vs,λx J=>h.vb x (hs.subset J),h.vg,h.vl,h.vt⟩
theorem qJ.ok {n:Net} (h:qJ n) (J:pU n):qT n:=by
 obtain ⟨e,he,I⟩:=K6 n J;rw [Ht n h] at he;exact I (RX he).symm
theorem pU.cut {n:Net} (h:pU n) (q:Nat):pU (M7 n q):=
 ⟨h.nd,h.sw,λx I=>h.br x ((IK n.aL q).subset I),h.gn,h.ld,h.st⟩
abbrev Ed:=cS
def lb (o:List Int) (u:Int):Int:=if 0<=u then (o[u.toNat]?).getD (-1) else -1
theorem LP {o:List Int}{u:Int} (h:0<=lb o u):0<=u/\u<o.length:=by
 unfold lb at h
 split at h
 ·rename_i h0
  refine ⟨h0,?_⟩
  by_cases e:u.toNat<o.length
  ·omega
  ·rw [S3 (by omega)] at h; simp at h
 ·omega
theorem Dn {o:List Int}{k:Nat} (h:k<o.length):lb o (k:Int)=o[k]:=by
 unfold lb; rw [R9 (by omega),RZ,RY h]; rfl
theorem LO {o:List Int}{u:Int} (I:0<=u) (h:u.toNat<o.length):lb o u=o[u.toNat]:=by
 unfold lb; rw [R9 I,RY h]; rfl
theorem zf {o:List Int}{q:Int} (J:0<=q) (h:q.toNat<o.length) (m u:Int):lb (o.set q.toNat m) u=if u=q then m else lb o u:=by
 unfold lb
 by_cases e:u=q
 ·subst e
  rw [R9 J,R9 rfl,SC h]; rfl
 ·rw [R8 e]
  by_cases I:0<=u
  ·rw [R9 I,R9 I,Sx (by omega)]
  ·rw [R8 I,R8 I]
def MK (l:List Ed) (u v:Int):Prop:=∃ e ∈ l,(e.a0=u/\e.a1=v)\/(e.a1=u/\e.a0=v)
theorem MK.symm {l:List Ed}{u v:Int} (h:MK l u v):MK l v u:=by
 obtain ⟨e,he,h | h⟩:=h
 ·exact ⟨e,he,.inr ⟨h.2,h.1⟩⟩
 ·exact ⟨e,he,.inl ⟨h.2,h.1⟩⟩
inductive yW (l:List Ed) (u:Int):Int->Prop
 | refl:yW l u u
 | snoc {v w:Int}:yW l u v->MK l v w->yW l u w
theorem yW.trans {l:List Ed}{u v w:Int} (h1:yW l u v) (h2:yW l v w):yW l u w:=by
 induction h2 with
 | refl=>exact h1
 | snoc _ h ih=>exact .snoc ih h
theorem yW.symm {l:List Ed}{u v:Int} (h:yW l u v):yW l v u:=by
 induction h with
 | refl=>exact .refl
 | snoc _ h ih=>exact (yW.snoc .refl h.symm).trans ih
structure Qw (N:Nat) (l:List Ed) (many:Int) (out:List Int):Prop where
 pt:AH N many out
 cls:∀ u v,MK l u v->0<=lb out u->lb out v=lb out u
 Q_:∀ u v,0<=lb out u->lb out u=lb out v->yW l u v
 QU:∀ c,0<=c->c<many->∃ u,lb out u=c
theorem AH.lt {N:Nat}{many:Int}{out:List Int} (h:AH N many out) (O:0<=many) (u:Int):-1<=lb out u/\lb out u<many:=by
 by_cases I:0<=lb out u
 ·obtain ⟨a,b⟩:=LP I
  have:u.toNat<out.length:=by omega
  rw [LO a this];exact h.MM _ (Sz _)
 ·refine ⟨?_,by omega⟩
  unfold lb
  split
  ·by_cases e:u.toNat<out.length
   ·rw [RY e]
    exact (h.MM _ (Sz e)).1
   ·rw [S3 (by omega)]; simp
  ·omega
structure D3 (N:Nat) (l:List Ed) (m:Int) (i:Int) (out o:List Int):Prop where
 pt:AH N (m+1) o
 vf:∀ u,0<=lb out u->lb o u=lb out u
 new:∀ u,lb out u<0->0<=lb o u->lb o u=m/\yW l i u
 st:lb o i=m
theorem D3.put {N:Nat}{l:List Ed}{m i:Int}{out o:List Int} (h:D3 N l m i out o) (hc:Qw N l m out) (h0:0<=m) {a q:Int} (ha:lb o a=m) (J:MK l a q) (Z:0<=q) (qN:q<N) (hq:lb o q<0):D3 N l m i out (o.set q.toNat m):=by
 have I:q.toNat<o.length:=by rw [h.pt.len]; omega
 have ca:yW l i a:=by
  by_cases e:0<=lb out a
  ·have h1:=h.vf a e
   have h2:=(hc.pt.lt h0 a).2;omega
  ·exact (h.new a (by omega) (by omega)).2
 refine ⟨h.pt.set ⟨h0,by omega⟩ _,λu Y=>?_,λu Y hn=>?_,?_⟩
 ·rw [zf Z I]
  have h1:=h.vf u Y;rw [R8 (λe=>by subst e; omega)]
  exact h1
 ·rw [zf Z I] at hn ⊢
  by_cases e:u=q
  ·subst e
   rw [R9 rfl];exact ⟨rfl,ca.snoc J⟩
  ·rw [R8 e] at hn ⊢
   exact h.new u Y hn
 ·rw [zf Z I]
  split
  ·rfl
  ·exact h.st
theorem D3.mono {N:Nat}{m:Int}{o:List Int} (hl:o.length=N) (I:0<=m) {q:Int} (Y:0<=q) (Z:q<N) {u:Int} (J:0<=lb o u):0<=lb (o.set q.toNat m) u:=by
 rw [zf Y (by omega)]
 split
 ·exact I
 ·exact J
theorem D3.done {N:Nat}{l:List Ed}{m i:Int}{out o:List Int} (h:D3 N l m i out o) (J:Qw N l m out) (Z:0<=m) (hp:∀ u,lb o u=m->∀ v,MK l u v->0<=lb o v):Qw N l (m+1) o:=by
 refine ⟨h.pt,λu v I Y=>?_,λu v Y I=>?_,λc c0 c1=>?_⟩
 ·by_cases e:0<=lb out u
  ·have h1:=h.vf u e
   have h2:=J.cls u v I e;have h3:=h.vf v (by omega)
   omega
  ·obtain ⟨h1,_⟩:=h.new u (by omega) Y
   have h2:=hp u h1 v I
   by_cases e2:0<=lb out v
   ·have:=J.cls v u I.symm e2
    omega
   ·have:=(h.new v (by omega) h2).1
    omega
 ·by_cases e:0<=lb out u
  ·have h1:=h.vf u e
   have h2:=(J.pt.lt Z u).2
   by_cases e2:0<=lb out v
   ·exact J.Q_ u v e (by have:=h.vf v e2; omega)
   ·have:=(h.new v (by omega) (by omega)).1
    omega
  ·obtain ⟨h1,h2⟩:=h.new u (by omega) Y
   by_cases e2:0<=lb out v
   ·have h3:=h.vf v e2
    have h4:=(J.pt.lt Z v).2;omega
   ·exact h2.symm.trans (h.new v (by omega) (by omega)).2
 ·by_cases e:c<m
  ·obtain ⟨u,Y⟩:=J.QU c c0 e
   exact ⟨u,by rw [h.vf u (by omega)]; exact Y⟩
  ·exact ⟨i,by rw [h.st]; omega⟩
structure Jq (N:Nat) (l:List Ed) (r:List Int) (many:Nat):Prop where
 len:r.length=N
 all:∀ u:Int,0<=u->u<N->0<=lb r u/\lb r u<many
 mN:many<=N
 iff:∀ u v:Int,0<=u->u<N->0<=v->v<N->(lb r u=lb r v↔yW l u v)
 QU:∀ c:Int,0<=c->c<many->∃ u:Int,0<=u/\u<N/\lb r u=c
theorem H7 (N:Nat) (hN:N<=24) (l:List Ed) (hl:F0 N l) (hll:l.length<=64):Gd (qC N l (-1)) (λr=>∃ many:Nat,Jq N l r many):=by
 unfold qC;refine Gd.nd ⟨rfl,by omega,by omega⟩ (Gd.nd (by omega) ?_)
 rw [zq];have hrep:∀ u,lb (List.replicate N (-1)) u = -1:=λu=>by
  unfold lb
  split
  ·by_cases e:u.toNat<N
   ·rw [RY (by simpa using e)]; simp
   ·rw [S3 (by simpa using e)]; rfl
  ·rfl
 refine Gd.lH (λm i (s:List Int×Int)=>i+m=N/\0<=s.2/\s.2<=(i:Int)/\Qw N l s.2 s.1/\∀ j:Nat,j<i->0<=lb s.1 (j:Int)) ?_ ?_ (N:Int).toNat 0 (List.replicate N (-1),0)
  ⟨by omega,by simp,by simp,⟨⟨by simp,by simp⟩,λu v _ h=>by rw [hrep] at h; omega,λu v h _=>by rw [hrep] at h; omega,λc h1 h2=>by omega⟩,by simp⟩
 ·rintro m i ⟨out,many⟩ nx ⟨hi,h0,hmi,hc,hk⟩ hn
  simp only at h0 hmi hc hk;have hilt:i<out.length:=by rw [hc.pt.len]; omega
  have hwm:i64.wrap (many+1)=many+1:=bZ ⟨by omega,by omega⟩
  unfold rU;refine Gd.iT hilt (Gd.ite (λh=>?_) (λh=>?_))
  ·have hge:0<=out[i]:=by simpa using h
   unfold lK;refine hn _ ⟨by omega,h0,by show many<=((i+1:Nat):Int); omega,hc,λj hj=>?_⟩
   by_cases e:j=i
   ·subst e; simp only; rw [Dn hilt]; exact hge
   ·exact hk j (by omega)
  ·have hneg:out[i]<0:=by simpa using h
   refine Gd.iT hilt ?_;rw [RZ];have hnegl:lb out (i:Int)<0:=by rw [Dn hilt]; exact hneg
   have hset:∀ u,lb (out.set i many) u=if u=(i:Int) then many else lb out u:=λu=>by
    have:=zf (o:=out) (q:=(i:Int)) (by omega) (by simpa using hilt) many u
    rwa [RZ] at this
   have hp1:AH N (many+1) out:=⟨hc.pt.len,λv hv=>by have:=hc.pt.MM v hv; omega⟩
   have hbase:2*tG (out.set i many)+[(i:Int)].length<=2*N+1:=by
    have hcn:tG (out.set i many)<=N:=by unfold tG; rw [<- hc.pt.len,<- Tp (as:=out) (i:=i) (a:=many)]; exact UW
    simp only [S4]; omega
   have hf0:D3 N l many (i:Int) out (out.set i many):=by
    refine ⟨hp1.set ⟨h0,by omega⟩ i,λu Y=>?_,λu Y hn2=>?_,by rw [hset,R9 rfl]⟩
    ·rw [hset,R8 (λe=>by subst e; omega)]
    ·rw [hset] at hn2 ⊢
     by_cases e:u=(i:Int)
     ·subst e; rw [R9 rfl]; exact ⟨rfl,.refl⟩
     ·rw [R8 e] at hn2; omega
   refine Gd.iV (λ(s:List Int×List Int)=>D3 N l many (i:Int) out s.1/\(∀ a ∈ s.2,lb s.1 a=many)/\(∀ u,lb s.1 u=many->u ∉ s.2->∀ v,MK l u v->0<=lb s.1 v)/\2*tG s.1+s.2.length<=2*N+1)
    (λs=>2*tG s.1+s.2.length) ?_ gO _ ⟨hf0,λa ha=>?_,λu Y Z=>?_,hbase⟩ ?_
   ·rintro ⟨o,todo⟩ nx2 ⟨hf,htd,hpr,htot⟩ hn2
    simp only at hf htd hpr htot;have hol:=hf.pt.len;unfold rV;refine Gd.ite (λhne=>?_) (λhze=>?_)
    ·obtain ⟨at_,ts,rfl⟩:∃ a ts,todo=a::ts:=by
      cases todo with
      | nil=>simp at hne
      | cons a ts=>exact ⟨a,ts,rfl⟩
     simp only [R_] at htot;refine Gd.ix (y:=at_) (by decide) rfl (Gd.nd ⟨by omega,by simp only [R_]; omega⟩ ?_)
     have hat:=htd at_ (R6 ..);obtain ⟨at0,atN⟩:=LP (by omega:0<=lb o at_)
     have hsl:pM (at_::ts) (1:Int).toNat (at_::ts).length=ts:=by
      unfold pM;rw [show (1:Int).toNat=1 from rfl,Xq,Tr,Sh (by simp)]
     rw [hsl]
     let J:List Ed->List Int×List Int->Prop:=λpre s=>D3 N l many (i:Int) out s.1/\(∀ a ∈ s.2,lb s.1 a=many)/\lb s.1 at_=many/\(∀ u,lb s.1 u=many->u ∉ s.2->u≠at_->∀ v,MK l u v->0<=lb s.1 v) /\
      (∀ e ∈ pre,(e.a0=at_->0<=lb s.1 e.a1)/\(e.a1=at_->0<=lb s.1 e.a0))/\2*tG s.1+s.2.length<=2*tG o+ts.length
     have push:∀ (pre:List Ed) (e:Ed) (b td:List Int) (q:Int) (nn:List Int×List Int->Option (List Int)),e ∈ l->J pre (b,td)->MK l at_ q->0<=q->q<N->((e.a0=at_/\e.a1=q)\/(e.a1=at_/\e.a0=q)) ->
       (∀ s',J (pre++[e]) s'->Gd (nn s') (λr=>∃ many:Nat,Jq N l r many)) ->
       Gd (Sim.idx b q λy7689=>if decide (y7689<0) then (Sim.idx b q λy7694=>cZ ((td.length+([q]).length)*8<=140737488355328) (fL nn (b.set (q:Int).toNat many) (td++([q])))) else (fL nn b td)) (λr=>∃ many:Nat,Jq N l r many):=by
      intro pre e b td q nn hel ⟨j1,j2,j3,j4,j5,j6⟩ hadj q0 qN hends hnn;simp only at j1 j2 j3 j4 j5 j6;have hbl:=j1.pt.len;have hql:q.toNat<b.length:=by omega
      have hget:b[q.toNat]? = some b[q.toNat]:=RY hql;have hlq:lb b q=b[q.toNat]:=LO q0 hql;have hno:tG o<=N:=by unfold tG; rw [<- hol]; exact UW
      unfold fL;refine Gd.ix q0 hget (Gd.ite (λh=>Gd.ix q0 hget (Gd.nd ?_ (hnn _ ?_))) (λh=>hnn _ ⟨j1,j2,j3,j4,λd I=>?_,j6⟩))
      ·simp; omega
      ·have h1:b[q.toNat]<0:=by simpa using h
       have hlt:lb b q<0:=by omega
       have up:∀ {u:Int},0<=lb b u->0<=lb (b.set q.toNat many) u:=λ{u} Y=>D3.mono hbl h0 q0 qN Y;have hqs:lb (b.set q.toNat many) q=many:=by rw [zf q0 hql,R9 rfl]
       have same:∀ {u:Int},lb b u=many->lb (b.set q.toNat many) u=many:=λ{u} Y=>by
        rw [zf q0 hql]; split
        ·rfl
        ·exact Y
       refine ⟨j1.put hc h0 j3 hadj q0 qN hlt,λa ha=>?_,same j3,λu Y Z hua v hv=>?_,λd I=>?_,?_⟩
       ·rcases Sf.1 ha with ha | ha
        ·exact same (j2 a ha)
        ·simp at ha; subst ha; exact hqs
       ·simp only at Y Z
        by_cases e2:u=q
        ·subst e2
         exact absurd (S8 _ (List.mem_singleton_self _)) Z
        ·rw [zf q0 hql,R8 e2] at Y
         exact up (j4 u Y (λO=>Z (R2 _ O)) hua v hv)
       ·rcases Sf.1 I with I | I
        ·obtain ⟨x1,x2⟩:=j5 d I
         exact ⟨λhh=>up (x1 hh),λhh=>up (x2 hh)⟩
        ·simp at I; subst I
         have hat2:0<=lb (b.set q.toNat many) at_:=up (by omega)
         have hq2:0<=lb (b.set q.toNat many) q:=by omega
         rcases hends with ⟨x1,x2⟩ | ⟨x1,x2⟩
         ·exact ⟨λ_=>by rw [x2]; exact hq2,λ_=>by rw [x1]; exact hat2⟩
         ·exact ⟨λ_=>by rw [x1]; exact hat2,λ_=>by rw [x2]; exact hq2⟩
       ·have:=GM hql h1 h0
        simp only [Sg,S4];omega
      ·have h1:0<=b[q.toNat]:=by simpa using h
       rcases Sf.1 I with I | I
       ·exact j5 d I
       ·simp at I; subst I
        rcases hends with ⟨x1,x2⟩ | ⟨x1,x2⟩
        ·exact ⟨λ_=>by rw [x2]; simp only; omega,λ_=>by rw [x1]; simp only; omega⟩
        ·exact ⟨λ_=>by rw [x1]; simp only; omega,λ_=>by rw [x2]; simp only; omega⟩
     refine Gd.seen J ?_ ?_ _ ⟨hf,λa ha=>htd a (Sa _ ha),hat,λu Y Z hua v hv=>hpr u Y (λO=>(SQ.1 O).elim hua Z) v hv,by simp,Sj (2*tG o+ts.length)⟩
     ·rintro k e ⟨b,td⟩ nn pre hpre hJ hnn
      obtain ⟨_,hel,_⟩:=yc hpre;obtain ⟨e1,e2,e3,e4⟩:=hl e hel;have hw1:i64.wrap (e.a0+e.a1)=e.a0+e.a1:=bZ ⟨by omega,by omega⟩
      have hw2:i64.wrap (e.a0+e.a1-at_)=e.a0+e.a1-at_:=bZ ⟨by omega,by omega⟩
      unfold rW;rw [hw1,hw2];refine Gd.ite (λh=>by simp at h) (λ_=>Gd.ite (λh=>?_) (λh=>Gd.ite (λh2=>?_) (λh2=>?_)))
      ·have h:e.a0=at_:=by simpa using h
       have hq:e.a0+e.a1-at_=e.a1:=by omega
       rw [hq];exact push pre e b td _ nn hel hJ ⟨e,hel,.inl ⟨h,rfl⟩⟩ e3 e4 (.inl ⟨h,rfl⟩) hnn
      ·have h1:e.a0≠at_:=by simpa using h
       have h2:e.a1≠at_:=by simpa using h2
       obtain ⟨j1,j2,j3,j4,j5,j6⟩:=hJ;refine hnn _ ⟨j1,j2,j3,j4,λd I=>?_,j6⟩;rcases Sf.1 I with I | I
       ·exact j5 d I
       ·simp at I; subst I
        exact ⟨λhh=>absurd hh h1,λhh=>absurd hh h2⟩
      ·have h2:e.a1=at_:=by simpa using h2
       have hq:e.a0+e.a1-at_=e.a0:=by omega
       rw [hq];exact push pre e b td _ nn hel hJ ⟨e,hel,.inr ⟨h2,rfl⟩⟩ e1 e2 (.inr ⟨h2,rfl⟩) hnn
     ·rintro ⟨b,td⟩ ⟨j1,j2,j3,j4,j5,j6⟩
      simp only at j1 j2 j3 j4 j5 j6;refine hn2 _ ⟨j1,j2,λu Y Z v hv=>?_,by show 2*tG b+td.length<=2*N+1; omega⟩ (by simp only [R_]; omega)
      by_cases e:u=at_
      ·subst e
       obtain ⟨d,I,hh | hh⟩:=hv
       ·have:=(j5 d I).1 hh.1
        rw [hh.2] at this; exact this
       ·have:=(j5 d I).2 hh.1
        rw [hh.2] at this; exact this
      ·exact j4 u Y Z e v hv
    ·have htn:todo=[]:=by
      cases todo with
      | nil=>rfl
      | cons a ts=>simp at hze
     subst htn;unfold lK;rw [hwm];refine hn _ ⟨by omega,by show (0:Int)<=many+1; omega,by show many+1<=((i+1:Nat):Int); omega,hf.done hc h0 (λu Y v hv=>hpr u Y (by simp) v hv),λj hj=>?_⟩
     by_cases e:j=i
     ·subst e; show 0<=lb o (j:Int); rw [hf.st]; exact h0
     ·have h1:=hk j (by omega)
      show 0<=lb o (j:Int);rw [hf.vf _ h1]; exact h1
   ·simp only [Sy] at ha
    subst ha;exact hf0.st
   ·exfalso
    rw [hset] at Y
    by_cases e:u=(i:Int)
    ·subst e; simp at Z
    ·rw [R8 e] at Y
     have:=(hc.pt.lt h0 u).2;omega
   ·refine Vh hbase ?_
    unfold gO; omega
 ·rintro i ⟨out,many⟩ ⟨hi,h0,hmi,hc,hk⟩
  simp only at h0 hmi hc hk;have hge:∀ u:Int,0<=u->u<N->0<=lb out u:=λu u0 uN=>by
   have:=hk u.toNat (by omega)
   rwa [show ((u.toNat:Nat):Int)=u by omega] at this
  refine Gd.ret ⟨many.toNat,hc.pt.len,λu u0 uN=>⟨hge u u0 uN,by have h1:=hge u u0 uN; have h2:=(hc.pt.lt h0 u).2; show lb out u<((many.toNat:Nat):Int); omega⟩,by omega,λu v u0 uN v0 vN=>⟨λe=>hc.Q_ u v (hge u u0 uN) e,λe=>?_⟩,λc c0 c1=>?_⟩
  ·clear vN v0
   induction e with
   | refl=>rfl
   | snoc _ h ih=>
    rename_i p q _
    have ih:lb out u=lb out p:=ih;have hp:0<=lb out p:=by have:=hge u u0 uN; omega
    show lb out u=lb out q;rw [ih];exact (hc.cls p q h hp).symm
  ·obtain ⟨u,Y⟩:=hc.QU c c0 (by omega)
   obtain ⟨a,b⟩:=LP (by omega:0<=lb out u)
   exact ⟨u,a,by have:=hc.pt.len; omega,Y⟩
theorem Hv (N:Nat) (hN:N<=24) (l:List Ed) (hl:F0 N l) (I:l.length<=64):Gd (kW N l) (λr=>r.2=0/\∃ many:Nat,Jq N l r.1 many):=by
 unfold kW;refine Gd.bind_eq (Ex N hN l hl I) (Gd.ite (λh=>by simp at h) (λ_=>Gd.fH (H7 N hN l hl I) (λr J=>Gd.ret ⟨rfl,J⟩)))
theorem Nu (N:Nat) (hN:N<=24) (l:List Int) (hl:Cl N l):∃ m:Nat,m<=N/\Cl m l/\(∀ c:Nat,Cl c l->m<=c) /\
  ∀ {R:Type} (I:Nat->Int->Int->(Int->Option R)->Option R) (hb:∀ k y n nx,I k y n nx=nx (max n (i64.wrap (y+1)))) (K:Int->Option R),eL I K 0 l 0=K (m:Int):=by
 have key:∀ (ys pre:List Int) (m:Nat),l=pre++ys->m<=N->Cl m pre->(∀ c:Nat,Cl c pre->m<=c)->∃ Z:Nat,Z<=N/\Cl Z l/\(∀ c:Nat,Cl c l->Z<=c) /\
   ∀ {R:Type} (I:Nat->Int->Int->(Int->Option R)->Option R) (hb:∀ k y n nx,I k y n nx=nx (max n (i64.wrap (y+1)))) (K:Int->Option R) (i:Nat),eL I K i ys (m:Int)=K (Z:Int):=by
  intro ys
  induction ys with
  | nil=>
   intro pre m e O hp J;rw [SN] at e; subst e
   exact ⟨m,O,hp,J,λ_ _ _ _=>rfl⟩
  | cons y ys ih=>
   intro pre m e O hp J;have hy:=hl y (by rw [e]; exact S8 _ (R6 ..))
   have hw:i64.wrap (y+1)=y+1:=bZ ⟨by omega,by omega⟩
   have hmx:max (m:Int) (y+1)=((max m (y+1).toNat:Nat):Int):=by omega
   obtain ⟨Z,h1,h2,h3,h4⟩:=ih (pre++[y]) (max m (y+1).toNat) (by rw [e]; simp) (by omega) (λa Y=>by
    rcases Sf.1 Y with Y | Y
    ·have:=hp a Y; omega
    ·simp at Y; subst Y; omega) (λc hc=>by
     have c1:=J c (λa Y=>hc a (R2 _ Y));have c2:=hc y (S8 _ (List.mem_singleton_self _));omega)
   refine ⟨Z,h1,h2,h3,λ{R} I hb K i=>?_⟩;show I i y (m:Int) (λs=>eL I K (i+1) ys s)=_;rw [hb,hw,hmx];exact h4 I hb K (i+1)
 obtain ⟨Z,h1,h2,h3,h4⟩:=key l [] 0 rfl (by omega) (by intro a Y; simp at Y) (λc _=>by omega)
 exact ⟨Z,h1,h2,h3,λ{R} I hb K=>h4 I hb K 0⟩
def pos (n:Net) (s:BA):Nat:=((bU n.bP s).getD 0).toNat
theorem WQ {n:Net}{s:BA} (h:s ∈ n.bP):bU n.bP s=some (pos n s:Int)/\pos n s<n.bP.length:=by
 obtain ⟨k,I,hl,_⟩:=Az h;unfold pos;rw [I];exact ⟨rfl,hl⟩
def KX (n:Net) (I:List Int) (b:aS):Ed:=⟨I.getD (pos n b.qD) 0,I.getD (pos n b.To) 0⟩
theorem KY {n:Net} (hn:qT n) {I:List Int}{m:Nat} (Z:I.length=n.bP.length) (O:Cl m I):F0 m (n.aL.map (KX n I)):=λe he=>by
 obtain ⟨b,Y,rfl⟩:=SV.1 he;obtain ⟨h1,h2⟩:=hn.br b Y;have p1:=(WQ h1).2;have p2:=(WQ h2).2;have q:∀ k,k<I.length->0<=I.getD k 0/\I.getD k 0<m:=λk J=>by
  rw [SG,RY J];exact O _ (Sz J)
 exact ⟨(q _ (by omega)).1,(q _ (by omega)).2,(q _ (by omega)).1,(q _ (by omega)).2⟩
theorem Nc {n:Net} (hn:qT n) {I:List Int} (Z:pS n=some I) (hbl:I.length=n.bP.length) {m:Nat} (hm24:m<=24) (O:Cl m I)
  (Y:∀ {R:Type} (J:Nat->Int->Int->(Int->Option R)->Option R) (hb:∀ k y n nx,J k y n nx=nx (max n (i64.wrap (y+1)))) (K:Int->Option R),eL J K 0 I 0=K (m:Int)):
  Gd (fE n) (λt=>t.rA=I/\∃ c:Nat,Jq m (n.aL.map (KX n I)) t.cH c):=by
 have l3:=hn.l3;unfold fE;refine Gd.bind_eq Z ?_;rw [Y _ (λk y n nx=>by unfold ug; rfl)]
 refine Gd.seen (λpre out=>out=pre.map (KX n I)) ?_ ?_ _ rfl
 ·rintro i y out nn pre hpre rfl hnx
  obtain ⟨hpl,hyl,_⟩:=yc hpre;obtain ⟨h1,h2⟩:=hn.br y hyl;obtain ⟨p1,p2⟩:=WQ h1;obtain ⟨q1,q2⟩:=WQ h2;have g:∀ k (hk:k<I.length),I[k]=I.getD k 0:=λk hk=>by
   rw [SG,RY hk]; rfl
  unfold uh;refine Gd.bind_eq p1 (Gd.iT (by omega) (Gd.bind_eq q1 (Gd.iT (by omega) (Gd.nd ?_ (hnx _ ?_)))))
  ·simp only [Uc,S4]; omega
  ·rw [Tu,g _ (by omega),g _ (by omega)]; rfl
 ·rintro out rfl
  exact Gd.fH (Hv m hm24 _ (KY hn hbl O) (by simp; omega)) (λr ⟨_,hr⟩=>Gd.ret ⟨rfl,hr⟩)
section
variable {ν:Type}
def LL (l:List (Int×ν)) (k:Int):Option ν:=(l.find? (λp=>p.1=k)).map (·.2)
theorem HU (l:List (Int×ν)) (k:Int):sX l k=LL l k:=by
 unfold sX LL;have:∀ (l:List (Int×ν)) (i:Nat),(xO l k i).map (·.2)=(l.find? (λp=>p.1=k)).map (·.2):=by
  intro l
  induction l with
  | nil=>intro i; rfl
  | cons p l ih=>
   obtain ⟨a,v⟩:=p;intro i;simp only [xO,List.find?_cons]
   by_cases e:a=k
   ·simp [e]
   ·simp only [e,TV,Xh]; exact ih (i+1)
 exact this l 0
theorem LW {l:List (Int×ν)}{k:Int}:∀ {i j:Nat}{v:ν},xO l k i=some (j,v)->∃ q,j=i+q/\l[q]? = some (k,v):=by
 induction l with
 | nil=>intro i j v h; simp [xO] at h
 | cons p l ih=>
  obtain ⟨a,u⟩:=p;intro i j v h;simp only [xO] at h
  split at h
  ·rename_i e
   simp only [Sn,UB] at h;obtain ⟨rfl,rfl⟩:=h;exact ⟨0,rfl,by rw [e]; rfl⟩
  ·obtain ⟨q,rfl,h2⟩:=ih h
   exact ⟨q+1,by omega,h2⟩
theorem LV {l:List (Int×ν)}{k:Int}:∀ {i:Nat},xO l k i=none->∀ p ∈ l,p.1≠k:=by
 induction l with
 | nil=>intro i _ p J; cases J
 | cons p l ih=>
  obtain ⟨a,u⟩:=p;intro i h;simp only [xO] at h
  split at h
  ·cases h
  ·rename_i e
   intro q I;rcases SQ.1 I with rfl | I
   ·exact e
   ·exact ih h q I
def FV (l:List (Int×ν)):Prop:=(l.map (·.1)).Nodup
theorem FV.find {l:List (Int×ν)} (h:FV l) {k:Int}{v:ν}:sX l k=some v↔(k,v) ∈ l:=by
 rw [HU];unfold LL FV at *
 induction l with
 | nil=>simp
 | cons p l ih=>
  obtain ⟨a,u⟩:=p;simp only [U6,V0] at h;rw [List.find?_cons]
  by_cases e:a=k
  ·subst e
   simp only [decide_true,Tq,Sn,SQ,UB,true_and];constructor
   ·intro h1; exact .inl h1.symm
   ·rintro (h1 | h1)
    ·exact h1.symm
    ·exact absurd (SV.2 ⟨_,h1,rfl⟩) h.1
  ·simp only [e,Xh,SQ,UB]
   rw [ih h.2];constructor
   ·exact λh1=>.inr h1
   ·rintro (⟨h1,_⟩ | h1)
    ·exact absurd h1.symm e
    ·exact h1
theorem FV.put {l:List (Int×ν)} (h:FV l) (k:Int) (v:ν):FV (wY l k v)/\∀ p,p ∈ wY l k v↔p=(k,v)\/(p ∈ l/\p.1≠k):=by
 unfold wY;cases O:xO l k 0 with
 | none=>
  have hno:=LV O;refine ⟨?_,λp=>?_⟩
  ·show ((l++[(k,v)]).map (·.1)).Nodup
   rw [Tu,S1];refine ⟨h,by simp,?_⟩
   intro a Y b hb;obtain ⟨p,hp,rfl⟩:=SV.1 Y;simp at hb;subst hb;exact hno p hp
  ·simp only [Sf,Sy]
   constructor
   ·rintro (h1 | h1)
    ·exact .inr ⟨h1,hno p h1⟩
    ·exact .inl h1
   ·rintro (h1 | ⟨h1,_⟩)
    ·exact .inr h1
    ·exact .inl h1
 | some q=>
  obtain ⟨j,u⟩:=q;obtain ⟨i,rfl,hi⟩:=LW O;obtain ⟨hil,Z⟩:=R3.1 hi;simp only [Sp];have hmap:(l.set i (k,v)).map (·.1)=l.map (·.1):=by
   rw [List.map_set];apply DS;rw [SD,hi]; rfl
  refine ⟨by unfold FV; rw [hmap]; exact h,λp=>?_⟩
  have huniq:∀ (a:Nat) (x:Int×ν),l[a]? = some x->x.1=k->a=i:=λa x Y hx=>by
   obtain ⟨J,I⟩:=R3.1 Y;unfold FV at h;rw [List.nodup_iff_pairwise_ne,Vp] at h;rcases Vm a i with hlt | heq | hgt
   ·exact (h a i (by simpa using J) (by simpa using hil) hlt (by rw [Ut,Ut,I,Z,hx])).elim
   ·exact heq
   ·exact (h i a (by simpa using hil) (by simpa using J) hgt (by rw [Ut,Ut,I,Z,hx])).elim
  constructor
  ·intro hp
   obtain ⟨a,Y,I⟩:=Ti.1 hp;rw [XS] at I
   split at I
   ·exact .inl I.symm
   ·rename_i hne
    have J:a<l.length:=by simpa using Y
    refine .inr ⟨by rw [<- I]; exact Sz J,λhk=>?_⟩
    exact hne (huniq a p (by rw [RY J,I]) hk).symm
  ·rintro (rfl | ⟨hp,hk⟩)
   ·exact Ti.2 ⟨i,by simpa using hil,by simp⟩
   ·obtain ⟨a,Y,I⟩:=Ti.1 hp
    have hne:i≠a:=λe=>by
     subst e;rw [Z] at I;exact hk (by rw [<- I])
    exact Ti.2 ⟨a,by simpa using Y,by rw [List.getElem_set_ne hne]; exact I⟩
theorem FV.IP {l:List (Int×ν)} (h:FV l) (k I:Int) (v:ν):sX (wY l k v) I=if I=k then some v else sX l I:=by
 obtain ⟨h1,h2⟩:=h.put k v
 split
 ·rename_i e
  rw [h1.find,h2]; exact .inl (by rw [e])
 ·rename_i e
  cases Y:sX l I with
  | some u=>
   rw [h1.find,h2];exact .inr ⟨h.find.1 Y,e⟩
  | none=>
   cases Z:sX (wY l k v) I with
   | none=>rfl
   | some u=>
    rcases (h2 _).1 (h1.find.1 Z) with J | ⟨J,_⟩
    ·exact absurd (Prod.mk.inj J).1 e
    ·rw [h.find.2 J] at Y; cases Y
theorem FV.nil:FV ([]:List (Int×ν)):=by unfold FV; simp
end
structure wV (n:Net) (t:bL):Prop where
 bl:t.rA.length=n.bP.length
 ML:t.cH.length<=24
 bi:Cl t.cH.length t.rA
 comp:∃ c:Nat,Jq t.cH.length (n.aL.map (KX n t.rA)) t.cH c
theorem NX {n:Net} (hn:qT n):∃ t,fE n=some t/\wV n t:=by
 have g1:=hn.l1;obtain ⟨bus,hbus,hbl,Z⟩:=K5 n hn;obtain ⟨m,hm1,I,_,J⟩:=Nu n.bP.length hn.l1 bus Z;obtain ⟨t,ht,Y,c,hc⟩:=Nc hn hbus hbl (by omega) I J
 have hl:=hc.len;refine ⟨t,ht,⟨by rw [Y]; exact hbl,by omega,by rw [Y,hl]; exact I,c,?_⟩⟩
 rw [Y,hl];exact hc
def fr (I:List Int):List Nat:=(List.range I.length).filter (λi=>(List.range i).any (λj=>decide (I[j]? = I[i]?)))
theorem HJ {I:List Int}{i:Nat}:i ∈ fr I↔i<I.length/\∃ j:Nat,j<i/\I[j]? = I[i]? := by
 unfold fr;simp
theorem Lw (I:List Int):(fr I).Nodup:=List.Pairwise.filter _ List.nodup_range
theorem Fk {I:List Int} (h:I.length<=24):(fr I).length<=23:=by
 have h1:(fr I).length<=((List.range I.length).filter (λi=>decide (0<i))).length:=by
  unfold fr;rw [<- List.countP_eq_length_filter,<- List.countP_eq_length_filter];refine List.countP_mono_left (λi _ hi=>?_);simp at hi;obtain ⟨j,J,_⟩:=hi;simp; omega
 have h2:∀ m,((List.range m).filter (λi=>decide (0<i))).length<=m-1:=by
  intro m
  induction m with
  | zero=>simp
  | succ m ih=>
   rw [V1,UX,Sg];cases m with
   | zero=>simp
   | succ m=>simp at ih ⊢; omega
 have:=h2 I.length;omega
def D2 (I:List Int) (i:Nat):Nat:=(fr I).getD i 0
theorem Fi {I:List Int}{i:Nat} (h:i<(fr I).length):(fr I)[i]? = some (D2 I i):=by
 unfold D2;rw [SG,RY h]; rfl
theorem Fj {I:List Int}{i:Nat} (h:i<(fr I).length):D2 I i ∈ fr I:=Sd (Fi h)
theorem AV {I:List Int}{i j:Nat} (hi:i<(fr I).length) (Z:j<(fr I).length) (e:D2 I i=D2 I j):i=j:=by
 have a:=Fi hi;have b:=Fi Z;rw [e] at a;have nd:=Lw I;obtain ⟨_,J⟩:=R3.1 a;obtain ⟨_,Y⟩:=R3.1 b;exact (List.getElem_inj nd).1 (J.trans Y.symm)
theorem PZ (I:List Int):(fr I).map (λx:Nat=>(x:Int))=(List.range (fr I).length).map (λi=>(D2 I i:Int)):=by
 apply TP;intro i;rw [SD,SD]
 by_cases h:i<(fr I).length
 ·rw [Fi h,Uj h]; rfl
 ·rw [S3 (by omega),S3 (by simp; omega)]; rfl
def II (n:Net) (I:List Int) (b:aS):Rat×Nat×Nat:=(((b.X*b.B6:Int):Rat),(KX n I b).a0.toNat,(KX n I b).a1.toNat)
def BU (n:Net) (I:List Int):List (Rat×Nat×Nat):=n.aL.map (II n I)
structure QK (b:aS):Prop where
 x:1<=b.X/\b.X<=10000
 t:500<=b.B6/\b.B6<=1500
 s:-1000<=b.Shift/\b.Shift<=1000
 l:0<=b.tI/\b.tI<=100000
theorem JB {n:Net} (h:qJ n) {b:aS} (J:b ∈ n.aL):QK b:=by
 obtain ⟨_,_,_,_,I⟩:=h.vb b J;unfold kO at I
 split at I
 ·omega
 ·rename_i h6
  simp [cA] at h6;exact ⟨by omega,by omega,by omega,by omega⟩
theorem QK.q {b:aS} (h:QK b):500<=b.X*b.B6/\b.X*b.B6<=15000000:=by
 have h1:=h.x; have h2:=h.t
 have a:1*500<=b.X*b.B6:=Int.mul_le_mul h1.1 h2.1 (by omega) (by omega)
 have c:b.X*b.B6<=10000*1500:=Int.mul_le_mul h1.2 h2.2 (by omega) (by omega)
 omega
structure Qx (N:Nat) (l:List (Rat×Nat×Nat)):Prop where
 ll:l.length<=24
 el:∀ e ∈ l,e.2.1<N/\e.2.2<N
 q:∀ e ∈ l,∃ z:Int,e.1=(z:Rat)/\500<=z/\z<=15000000
theorem C_ {n:Net} (h:qJ n) (hn:qT n) {t:bL} (ht:wV n t):Qx t.cH.length (BU n t.rA):=by
 refine ⟨by unfold BU; rw [Uc]; exact h.l3,λe he=>?_,λe he=>?_⟩
 ·obtain ⟨b,I,rfl⟩:=SV.1 he
  have:=KY hn ht.bl ht.bi (KX n t.rA b) (SV.2 ⟨b,I,rfl⟩);show (KX n t.rA b).a0.toNat<_/\(KX n t.rA b).a1.toNat<_;omega
 ·obtain ⟨b,I,rfl⟩:=SV.1 he
  exact ⟨_,rfl,(JB h I).q.1,(JB h I).q.2⟩
theorem A8 {N:Nat}{l:List (Rat×Nat×Nat)} (h:Qx N l) {e:Rat×Nat×Nat} (he:e ∈ l):vO e.1/\500<=e.1/\e.1<=15000000:=by
 obtain ⟨z,I,h1,h2⟩:=h.q e he;have a:=YY.2 h1;have b:=YY.2 h2;rw [<- I] at a b;exact ⟨⟨z,I⟩,a,b⟩
abbrev tq:Rat:=((1000000:Int):Rat)
abbrev Nl (F:Nat->Nat) (l:List (Rat×Nat×Nat)):Mt:=jP ((l.map (zR tq)).map (oL F))
theorem MB:0<tq:=by
 have:((0:Int):Rat)<((1000000:Int):Rat):=Rat.intCast_lt_intCast.2 (by decide)
 simpa using this
theorem Mc {a:Nat}{c:Rat} (I:0<=c) (h:c<=(((2 ^ a:Nat):Int):Rat)):∀ k:Nat,0<=pr k (λ_=>c)/\pr k (λ_=>c)<=(((2 ^ (a*k):Nat):Int):Rat)
 | 0=>by
  refine ⟨by show (0:Rat)<=1; decide,?_⟩
  show (1:Rat)<=_;rw [Yh,Yp];exact Y1
 | k+1=>by
  obtain ⟨h1,h2⟩:=Mc I h k;refine ⟨Y5 h1 I,?_⟩;show pr k (λ_=>c)*c<=_;have e:a*(k+1)=a*k+a:=Nat.mul_succ a k;rw [e,Yi,SX,YZ];exact rS h2 h h1 I
theorem Pf {a b:Nat} (h:a<=32*b):(((2 ^ a:Nat):Int):Rat)<=wq b:=by
 unfold wq;rw [CR];have:2 ^ a<=2 ^ (32*b):=Yk (by decide) h
 exact YY.2 (by omega)
theorem Ov {a c:Nat}{x:Rat} (I:0<=x) (h:x<=(((2 ^ a:Nat):Int):Rat)) (k:Nat) (J:a*k<=32*c):pr k (λ_=>x)<=wq c:=
 Y2 (Mc I h k).2 (Pf J)
theorem IG {N:Nat}{l:List (Rat×Nat×Nat)} (h:Qx N l):1<=xx l/\xx l<=wq 18:=by
 have h1:=h.ll;refine ⟨CZ (λe he=>by have:=A8 h he; grind),?_⟩
 refine Rat.le_trans (IF (q:=15000000) (λe he=>by have:=A8 h he; constructor <;> grind)) (Ov (a:=24) (by decide) ?_ l.length (by omega))
 have:((15000000:Int):Rat)<=(((2 ^ 24:Nat):Int):Rat):=YY.2 (by decide)
 exact this
theorem GZ {u:Nat}:∀ {l:List (Rat×Nat×Nat)},(∀ e ∈ l,1<=e.1)->vF u l<=xx l
 | [],_=>Y1
 | e::l,h=>by
  have ih:=GZ (u:=u) (l:=l) (λe he=>h e (List.mem_cons_of_mem _ he));have h1:=h e (List.mem_cons_self ..);have h2:=Bb (u:=u) (l:=l) (λe he=>h e (List.mem_cons_of_mem _ he));unfold vF xx;refine rS ?_ ih ?_ (by grind)
  ·split <;> grind
  ·split <;> grind
theorem Jo {N:Nat}:∀ {l:List (Rat×Nat×Nat)},(∀ e ∈ l,500<=e.1)->0<=DZ (l.map (zR tq))/\DZ (l.map (zR tq))<=2000*(((l.length:Nat):Int):Rat)
 | [],_=>⟨Y1,by
  show (0:Rat)<=2000*((((0:Nat):Int)):Rat);simp⟩
 | e::l,h=>by
  obtain ⟨a,b⟩:=Jo (N:=N) (l:=l) (λe he=>h e (List.mem_cons_of_mem _ he));have h1:=h e (List.mem_cons_self ..);have e1:DZ ((e::l).map (zR tq))=tq / e.1+DZ (l.map (zR tq)):=rfl;have p:0<e.1⁻¹:=Rat.inv_pos.2 (by grind)
  have i1:=Rat.mul_inv_cancel e.1 (by grind)
  have I:=Rat.mul_le_mul_of_nonneg_right h1 (Rat.le_of_lt p);have t1:tq=1000000:=rfl;have e2:(((e::l).length:Nat):Int)=(((l.length:Nat):Int))+1:=by simp
  rw [e1,Rat.div_def,t1,e2,Rat.intCast_add,Rat.intCast_one];constructor <;> grind
theorem HW {N n:Nat}{F:Nat->Nat}{l:List (Rat×Nat×Nat)} (h:Qx N l) (hn:n<=23) (J:∀ i j,i<n->j<n->F i=F j->i=j):
  Nb n (Nl F l) (λi=>vF (F i) l) (λi c=>vF (F i) l*jP ((l.map (zR tq)).map (qF F)) i c+dl i c) (λi=>vF (F i) l*(4*DZ (l.map (zR tq)))+1):=by
 have h1:=h.ll;have I:∀ e ∈ l,1<=e.1:=λe he=>by have:=A8 h he; grind
 have ws:=Jo (N:=N) (λe he=>(A8 h he).2.1);have Z:(((l.length:Nat):Int):Rat)<=24:=YY.2 (show ((l.length:Nat):Int)<=24 by omega)
 refine ⟨Ny J ⟨_,rfl⟩ MB (λe he=>⟨(A8 h he).1,I e he⟩),?_,λi _=>Rat.le_trans (GZ I) (IG h).2⟩;have a:=P8 (n:=n) (F:=F) (l:=l) (s:=4*DZ (l.map (zR tq))) (w:=192000) J I (by grind) (by grind)
 have b:=IG h;have c:pr n (λ_=>(192000:Rat)+1)<=wq 13:=Ov (a:=18) (by grind) (by
  have:((192001:Int):Rat)<=(((2 ^ 18:Nat):Int):Rat):=YY.2 (by decide)
  have e:(192000:Rat)+1=((192001:Int):Rat):=by grind
  rw [e]; exact this) n (by omega)
 have d:xx l*xx l<=wq 36:=by
  rw [<- xq 18 18];exact rS b.2 b.2 (by grind) (by grind)
 have Y:0<=pr n (λ_=>(192000:Rat)+1):=nX (λ_ _=>by grind)
 have f:xx l*xx l*pr n (λ_=>(192000:Rat)+1)<=wq 49:=by
  rw [<- xq 36 13];exact rS d c (Rat.mul_nonneg (by grind) (by grind)) Y
 exact Y2 a (Y2 f (zF (by omega)))
theorem Lv (I:List Int):∀ i:Nat,∃ r,r<=i/\I[r]? = I[i]? /\ ∀ j,j<r->I[j]? ≠ I[i]? := by
 intro i
 induction i using Nat.strongRecOn with
 | ind i ih=>
  by_cases h:∃ j,j<i/\I[j]? = I[i]?
  ·obtain ⟨j,J,e⟩:=h
   obtain ⟨r,h1,h2,Y⟩:=ih j J;exact ⟨r,by omega,h2.trans e,λq hq Z=>Y q hq (Z.trans e.symm)⟩
  ·exact ⟨i,Sj _,rfl,λj J e=>h ⟨j,J,e⟩⟩
theorem M5 {n:Net}{t:bL}{u v:Int} (h:yW (n.aL.map (KX n t.rA)) u v):Lk ((BU n t.rA).map (zR tq)) u.toNat v.toNat:=by
 induction h with
 | refl=>exact .refl
 | snoc _ I ih=>
  obtain ⟨e,he,Y⟩:=I;obtain ⟨b,J,rfl⟩:=SV.1 he;have O:zR tq (II n t.rA b) ∈ (BU n t.rA).map (zR tq):=SV.2 ⟨_,SV.2 ⟨b,J,rfl⟩,rfl⟩;rcases Y with ⟨rfl,rfl⟩ | ⟨rfl,rfl⟩
  ·exact .step ih (.inl O)
  ·exact .step ih (.inr O)
theorem HY {n:Net} (h:qJ n) (hn:qT n) {t:bL} (ht:wV n t):Pd (fr t.cH).length (Nl (D2 t.cH) (BU n t.rA)):=by
 have hE:=C_ h hn ht;obtain ⟨c,hc⟩:=ht.comp;refine P_ (λe he=>?_) (λi j hi Y e=>AV hi Y e) (λi hi=>?_)
 ·obtain ⟨d,hd,rfl⟩:=SV.1 he
  have:=A8 hE hd;show 0<tq / d.1;rw [Rat.div_def];exact Rat.mul_pos MB (Rat.inv_pos.2 (by grind))
 ·have O:=HJ.1 (Fj hi)
  obtain ⟨r,h1,h2,h3⟩:=Lv t.cH (D2 t.cH i);refine ⟨r,λj Y e=>?_,?_⟩
  ·have J:=HJ.1 (Fj Y)
   rw [e] at J;obtain ⟨_,q,hq,Z⟩:=J;exact h3 q hq (Z.trans h2)
  ·have hl:∀ (a:Nat),a<t.cH.length->lb t.cH (a:Int)=t.cH[a]! := λa ha=>by
    rw [Dn ha]; simp [ha]
   have I:yW (n.aL.map (KX n t.rA)) ((D2 t.cH i:Nat):Int) ((r:Nat):Int):=by
    refine (hc.iff _ _ (by omega) (by omega) (by omega) (by omega)).1 ?_
    have hr:r<t.cH.length:=by omega
    rw [Dn O.1,Dn hr];rw [RY hr,RY O.1] at h2;exact (RX h2).symm
   have:=M5 I;simpa using this
structure Md (n:Net) (t:bL) (M:bJ):Prop where
 top:M.xg=t
 md:KF M (fr t.cH).length t.cH.length (D2 t.cH) (BU n t.rA) tq
 E5:M.C.length=n.aL.length
 c:∀ (k:Nat) (y:LR),M.C[k]? = some y->∃ b,n.aL[k]? = some b/\qB y/\RL y 4/\rv y=(tq / ((b.X*b.B6:Int):Rat))*(((0-b.Shift:Int):Rat) / ((1000:Int):Rat))
 inv:Oe M.sE (fr t.cH).length (Nl (D2 t.cH) (BU n t.rA))
theorem Jk {α Z:Type}{P:α->Z->Prop}{l:List α}{m:List Z} (hl:l.length=m.length) (h:∀ (k:Nat) (y:α),l[k]? = some y->∃ b,m[k]? = some b/\P y b) {x:α}{b:Z} (hx:P x b):∀ (k:Nat) (y:α),(l++[x])[k]? = some y->∃ J,(m++[b])[k]? = some J/\P y J:=by
 intro k y I
 by_cases e:k<l.length
 ·rw [S9 e] at I
  obtain ⟨J,h1,h2⟩:=h k y I;exact ⟨J,by rw [S9 (by omega)]; exact h1,h2⟩
 ·have Y:=(R3.1 I).1
  rw [Sg,S4] at Y;obtain rfl:k=l.length:=by omega
  rw [SB (Sj _),Tk] at I;obtain rfl:=RX I;exact ⟨b,by rw [hl,SB (Sj _),Tk]; rfl,hx⟩
theorem Hq {n:Net} (hn:qT n) {t:bL} (ht:wV n t) {k:Nat} (J:k<n.bP.length):∃ v:Nat,t.rA[k]? = some (v:Int)/\v=(t.rA.getD k 0).toNat:=by
 have I:k<t.rA.length:=by rw [ht.bl]; exact J
 have h1:=ht.bi _ (Sz I);refine ⟨(t.rA[k]).toNat,?_,?_⟩
 ·rw [RY I]; congr 1; omega
 ·rw [SG,RY I]; rfl
theorem LY {n:Net} (h:qJ n) (hn:qT n) {t:bL} (hg:fE n=some t) (ht:wV n t):Gd (xC n) (λo=>∃ M,o=some M/\Md n t M):=by
 have hE:=C_ h hn ht;have hll:=h.l3;have hN:=ht.ML;unfold xC;refine Gd.bind_eq hg ?_;refine Gd.eL (λk ys s=>∃ pre,n.aL=pre++ys/\pre.length=k/\s.1=pre.map (λb=>((II n t.rA b).2.1:Int))/\s.2.1=pre.map (λb=>((II n t.rA b).2.2:Int))/\s.2.2.1.length=pre.length/\s.2.2.2.length=pre.length /\
  (∀ (k:Nat) (y:LR),s.2.2.1[k]? = some y->∃ b,pre[k]? = some b/\(qB y/\RL y 2/\rv y=tq / ((b.X*b.B6:Int):Rat))) /\
  (∀ (k:Nat) (y:LR),s.2.2.2[k]? = some y->∃ b,pre[k]? = some b/\(qB y/\RL y 4/\rv y=(tq / ((b.X*b.B6:Int):Rat))*(((0-b.Shift:Int):Rat) / ((1000:Int):Rat))))) ?_ ?_ n.aL 0 _
  ⟨[],rfl,rfl,rfl,rfl,rfl,rfl,λk y hy=>by simp at hy,λk y hy=>by simp at hy⟩
 ·rintro k b ys ⟨l1,l2,l3,l4⟩ nx ⟨pre,J,hpk,e1,e2,e3,e4,hB,hC⟩ hnx
  simp only at e1 e2 e3 e4 hB hC;subst e1 e2;have hb:b ∈ n.aL:=by rw [J]; simp
  have hkl:pre.length<24:=by
   have:n.aL.length=pre.length+(ys.length+1):=by rw [J]; simp
   omega
  obtain ⟨_,m1,m2,_⟩:=h.vb b hb;obtain ⟨p1,p2⟩:=WQ m1;obtain ⟨q1,q2⟩:=WQ m2;obtain ⟨u,u1,u2⟩:=Hq hn ht p2;obtain ⟨v,v1,v2⟩:=Hq hn ht q2;have V:=JB h hb;have hq:=V.q;have hx:=V.x; have htp:=V.t; have hs:=V.s
  unfold xU;have w1:i64.wrap (b.X*b.B6)=b.X*b.B6:=bZ ⟨by omega,by omega⟩
  have w2:i64.wrap (0-b.Shift)=0-b.Shift:=bZ ⟨by omega,by omega⟩
  rw [w1,w2];refine Gd.bind_eq p1 (Gd.ix (by omega) (by rw [RZ]; exact u1) (Gd.nd (by simp; omega) (Gd.bind_eq q1 (Gd.ix (by omega) (by rw [RZ]; exact v1) (Gd.nd (by simp; omega) ?_)))))
  refine Gd.fH (IN (by omega) (by omega) (by omega)) (λs Z=>Gd.nd (by simp; omega) (Gd.fH (IN (by omega) (by omega) (by omega)) (λf hf=>Gd.fH (A_ Z.1 hf.1 Z.2.1 hf.2.1 (by omega)) (λc hc=>Gd.nd (by simp; omega) ?_))))
  refine hnx _ ⟨pre++[b],by rw [J]; simp,by simp [hpk],?_,?_,by simp [e3],by simp [e4],?_,?_⟩
  ·simp only [Tu,U6,Xe]
   rw [u2]; rfl
  ·simp only [Tu,U6,Xe]
   rw [v2]; rfl
  ·exact Jk e3 hB ⟨Z.1,Z.2.1,Z.2.2⟩
  ·exact Jk e4 hC ⟨hc.1,hc.2.1,by rw [hc.2.2,Z.2.2,hf.2.2]⟩
 ·rintro k ⟨l1,l2,l3,l4⟩ ⟨pre,J,hpk,e1,e2,e3,e4,hB,hC⟩
  simp only at e1 e2 e3 e4 hB hC;rw [SN] at J;subst J;subst e1 e2;refine Gd.eL (λi ys s=>∃ pre,t.cH=pre++ys/\pre.length=i/\FV s.1/\(∀ k:Int,(sX s.1 k).getD false=true↔k ∈ pre) /\
   s.2=((List.range i).filter (λi=>(List.range i).any (λj=>decide (t.cH[j]? = t.cH[i]?)))).map (λx:Nat=>(x:Int))) ?_ ?_ t.cH 0 _
   ⟨[],rfl,rfl,FV.nil,λk=>by simp [sX,xO],rfl⟩
  ·rintro i y ys ⟨seen,free⟩ nx ⟨pre,J,hpi,hk,hs,e⟩ hnx
   simp only at hk hs e;subst e;have hi:t.cH[i]? = some y:=by rw [J,SB (by omega),hpi,Tk]; rfl
   have hil:=(R3.1 hi).1;have hmem:y ∈ pre↔(List.range i).any (λj=>decide (t.cH[j]? = t.cH[i]?))=true:=by
    rw [List.any_eq_true];constructor
    ·intro hy
     obtain ⟨j,hj,he⟩:=Ti.1 hy;refine ⟨j,S0.2 (by omega),?_⟩
     rw [hi,J,S9 hj,RY hj,he]; simp
    ·rintro ⟨j,hj,he⟩
     have hj:=S0.1 hj;have he:=R7 he;rw [hi,J,S9 (by omega)] at he
     exact Sd he
   have hfl:((List.range i).filter (λi=>(List.range i).any (λj=>decide (t.cH[j]? = t.cH[i]?)))).length<=i:=by
    have:=XX (λi=>(List.range i).any (λj=>decide (t.cH[j]? = t.cH[i]?))) (List.range i);simpa using this
   have Y:FV (wY seen y true)/\∀ k:Int,(sX (wY seen y true) k).getD false=true↔k ∈ pre++[y]:=by
    refine ⟨(hk.put y true).1,λk=>?_⟩;rw [hk.IP,Sf,Sy]
    split
    ·rename_i e; simp [e]
    ·rename_i e; rw [hs k]; simp [e]
   unfold xV;refine Gd.ite (λhc=>?_) (λhc=>?_)
   ·have hc2:=hmem.1 ((hs y).1 hc)
    unfold sF;refine Gd.nd (by simp only [Uc,S4]; omega) (hnx _ ⟨pre++[y],by rw [J]; simp,by simp [hpi],Y.1,Y.2,?_⟩)
    simp only;rw [V1,UX,Tu,XR,R9 hc2]
    rfl
   ·have hc2:¬ (List.range i).any (λj=>decide (t.cH[j]? = t.cH[i]?))=true:=λhh=>by
     have:=(hs y).2 (hmem.2 hh);rw [this] at hc; cases hc
    unfold sF;refine hnx _ ⟨pre++[y],by rw [J]; simp,by simp [hpi],Y.1,Y.2,?_⟩
    simp only;rw [V1,UX,Tu,XR,R8 hc2];simp
  ·rintro i ⟨seen,free⟩ ⟨pre,J,hpi,hk,hs,e⟩
   simp only at e;rw [SN] at J;subst e;have hi:i=t.cH.length:=by rw [<- hpi,<- J]
   subst hi;have I:KF (bJ.mk t (n.aL.map (λb=>((II n t.rA b).2.1:Int))) (n.aL.map (λb=>((II n t.rA b).2.2:Int))) l3 l4 ((fr t.cH).map (λx:Nat=>(x:Int))) []) (fr t.cH).length t.cH.length (D2 t.cH) (BU n t.rA) tq:=by
    refine ⟨Fk hN,PZ _,λi j hi hj e=>AV hi hj e,λi hi=>(HJ.1 (Fj hi)).1,hN,hE.ll,hE.el,?_,?_,by show l3.length=_; rw [e3]; simp [BU],λk y hy=>?_⟩
    ·simp [BU]
    ·simp [BU]
    ·obtain ⟨b,hb,y1,y2,y3⟩:=hB k y hy
     exact ⟨II n t.rA b,by unfold BU; rw [SD,hb]; rfl,y1,y2,y3⟩
   have hinv:=JX I (HY h hn ht) (HW hE (Fk hN) (λi j hi hj e=>AV hi hj e));refine Gd.fH hinv ?_;rintro _ ⟨rows,rfl,hI⟩;refine Gd.ret ⟨_,rfl,⟨rfl,?_,e4,hC,hI⟩⟩;exact ⟨I.hn,I.free,I.inj,I.lt,I.hN,I.ll,I.el,I.fr,I.to,I.bl,I.b⟩
def NL (l:List LR) (N:Nat) (P:Nat->LR->Prop):Prop:=l.length=N/\∀ (b:Nat) (y:LR),l[b]? = some y->P b y
theorem NL.mono {l:List LR}{N:Nat}{P P':Nat->LR->Prop} (h:NL l N P) (k:∀ b y,b<N->P b y->P' b y):NL l N P':=
 ⟨h.1,λb y I=>k b y (by rw [<- h.1]; exact (R3.1 I).1) (h.2 b y I)⟩
theorem NL.set {l:List LR}{N:Nat}{P:Nat->LR->Prop} (h:NL l N P) {b:Nat}{y:LR} (Y:P b y):NL (l.set b y) N P:=by
 refine ⟨by rw [Tp]; exact h.1,λJ Z I=>?_⟩
 by_cases e:b=J
 ·subst e
  have hl:b<l.length:=by
   have:=(R3.1 I).1
   rwa [Tp] at this
  rw [SC hl] at I;obtain rfl:=RX I;exact Y
 ·rw [Sx e] at I
  exact h.2 J Z I
theorem NL.snoc {l:List LR}{N:Nat}{P:Nat->LR->Prop} (h:NL l N P) {y:LR} (Y:P N y):NL (l++[y]) (N+1) P:=by
 refine ⟨by simp [h.1],λb Z I=>?_⟩
 by_cases e:b<l.length
 ·rw [S9 e] at I
  exact h.2 b Z I
 ·have J:=(R3.1 I).1
  rw [Sg,S4] at J;obtain rfl:b=l.length:=by omega
  rw [SB (Sj _),Tk] at I;obtain rfl:=RX I;rw [h.1]; exact Y
theorem NL.get {R:Type}{Q:R->Prop}{l:List LR}{N:Nat}{P:Nat->LR->Prop} (h:NL l N P) {b:Nat} (I:b<N) {f:LR->Option R} (J:∀ y,P b y->Gd (f y) Q):Gd (idx l (b:Int) f) Q:=by
 have hl:b<l.length:=by rw [h.1]; exact I
 exact Gd.iT hl (J _ (h.2 b _ (RY hl)))
theorem NV {n:Net}{t:bL}{M:bJ} (hM:Md n t M) (ht:wV n t) (hn:qT n) {p:List Int} (hp:p.length=n.bP.length) (hb:∀ z ∈ p,-100000<=z/\z<=100000):
  Gd (pV M p) (λr=>NL r t.cH.length (λ_ y=>qB y/\RL y 2/\∃ z:Int,rv y=(z:Rat)/\-2400000<=z/\z<=2400000)):=by
 have h24:=hn.l1;have hN:=ht.ML;unfold pV gZ;rw [hM.top];refine Gd.nd (by omega) ?_
 rw [RZ];refine Gd.eL (λi ys s=>∃ pre,p=pre++ys/\pre.length=i/\s.length=t.cH.length/\∀ z ∈ s,-100000*(i:Int)<=z/\z<=100000*(i:Int)) ?_ ?_ p 0 _ ⟨[],rfl,rfl,by simp,λz hz=>by
  have:=XQ hz;omega⟩
 ·rintro i y ys s nx ⟨pre,I,Z,hsl,hs⟩ Y
  have hi:i<n.bP.length:=by rw [<- hp,I]; simp; omega
  have hy:=hb y (by rw [I]; simp)
  obtain ⟨v,v1,v2⟩:=Hq hn ht hi;have hv:v<t.cH.length:=by
   have:=ht.bi _ (Sd v1);omega
  have hvs:v<s.length:=by omega
  unfold sj;rw [hM.top];refine Gd.ix (by omega) (by rw [RZ]; exact v1) (Gd.iT hvs (Gd.iT hvs ?_))
  have hz:=hs _ (Sz hvs);have hw:i64.wrap (s[v]+y)=s[v]+y:=bZ ⟨by omega,by omega⟩
  rw [hw,RZ];refine Y _ ⟨pre++[y],by rw [I]; simp,by simp [Z],by rw [Tp]; exact hsl,λz hz'=>?_⟩
  rcases X0 hz' with h1 | h1
  ·have:=hs z h1; omega
  ·subst h1; omega
 ·rintro i s ⟨pre,I,Z,hsl,hs⟩
  rw [SN] at I;have hil:i<=24:=by rw [<- Z,<- I,hp]; exact h24
  refine Gd.eL (λk ys r=>∃ pre,s=pre++ys/\pre.length=k/\NL r k (λ_ y=>qB y/\RL y 2/\∃ z:Int,rv y=(z:Rat)/\-2400000<=z/\z<=2400000)) ?_ ?_ s 0 _ ⟨[],rfl,rfl,rfl,λb y hb=>by simp at hb⟩
  ·rintro k y ys r nx ⟨pre,J,hpk,hr⟩ Y
   have hy:=hs y (by rw [J]; simp)
   have hkl:s.length=pre.length+(ys.length+1):=by rw [J]; simp
   have hrl:=hr.1;unfold sk;refine Gd.fH (wT (by omega)) (λw hw=>Gd.nd (by simp; omega) (Y _ ⟨pre++[y],by rw [J]; simp,by simp [hpk],hr.snoc ⟨hw.1,hw.2.1,y,hw.2.2,by omega,by omega⟩⟩))
  ·rintro k r ⟨pre,J,hpk,hr⟩
   rw [SN] at J;have hkn:k=t.cH.length:=by rw [<- hpk,<- J,hsl]
   subst hkn;exact Gd.ret hr
theorem OO {a b:List LR}{n W:Nat}{A B:Nat->Rat} (hn:n<=24) (hW:W<=6000) (ha:NL a n (λj y=>qB y/\RL y W/\rv y=A j)) (hb:NL b n (λj y=>qB y/\RL y W/\rv y=B j)):
  Gd (u7 a b) (λr=>qB r/\rv r=sm n (λj=>A j*B j)):=by
 unfold u7;refine Gd.fH (wT (n:=0) (by omega)) (λz hz=>?_)
 rw [ha.1,RZ];refine Gd.lH (λm k s=>k+m=n/\∃ r:LR,s=(r.N.minus,r.N.words,r.D.minus,r.D.words)/\qB r/\RL r (2+(2*W+1)*k)/\rv r=sm k (λj=>A j*B j)) ?_ ?_ n 0 _ ⟨by omega,z,rfl,hz.1,hz.2.1,by rw [hz.2.2]; rfl⟩
 ·rintro m k _ nx ⟨hk,r,rfl,hr,J,hv⟩ hnx
  have I:k<n:=by omega
  have hbig:(2*W+1)*k<=(2*W+1)*23:=Yg _ (by omega)
  have hsucc:(2*W+1)*(k+1)=(2*W+1)*k+(2*W+1):=Nat.mul_succ _ _;unfold wx;refine ha.get I (λy hy=>?_);have skip:A k*B k=0->Gd (nF nx r.N.minus r.N.words r.D.minus r.D.words) (λr=>qB r/\rv r=sm n (λj=>A j*B j)):=λh0=>by
   unfold nF;refine hnx _ ⟨by omega,r,rfl,hr,J.mono (by omega),?_⟩
   rw [hv];show _=sm k (λj=>A j*B j)+A k*B k;rw [h0]; grind
  rw [zu hy.1,hy.2.2];refine Gd.ite (λh=>skip (by rw [of_decide_eq_true h]; grind)) (λ_=>hb.get I (λu hu=>?_))
  rw [zu hu.1,hu.2.2];refine Gd.ite (λ_=>ha.get I (λy2 Z=>hb.get I (λu2 Y=>?_))) (λh=>skip (by
   have h1:decide (B k=0)=true:=by simpa using h
   rw [of_decide_eq_true h1]; grind))
  refine Gd.fH (A_ Z.1 Y.1 Z.2.1 Y.2.1 (by omega)) (λc hc=>Gd.fH (yd (a:=⟨⟨r.N.minus,r.N.words⟩,⟨r.D.minus,r.D.words⟩⟩) hr hc.1 J hc.2.1 (by omega)) (λd hd=>?_))
  unfold nF;refine hnx _ ⟨by omega,d,rfl,hd.1,hd.2.1.mono (by omega),?_⟩
  rw [hd.2.2,hc.2.2,Z.2.2,Y.2.2];show rv r+_=sm k (λj=>A j*B j)+A k*B k;rw [hv]
 ·rintro k _ ⟨hk,r,rfl,hr,J,hv⟩
  obtain rfl:k=n:=by omega
  exact Gd.ret ⟨hr,hv⟩
theorem MZ {q s:Int} (hq:500<=q) (hs:-1000<=s/\s<=1000):-2000<=(tq / (q:Rat))*((s:Rat) / ((1000:Int):Rat))/\(tq / (q:Rat))*((s:Rat) / ((1000:Int):Rat))<=2000/\(tq / (q:Rat))*((s:Rat) / ((1000:Int):Rat))=(((1000*s:Int):Rat)) / (q:Rat):=by
 have h1:((500:Int):Rat)<=(q:Rat):=YY.2 hq;have h2:((-1000:Int):Rat)<=(s:Rat):=YY.2 hs.1;have Z:(s:Rat)<=((1000:Int):Rat):=YY.2 hs.2;have e1:((500:Int):Rat)=500:=rfl;have e2:((-1000:Int):Rat) = -1000:=by rw [Y0]; rfl
 have J:((1000:Int):Rat)=1000:=rfl;have Y:tq=1000000:=rfl;rw [e1] at h1; rw [e2] at h2; rw [J] at Z ⊢
 have p:0<((q:Rat))⁻¹:=Rat.inv_pos.2 (by grind)
 have i1:=Rat.mul_inv_cancel (q:Rat) (by grind)
 have i2:=Rat.mul_le_mul_of_nonneg_right h1 (Rat.le_of_lt p);have i3:(q:Rat)⁻¹<=1 / 500:=by grind
 have I:(tq / (q:Rat))*((s:Rat) / 1000)=(1000*(s:Rat))*(q:Rat)⁻¹:=by rw [Y,Rat.div_def,Rat.div_def]; grind
 have m:=CX (x:=1000*(s:Rat)) (y:=(q:Rat)⁻¹) (a:=1000000) (b:=1 / 500) (by grind) (by grind) (by grind) i3
 refine ⟨by rw [I]; grind,by rw [I]; grind,?_⟩
 rw [I,YZ,J,YX]
def Lg (l:List (Rat×Nat×Nat)) (W:Nat) (C:Rat) (b:Nat) (y:LR):Prop:=qB y/\RL y W/\vO (vF b l*rv y)/\-C<=rv y/\rv y<=C
theorem Lg.mono {l:List (Rat×Nat×Nat)}{W J:Nat}{C I:Rat}{b:Nat}{y:LR} (h:Lg l W C b y) (Y:W<=J) (Z:C<=I):Lg l J I b y:=
 ⟨h.1,h.2.1.mono Y,h.2.2.1,by have:=h.2.2.2.1; grind,by have:=h.2.2.2.2; grind⟩
theorem IQ {a:Rat} (h:vO a):vO (-a):=by
 obtain ⟨z,rfl⟩:=h;exact ⟨-z,by rw [Y0]⟩
theorem Lg.sub {l:List (Rat×Nat×Nat)}{W:Nat}{C:Rat}{b:Nat}{y c:LR} (h:Lg l W C b y) (hc:Lg l 4 2000 b c) (hW:W<=1000):Gd (lu y c) (Lg l (W+5) (C+2000) b):=by
 obtain ⟨a1,J,Y,a4,a5⟩:=h;obtain ⟨Z,c2,c3,c4,c5⟩:=hc;refine (zD a1 Z J c2 (by omega)).mono (λr I=>⟨I.1,I.2.1.mono (by omega),?_,?_,?_⟩)
 ·rw [I.2.2]
  have e:vF b l*(rv y-rv c)=vF b l*rv y+-(vF b l*rv c):=by grind
  rw [e]; exact AW Y (IQ c3)
 ·rw [I.2.2]; grind
 ·rw [I.2.2]; grind
theorem Lg.add {l:List (Rat×Nat×Nat)}{W:Nat}{C:Rat}{b:Nat}{y c:LR} (h:Lg l W C b y) (hc:Lg l 4 2000 b c) (hW:W<=1000):Gd (jU y c) (Lg l (W+5) (C+2000) b):=by
 obtain ⟨a1,J,Y,a4,a5⟩:=h;obtain ⟨Z,c2,c3,c4,c5⟩:=hc;refine (yd a1 Z J c2 (by omega)).mono (λr I=>⟨I.1,I.2.1.mono (by omega),?_,?_,?_⟩)
 ·rw [I.2.2]
  have e:vF b l*(rv y+rv c)=vF b l*rv y+vF b l*rv c:=by grind
  rw [e]; exact AW Y c3
 ·rw [I.2.2]; grind
 ·rw [I.2.2]; grind
theorem LU {n:Net}{t:bL}{M:bJ} (I:Md n t M) {k:Nat}{b:aS} (J:n.aL[k]? = some b):
  M.qD[k]? = some ((II n t.rA b).2.1:Int)/\M.To[k]? = some ((II n t.rA b).2.2:Int)/\(BU n t.rA)[k]? = some (II n t.rA b):=by
 have e:(BU n t.rA)[k]? = some (II n t.rA b):=by unfold BU; rw [SD,J]; rfl
 refine ⟨?_,?_,e⟩
 ·rw [I.md.fr]; exact E1 (λe:Rat×Nat×Nat=>(e.2.1:Int)) e
 ·rw [I.md.to]; exact E1 (λe:Rat×Nat×Nat=>(e.2.2:Int)) e
theorem QR {n:Net}{t:bL}{M:bJ} (h:qJ n) (hn:qT n) (hM:Md n t M) (ht:wV n t) {k:Nat}{c:LR} (hc:M.C[k]? = some c):
  ∃ b,n.aL[k]? = some b/\Lg (BU n t.rA) 4 2000 (II n t.rA b).2.1 c/\Lg (BU n t.rA) 4 2000 (II n t.rA b).2.2 c:=by
 obtain ⟨b,J,Y,Z,c3⟩:=hM.c k c hc;have V:=JB h (Sd J);have hE:=C_ h hn ht;obtain ⟨_,_,e⟩:=LU hM J;have O:=Sd e;have hs:=V.s;obtain ⟨d1,d2,d3⟩:=MZ (q:=b.X*b.B6) (s:=0-b.Shift) V.q.1 (by omega)
 rw [<- c3] at d1 d2 d3;have I:=λ(u:Nat) hu=>FL (u:=u) (l:=BU n t.rA) (λe he=>⟨(A8 hE he).1,by have:=(A8 hE he).2.1; grind⟩) _ O hu (((1000*(0-b.Shift):Int)):Rat) ⟨_,rfl⟩
 refine ⟨b,J,⟨Y,Z,?_,d1,d2⟩,⟨Y,Z,?_,d1,d2⟩⟩
 ·rw [d3]; exact I _ (.inl rfl)
 ·rw [d3]; exact I _ (.inr rfl)
theorem Br (k:Nat):(((k+1:Nat):Int):Rat)=((k:Int):Rat)+1:=by rw [XH,Rat.intCast_add]; rfl
theorem Nq {n:Net}{t:bL}{M:bJ} (h:qJ n) (hn:qT n) (hM:Md n t M) (ht:wV n t) {p:List LR}
  (hp:NL p t.cH.length (λ_ y=>qB y/\RL y 2/\∃ z:Int,rv y=(z:Rat)/\-2400000<=z/\z<=2400000)) {Q:List LR->Prop}{K:List LR->Option (List LR)} (hK:∀ s,NL s t.cH.length (Lg (BU n t.rA) 300 2500000)->Gd (K s) Q):
  Gd (eL (λk y s n=>oN M k y s n) K 0 M.C p) Q:=by
 have hE:=C_ h hn ht;have hcl:=hM.E5;have h24:=h.l3;refine Gd.eL (λk ys s=>∃ pre,M.C=pre++ys/\pre.length=k/\NL s t.cH.length (Lg (BU n t.rA) (2+10*k) (2400000+4000*((k:Int):Rat)))) ?_ ?_ M.C 0 p ⟨[],rfl,rfl,hp.mono (λb y hb Z=>?_)⟩
 ·rintro k c ys s nx ⟨pre,J,Y,hs⟩ hnx
  have hck:M.C[k]? = some c:=by rw [J,SB (by omega),Y,Tk]; rfl
  obtain ⟨b,hb,g1,g2⟩:=QR h hn hM ht hck;obtain ⟨f1,f2,f3⟩:=LU hM hb;have I:=hE.el _ (Sd f3);have hk24:k<24:=by have:=(R3.1 hck).1; omega
  generalize II n t.rA b=e at g1 g2 f1 f2 f3 I;unfold oN;refine Gd.ix (by omega) (by rw [RZ]; exact f1) (Gd.ix (by omega) (by rw [RZ]; exact f1) (hs.get I.1 (λy Z=>Gd.fH (Z.sub g1 (by omega)) (λr hr=>hs.get I.1 (λ_ _=>?_)))))
  have c0:(2400000+4000*((k:Int):Rat))<=(2400000+4000*((k:Int):Rat))+2000:=by grind
  have hs2:=(hs.mono (P':=Lg (BU n t.rA) (2+10*k+5) (2400000+4000*((k:Int):Rat)+2000)) (λb y _ Z=>Z.mono (by omega) c0)).set (b:=e.2.1) hr
  refine Gd.ix (by omega) (by rw [RZ]; exact f2) (Gd.ix (by omega) (by rw [RZ]; exact f2) ?_)
  rw [RZ,RZ];refine hs2.get I.2 (λy2 hy2=>Gd.fH (hy2.add g2 (by omega)) (λr2 hr2=>hs2.get I.2 (λ_ _=>?_)))
  have c1:(2400000+4000*((k:Int):Rat))+2000<=2400000+4000*(((k+1:Nat):Int):Rat):=by rw [Br]; grind
  have c2:(2400000+4000*((k:Int):Rat))+2000+2000<=2400000+4000*(((k+1:Nat):Int):Rat):=by rw [Br]; grind
  exact hnx _ ⟨pre++[c],by rw [J]; simp,by simp [Y],(hs2.mono (λb y _ Z=>Z.mono (by omega) c1)).set (hr2.mono (by omega) c2)⟩
 ·rintro k s ⟨pre,J,Y,hs⟩
  rw [SN] at J;have hk24:k<=24:=by rw [<- Y,<- J]; omega
  have hc:((k:Int):Rat)<=((24:Int):Rat):=YY.2 (by omega)
  have e24:((24:Int):Rat)=24:=rfl;rw [e24] at hc;exact hK s (hs.mono (λb y _ Z=>Z.mono (by omega) (by grind)))
 ·obtain ⟨y1,y2,z,y3,y4,y5⟩:=Z
  have e0:(((0:Nat):Int):Rat)=0:=rfl;have a:=YY.2 y4;have b:=YY.2 y5;have e1:((2400000:Int):Rat)=2400000:=rfl;rw [Y0,e1] at a;rw [e1] at b;refine ⟨y1,y2,?_,?_,?_⟩
  ·rw [y3]
   exact tU (Cy (λe he=>(A8 hE he).1)) ⟨z,rfl⟩
  ·rw [y3,e0]; grind
  ·rw [y3,e0]; grind
def An (D:Rat) (y:LR):Prop:=qB y/\∃ T,vO T/\-wq 140<=T/\T<=wq 140/\rv y=T / D
structure Dv (D:Rat):Prop where
 i:vO D
 z:D≠0
 a:-wq 60<=D
 b:D<=wq 60
theorem LF:vO 0:=⟨0,rfl⟩
theorem An.rb {D:Rat} (I:Dv D) {y:LR} (h:An D y):RB (rv y) 141:=by
 obtain ⟨_,T,t1,t2,t3,e⟩:=h;rw [e];have:=zF (show 60<=140 by omega)
 have h1:=I.a;have h2:=I.b;exact A9 t1 I.i t2 t3 (by grind) (by grind) I.z (by omega)
theorem An.zero {D:Rat}{y:LR} (J:qB y) (I:rv y=0):An D y:=⟨J,0,LF,by have:=xr 140; grind,by have:=xr 140; grind,by rw [I,Rat.div_def]; grind⟩
theorem Oz {f:Nat->Rat}{b:Rat} (I:0<=b):∀ {n:Nat},(∀ i,i<n->-b<=f i/\f i<=b)->-(((n:Int):Rat)*b)<=sm n f/\sm n f<=((n:Int):Rat)*b
 | 0,_=>by
  show -((((0:Nat):Int):Rat)*b)<=0/\0<=((((0:Nat):Int):Rat)*b);have e:((((0:Nat):Int)):Rat)=0:=rfl;rw [e]; grind
 | n+1,h=>by
  have h1:=Oz I (n:=n) (λi hi=>h i (by omega))
  have h2:=h n (by omega)
  rw [Br];show _<=sm n f+f n/\sm n f+f n<=_
  grind
theorem KU {n:Nat}{A B m:Mt}{L R:Nat->Rat} (h:Nb n A L B R) (J:Pd n A) (hn:n<=23) (hG:Gj n A n m) {i:Nat} (hi:i<n) {x:Nat->Rat} (hx:∀ p,p<n->vO (L p*x p)/\-2500000<=x p/\x p<=2500000) {y:LR} (hy:qB y)
  (e:rv y=sm n (λp=>m i (n+p)*x p)):An (Dk A L n) y:=by
 have d0:=(h.D0 J (Sj n)).1;have key:∀ p,p<n->∃ T,vO T/\-wq 139<=T/\T<=wq 139/\m i (n+p)*x p=T*(Dk A L n)⁻¹:=λp I=>by
  obtain ⟨N,n1,n2,n3,e1⟩:=hG.num h.s (Sj n) hi I;rw [R8 (by omega)] at e1
  have Z:m i (n+p)*Dk A L n=N*L p:=by
   have e2:1*m i (n+p)*Dk A L n=N*L p:=e1
   grind
  obtain ⟨x1,x2,x3⟩:=hx p I;have hP:=h.hP;have p1:1<=pr n R:=FG (λj hj=>h.s.R1 hj);have r1:=h.s.R1 hi;have r2:=h.R hi;have hNb:pr n R*R i<=wq 120:=by
   rw [<- xq 60 60];exact rS hP r2 (by grind) (by grind)
  have l1:=h.s.l1 p I;have l2:=h.hL p I;have w1:(2500000:Rat)<=wq 1:=by
   have:((2500000:Int):Rat)<=(((WB ^ 1:Nat):Int):Rat):=YY.2 (by decide)
   exact this
  have q1:=CX (x:=L p) (y:=x p) (a:=wq 18) (b:=wq 1) (by have:=xr 18; grind) l2 (by grind) (by grind)
  rw [xq] at q1;have q2:=CX (x:=N) (y:=L p*x p) (a:=wq 120) (b:=wq (18+1)) (by grind) (by grind) q1.1 q1.2
  rw [xq] at q2;refine ⟨N*(L p*x p),tU n1 x1,q2.1,q2.2,?_⟩;have i1:=Rat.mul_inv_cancel _ d0;have e3:m i (n+p)=N*L p*(Dk A L n)⁻¹:=by rw [<- Z]; grind
  rw [e3]; grind
 have:∃ T:Nat->Rat,∀ p,p<n->vO (T p)/\-wq 139<=T p/\T p<=wq 139/\m i (n+p)*x p=(Dk A L n)⁻¹*T p:=by
  refine ⟨λp=>m i (n+p)*x p*Dk A L n,λp I=>?_⟩;obtain ⟨T,t1,t2,t3,t4⟩:=key p I;have i1:=Rat.mul_inv_cancel _ d0;have e2:m i (n+p)*x p*Dk A L n=T:=by rw [t4]; grind
  simp only;rw [e2];exact ⟨t1,t2,t3,by rw [t4]; grind⟩
 obtain ⟨T,Y⟩:=this;have hs:sm n (λp=>m i (n+p)*x p)=(Dk A L n)⁻¹*sm n T:=by
  rw [<- sZ];exact qA (λp J=>(Y p J).2.2.2)
 have hb:=Oz (f:=T) (b:=wq 139) (by have:=xr 139; grind) (n:=n) (λp J=>⟨(Y p J).2.1,(Y p J).2.2.1⟩)
 have hn2:((n:Int):Rat)*wq 139<=wq 140:=by
  have e1:wq 1*wq 139=wq 140:=xq 1 139;rw [<- e1];have h1:((n:Int):Rat)<=wq 1:=YY.2 (show (n:Int)<=((WB ^ 1:Nat):Int) by
   have:((WB ^ 1:Nat):Int)=4294967296:=by decide
   rw [this]; omega)
  exact Rat.mul_le_mul_of_nonneg_right h1 (by have:=xr 139; grind)
 refine ⟨hy,sm n T,HP (λp J=>(Y p J).1),by grind,by grind,?_⟩
 rw [e,hs,Rat.div_def]; grind
theorem An.mk' {D:Rat} (I:Dv D) {y z:LR} (h:An D y) (k:An D z):RB (rv y-rv z) 142:=by
 obtain ⟨_,T,t1,t2,t3,e⟩:=h;obtain ⟨_,U,u1,u2,J,f⟩:=k;have e1:rv y-rv z=(T+-U) / D:=by rw [e,f,Rat.div_def,Rat.div_def,Rat.div_def]; grind
 have w:wq 140+wq 140<=wq 141:=by
  have e2:wq 1*wq 140=wq 141:=xq 1 140;rw [<- e2];have h1:((2:Int):Rat)<=wq 1:=YY.2 (by decide)
  have h2:((2:Int):Rat)=2:=rfl;rw [h2] at h1;have:=Rat.mul_le_mul_of_nonneg_right h1 (show 0<=wq 140 by have:=xr 140; grind)
  grind
 rw [e1];have Y:=zF (show 60<=141 by omega)
 have d1:=I.a;have d2:=I.b;exact A9 (AW t1 (IQ u1)) I.i (by grind) (by grind) (by grind) (by grind) I.z (by omega)
def PW (n:Net) (t:bL):Rat:=Dk (Nl (D2 t.cH) (BU n t.rA)) (λi=>vF (D2 t.cH i) (BU n t.rA)) (fr t.cH).length
theorem Ld {n:Net} (h:qJ n) (hn:qT n) {t:bL} (ht:wV n t):Dv (PW n t):=by
 have J:=C_ h hn ht;have I:=HW J (Fk ht.ML) (λi j hi Y e=>AV hi Y e);have Z:=HY h hn ht;obtain ⟨a,b,c⟩:=I.Db (Sj _);exact ⟨a,(I.D0 Z (Sj _)).1,b,c⟩
theorem Jz {n:Net}{t:bL}{M:bJ} (h:qJ n) (hn:qT n) (hM:Md n t M) (ht:wV n t) {s:List LR} (hs:NL s t.cH.length (Lg (BU n t.rA) 300 2500000)):
  Gd (oh M s) (λr=>NL r t.cH.length (λ_ y=>An (PW n t) y)):=by
 have hE:=C_ h hn ht;have hnf:=Fk ht.ML;have hNb:=HW hE hnf (λi j hi Y e=>AV hi Y e);have hp:=HY h hn ht;have hfl:M.sd.length=(fr t.cH).length:=by rw [hM.md.free]; simp
 have hfr:∀ k (y:Int),M.sd[k]? = some y->k<(fr t.cH).length/\y=(D2 t.cH k:Int):=λk y Z=>by
  have hk1:=(R3.1 Z).1;rw [hM.md.free,SD,Uj (by omega)] at Z
  exact ⟨by omega,(RX Z).symm⟩
 obtain ⟨m,hG,hR⟩:=hM.inv.ex;unfold oh;rw [hfl,RZ];refine Gd.nd (by omega) ?_
 refine Gd.eL (λk ys r=>∃ pre,M.sd=pre++ys/\pre.length=k/\r.length=(fr t.cH).length/\∀ j,j<k->r[j]? = s[D2 t.cH j]?) ?_ ?_ M.sd 0 _ ⟨[],rfl,rfl,by simp,λj Y=>by omega⟩
 ·rintro k y ys r nx ⟨pre,I,J,hrl,hr⟩ hnx
  obtain ⟨Z,rfl⟩:=hfr k y (by rw [I,SB (by omega),J,Tk]; rfl)
  have hlt:=hM.md.lt k Z;unfold q7;refine Gd.iT (by rw [hs.1]; exact hlt) (Gd.iT (by omega) ?_)
  rw [RZ];refine hnx _ ⟨pre++[(D2 t.cH k:Int)],by rw [I]; simp,by simp [J],by rw [Tp]; exact hrl,λj Y=>?_⟩
  by_cases e:k=j
  ·subst e
   rw [SC (by omega),RY]
  ·rw [Sx e]; exact hr j (by omega)
 ·rintro k r ⟨pre,I,J,hrl,hr⟩
  rw [SN] at I;have Z:k=(fr t.cH).length:=by rw [<- J,<- I,hfl]
  subst Z;unfold gZ;rw [hM.top];refine Gd.fH (Bg (by have:=ht.ML; omega)) ?_
  rintro _ ⟨z,rfl,z1,z2,z3⟩;have hx:∀ j,j<(fr t.cH).length->∃ y,r[j]? = some y/\Lg (BU n t.rA) 300 2500000 (D2 t.cH j) y:=λj Y=>by
   have hlt:=hM.md.lt j Y;have hl:D2 t.cH j<s.length:=by rw [hs.1]; exact hlt
   have hsj:=RY hl;exact ⟨s[D2 t.cH j],by rw [hr j Y,hsj],hs.2 _ _ hsj⟩
  have hb:NL r (fr t.cH).length (λj y=>qB y/\RL y 6000/\rv y=((r[j]?).map rv).getD 0):=⟨hrl,λj y Y=>by
   have hj1:=(R3.1 Y).1;obtain ⟨y2,e,g⟩:=hx j (by omega)
   rw [Y] at e;obtain rfl:=RX e;exact ⟨g.1,g.2.1.mono (by omega),by rw [Y]; rfl⟩⟩
  have hxx:∀ p,p<(fr t.cH).length->vO (vF (D2 t.cH p) (BU n t.rA)*((r[p]?).map rv).getD 0)/\-2500000<=((r[p]?).map rv).getD 0/\((r[p]?).map rv).getD 0<=2500000:=λp hp=>by
   obtain ⟨y2,e,g⟩:=hx p hp;rw [e];exact ⟨g.2.2.1,g.2.2.2.1,g.2.2.2.2⟩
  refine Gd.eL (λk ys o=>∃ pre,M.sd=pre++ys/\pre.length=k/\NL o t.cH.length (λ_ y=>An (PW n t) y)) ?_ ?_ M.sd 0 _ ⟨[],rfl,rfl,⟨by simp,λb y hb=>by
   have:=XQ (Sd hb);subst this;exact An.zero z1 z3⟩⟩
  ·rintro k y ys o nx ⟨pre,I,J,ho⟩ hnx
   obtain ⟨Z,rfl⟩:=hfr k y (by rw [I,SB (by omega),J,Tk]; rfl)
   have hlt:=hM.md.lt k Z;obtain ⟨row,w1,w2,w3⟩:=hR.row k Z;have ha:NL row (fr t.cH).length (λj y=>qB y/\RL y 6000/\rv y=m k ((fr t.cH).length+j)):=⟨w2,λj y Y=>by
    have hj1:=(R3.1 Y).1;obtain ⟨y2,e,g⟩:=w3 j (by omega)
    rw [Y] at e;obtain rfl:=RX e;exact g⟩
   unfold q8;refine Gd.ix (by omega) (by rw [RZ]; exact w1) (Gd.fH (OO (by omega) (by omega) ha hb) (λd hd=>ho.get hlt (λ_ _=>?_)))
   rw [RZ];exact hnx _ ⟨pre++[(D2 t.cH k:Int)],by rw [I]; simp,by simp [J],ho.set (KU hNb hp hnf hG Z hxx hd.1 hd.2)⟩
  ·rintro k o ⟨_,_,_,ho⟩
   exact Gd.ret ho
theorem Jp {n:Net}{t:bL}{M:bJ} (h:qJ n) (hn:qT n) (I:Md n t M) (ht:wV n t) {p:List LR}
  (J:NL p t.cH.length (λ_ y=>qB y/\RL y 2/\∃ z:Int,rv y=(z:Rat)/\-2400000<=z/\z<=2400000)):Gd (og M p) (λr=>NL r t.cH.length (λ_ y=>An (PW n t) y)):=by
 have h1:=ht.ML;have h2:=J.1;unfold og;exact Gd.nd (by omega) (Nq h hn I ht J (λs hs=>Gd.fH (Jz h hn I ht hs) (λr Y=>Gd.ret Y)))
theorem KB {n:Net}{t:bL}{M:bJ} (h:qJ n) (hn:qT n) (Y:Md n t M) (ht:wV n t) {a:List LR} (ha:NL a t.cH.length (λ_ y=>An (PW n t) y)):
  Gd (pn M a) (λr=>NL r n.aL.length (λ_ y=>qB y/\fits (rv y))):=by
 have hE:=C_ h hn ht;have hD:=Ld h hn ht;have hcl:=Y.E5;have h24:=h.l3;unfold pn;refine Gd.eL (λk ys r=>∃ pre,M.C=pre++ys/\pre.length=k/\NL r k (λ_ y=>qB y/\fits (rv y))) ?_ ?_ M.C 0 _ ⟨[],rfl,rfl,rfl,λb y hb=>by simp at hb⟩
 ·rintro k c ys r nx ⟨pre,I,J,hr⟩ hnx
  have hck:M.C[k]? = some c:=by rw [I,SB (by omega),J,Tk]; rfl
  have hk24:k<24:=by have:=(R3.1 hck).1; omega
  obtain ⟨b,hb,c1,c2,c3⟩:=Y.c k c hck;obtain ⟨f1,f2,f3⟩:=LU Y hb;have hlt:=hE.el _ (Sd f3);have Z:k<M.B_.length:=by rw [Y.md.bl]; exact (R3.1 f3).1
  obtain ⟨e,e1,b1,b2,b3⟩:=Y.md.b k M.B_[k] (RY Z);rw [f3] at e1;obtain rfl:=RX e1;obtain ⟨q,q1,q2,q3⟩:=hE.q _ (Sd f3);have hBR:RB (rv M.B_[k]) 1:=by
   rw [b3,q1];exact RB.QV (by decide) (by omega) (by omega)
  have hrl:=hr.1;unfold rQ;refine Gd.ix (by omega) (by rw [RZ]; exact RY Z) (Gd.ix (by omega) (by rw [RZ]; exact f1) (ha.get hlt.1 (λy hy=>Gd.ix (by omega) (by rw [RZ]; exact f2) (ha.get hlt.2 (λz hz=>?_)))))
  refine Gd.fH (zD hy.1 hz.1 (hy.1.rb (hy.rb hD)) (hz.1.rb (hz.rb hD)) (by omega)) (λd hd=>?_)
  have hdR:RB (rv d) 142:=by rw [hd.2.2]; exact hy.mk' hD hz
  refine Gd.fH (A_ b1 hd.1 (b1.rb hBR) (hd.1.rb hdR) (by omega)) (λf hf=>?_)
  refine Gd.fH (yd hf.1 c1 hf.2.1 c2 (by omega)) (λg hg=>Gd.nd (by simp; omega) (hnx _ ⟨pre++[c],by rw [I]; simp,by simp [J],hr.snoc ⟨hg.1,?_⟩⟩))
  exact RB.fits ⟨g,hg.1,hg.2.1,rfl⟩ (by omega)
 ·rintro k r ⟨pre,I,J,hr⟩
  rw [SN] at I;have hk:k=n.aL.length:=by rw [<- J,<- I,hcl]
  subst hk;exact Gd.ret hr
theorem G7 {l:List LR} (hl:l.length<=1000) (h:∀ y ∈ l,qB y/\fits (rv y)):Gd (o_ l) (λr=>r=(l.map (λy=>ctext (rv y)),0)):=by
 unfold o_;refine Gd.fH (P:=λr=>r=(l.map (λy=>ctext (rv y)),true)) ?_ (λr Y=>by subst Y; exact Gd.ite (λh=>by simp at h) (λ_=>Gd.ret rfl))
 unfold uV;refine Gd.nd (by omega) ?_
 rw [RZ];refine Gd.eL (λk ys s=>∃ pre,l=pre++ys/\pre.length=k/\s=pre.map (λy=>ctext (rv y))++List.replicate ys.length (⟨#[]⟩:RU)) ?_ ?_ l 0 _ ⟨[],rfl,rfl,by simp⟩
 ·rintro k y ys _ nx ⟨pre,J,I,rfl⟩ Z
  obtain ⟨y1,y2⟩:=h y (by rw [J]; simp)
  unfold uK;refine Gd.fH (Ml y1) (λr Y=>?_);have h2:=Y.1.2 y2;refine Gd.ite (λhh=>by rw [h2] at hh; simp at hh) (λ_=>?_)
  refine Gd.ix (y:=⟨#[]⟩) (by omega) ?_ (Z _ ⟨pre++[y],by rw [J]; simp,by simp [I],?_⟩)
  ·rw [RZ,SB (by simp [I]),Uc,I,Tk,R_,UL]; rfl
  ·rw [RZ,X5 _ _ (by simp [I]),Uc,I,Tk,R_,UL,List.set_cons_zero,Y.2 h2]
   simp
 ·rintro k _ ⟨pre,J,I,rfl⟩
  rw [SN] at J;subst J;exact Gd.ret (by simp)
structure PL (n:Net) (t:bL) (s:dB):Prop where
 al:s.iJ.length=t.cH.length
 fl:s.kV.length=n.aL.length
 a:∀ x ∈ s.iJ,∃ q,fits q/\x=ctext q
 f:∀ x ∈ s.kV,∃ q,fits q/\x=ctext q
theorem NL.all {l:List LR}{N:Nat}{P:LR->Prop} (h:NL l N (λ_ y=>P y)):∀ y ∈ l,P y:=λy I=>by
 obtain ⟨i,hi,rfl⟩:=Ti.1 I;exact h.2 i _ (RY hi)
theorem Mr {n:Net}{p:List Int} (h:qJ n) (hn:qT n) {t:bL} (hg:fE n=some t) (ht:wV n t) (hp:p.length=n.bP.length) (hb:∀ z ∈ p,-100000<=z/\z<=100000) (hc:q6 n p=some 0):
  Gd (q_ n p) (λr=>r.2=0/\PL n t r.1):=by
 have hN:=ht.ML;have h24:=h.l3;unfold q_;refine Gd.bind_eq hc (Gd.ite (λh=>by simp at h) (λ_=>?_))
 refine Gd.fH (LY h hn hg ht) ?_;rintro _ ⟨M,rfl,Y⟩;simp only [AA];refine Gd.fH (NV Y ht hn hp hb) (λsm hsm=>Gd.fH (Jp h hn Y ht hsm) (λa J=>?_));have hD:=Ld h hn ht;have hl1:=J.1;refine Gd.fH (G7 (by omega) (λy I=>⟨(J.all y I).1,(An.rb hD (J.all y I)).fits (by omega)⟩)) ?_
 rintro _ rfl;refine Gd.fH (KB h hn Y ht J) (λf Z=>?_);have hl2:=Z.1;refine Gd.fH (G7 (by omega) (λy I=>Z.all y I)) ?_
 rintro _ rfl;refine Gd.ite (λh=>by simp at h) (λ_=>Gd.ret ⟨rfl,by simp [hl1],by simp [hl2],λx hx=>?_,λx hx=>?_⟩)
 ·obtain ⟨y,I,rfl⟩:=SV.1 hx
  exact ⟨_,(An.rb hD (J.all y I)).fits (by omega),rfl⟩
 ·obtain ⟨y,I,rfl⟩:=SV.1 hx
  exact ⟨_,(Z.all y I).2,rfl⟩
def acc {α:Type} (f:α->Int) (p:α->Nat) (k:Nat):List α->Int
 | []=>0
 | x::xs=>(if p x=k then f x else 0)+acc f p k xs
theorem E0 {α:Type}{f:α->Int}{p:α->Nat}{k:Nat}:∀ {l:List α},(∀ x ∈ l,0<=f x)->0<=acc f p k l
 | [],_=>T_ _
 | x::xs,h=>by
  have h1:=h x (R6 ..);have h2:=E0 (f:=f) (p:=p) (k:=k) (l:=xs) λy I=>h y (Sa _ I);unfold acc
  split <;> omega
theorem Hj {α:Type}{f:α->Int}{p:α->Nat}{k:Nat}{B:Int} (I:0<=B):∀ {l:List α},(∀ x ∈ l,f x<=B)->acc f p k l<=B*l.length
 | [],_=>by simp [acc]
 | x::xs,h=>by
  have h1:=h x (R6 ..);have h2:=Hj (f:=f) (p:=p) (k:=k) (B:=B) I (l:=xs) λy J=>h y (Sa _ J);unfold acc;rw [R_,XH,XE]
  split <;> omega
theorem IE {α:Type}{f:α->Int}{p:α->Nat}{k:Nat}:∀ (a b:List α),acc f p k (a++b)=acc f p k a+acc f p k b
 | [],b=>by show acc f p k b=0+acc f p k b; omega
 | x::xs,b=>by
  have:=IE (f:=f) (p:=p) (k:=k) xs b;show (if p x=k then f x else 0)+acc f p k (xs++b)=(if p x=k then f x else 0)+acc f p k xs+acc f p k b
  omega
theorem AO {α:Type}{f:α->Int}{p:α->Nat}{k:Nat} (a:List α) (x:α):acc f p k (a++[x])=acc f p k a+(if p x=k then f x else 0):=by
 rw [IE];show _+((if p x=k then f x else 0)+0)=_
 omega
def uO (I:Nat->Nat) (k:Nat):Nat->List Int->Int
 | _,[]=>0
 | i,x::xs=>(if I i=k then x else 0)+uO I k (i+1) xs
theorem GK (I:Nat->Nat) (k:Nat):∀ (a b:List Int) (i:Nat),uO I k i (a++b)=uO I k i a+uO I k (i+a.length) b
 | [],b,i=>by show uO I k i b=0+uO I k (i+0) b; rw [Tt]; omega
 | x::xs,b,i=>by
  have:=GK I k xs b (i+1);have e:i+(x::xs).length=i+1+xs.length:=by simp; omega
  rw [e];show (if I i=k then x else 0)+uO I k (i+1) (xs++b)=(if I i=k then x else 0)+uO I k (i+1) xs+_
  omega
theorem Dz (I:Nat->Nat) (k:Nat) (y:Int):∀ (l:List Int) (i j:Nat) (h:j<l.length),uO I k i (l.set j y)=uO I k i l+(if I (i+j)=k then y-l[j] else 0)
 | [],_,_,h=>by simp at h
 | x::xs,i,0,_=>by
  rw [List.set_cons_zero,Tt,List.getElem_cons_zero];show (if I i=k then y else 0)+uO I k (i+1) xs=(if I i=k then x else 0)+uO I k (i+1) xs+_
  split <;> omega
 | x::xs,i,j+1,h=>by
  have J:j<xs.length:=by simpa using h
  have:=Dz I k y xs (i+1) j J;have e:i+1+j=i+(j+1):=by omega
  rw [e] at this;rw [List.set_cons_succ,List.getElem_cons_succ];show (if I i=k then x else 0)+uO I k (i+1) (xs.set j y)=(if I i=k then x else 0)+uO I k (i+1) xs+_
  rw [this]; omega
theorem GL (I:Nat->Nat) (k:Nat):∀ (m i:Nat),uO I k i (List.replicate m 0)=0
 | 0,_=>rfl
 | m+1,i=>by
  show (if I i=k then (0:Int) else 0)+uO I k (i+1) (List.replicate m 0)=0
  rw [GL I k m (i+1)]; split <;> rfl
theorem I0 (I:Nat->Nat) (k:Nat) {B:Int} (J:0<=B):∀ (l:List Int) (i:Nat),(∀ z ∈ l,-B<=z/\z<=B)->-(B*l.length)<=uO I k i l/\uO I k i l<=B*l.length
 | [],_,_=>by simp [uO]
 | x::xs,i,h=>by
  have h1:=h x (R6 ..);have h2:=I0 I k J xs (i+1) (λz Y=>h z (Sa _ Y));show -(B*(x::xs).length)<=(if I i=k then x else 0)+uO I k (i+1) xs/\(if I i=k then x else 0)+uO I k (i+1) xs<=B*(x::xs).length
  rw [R_,XH,XE]
  split <;> omega
def FE (t:bL) (i:Nat):Nat:=((t.cH[((t.rA[i]?).getD 0).toNat]?).getD 0).toNat
theorem H8 {n:Net}{t:bL} (ht:wV n t) {i:Nat} (hi:i<n.bP.length):∃ v:Nat,t.rA[i]? = some (v:Int)/\v<t.cH.length/\t.cH[v]? = some (FE t i:Int)/\FE t i<t.cH.length:=by
 have I:i<t.rA.length:=by rw [ht.bl]; exact hi
 have h1:=ht.bi _ (Sz I);obtain ⟨c,Y⟩:=ht.comp;have J:(t.rA[i]).toNat<t.cH.length:=by omega
 have e1:t.rA[i]? = some (((t.rA[i]).toNat:Nat):Int):=by rw [RY I]; congr 1; omega
 have h2:=Y.all ((t.rA[i]).toNat:Int) (by omega) (by omega)
 rw [Dn J] at h2;have O:=Y.mN;refine ⟨(t.rA[i]).toNat,e1,J,?_,?_⟩
 ·unfold FE
  rw [e1,Ug,RZ,RY J,Ug]
  congr 1; omega
 ·unfold FE
  rw [e1,Ug,RZ,RY J,Ug];omega
def zQ (n:Net) (t:bL) (s:BA):Nat:=FE t (pos n s)
theorem DM {n:Net}{t:bL} (ht:wV n t) {s:BA} (hs:s ∈ n.bP):n8 n t s=some (zQ n t s:Int)/\zQ n t s<t.cH.length:=by
 obtain ⟨p1,p2⟩:=WQ hs;obtain ⟨v,v1,v2,v3,v4⟩:=H8 ht p2;refine ⟨?_,v4⟩;rw [<- Gd.eq];unfold n8;exact Gd.bind_eq p1 (Gd.ix (by omega) (by rw [RZ]; exact v1) (Gd.ix (by omega) (by rw [RZ]; exact v3) (Gd.ret rfl)))
theorem J4 {n:Net}{t:bL} (hg:fE n=some t) (ht:wV n t):∃ N:Nat,nf n=some (N:Int)/\N<=24/\∀ s ∈ n.bP,zQ n t s<N:=by
 obtain ⟨c,Y⟩:=ht.comp;have O:=Y.mN;have I:Cl t.cH.length t.cH:=λa Z=>by
  obtain ⟨k,hk,rfl⟩:=Ti.1 Z;have:=Y.all (k:Int) (by omega) (by omega)
  rw [Dn hk] at this;omega
 have h:Gd (nf n) (λr=>∃ N:Nat,r=N/\N<=24/\Cl N t.cH):=by
  unfold nf;refine Gd.bind_eq hg (Nv t.cH.length ht.ML _ (λk y n nx=>by unfold sP; rfl) _ t.cH I (λm O J=>Gd.ret ⟨m,rfl,by have:=ht.ML; omega,J⟩))
 obtain ⟨r,hr,N,rfl,h1,h2⟩:=h;refine ⟨N,hr,h1,λs hs=>?_⟩;obtain ⟨v,_,_,v3,_⟩:=H8 ht (WQ hs).2;have:=h2 _ (Sd v3);show FE t (pos n s)<N;omega
abbrev JL (n:Net) (t:bL) (k:Nat):Int:=acc aI.dY (λl:aI=>zQ n t l.Node) k n.bM
theorem Le {n:Net} (hn:qT n) (t:bL) (k:Nat):0<=JL n t k/\JL n t k<=1200000:=by
 have h1:=E0 (f:=aI.dY) (p:=λl:aI=>zQ n t l.Node) (k:=k) (l:=n.bM) (λl hl=>(hn.ld l hl).2.1);have h2:=Hj (f:=aI.dY) (p:=λl:aI=>zQ n t l.Node) (k:=k) (B:=100000) (by omega) (l:=n.bM) (λl hl=>(hn.ld l hl).2.2)
 have:=hn.l5;have I:JL n t k<=100000*(n.bM.length:Int):=h2;exact ⟨h1,by omega⟩
theorem LG {n:Net}{t:bL} (hn:qT n) (hg:fE n=some t) (ht:wV n t) {N:Nat} (hN:nf n=some (N:Int)) (h24:N<=24) (hpl:∀ s ∈ n.bP,zQ n t s<N):
  Gd (sq n) (λr=>r.length=N/\∀ k (I:k<r.length),r[k].dY=JL n t k):=by
 have h4:=hn.l4;have h5:=hn.l5;unfold sq;refine Gd.bind_eq hg (Gd.bind_eq hN (Gd.nd ⟨by omega,by omega⟩ ?_))
 rw [RZ];refine Gd.eL (λi ys s=>(∀ y ∈ ys,y ∈ n.dI)/\s.length=N/\∀ k (I:k<s.length),s[k].dY=0) ?_ ?_ _ _ _ ⟨λ_ h=>h,by simp,?_⟩
 ·rintro i y ys s nx ⟨O,hl,I⟩ hnx
  have hy:=O y (R6 ..);obtain ⟨Z,_⟩:=DM ht (hn.gn y hy).1;have J:zQ n t y.Node<s.length:=by have:=hpl _ (hn.gn y hy).1; omega
  unfold tW;refine Gd.bind_eq Z (Gd.iT J ?_);rw [RZ,List.set_set];refine hnx _ ⟨λz hz=>O z (Sa _ hz),by simp [hl],λk Y=>?_⟩
  rw [Tp] at Y;rw [XS]
  split
  ·exact I _ J
  ·exact I k Y
 ·rintro i s ⟨_,hl,I⟩
  refine Gd.eL (λi ys s=>∃ pre,n.bM=pre++ys/\s.length=N/\∀ k (I:k<s.length),s[k].dY=acc aI.dY (λl:aI=>zQ n t l.Node) k pre) ?_ ?_ _ _ _ ⟨[],rfl,hl,I⟩
  ·rintro i y ys s nx ⟨pre,Z,hl,I⟩ hnx
   have hy:y ∈ n.bM:=by rw [Z]; simp
   obtain ⟨hpp,_⟩:=DM ht (hn.ld y hy).1;have J:zQ n t y.Node<s.length:=by have:=hpl _ (hn.ld y hy).1; omega
   have hyd:=hn.ld y hy;have hb1:=E0 (f:=aI.dY) (p:=λl:aI=>zQ n t l.Node) (k:=zQ n t y.Node) (l:=pre) (λl hl=>(hn.ld l (by rw [Z]; simp [hl])).2.1)
   have hb2:=Hj (f:=aI.dY) (p:=λl:aI=>zQ n t l.Node) (k:=zQ n t y.Node) (B:=100000) (by omega) (l:=pre) (λl hl=>(hn.ld l (by rw [Z]; simp [hl])).2.2)
   have hpre:pre.length<=12:=by
    have:n.bM.length=pre.length+(ys.length+1):=by rw [Z]; simp
    omega
   have hkk:=I _ J;have hw1:i64.wrap (s[zQ n t y.Node].dY+y.dY)=s[zQ n t y.Node].dY+y.dY:=bZ ⟨by omega,by omega⟩
   unfold tX;refine Gd.bind_eq hpp (Gd.iT J (Gd.iT J ?_));rw [hw1,RZ];refine hnx _ ⟨pre++[y],by rw [Z]; simp,by simp [hl],λk Y=>?_⟩
   rw [Tp] at Y;rw [XS,AO]
   by_cases e:zQ n t y.Node=k
   ·subst e
    rw [R9 rfl,R9 rfl,hkk]
   ·rw [R8 e,R8 e,I k Y]; omega
  ·rintro i s ⟨pre,Z,hl,I⟩
   rw [SN] at Z;subst Z;exact Gd.ret ⟨hl,I⟩
 ·intro k I
  have e:(List.replicate N ({ kB:=0,rB:=0,dY:=0 }:cC))[k]={ kB:=0,rB:=0,dY:=0 }:=List.getElem_replicate _;rw [e]
theorem Nh (l:List Int):Gd (eO l) (λb=>b=true↔∃ v ∈ l,0<v):=by
 unfold eO fW;refine Gd.fH (P:=λr=>0<=r↔∃ v ∈ l,0<v) ?_ (λr J=>Gd.ret (by simpa using J))
 refine Gd.lH (λm i _=>i+m=l.length/\∀ v ∈ l.take i,v<=0) ?_ ?_ (l.length:Int).toNat 0 () ⟨by omega,by simp⟩
 ·intro m i _ Y ⟨hi,hno⟩ hnx
  unfold iB pX;refine Gd.iT (by omega) (Gd.ite (λh=>Gd.ret ⟨λ_=>⟨l[i],Sz _,by simpa using h⟩,λ_=>by omega⟩) (λh=>hnx () ⟨by omega,?_⟩))
  rw [Su (by omega)]
  intro v I;rcases Sf.1 I with I | I
  ·exact hno v I
  ·simp at I; subst I; simpa using h
 ·intro i _ ⟨hi,hno⟩
  rw [Sh (by omega)] at hno
  exact Gd.ret ⟨λh=>by omega,λ⟨v,I,h⟩=>by have:=hno v I; omega⟩
abbrev Gw (n:Net) (t:bL) (k:Nat) (l:List (bK×Int)):Int:=acc (λz:bK×Int=>z.2) (λz:bK×Int=>zQ n t z.1.Node) k l
structure QP (n:Net) (t:bL) (p:List Int):Prop where
 len:p.length=n.dI.length
 each:∀ z ∈ n.dI.zip p,0<=z.2/\z.2<=100000/\(z.2=0\/z.1.kB<=z.2/\z.2<=z.1.rB)
 QQ:∀ k,Gw n t k (n.dI.zip p)=JL n t k
theorem JY {n:Net}{t:bL} (hn:qT n) (hg:fE n=some t) (ht:wV n t) (hc:cR n=some 0):
  Gd (n7 n) (λx=>(x.2=14/\x.1=[])\/(x.2=0/\QP n t x.1)):=by
 obtain ⟨N,hN,h24,Z⟩:=J4 hg ht;have h4:=hn.l4;have h5:=hn.l5;obtain ⟨r,hr,hlen,hk⟩:=LG hn hg ht hN h24 Z;unfold n7;refine Gd.bind_eq hc (Gd.ite (λh=>by simp at h) (λ_=>Gd.bind_eq hg (Gd.bind_eq hr ?_)))
 refine Gd.eL (λi ys s=>i+ys.length=r.length/\ys=r.drop i/\s=(r.take i).map cC.dY) ?_ ?_ _ _ _ ⟨by simp,by simp,by simp⟩
 ·rintro i y ys s nx ⟨hi,hys,rfl⟩ hnx
  simp only [R_] at hi;have hlt:i<r.length:=by omega
  rw [SF hlt] at hys;obtain ⟨rfl,rfl⟩:=XN hys;unfold tx;refine Gd.nd (by simp; omega) (hnx _ ⟨by omega,rfl,?_⟩)
  rw [Su hlt,Tu]; rfl
 rintro i s ⟨hi,_,rfl⟩;rw [Sh (by simp at hi; omega)]
 refine Gd.eL (λi ys (s:List Int×List Int)=>∃ pre,n.dI=pre++ys/\pre.length=i/\s.1.length=N/\s.2.length=pre.length/\(∀ v ∈ s.1,0<=v)/\(∀ z ∈ pre.zip s.2,0<=z.2/\z.2<=100000/\(z.2=0\/z.1.kB<=z.2/\z.2<=z.1.rB)) /\
   (∀ k (hk:k<s.1.length),s.1[k]+Gw n t k (pre.zip s.2)=JL n t k)) ?_ ?_ _ _ _
  ⟨[],rfl,rfl,by simp [hlen],rfl,?_,by simp,?_⟩
 ·rintro i y ys ⟨rest,out⟩ nx ⟨pre,hp,hpi,Y,I,h0,he,hb⟩ hnx
  simp only at Y I h0 he hb;have hy:y ∈ n.dI:=by rw [hp]; simp
  obtain ⟨hpp,_⟩:=DM ht (hn.gn y hy).1;have hlp:zQ n t y.Node<rest.length:=by have:=Z _ (hn.gn y hy).1; omega
  have hgy:=hn.gn y hy;have hr0:=h0 rest[zQ n t y.Node] (Sz _);have hb0:=hb _ hlp;have hd:=Le hn t (zQ n t y.Node);have hge:0<=Gw n t (zQ n t y.Node) (pre.zip out):=E0 (λz hz=>(he z hz).1);have hpl10:pre.length<10:=by
   have:n.dI.length=pre.length+(ys.length+1):=by rw [hp]; simp
   omega
  have step:∀ p:Int,0<=p->p<=rest[zQ n t y.Node]->p<=y.rB->(p=0\/y.kB<=p/\p<=y.rB) ->
    Gd (ng rest out nx (zQ n t y.Node:Int) rest[zQ n t y.Node] p) (λx=>(x.2=14/\x.1=[])\/(x.2=0/\QP n t x.1)):=by
   intro p p0 pr pm pe;have hw:i64.wrap (rest[zQ n t y.Node]-p)=rest[zQ n t y.Node]-p:=bZ ⟨by omega,by omega⟩
   have hz:(pre++[y]).zip (out++[p])=pre.zip out++[(y,p)]:=by rw [List.zip_append I.symm]; rfl
   unfold ng;rw [hw,RZ];refine Gd.nd (by simp; omega) (hnx _ ⟨pre++[y],by rw [hp]; simp,by simp [hpi],by simp [Y],by simp [I],?_,?_,?_⟩)
   ·intro v hv
    rcases X0 hv with hv | rfl
    ·exact h0 v hv
    ·omega
   ·simp only
    rw [hz];intro z hzz;rcases Sf.1 hzz with h1 | h1
    ·exact he z h1
    ·rw [Sy] at h1
     subst h1;exact ⟨p0,by simp only; omega,pe⟩
   ·intro k J
    simp only [Tp] at J;simp only;rw [hz];unfold Gw;rw [AO,XS];have hbk:=hb k J;unfold Gw at hbk
    by_cases e:zQ n t y.Node=k
    ·subst e
     rw [R9 rfl,R9 rfl];simp only; omega
    ·rw [R8 e,R8 e]; omega
  unfold tz;refine Gd.bind_eq hpp (Gd.iT hlp (Gd.ite (λhle=>?_) (λ_=>step 0 (by omega) (by omega) (by omega) (.inl rfl))))
  have hle:y.kB<=rest[zQ n t y.Node]:=by simpa using hle
  exact step (min y.rB rest[zQ n t y.Node]) (by omega) (by omega) (by omega) (.inr ⟨by omega,by omega⟩)
 ·rintro i ⟨rest,out⟩ ⟨pre,hp,hpi,Y,I,h0,he,hb⟩
  simp only at Y I h0 he hb;rw [SN] at hp;subst hp;refine Gd.fH (Nh rest) (λb hb2=>Gd.ite (λ_=>Gd.ret (.inl ⟨rfl,rfl⟩)) (λh=>Gd.ret (.inr ⟨rfl,I,he,λk=>?_⟩)));have hno:∀ v ∈ rest,v=0:=λv hv=>by
   have h1:=h0 v hv
   by_cases e:0<v
   ·have:=hb2.2 ⟨v,hv,e⟩
    rw [this] at h; cases h
   ·omega
  by_cases hkN:k<rest.length
  ·have:=hb k hkN
   rw [hno _ (Sz _)] at this;show Gw n t k (n.dI.zip out)=_;omega
  ·have none:∀ {α:Type} (f:α->Int) (p:α->Nat) (l:List α),(∀ x ∈ l,p x<N)->acc f p k l=0:=by
    intro α f p l
    induction l with
    | nil=>intro _; rfl
    | cons x l ih=>
     intro hx;have h1:=hx x (R6 ..);have h2:=ih (λx h=>hx x (Sa _ h));show (if p x=k then f x else 0)+acc f p k l=0
     rw [R8 (by omega),h2]; rfl
   rw [show JL n t k=0 from none _ _ _ (λl hl=>Z _ (hn.ld l hl).1)];exact none _ _ _ (λz hz=>Z _ (hn.gn _ (List.of_mem_zip hz).1).1)
 ·intro v hv
  obtain ⟨s,hs,rfl⟩:=SV.1 hv;obtain ⟨k,hk2,rfl⟩:=Ti.1 hs;rw [hk k hk2]; exact (Le hn t k).1
 ·intro k J
  simp only [Uc] at J;simp only [Ut];rw [hk k J];show JL n t k+0=_;omega
theorem Hb {α I:Type}{y:α}{v:I}:∀ {pre:List α}{p:List I},p[pre.length]? = some v->(pre++[y]).zip p=pre.zip p++[(y,v)]
 | [],[],h=>by simp at h
 | [],b::p,h=>by
  have:b=v:=by simpa using h
  subst this;simp
 | a::pre,[],h=>by simp at h
 | a::pre,b::p,h=>by
  have h2:p[pre.length]? = some v:=by simpa using h
  have:=Hb (y:=y) h2;simp [this]
structure KC (n:Net) (t:bL) (p:List Int):Prop where
 len:p.length=n.bP.length
 MM:∀ z ∈ p,-100000<=z/\z<=100000
 QQ:∀ k,uO (FE t) k 0 p=0
theorem HI {n:Net}{t:bL} (h:qJ n) (hn:qT n) (hg:fE n=some t) (ht:wV n t) (hc:cR n=some 0) {p:List Int} (hp:QP n t p):
  Gd (s8 n p (List.replicate n.cB.length 0)) (λx=>(x.2=4/\x.1=[])\/(x.2=0/\KC n t x.1)):=by
 have l1:=hn.l1;have l4:=hn.l4;have l5:=hn.l5;have l6:=h.l6;unfold s8;refine Gd.bind_eq hc (Gd.ite (λh=>by simp at h) (λ_=>?_))
 refine Gd.ite (λh=>absurd h (by simp [hp.len])) (λ_=>Gd.nd (by omega) ?_)
 rw [RZ];refine Gd.eL (λi ys s=>∃ pre,n.dI=pre++ys/\pre.length=i/\s.length=n.bP.length/\(∀ k,uO (FE t) k 0 s=Gw n t k (pre.zip p))/\∀ z ∈ s,-(100000*(i:Int))<=z/\z<=100000*(i:Int)) ?_ ?_ n.dI 0 _
  ⟨[],rfl,rfl,by simp,λk=>GL _ _ _ _,λz hz=>by have:=XQ hz; omega⟩
 ·rintro i y ys s nx ⟨pre,I,Y,hsl,hb,hs⟩ Z
  have hy:y ∈ n.dI:=by rw [I]; simp
  obtain ⟨q1,q2⟩:=WQ (hn.gn y hy).1;have hil:i<n.dI.length:=by rw [I]; simp; omega
  have hip:i<p.length:=by rw [hp.len]; exact hil
  have hpi2:=RY hip;have hzip:=Hb (y:=y) (pre:=pre) (p:=p) (v:=p[i]) (by rw [Y]; exact hpi2)
  have hmem:(y,p[i]) ∈ n.dI.zip p:=by
   refine Ti.2 ⟨i,by simp [hp.len]; omega,?_⟩
   rw [List.getElem_zip]
   congr 1
   have:n.dI[i]? = some y:=by rw [I,SB (by omega),Y,Tk]; rfl
   rw [RY hil] at this;exact RX this
  have he:=hp.each _ hmem;simp only at he;have J:pos n y.Node<s.length:=by omega
  have hz:=hs _ (Sz J);have fin:Gd (nx (s.set ((pos n y.Node:Int)).toNat (i64.wrap (s[pos n y.Node]+p[i])))) (λx=>(x.2=4/\x.1=[])\/(x.2=0/\KC n t x.1)):=by
   have hw:i64.wrap (s[pos n y.Node]+p[i])=s[pos n y.Node]+p[i]:=bZ ⟨by omega,by omega⟩
   rw [hw,RZ];refine Z _ ⟨pre++[y],by rw [I]; simp,by simp [Y],by simp [hsl],λk=>?_,λz hz2=>?_⟩
   ·rw [Dz _ _ _ _ _ _ J,hb k,hzip]
    unfold Gw;rw [AO,Sp];show _+(if zQ n t y.Node=k then _ else _)=_
    split <;> omega
   ·rcases X0 hz2 with h1 | h1
    ·have:=hs z h1; omega
    ·subst h1; omega
  unfold uD;refine Gd.iT hip (Gd.ite (λh0=>?_) (λh0=>?_))
  ·exact Gd.bind_eq q1 (Gd.iT J (Gd.iT hip (Gd.iT J fin)))
  ·have h0:p[i]≠0:=Sc h0
   refine Gd.iT hip (Gd.ite (λh1=>?_) (λ_=>Gd.iT hip (Gd.ite (λh1=>?_) (λ_=>Gd.bind_eq q1 (Gd.iT J (Gd.iT hip (Gd.iT J fin)))))))
   ·have:=R7 h1; omega
   ·have:=R7 h1; omega
 ·rintro i s ⟨pre,I,Y,hsl,hb,hs⟩
  rw [SN] at I;subst I;have hb2:∀ k,uO (FE t) k 0 s=JL n t k:=λk=>(hb k).trans (hp.QQ k);have hs2:∀ z ∈ s,-1000000<=z/\z<=1000000:=λz hz=>by have:=hs z hz; omega
  clear hb hs;refine Gd.eL (λi ys s'=>∃ pre,n.cB=pre++ys/\pre.length=i/\s'=s) ?_ ?_ n.cB 0 _ ⟨[],rfl,rfl,rfl⟩
  ·rintro i y ys s nx ⟨pre,I,Y,rfl⟩ Z
   have hy:y ∈ n.cB:=by rw [I]; simp
   obtain ⟨_,v2,v3⟩:=h.vt y hy;obtain ⟨q1,q2⟩:=WQ v2;have hil:i<n.cB.length:=by rw [I]; simp; omega
   have hst:(List.replicate n.cB.length (0:Int))[i]? = some 0:=by rw [UE,R9 hil]
   have J:pos n y.Node<s.length:=by omega
   have hz:=hs2 _ (Sz J);have hch:0<=y.sf/\y.sf<=100000/\0<=y.Discharge/\y.Discharge<=100000:=by
    simp [EK,bI,cA] at v3;omega
   have hw:i64.wrap (0-y.sf)=0-y.sf:=bZ ⟨by omega,by omega⟩
   have hw2:i64.wrap (s[pos n y.Node]+0)=s[pos n y.Node]:=by rw [bZ ⟨by omega,by omega⟩]; omega
   unfold uE;rw [hw];refine Gd.ix (by omega) (by rw [RZ]; exact hst) (Gd.ite (λh1=>?_) (λ_=>Gd.ix (by omega) (by rw [RZ]; exact hst) (Gd.ite (λh1=>?_) (λ_=>Gd.bind_eq q1 (Gd.iT J (Gd.ix (by omega) (by rw [RZ]; exact hst) (Gd.iT J ?_)))))))
   ·have:=R7 h1; omega
   ·have:=R7 h1; omega
   ·rw [hw2,RZ]
    exact Z _ ⟨pre++[y],by rw [I]; simp,by simp [Y],DS (RY J)⟩
  ·rintro i _ ⟨_,_,_,rfl⟩
   refine Gd.eL (λi ys s'=>∃ pre,n.bM=pre++ys/\pre.length=i/\s'.length=n.bP.length/\(∀ k,uO (FE t) k 0 s'=JL n t k-acc aI.dY (λl:aI=>zQ n t l.Node) k pre)/\∀ z ∈ s',-(1000000+100000*(i:Int))<=z/\z<=1000000) ?_ ?_ n.bM 0 _
    ⟨[],rfl,rfl,hsl,λk=>by rw [hb2 k]; show _=JL n t k-0; omega,λz hz=>by have:=hs2 z hz; omega⟩
   ·rintro i y ys s' nx ⟨pre,I,Y,hsl',hb',hs'⟩ Z
    have hy:y ∈ n.bM:=by rw [I]; simp
    obtain ⟨q1,q2⟩:=WQ (hn.ld y hy).1;have hd:=(hn.ld y hy).2;have hil:i<n.bM.length:=by rw [I]; simp; omega
    have J:pos n y.Node<s'.length:=by omega
    have hz:=hs' _ (Sz J);have hw:i64.wrap (s'[pos n y.Node]-y.dY)=s'[pos n y.Node]-y.dY:=bZ ⟨by omega,by omega⟩
    unfold uF;refine Gd.bind_eq q1 (Gd.iT J (Gd.iT J ?_));rw [hw,RZ];refine Z _ ⟨pre++[y],by rw [I]; simp,by simp [Y],by simp [hsl'],λk=>?_,λz hz2=>?_⟩
    ·rw [Dz _ _ _ _ _ _ J,hb' k,AO,Sp]
     show _+(if zQ n t y.Node=k then _ else _)=_
     split <;> omega
    ·rcases X0 hz2 with h1 | h1
     ·have:=hs' z h1; omega
     ·subst h1; omega
   ·rintro i s' ⟨pre,I,Y,hsl',hb',hs'⟩
    rw [SN] at I;subst I;refine Gd.eL (λi ys _=>∃ pre,s'=pre++ys/\∀ z ∈ pre,-100000<=z/\z<=100000) ?_ ?_ s' 0 _ ⟨[],rfl,λz hz=>by simp at hz⟩
    ·rintro i y ys _ nx ⟨pre,I,hr⟩ Z
     unfold uG;refine Gd.ite (λ_=>Gd.ret (.inl ⟨rfl,rfl⟩)) (λh1=>Z () ⟨pre++[y],by rw [I]; simp,λz hz=>?_⟩)
     simp only [XB,Za] at h1;rcases Sf.1 hz with h2 | h2
     ·exact hr z h2
     ·rw [Sy] at h2
      subst h2; omega
    ·rintro i _ ⟨pre,I,hr⟩
     rw [SN] at I;subst I;exact Gd.ret (.inr ⟨rfl,hsl',hr,λk=>by rw [hb' k]; show JL n t k-JL n t k=0; omega⟩)
theorem JW {n:Net}{t:bL} (h:qJ n) (hn:qT n) (Y:fE n=some t) (ht:wV n t) (J:cR n=some 0):
  Gd (iP n) (λx=>(x.2≠0/\x.1=[])\/(x.2=0/\KC n t x.1)):=by
 have l6:=h.l6;unfold iP;refine Gd.fH (JY hn Y ht J) (λx hx=>?_);rcases hx with ⟨e,_⟩ | ⟨e,Z⟩
 ·rw [e]
  exact Gd.ite (λ_=>Gd.ret (.inl ⟨by simp,rfl⟩)) (λh=>by simp at h)
 ·rw [e]
  refine Gd.ite (λh=>by simp at h) (λ_=>Gd.nd (by omega) ?_)
  rw [RZ];refine Gd.fH (HI h hn Y ht J Z) (λy I=>Gd.ret ?_);rcases I with ⟨e1,e2⟩ | I
  ·exact .inl ⟨by simp only; omega,e2⟩
  ·exact .inr I
theorem JR {n:Net}{t:bL} (hg:fE n=some t) (ht:wV n t) (hn:qT n) (hc:cR n=some 0) {p:List Int} (hp:KC n t p):q6 n p=some 0:=by
 have l1:=hn.l1;rw [<- Gd.eq];unfold q6;refine Gd.bind_eq hc (Gd.ite (λh=>by simp at h) (λ_=>Gd.ite (λh=>absurd h (by simp [hp.len])) (λ_=>Gd.bind_eq hg ?_)))
 refine Gd.eL (λi ys (l:List (Int×Int))=>∃ pre,p=pre++ys/\pre.length=i/\FV l/\(∀ z ∈ l,∃ k:Nat,z.1=(k:Int))/\∀ k:Nat,(sX l (k:Int)).getD 0=uO (FE t) k 0 pre) ?_ ?_ p 0 _ ⟨[],rfl,rfl,FV.nil,λz Y=>by simp at Y,λk=>by simp [sX,xO,uO]⟩
 ·rintro i y ys l nx ⟨pre,I,Z,hk,J,hs⟩ hnx
  have hy:=hp.MM y (by rw [I]; simp)
  have hpl:p.length=pre.length+(ys.length+1):=by rw [I]; simp
  have hpn:=hp.len;obtain ⟨v,v1,v2,v3,v4⟩:=H8 ht (show i<n.bP.length by omega)
  have hbd:=I0 (FE t) (FE t i) (B:=100000) (by omega) pre 0 (λz Y=>hp.MM z (by rw [I]; simp [Y]))
  have hw:i64.wrap ((sX l (FE t i:Int)).getD 0+y)=(sX l (FE t i:Int)).getD 0+y:=by
   rw [hs (FE t i)];exact bZ ⟨by omega,by omega⟩
  unfold vm;refine Gd.ite (λh=>?_) (λ_=>Gd.ix (by omega) (by rw [RZ]; exact v1) (Gd.ix (by omega) (by rw [RZ]; exact v3) ?_))
  ·exfalso
   simp only [TI,SO] at h;omega
  ·rw [hw]
   refine hnx _ ⟨pre++[y],by rw [I]; simp,by simp [Z],(hk.put _ _).1,λz Y=>?_,λk=>?_⟩
   ·rcases ((hk.put _ _).2 z).1 Y with h1 | h1
    ·exact ⟨FE t i,by rw [h1]⟩
    ·exact J z h1.1
   ·rw [hk.IP,GK]
    show _=_+((if FE t (0+pre.length)=k then y else 0)+0)
    rw [Sp,Z]
    by_cases e:FE t i=k
    ·subst e
     rw [R9 rfl,R9 rfl,Ug,hs]; omega
    ·rw [R8 (by omega),R8 e,hs]; omega
 ·rintro i l ⟨pre,I,Z,hk,J,hs⟩
  rw [SN] at I;subst I;have:(l.any λp=>!decide (p.2=0))=false:=by
   rw [List.any_eq_false];intro z Y;obtain ⟨k,hk2⟩:=J z Y;have h1:sX l (k:Int)=some z.2:=hk.find.2 (by rw [<- hk2]; exact Y)
   have h2:=hs k;rw [h1,Ug,hp.QQ k] at h2;simp [h2]
  rw [this];exact Gd.ret rfl
theorem Lb {s:RU} (h:∃ q,fits q/\s=ctext q):s.size<=maxLen:=by
 obtain ⟨q,I,rfl⟩:=h;have:=Hx I;unfold maxLen; omega
theorem xS (n:Net) (hz:pU n):(∃ e,e≠0/\iP n=some ([],e)) \/
  (∃ t p s,qJ n/\qT n/\fE n=some t/\wV n t/\KC n t p/\iP n=some (p,0)/\q6 n p=some 0/\q_ n p=some (s,0)/\PL n t s/\True):=by
 obtain ⟨e,he,hok⟩:=Xu n hz
 by_cases Z:e=0
 ·subst Z
  have hV:=hok rfl;have hn:=hV.ok hz;obtain ⟨t,hg,ht⟩:=NX hn;obtain ⟨⟨p,x⟩,hi,hx⟩:=JW hV hn hg ht he;rcases hx with ⟨J,hp⟩ | ⟨hx,I⟩
  ·left
   simp only at J hp;subst hp;exact ⟨x,J,hi⟩
  ·right
   simp only at hx I;subst hx;have hc:=JR hg ht hn he I;obtain ⟨⟨s,y⟩,hs,hy,Y⟩:=Mr hV hn hg ht I.len I.MM hc;simp only at hy Y;subst hy;exact ⟨t,p,s,hV,hn,hg,ht,I,hi,hc,hs,Y,RW⟩
 ·left
  refine ⟨e,Z,?_⟩;have hsh:n7 n=some ([],e):=by
   rw [<- Gd.eq];unfold n7;exact Gd.bind_eq he (Gd.ite (λ_=>Gd.ret rfl) (λh=>absurd (by simpa using h) Z))
  rw [<- Gd.eq];unfold iP;exact Gd.bind_eq hsh (Gd.ite (λ_=>Gd.ret rfl) (λh=>absurd (by simpa using h) Z))
instance QX (p:RU) (l:List RU):Decidable (p ∈ l):=@List.instDecidableMemOfLawfulBEq _ instBEqOfDecidableEq inferInstance p l
theorem uk (l:List RU) (p:RU):cI l p=some (decide (p ∈ l)):=by
 obtain ⟨b,e,h⟩:=vR l p;rw [e]
 congr 1
 cases b <;> simp_all
theorem E7 {α:Type} (p:α->Option Bool) (kp:α->Bool) (hp:∀ x,p x=some (!kp x)) (z:α) (A:List α) (hA:A.length<=100000):
  Gd ((lH (λk (_:Unit) n=>idx A (k:Int) λy=>(p y).bind λr=>if r then (some (k:Int)) else (n ())) (λ_=>some (-1)) ((A.length:Int)).toNat 0 ()).bind λr=>
   if decide (r=(-1)) then (some A) else (iV (λ(s:List α×Int×Int) n=>if decide (s.2.2<(s.1.length:Int)) then (idx s.1 s.2.2 λy=>(p y).bind λr=>if !r then (idx s.1 s.2.1 λ_=>n (s.1.set (s.2.1).toNat y,i64.wrap (s.2.1+1),i64.wrap (s.2.2+1))) else (n (s.1,s.2.1,i64.wrap (s.2.2+1))))
    else (cZ (0<=s.2.1/\s.2.1<=(s.1.length:Int)) (cZ (0<=s.2.1/\s.2.1<=((s.1.take (s.2.1).toNat++List.replicate (s.1.length-(s.2.1).toNat) z).length:Int)) (some (pM (s.1.take (s.2.1).toNat++List.replicate (s.1.length-(s.2.1).toNat) z) 0 (s.2.1).toNat))))) gO (A,r,i64.wrap (r+1)))) (λr=>r=A.filter kp):=by
 refine Gd.fH (P:=λr=>(r = -1/\∀ x ∈ A,kp x=true)\/∃ (i:Nat) (h:i<A.length),r=i/\kp A[i]=false/\∀ x ∈ A.take i,kp x=true) ?_ (λr hr=>?_)
 ·refine Gd.lH (λm i _=>i+m=A.length/\∀ x ∈ A.take i,kp x=true) ?_ ?_ (A.length:Int).toNat 0 () ⟨by omega,by simp⟩
  ·intro m i _ nx ⟨hi,hno⟩ hnx
   have hlt:i<A.length:=by omega
   refine Gd.iT hlt ?_;rw [hp];refine Gd.ite (λh=>Gd.ret (.inr ⟨i,hlt,rfl,by simpa using h,hno⟩)) (λh=>hnx () ⟨by omega,?_⟩)
   rw [Su hlt];intro x hx;rcases Sf.1 hx with hx | hx
   ·exact hno x hx
   ·simp at hx; subst hx; simpa using h
  ·intro i _ ⟨hi,hno⟩
   rw [Sh (by omega)] at hno
   exact Gd.ret (.inl ⟨rfl,hno⟩)
 ·rcases hr with ⟨rfl,hall⟩ | ⟨i,hi,rfl,hki,hpre⟩
  ·exact Gd.ite (λ_=>Gd.ret (Xr.2 hall).symm) (λh=>by simp at h)
  ·refine Gd.ite (λh=>by simp at h) (λ_=>?_)
   have hw0:i64.wrap ((i:Int)+1)=((i+1:Nat):Int):=by rw [bZ ⟨by omega,by omega⟩]; omega
   rw [hw0];have Z:A.take i=(A.take (i+1)).filter kp:=by
    rw [Su hi,UX,Xr.2 hpre];simp [XR,hki]
   refine Gd.iV (λ(s:List α×Int×Int)=>∃ p q:Nat,s.2.1=p/\s.2.2=q/\p<q/\q<=A.length/\s.1.length=A.length/\s.1.take p=(A.take q).filter kp/\s.1.drop q=A.drop q) (λs=>A.length-s.2.2.toNat) ?_ gO _ ⟨i,i+1,rfl,rfl,by omega,by omega,rfl,Z,rfl⟩ (by unfold gO; omega)
   rintro ⟨l,n1,n2⟩ nx ⟨p,q,h1,h2,hpq,hqA,hl,I,Y⟩ hn;simp only at h1 h2 hl I Y;subst h1; subst h2
   have hwq:i64.wrap ((q:Int)+1)=((q+1:Nat):Int):=by rw [bZ ⟨by omega,by omega⟩]; omega
   have hwp:i64.wrap ((p:Int)+1)=((p+1:Nat):Int):=by rw [bZ ⟨by omega,by omega⟩]; omega
   rw [hwq];refine Gd.ite (λh=>?_) (λh=>?_)
   ·have hq:q<l.length:=by
     have:(q:Int)<((l.length:Nat):Int):=by simpa using h
     omega
    have hqa:q<A.length:=by omega
    have hv:l[q]=A[q]:=by
     have e1:=SF hq;have e2:=SF hqa;rw [Y,e2] at e1;exact (XN e1).1.symm
    have hd2:l.drop (q+1)=A.drop (q+1):=by
     have:=SJ (List.drop 1) Y;simpa [TW] using this
    have J:(A.take (q+1)).filter kp=(A.take q).filter kp++(if kp A[q] then [A[q]] else []):=by
     rw [Su hqa,UX]
     congr 1
     simp only [XR,List.filter_nil]
    refine Gd.iT hq ?_;rw [hp,hv];refine Gd.ite (λhk=>Gd.iT (show p<l.length by omega) ?_) (λhk=>?_)
    ·have hk:kp A[q]=true:=by simpa using hk
     rw [hwp,RZ];refine hn _ ⟨p+1,q+1,rfl,rfl,by omega,by omega,by simpa using hl,?_,?_⟩ (by simp only [RZ]; omega)
     ·simp only
      have hp:p<(l.set p A[q]).length:=by simp; omega
      rw [Su hp,List.getElem_set_self,J,R9 hk,Vb (Sj p),I]
     ·simp only
      rw [UK (by omega),hd2]
    ·have hk:kp A[q]=false:=by simpa using hk
     refine hn _ ⟨p,q+1,rfl,rfl,by omega,by omega,hl,?_,hd2⟩ (by simp only [RZ]; omega)
     simp only;rw [J,R8 (by simp [hk]),SN,I]
   ·have hq:l.length<=q:=by
     have:((l.length:Nat):Int)<=(q:Int):=by simpa using h
     omega
    have hqe:q=A.length:=by omega
    refine Gd.nd ⟨XI p,show (p:Int)<=((l.length:Nat):Int) by omega⟩ (Gd.nd ⟨XI p,?_⟩ (Gd.ret ?_))
    ·simp only [RZ,Sg,Ss,Tl]; omega
    ·unfold pM
     rw [Tr,UQ,RZ,U9 (by simp; omega),Wj,Nat.min_self,I,hqe,TY]
def GB (W:List BA) (x:aI):Bool:=decide (x.Name ∈ W)
theorem del_eq (W:List BA) (x:aI):nj x W=some (!GB W x):=by
 unfold nj;rw [uk]; rfl
theorem Hz (W:List BA) (A:List aI) (hA:A.length<=1000):Gd (eX A W) (λr=>r=A.filter (GB W)):=
 E7 (λy=>nj y W) (GB W) (del_eq W) (aI.mk ⟨#[]⟩ ⟨#[]⟩ 0) A (by omega)
theorem Ki {l:List RU}{k:Nat}:pM l 0 k=l.take k:=by unfold pM; simp
theorem Ko {n:Net} (Y:pU n) (on:List RU):Gd (fG n on) (λe=>e=0->cR n=some 0):=by
 obtain ⟨e,he,_⟩:=Xu n Y;unfold fG;refine Gd.bind_eq he (Gd.ite (λh=>Gd.ret (λJ=>by subst J; simp at h)) (λh=>?_))
 have J:e=0:=by simpa using h
 subst J;refine Gd.eL (Q:=λe=>e=0->cR n=some 0) (λi (ys:List RU) (_:Unit)=>i+ys.length=on.length) ?_ (λ_ _ _=>Gd.ret (λ_=>he)) on 0 () (by simp)
 intro i y ys _ Z hi I;simp only [R_] at hi;unfold rj;refine Gd.fH (P:=λ_=>True) ?_ (λb _=>Gd.ite (λ_=>Gd.ret (λh=>by simp at h)) (λ_=>?_))
 ·unfold dC dK
  refine Gd.fH (P:=λ_=>True) ?_ (λ_ _=>Gd.ret RW);refine Gd.lH (Q:=λ_=>True) (λm i (_:Unit)=>i+m=n.bM.length) ?_ (λ_ _ _=>Gd.ret RW) ((n.bM.length:Int)).toNat 0 () (by omega)
  intro m i _ Z hi I;unfold eJ;exact Gd.iT (by omega) (Gd.ite (λ_=>Gd.ret RW) (λ_=>I () (by omega)))
 ·refine Gd.nd (by omega) ?_
  rw [uk];exact Gd.ite (λ_=>Gd.ret (λh=>by simp at h)) (λ_=>I () (by omega))
def sN (n:Net) (on:List RU):Net:=aG.mk n.bP n.aT n.aL n.dI (n.bM.filter (GB on)) n.cB
theorem Jn {n:Net} (h:qJ n) (on:List RU):qP n on=some (sN n on):=by
 have:=h.l1; have:=h.l2; have:=h.l3; have:=h.l4; have:=h.l5; have:=h.l6
 rw [<- Gd.eq];unfold qP lv;refine Gd.fH (P:=λr=>r=n) (Gd.nd (by omega) (Gd.nd (by omega) (Gd.nd (by omega) (Gd.nd (by omega) (Gd.nd (by omega) (Gd.nd (by omega) (Gd.ret rfl))))))) (λr I=>?_)
 subst I;refine Gd.fH (Hz on r.bM (by omega)) (λl hl=>Gd.ret ?_)
 rw [hl]; rfl
theorem pU.sN {n:Net} (h:pU n) (on:List RU):pU (sN n on):=
 ⟨h.nd,h.sw,h.br,h.gn,λx I=>h.ld x (Tc.1 I).1,h.st⟩
theorem MU {n:Net}{on:List RU}{e:Int} (h:fG n on=some e) (I:e≠0):pA n on=some (aG.mk [] [] [] [] [] [],e):=by
 rw [<- Gd.eq];unfold pA;exact Gd.bind_eq h (Gd.ite (λ_=>Gd.ret rfl) (λk=>absurd (by simpa using k) I))
theorem EZ {n:Net} (I:qJ n) {on:List RU} (h:fG n on=some 0):pA n on=some (sN n on,0):=by
 rw [<- Gd.eq];unfold pA;exact Gd.bind_eq h (Gd.ite (λk=>by simp at k) (λ_=>Gd.bind_eq (Jn I on) (Gd.ret rfl)))
def Bw (z:aS×Rat):Prop:=(z.1.tI:Rat)<Pa z.2
open Classical in
noncomputable def zV (z:aS×Rat):List RU:=if Bw z then [z.1.Name] else []
theorem BG {z:aS×Rat} (h:Bw z):zV z=[z.1.Name]:=R9 h
theorem DL {z:aS×Rat} (h:¬ Bw z):zV z=[]:=R8 h
theorem Jc:∀ {l:List RU},(∀ x ∈ l,∃ q,fits q/\x=ctext q)->∃ qs:List Rat,l=qs.map ctext/\∀ q ∈ qs,fits q
 | [],_=>⟨[],rfl,λq h=>by cases h⟩
 | x::l,h=>by
  obtain ⟨q,Y,rfl⟩:=h x (R6 ..);obtain ⟨qs,rfl,J⟩:=Jc (l:=l) (λy Z=>h y (Sa _ Z));refine ⟨q::qs,rfl,λp I=>?_⟩;rcases SQ.1 I with rfl | I
  ·exact Y
  ·exact J p I
theorem MJ {bs:List aS}{qs:List Rat}{i:Nat} (h:i<bs.length) (J:i<qs.length):
  ((bs.zip qs).take (i+1)).flatMap zV=((bs.zip qs).take i).flatMap zV++zV (bs[i],qs[i]):=by
 have I:i<(bs.zip qs).length:=by simp; omega
 rw [Su I,VU,List.getElem_zip];simp
theorem FB {n:Net} (hV:qJ n) {qs:List Rat} (hl:qs.length=n.aL.length) (hf:∀ q ∈ qs,fits q):
  pB n (qs.map ctext)=some ((n.aL.zip qs).flatMap zV):=by
 have h3:=hV.l3;rw [<- Gd.eq];unfold pB;refine Gd.eL (λi (ys:List aS) (w:List RU)=>i+ys.length=n.aL.length/\n.aL.drop i=ys/\w.length<=i/\w=((n.aL.zip qs).take i).flatMap zV) ?_ ?_ n.aL 0 [] ⟨by simp,rfl,by simp,by simp⟩
 ·rintro i y ys w nx ⟨hi,hd,hw,hv⟩ hnx
  simp only [R_] at hi;have J:i<n.aL.length:=by omega
  have Y:i<qs.length:=by omega
  have hy:n.aL[i]=y:=by
   have e:=SF J;rw [hd] at e; exact (XN e).1.symm
  have hd':n.aL.drop (i+1)=ys:=by
   have:=SJ (List.drop 1) hd;simpa [TW] using this
  have hL:=(JB hV (Sz J)).l;have Z:=MJ J Y;rw [<- hv] at Z;unfold ud qu;refine Gd.iT (by simpa using Y) ?_
  rw [Ut];refine Gd.fH (GS (hf _ (Sz Y))) (λa ha=>Gd.fH (Jd ha.1 ha.2.1 (by omega)) (λb hb=>?_))
  rw [<- hy];refine Gd.fH (wT ⟨by omega,by omega⟩) (λc hc=>Gd.fH (FH hb.1 hc.1 hb.2.1 hc.2.1 (by omega)) (λd I=>?_))
  rw [hb.2.2,hc.2.2,ha.2.2] at I;have hov:0<d↔Bw (n.aL[i],qs[i]):=I.1;clear I;refine Gd.ite (λh=>Gd.nd ?_ (hnx _ ⟨by omega,hd',?_,?_⟩)) (λh=>hnx _ ⟨by omega,hd',by omega,?_⟩)
  ·simp only [R_,XY]; omega
  ·simp; omega
  ·rw [Z,BG (hov.1 (R7 h))]
  ·rw [Z,DL (λk=>Sc h (hov.2 k)),SN]
 ·rintro i w ⟨hi,_,_,hv⟩
  rw [Sh (by simp at hi ⊢; omega)] at hv
  exact Gd.ret hv
theorem H6 {c:Net} (hz:pU c):∃ e,mR c=some e:=by
 suffices h:Gd (mR c) (λ_=>True) by
  obtain ⟨e,he,_⟩:=h;exact ⟨e,he⟩
 unfold mR;refine Gd.fH (P:=λ_=>True) ?_ (λr _=>Gd.ite (λ_=>Gd.ret RW) (λ_=>Gd.ret RW));unfold iI;rcases xS c hz with ⟨x,hx,hi⟩ | ⟨t,p,s,hV,hn,hg,ht,hb,hi,hfc,hs,I,hv⟩
 ·exact Gd.bind_eq hi (Gd.ite (λ_=>Gd.ret RW) (λk=>absurd (by simpa using k) hx))
 ·obtain ⟨qs,hq,J⟩:=Jc I.f
  have Y:qs.length=c.aL.length:=by
   have:=I.fl;rw [hq,Uc] at this;exact this
  have Z:=FB hV (qs:=qs) Y J;rw [<- hq] at Z;exact Gd.bind_eq hi (Gd.ite (λk=>by simp at k) (λ_=>Gd.bind_eq hs (Gd.ite (λk=>by simp at k) (λ_=>Gd.bind_eq Z (Gd.ret RW)))))
def DI (n:Net) (l:List RU):Prop:=mR (sN n l)=some 0
def nm (n:Net):List RU:=n.bM.map (·.Name)
theorem L4 {n:Net} (h:qJ n):(nm n).Nodup:=by
 have:=h.nd;unfold names at this;exact (S1.1 (S1.1 this).1).2.1
theorem BF (n:Net):(nm n).length=n.bM.length:=by simp [nm]
theorem Mo (l:List RU):pM l 0 ((l.length:Int)).toNat=l:=by simp [pM]
structure Found (n:Net) (l out:List RU):Prop where
 ext:out.take l.length=l
 len:out.length=n.bM.length
 ok:∀ k,l.length<=k->k<=out.length->DI n (out.take k)
 set:l.Nodup->(∀ x ∈ l,x ∈ nm n)->out.Nodup/\∀ x ∈ out,x ∈ nm n

theorem KJ {n:Net}{on:List RU}{e:Int} (h:fG n on=some e) (I:e≠0):fB n on=some (dB.mk [] [],[],e):=by
 rw [<- Gd.eq];unfold fB;exact Gd.bind_eq (MU h I) (Gd.ite (λ_=>Gd.ret rfl) (λk=>absurd (by simpa using k) I))
theorem Jt {n:Net} (J:qJ n) {on:List RU} (h:fG n on=some 0) {e:Int} (I:e≠0) (hi:iP (sN n on)=some ([],e)):
  fB n on=some (dB.mk [] [],[],e):=by
 rw [<- Gd.eq];unfold fB iI;exact Gd.bind_eq (EZ J h) (Gd.ite (λk=>by simp at k) (λ_=>Gd.fH (P:=λr=>r=(dB.mk [] [],[],e)) (Gd.bind_eq hi (Gd.ite (λ_=>Gd.ret rfl) (λk=>absurd (by simpa using k) I))) (λr Y=>by subst Y; exact Gd.ret rfl)))
theorem KK {n:Net} (I:qJ n) {on:List RU} (h:fG n on=some 0) {p:List Int}{s:dB}{ov:List RU}
  (hi:iP (sN n on)=some (p,0)) (hs:q_ (sN n on) p=some (s,0)) (J:pB (sN n on) s.kV=some ov):
  fB n on=some (s,ov,0):=by
 rw [<- Gd.eq];unfold fB iI;exact Gd.bind_eq (EZ I h) (Gd.ite (λk=>by simp at k) (λ_=>Gd.fH (P:=λr=>r=(s,ov,0)) (Gd.bind_eq hi (Gd.ite (λk=>by simp at k) (λ_=>Gd.bind_eq hs (Gd.ite (λk=>by simp at k) (λ_=>Gd.bind_eq J (Gd.ret rfl)))))) (λr Y=>by subst Y; exact Gd.ret rfl)))
theorem Kq {n:Net} (hc:cR n=some 0) (l:List RU) (hl:l.length<=1000) (hnd:l.Nodup) (hs:∀ x ∈ l,x ∈ nm n):fG n l=some 0:=by
 rw [<- Gd.eq];unfold fG;refine Gd.bind_eq hc (Gd.ite (λh=>by simp at h) (λ_=>?_))
 refine Gd.eL (Q:=λe=>e=0) (λi (ys:List RU) (_:Unit)=>i+ys.length=l.length/\l.drop i=ys) ?_ (λ_ _ _=>Gd.ret rfl) l 0 () ⟨by simp,rfl⟩
 rintro i y ys _ nx ⟨hi,hd⟩ I;simp only [R_] at hi;have Y:i<l.length:=by omega
 have hy:l[i]=y:=by
  have e:=SF Y;rw [hd] at e; exact (XN e).1.symm
 have hd':l.drop (i+1)=ys:=by
  have:=SJ (List.drop 1) hd;simpa [TW] using this
 have Z:y ∈ nm n:=hs y (hy▸Sz Y);obtain ⟨q,hq,J⟩:=Ti.1 Z;rw [BF] at hq;have J:n.bM[q].Name=y:=by simpa [nm] using J
 unfold rj;refine Gd.fH (P:=λb=>b=true) ?_ (λb hb=>?_)
 ·unfold dC dK
  refine Gd.fH (P:=λr=>(0:Int)<=r) ?_ (λr hr=>Gd.ret (by simpa using hr))
  refine Gd.lH (Q:=λr=>(0:Int)<=r) (λm i (_:Unit)=>i+m=n.bM.length/\i<=q) ?_ (λi _ h=>by omega) ((n.bM.length:Int)).toNat 0 () ⟨by omega,by omega⟩
  rintro m i _ nx ⟨hi,hiq⟩ I;unfold eJ;refine Gd.iT (by omega) (Gd.ite (λ_=>Gd.ret (by omega)) (λh=>I () ⟨by omega,?_⟩))
  refine Nat.lt_of_le_of_ne hiq (λe=>?_);subst e;simp [qq,J] at h
 ·subst hb
  refine Gd.ite (λh=>by simp at h) (λ_=>Gd.nd (by omega) ?_)
  rw [uk,Ki,RZ];refine Gd.ite (λh=>?_) (λ_=>I () ⟨by omega,hd'⟩)
  exfalso;have h:=R7 h;obtain ⟨p,hp,hp2⟩:=List.mem_take_iff_getElem.1 h;rw [<- hy] at hp2;have:p=i:=(List.getElem_inj hnd).1 hp2;omega
def yU (off:List BA) (x:BA):Bool:=!decide (x ∈ off)
theorem NA (off:List BA) (x:BA):lg x off=some (!yU off x):=by
 unfold lg yU;rw [uk,Bool.not_not]; rfl
theorem Kb (off A:List BA) (hA:A.length<=1000):Gd (eY A off) (λr=>r=A.filter (yU off)):=
 E7 (λy=>lg y off) (yU off) (NA off) ⟨#[]⟩ A (by omega)
def D5 (n:Net) (names off:List BA):Prop:=DI n (names.filter (yU off))
theorem Jx {n:Net} (Y:pU n) (I:qJ n) (names off:List BA) (hl:names.length<=1000):Gd (pz off names n) (λb=>b=true↔D5 n names off):=by
 unfold pz;refine Gd.nd (by omega) (Gd.fH (Kb off names hl) (λr J=>?_))
 subst J;obtain ⟨e,he⟩:=H6 (Y.sN (names.filter (yU off)));refine Gd.bind_eq (Jn I _) (Gd.bind_eq he (Gd.ret ?_));unfold D5 DI;rw [he];constructor
 ·intro h; rw [R7 h]
 ·intro h; exact Zb (RX h)
theorem Mu {y:BA}{s L:List BA}{m:Nat} (h:s.Sublist (y::L)) (hl:s.length=m+1):s.Sublist L\/∃ I,s=y::I/\I.Sublist L/\I.length=m:=by
 cases h with
 | cons _ h=>exact .inl h
 | cons_cons _ h=>exact .inr ⟨_,rfl,h,by simpa using hl⟩
theorem C3 {n:Net} (hz:pU n) (hV:qJ n) (names:List BA) (hl:names.length<=12):∀ (m:Nat) (off:List BA) (i:Nat),off.length+m<=1000->i<=names.length->∀ f,m<f ->
  Gd (eM f names off (i:Int) (m:Int) names n) (λr=>
   (r.2=true->∃ s,r.1=off++s/\s.Sublist (names.drop i)/\s.length=m/\D5 n names r.1) /\
   (r.2=false->∀ s,s.Sublist (names.drop i)->s.length=m->¬ D5 n names (off++s)))
 | m,off,i,ho,hi,0,hf=>by omega
 | m,off,i,ho,hi,f+1,hf=>by
  show Gd (fK (eM f) names off i m names n) _;unfold fK;refine Gd.ite (λh=>?_) (λh=>?_)
  ·have O:m=0:=by have:=R7 h; omega
   subst O;refine Gd.fH (Jx hz hV names off (by omega)) (λb hb=>Gd.ret ⟨λh=>⟨[],by simp,by simp,rfl,hb.1 h⟩,λh s hs h0 Z=>?_⟩)
   have hs0:=Sv h0;subst hs0;rw [SN] at Z;have:=hb.2 Z;simp only at h;rw [h] at this; cases this
  ·obtain ⟨k,rfl⟩:∃ k,m=k+1:=⟨m-1,by have:=Sc h; omega⟩
   have hwm:i64.wrap (((k+1:Nat):Int)-1)=(k:Int):=by rw [bZ ⟨by omega,by omega⟩]; omega
   refine Gd.iV (λ(s:Int)=>∃ j:Nat,s=j/\i<=j/\j<=names.length/\∀ s,s.Sublist (names.drop i)->s.length=k+1->¬ D5 n names (off++s)\/s.Sublist (names.drop j)) (λs=>names.length-s.toNat) ?_ gO _ ⟨i,rfl,Sj _,hi,λs hs _=>.inr hs⟩ (by unfold gO; omega)
   rintro _ nx ⟨j,rfl,hij,hj,hI⟩ hn;unfold lj;refine Gd.ite (λh=>?_) (λh=>Gd.ret ⟨λh=>by simp at h,λ_ s hs J Z=>?_⟩)
   ·have I:j<names.length:=by have:=R7 h; omega
    have hwj:i64.wrap ((j:Int)+1)=((j+1:Nat):Int):=by rw [bZ ⟨by omega,by omega⟩]; omega
    have hd:=SF I;rw [hwj,hwm];refine Gd.nd (by omega) (Gd.iT I ?_)
    rw [Mo];refine Gd.nd (by simp only [R_,XY]; omega) ?_
    refine Gd.fH (C3 hz hV names hl k (off++[names[j]]) (j+1) (by simp; omega) I f (by omega)) (λr hr=>Gd.ite (λh=>Gd.ret ⟨λ_=>?_,λh=>by simp at h⟩) (λh=>hn _ ⟨j+1,rfl,by omega,I,λs hs J=>?_⟩ (by simp only [RZ]; omega)))
    ·obtain ⟨s,h1,h2,h3,h4⟩:=hr.1 h
     refine ⟨names[j]::s,by simp [h1],?_,by simp [h3],h4⟩
     refine (h2.cons_cons _).trans ?_;rw [<- hd];obtain ⟨d,rfl⟩:∃ d,j=i+d:=⟨j-i,by omega⟩
     rw [<- TW];exact List.drop_sublist _ _
    ·rcases hI s hs J with Y | Y
     ·exact .inl Y
     ·rw [hd] at Y
      rcases Mu Y J with Y | ⟨s',rfl,h2,h3⟩
      ·exact .inr Y
      ·have:=hr.2 h s' h2 h3
       rw [Sr] at this;exact .inl this
   ·have I:j=names.length:=by have:=Sc h; omega
    rcases hI s hs J with Y | Y
    ·exact Y Z
    ·rw [I,Vc] at Y
     rw [List.sublist_nil.1 Y] at J;simp at J
theorem Js {n:Net} (hz:pU n) (hV:qJ n) (on:List BA) (hc:fG n on=some 0) (hl:on.length<=5) (names:List BA) (Y:names=(nm n).filter (λx=>decide (x ∈ on))):
  Gd (pd n on) (λr=>(r.2=0/\r.1.Sublist names/\D5 n names r.1/\∀ s,s.Sublist names->s.length<r.1.length->¬ D5 n names s) \/
   (r=([],8)/\∀ s,s.Sublist names->¬ D5 n names s)):=by
 have hnl:=BF n;have h5:=hV.l5;have J:names.length<=12:=by
  rw [Y]; exact S6 (XX _ _) (by omega)
 unfold pd;refine Gd.bind_eq hc (Gd.ite (λh=>by simp at h) (λ_=>Gd.ite (λh=>?_) (λ_=>?_)))
 ·have:=R7 h
  omega
 refine Gd.eL (λi (ys:List aI) (w:List BA)=>i+ys.length=n.bM.length/\n.bM.drop i=ys/\w=((nm n).take i).filter (λx=>decide (x ∈ on))/\w.length<=i) ?_ ?_ n.bM 0 [] ⟨by simp,rfl,by simp,by simp⟩
 ·rintro i y ys w nx ⟨hi,hd,hw,hwl⟩ Z
  simp only [R_] at hi;have hil:i<n.bM.length:=by omega
  have hy:n.bM[i]=y:=by
   have e:=SF hil;rw [hd] at e; exact (XN e).1.symm
  have I:n.bM.drop (i+1)=ys:=by
   have:=SJ (List.drop 1) hd;simpa [TW] using this
  have vZ:i<(nm n).length:=by omega
  have hny:(nm n)[i]=y.Name:=by simp [nm,hy]
  have hst:((nm n).take (i+1)).filter (λx=>decide (x ∈ on))=w++(if decide (y.Name ∈ on) then [y.Name] else []):=by
   rw [Su vZ,UX,<- hw,hny]
   congr 1
   simp only [XR,List.filter_nil]
  unfold sV oC;rw [uk];refine Gd.ite (λh=>Gd.nd (by simp only [R_,XY]; omega) (Z _ ⟨by omega,I,?_,by simp; omega⟩)) (λh=>Z _ ⟨by omega,I,?_,by omega⟩)
  ·rw [hst,R9 h]
  ·rw [hst,R8 (by rw [h]; simp),SN]
 ·rintro i w ⟨hi,_,hw,_⟩
  rw [Sh (by simp at hi; omega),<- Y] at hw
  subst hw;refine Gd.iV (λ(s:Int)=>∃ k:Nat,s=k/\k<=w.length+1/\∀ s,s.Sublist w->s.length<k->¬ D5 n w s) (λs=>w.length+1-s.toNat) ?_ gO _ ⟨0,rfl,by omega,λs _ h=>by omega⟩ (by unfold gO; simp; omega)
  rintro _ nx ⟨k,rfl,hk,hI⟩ hn;unfold sW;refine Gd.ite (λh=>?_) (λh=>Gd.ret (.inr ⟨rfl,λs hs=>hI s hs ?_⟩))
  ·have hkw:k<=w.length:=by have:=R7 h; omega
   have hwk:i64.wrap ((k:Int)+1)=((k+1:Nat):Int):=by rw [bZ ⟨by omega,by omega⟩]; omega
   unfold lS;rw [hwk];refine Gd.fH (C3 hz hV w J k [] 0 (by simp; omega) (Nat.zero_le _) gO (by unfold gO; omega)) (λr hr=>Gd.ite (λh=>Gd.ret (.inl ?_)) (λh=>hn _ ⟨k+1,rfl,by omega,λs hs hs1=>?_⟩ (by simp only [RZ]; omega)))
   ·obtain ⟨s,h1,h2,h3,h4⟩:=hr.1 h
    rw [TG] at h1;rw [Tr,<- h1] at h2;exact ⟨rfl,h2,h4,λs' hs hl'=>hI s' hs (by rw [h1] at hl'; omega)⟩
   ·by_cases e:s.length=k
    ·have:=hr.2 h s (by rw [Tr]; exact hs) e
     rwa [TG] at this
    ·exact hI s hs (by omega)
  ·have:=hs.length_le
   have:=Sc h;omega
theorem Im {c:Net} (hz:pU c):∃ r,iI c=some r:=by
 suffices h:Gd (iI c) (λ_=>True) by
  obtain ⟨e,he,_⟩:=h;exact ⟨e,he⟩
 unfold iI;rcases xS c hz with ⟨x,hx,hi⟩ | ⟨t,p,s,hV,hn,hg,ht,hb,hi,hfc,hs,I,hv⟩
 ·exact Gd.bind_eq hi (Gd.ite (λ_=>Gd.ret RW) (λk=>absurd (by simpa using k) hx))
 ·obtain ⟨qs,hq,J⟩:=Jc I.f
  have Y:qs.length=c.aL.length:=by
   have:=I.fl;rw [hq,Uc] at this;exact this
  have Z:=FB hV (qs:=qs) Y J;rw [<- hq] at Z;exact Gd.bind_eq hi (Gd.ite (λk=>by simp at k) (λ_=>Gd.bind_eq hs (Gd.ite (λk=>by simp at k) (λ_=>Gd.bind_eq Z (Gd.ret RW)))))
theorem KI {n:Net} (I:qJ n) {l:List BA} (h:fG n l=some 0) {r:dB×List RU×Int} (hs:iI (sN n l)=some r):fB n l=some r:=by
 rw [<- Gd.eq];unfold fB;exact Gd.bind_eq (EZ I h) (Gd.ite (λk=>by simp at k) (λ_=>Gd.bind_eq hs (Gd.ret rfl)))
theorem J5 {n:Net}{l:List BA}{r:dB×List RU×Int} (hs:iI (sN n l)=some r):DI n l↔r.2.2=0/\r.2.1=[]:=by
 unfold DI mR;rw [hs];show (if _ then _ else _)=_↔_
 by_cases I:r.2.2=0
 ·by_cases h1:r.2.1=[]
  ·simp [I,h1]
  ·have:0<r.2.1.length:=XZ.2 h1
   simp [I,h1]
 ·simp [I]
abbrev Node:=bE
abbrev B2:=aR
abbrev Sw:=aW
theorem xh {α:Type}{l:List α}{i:Nat} (h:i<l.length):∃ x,l[i]? = some x:=⟨_,RY h⟩
theorem EA {α:Type}{l:List α}{i:Nat}{x:α} (h:l[i]? = some x):i<l.length:=(R3.1 h).1
theorem drop_cons {α:Type}{l:List α}{k:Nat}{y:α}{ys:List α} (h:y::ys=l.drop k):l[k]? = some y/\ys=l.drop (k+1):=by
 constructor
 ·have:=SJ (·[0]?) h
  simpa [SK] using this.symm
 ·have:=SJ (List.drop 1) h
  simpa using this
theorem zB (s:RU) (h:s.size<=maxLen):Gd (bX s) (λ_=>True):=by
 unfold bX;refine Gd.nd h (Gd.eL (λ_ _ _=>True) (λi y ys s n _ hn=>?_) (λi s _=>Gd.ret RW) _ _ _ RW);unfold py;exact Gd.ite (λ_=>Gd.ret RW) (λ_=>hn _ RW)
structure At (l:List Sw) (name:RU) (r:Int):Prop where
 no:r<0->∀ x ∈ l,x.Name≠name
 yes:0<=r->∃ x,l[r.toNat]? = some x/\x.Name=name
theorem Dh (l:List Sw) (name:RU):Gd (mr l name) (At l name):=by
 unfold mr;refine Gd.fH (P:=At l name) ?_ (λa h=>Gd.ret h);unfold cV;refine Gd.lH (λm i _=>i+m=l.length/\∀ x ∈ l.take i,x.Name≠name) ?_ ?_ (l.length:Int).toNat 0 () ⟨by omega,by simp⟩
 ·intro m i _ J ⟨hi,hno⟩ hnx
  unfold dP;refine Gd.iT (by omega) ?_
  refine Gd.ite (λh=>Gd.ret ⟨λh=>by omega,λ_=>⟨l[i]'(by omega),by rw [show ((i:Int)).toNat=i by omega]; exact RY _,by simpa [mF] using h⟩⟩) (λh=>hnx () ⟨by omega,?_⟩)
  intro x I;rw [Su (by omega),Sf,Sy] at I
  rcases I with I | rfl
  ·exact hno x I
  ·simpa [mF] using h
 ·intro i _ ⟨hi,hno⟩
  refine Gd.ret ⟨λ_=>?_,λh=>by omega⟩
  rw [Sh (by omega)] at hno
  exact hno
def Iy (l:List Sw):Prop:=l.length<=32/\(∀ x ∈ l,bX x.Name=some true)/\(l.map (·.Name)).Nodup
theorem Kk (l:List Sw) (hl:∀ x ∈ l,x.Name.size<=maxLen):Gd (l7 l) (λe=>e=0↔Iy l):=by
 unfold l7;refine Gd.ite (λh=>Gd.ret ?_) (λh=>?_)
 ·simp only [SO] at h
  exact ⟨λh=>by omega,λZ=>by have:=Z.1; omega⟩
 ·simp only [Za] at h
  refine Gd.eL (λk ys _=>ys=l.drop k/\k<=l.length/\(∀ x ∈ l.take k,bX x.Name=some true)/\((l.take k).map (·.Name)).Nodup) ?_ ?_ l 0 () ⟨by simp,by omega,by simp,by simp⟩
  ·rintro k y ys _ nx ⟨Y,hk,hn,hd⟩ hnx
   obtain ⟨hy,hys'⟩:=drop_cons Y;have hky:=EA hy;have hym:=Sd hy;obtain ⟨b,hb,_⟩:=zB y.Name (hl y hym);have J:l.take (k+1)=l.take k++[y]:=by rw [X6,hy]; rfl
   unfold pw;refine Gd.bind_eq hb (Gd.ite (λh=>Gd.ret ?_) (λh=>?_))
   ·refine ⟨λh=>by omega,λZ=>?_⟩
    have:=Z.2.1 y hym;rw [hb] at this; cases this; simp at h
   ·have hbt:b=true:=by simpa using h
    subst hbt;refine Gd.nd (by omega) ?_
    refine Gd.fH (Dh _ _) (λr hr=>Gd.ite (λh=>Gd.ret ?_) (λh=>?_))
    ·refine ⟨λh=>by omega,λZ=>?_⟩
     simp only [SO] at h;obtain ⟨x,I,hxn⟩:=hr.yes h;simp only [pM,Tr,UQ,RZ] at I;have hnd:=Z.2.2;rw [SU] at I
     split at I
     case isFalse=>cases I
     rename_i hlt
     rw [<- TA k l,Tu,S1] at hnd;refine absurd hxn (hnd.2.2 _ (SV.2 ⟨x,?_,rfl⟩) _ (SV.2 ⟨y,?_,rfl⟩))
     ·exact Sd (i:=r.toNat) (by rw [SU,R9 hlt]; exact I)
     ·rw [<- Y]; exact R6 ..
    ·simp only [Za] at h
     have hno:=hr.no (by omega)
     simp only [pM,Tr,UQ,RZ] at hno;refine hnx () ⟨hys',by omega,?_,?_⟩
     ·rw [J]
      intro x I;rw [Sf,Sy] at I;rcases I with I | rfl
      ·exact hn x I
      ·exact hb
     ·rw [J,Tu,S1]
      refine ⟨hd,by simp,?_⟩
      rintro a ha b hb2 rfl;simp only [U6,Xe,Sy] at hb2;obtain ⟨x,I,rfl⟩:=SV.1 ha;exact hno x I hb2
  ·rintro k _ ⟨Y,hk,hn,hd⟩
   have:l.length<=k:=by
    have:=SJ List.length Y;simp at this; omega
   rw [Sh this] at hn hd;exact Gd.ret ⟨λ_=>⟨by omega,hn,hd⟩,λ_=>rfl⟩
def Hg (k:Nat) (y:Node):Prop:=(y.Kind=4->0<=y.A/\y.A<k)/\((y.Kind=5\/y.Kind=6)->0<=y.A/\y.A<k/\0<=y.B_/\y.B_<k)
structure CJ (c:List Node):Prop where
 pos:0<c.length
 len:c.length<=40
 ok:∀ j y,c[j]? = some y->Hg j y
structure CI (c:List Node) (k:Nat) (l:List Int):Prop where
 len:l.length=c.length
 st:∀ (j:Nat) (v:Int),j<k->l[j]? = some v->0<=v/\v<=j
 ok:∀ j y,j<k->c[j]? = some y->Hg j y
theorem CI.next {c:List Node}{k:Nat}{l:List Int}{y:Node}{v:Int} (h:CI c k l) (Z:c[k]? = some y) (hn:Hg k y) (h0:0<=v) (h1:v<=k):CI c (k+1) (l.set k v):=by
 refine ⟨by simp [h.len],?_,?_⟩
 ·intro j w Y I
  rw [Wc] at I
  split at I
  ·rename_i e
   split at I
   ·cases I; omega
   ·cases I
  ·exact h.st j w (by omega) I
 ·intro j z Y J
  by_cases e:j=k
  ·subst e; rw [Z] at J; cases J; exact hn
  ·exact h.ok j z (by omega) J
theorem K9:lG=fJ:=rfl
theorem KV {c:List Node}{k:Nat}{l:List Int}{y:Node}{Q:Int->Prop}{nx:List Int->Option Int} (h:CI c k l) (hc:c.length<=40) (hy:c[k]? = some y) (I:Q 3) (J:∀ l',CI c (k+1) l'->Gd (nx l') Q)
  (b:Bool) (Z:y.Kind≠4) (hb:b=false->y.Kind≠5/\y.Kind≠6):Gd (fJ l nx y k b) Q:=by
 have hk:=EA hy;have hw:i64.wrap ((k:Int)-1)=(k:Int)-1:=bZ (by omega)
 have hkn:((k:Int)).toNat=k:=by omega
 unfold fJ e_;rw [hw,hkn];refine Gd.ite (λ_=>?_) (λh0=>?_)
 ·refine Gd.ite (λ_=>Gd.ret I) (λh1=>?_)
  simp only [Za] at h1;refine Gd.ite (λh2=>?_) (λ_=>Gd.ret I);simp only [SO] at h2;obtain ⟨p,hp⟩:=xh (l:=l) (i:=k-1) (by rw [h.len]; omega)
  have Y:(l.set k (k:Int))[((k:Int)-1).toNat]? = some p:=by
   rw [show ((k:Int)-1).toNat=k-1 by omega,Wc,R8 (by omega)]; exact hp
  have hpb:=h.st (k-1) p (by omega) hp
  refine Gd.ix (by omega) Y (Gd.ite (λ_=>Gd.ret I) (λh3=>?_))
  simp only [Za] at h3;refine Gd.ix (by omega) Y ?_
  rw [bZ (n:=p-1) (by omega)]
  refine Gd.ite (λ_=>Gd.ret I) (λZ=>?_);have Z:y.A=p-1:=by simpa using Z
  obtain ⟨q,hq⟩:=xh (l:=l) (i:=y.A.toNat) (by rw [h.len]; omega)
  have hq':(l.set k (k:Int))[y.A.toNat]? = some q:=by
   rw [Wc,R8 (by omega)]; exact hq
  have hqb:=h.st y.A.toNat q (by omega) hq
  refine Gd.ix (by omega) hq' (Gd.iT (by simp [h.len]; omega) ?_)
  rw [List.set_set];exact J _ (h.next hy ⟨λe=>by omega,λ_=>⟨by omega,by omega,by omega,by omega⟩⟩ hqb.1 (by omega))
 ·refine Gd.ite (λ_=>Gd.ret I) (λh1=>?_)
  have:=hb h0;exact J _ (h.next hy ⟨λe=>absurd e Z,λe=>by omega⟩ (by omega) (by omega))
theorem vJ (c:List Node) (hc:∀ x ∈ c,x.Name.size<=maxLen):Gd (lM c) (λe=>e=0->CJ c):=by
 unfold lM;refine Gd.ite (λ_=>Gd.ret (by omega)) (λh40=>?_)
 simp only [Za] at h40;refine Gd.ite (λ_=>Gd.ret (by omega)) (λh1=>?_)
 simp only [Za] at h1;refine Gd.nd (by omega) ?_
 refine Gd.eL (λk ys l=>ys=c.drop k/\CI c k l) ?_ ?_ c 0 _ ⟨by simp,by simp,λj v hj=>by omega,λj y hj=>by omega⟩
 ·rintro k y ys l nx ⟨Z,J⟩ hnx
  obtain ⟨hy,hys'⟩:=drop_cons Z;have hk:=EA hy;have I:∀ l',CI c (k+1) l'->Gd (nx l') (λe=>e=0->CJ c):=λl' h=>hnx l' ⟨hys',h⟩;have hkn:((k:Int)).toNat=k:=by omega
  have hw:i64.wrap ((k:Int)-1)=(k:Int)-1:=bZ (by omega)
  have rest:Gd (idx l (k:Int) λy926=>if decide (y.Kind=4) then (if ((decide ((k:Int)=0)) || (!decide (y.A=(i64.wrap ((k:Int)-1))))) || (!decide (y.B_=0)) then (some 3) else (idx (l.set (((k:Int):Int).toNat) ((k:Int))) y.A λy939=>idx (l.set (((k:Int):Int).toNat) ((k:Int))) (k:Int) λy943=>e_ nx ((l.set (((k:Int):Int).toNat) ((k:Int))).set (((k:Int):Int).toNat) y939))) else (if decide (y.Kind=5) then (fJ l nx y k (decide (y.Kind=5))) else (fJ l nx y k (decide (y.Kind=6)))))
    (λe=>e=0->CJ c):=by
   rw [hw,hkn];refine Gd.iT (by rw [J.len]; exact hk) ?_
   refine Gd.ite (λh4=>?_) (λh4=>?_)
   ·refine Gd.ite (λ_=>Gd.ret (by omega)) (λY=>?_)
    simp only [XB,Za,XA,SO] at Y;obtain ⟨q,hq⟩:=xh (l:=l) (i:=y.A.toNat) (by rw [J.len]; omega)
    have hq':(l.set k (k:Int))[y.A.toNat]? = some q:=by
     rw [Wc,R8 (by omega)]; exact hq
    have hqb:=J.st y.A.toNat q (by omega) hq
    refine Gd.ix (by omega) hq' (Gd.iT (by simp [J.len]; omega) ?_)
    rw [List.set_set];simp only [SO] at h4;exact I _ (J.next hy ⟨λe=>by omega,λe=>by omega⟩ hqb.1 (by omega))
   ·simp only [Za] at h4
    refine Gd.ite (λY=>?_) (λY=>?_)
    ·exact KV J (by omega) hy (by omega) I _ h4 (λh=>by simp only [Za] at h; simp only [SO] at Y; exact absurd Y h)
    ·exact KV J (by omega) hy (by omega) I _ h4 (λh=>by simp only [Za] at h Y; exact ⟨Y,h⟩)
  unfold pI;rw [K9];refine Gd.ite (λ_=>Gd.ret (by omega)) (λ_=>?_)
  refine Gd.ite (λ_=>?_) (λ_=>?_)
  ·refine Gd.fH (zB _ (hc y (Sd hy))) (λb _=>Gd.ite (λ_=>Gd.ret (by omega)) (λ_=>rest))
  ·exact Gd.ite (λ_=>Gd.ret (by omega)) (λ_=>rest)
 ·rintro k l ⟨Z,J⟩
  have hk:c.length<=k:=by
   have:=SJ List.length Z;simp at this; omega
  have hw:i64.wrap ((c.length:Int)-1)=(c.length:Int)-1:=bZ (by omega)
  rw [hw];obtain ⟨q,hq⟩:=xh (l:=l) (i:=((c.length:Int)-1).toNat) (by rw [J.len]; omega)
  refine Gd.ix (by omega) hq (Gd.ite (λ_=>Gd.ret (by omega)) (λ_=>Gd.ret λ_=>⟨by omega,by omega,λj y hj=>J.ok j y (by have:=EA hj; omega) hj⟩))
def KG (r:B2):Prop:=bX r.Switch=some true/\lM r.um=some 0
def CN (r:B2):Prop:=r.Switch.size<=maxLen/\∀ x ∈ r.um,x.Name.size<=maxLen
def AI (l:List B2):Prop:=l.length<=24/\∀ r ∈ l,KG r
theorem Ey (l:List B2) (hl:∀ r ∈ l,CN r):Gd (nQ l) (λe=>e=0↔AI l):=by
 unfold nQ;refine Gd.ite (λh=>Gd.ret ?_) (λh=>?_)
 ·simp only [SO] at h
  exact ⟨λh=>by omega,λI=>by have:=I.1; omega⟩
 ·simp only [Za] at h
  refine Gd.eL (λk ys _=>(∀ r ∈ ys,r ∈ l)/\∀ r ∈ l,r ∈ ys\/KG r) ?_ ?_ l 0 () ⟨λr h=>h,λr h=>.inl h⟩
  ·rintro k y ys _ nx ⟨h1,h2⟩ hnx
   have Y:=h1 y (R6 ..);unfold sn;obtain ⟨b,Z,_⟩:=zB y.Switch (hl y Y).1;obtain ⟨e,he,_⟩:=vJ y.um (hl y Y).2;refine Gd.bind_eq Z (Gd.ite (λh=>Gd.ret ?_) (λh=>Gd.bind_eq he (Gd.ite (λh=>Gd.ret ?_) (λI=>hnx () ⟨λr J=>h1 r (Sa _ J),λr J=>?_⟩))))
   ·refine ⟨λh=>by omega,λI=>?_⟩
    have:=(I.2 y Y).1;rw [Z] at this; cases this; simp at h
   ·have h:e≠0:=by simpa using h
    refine ⟨λI=>absurd I h,λI=>?_⟩;have:=(I.2 y Y).2;rw [he] at this; cases this; simp at h
   ·have hbt:b=true:=by simpa using h
    have het:e=0:=by simpa using I
    subst hbt; subst het
    rcases h2 r J with h | h
    ·rcases SQ.1 h with rfl | h
     ·exact .inr ⟨Z,he⟩
     ·exact .inl h
    ·exact .inr h
  ·rintro k _ ⟨h1,h2⟩
   exact Gd.ret ⟨λ_=>⟨by omega,λr J=>(h2 r J).resolve_left (by simp)⟩,λ_=>rfl⟩
theorem LD {c:List Node} (hc:CJ c) (st:List Sw):Gd (nR c st) (λ_=>True):=by
 have hl:=hc.len;have hp:=hc.pos;unfold nR;refine Gd.nd (by omega) ?_
 refine Gd.eL (λk ys (l:List Bool)=>ys=c.drop k/\l.length=c.length) ?_ ?_ c 0 _ ⟨by simp,by simp⟩
 ·rintro k y ys l nx ⟨hys,J⟩ hnx
  obtain ⟨hy,hys'⟩:=drop_cons hys;have hk:=EA hy;have hn:=hc.ok k y hy;have Z:∀ l':List Bool,l'.length=c.length->Gd (nx l') (λ_=>True):=λl' h=>hnx l' ⟨hys',h⟩;have I:∀ b:Bool,Gd (idx l (k:Int) λ_=>eG nx (l.set ((k:Int)).toNat b)) (λ_=>True):=λb=>
   Gd.iT (by omega) (Z _ (by simp [J]))
  unfold so;refine Gd.fH (Dh st y.Name) (λr hr=>?_);refine Gd.ite (λ_=>I true) (λ_=>?_);refine Gd.ite (λ_=>Gd.ite (λh=>?_) (λ_=>I false)) (λ_=>?_)
  ·obtain ⟨x,Y,_⟩:=hr.yes (by simpa using h)
   exact Gd.ix (by simpa using h) Y (I _)
  refine Gd.ite (λ_=>Gd.ite (λh=>?_) (λ_=>I false)) (λ_=>?_)
  ·obtain ⟨x,Y,_⟩:=hr.yes (by simpa using h)
   exact Gd.ix (by simpa using h) Y (I _)
  refine Gd.ite (λh=>?_) (λ_=>?_)
  ·have hA:=hn.1 (by simpa using h)
   obtain ⟨x,Y⟩:=xh (l:=l) (i:=y.A.toNat) (by omega)
   exact Gd.ix hA.1 Y (I _)
  refine Gd.ite (λh=>?_) (λ_=>?_)
  ·have hA:=hn.2 (.inl (by simpa using h))
   obtain ⟨x,Y⟩:=xh (l:=l) (i:=y.A.toNat) (by omega)
   obtain ⟨z,hz⟩:=xh (l:=l) (i:=y.B_.toNat) (by omega)
   exact Gd.ix hA.1 Y (Gd.ite (λ_=>Gd.ix hA.2.2.1 hz (I _)) (λ_=>I _))
  refine Gd.ite (λh=>?_) (λ_=>Z _ J)
  ·have hA:=hn.2 (.inr (by simpa using h))
   obtain ⟨x,Y⟩:=xh (l:=l) (i:=y.A.toNat) (by omega)
   obtain ⟨z,hz⟩:=xh (l:=l) (i:=y.B_.toNat) (by omega)
   exact Gd.ix hA.1 Y (Gd.ite (λ_=>I _) (λ_=>Gd.ix hA.2.2.1 hz (I _)))
 ·rintro k l ⟨hys,J⟩
  rw [bZ (n:=(c.length:Int)-1) (by omega)]
  obtain ⟨q,hq⟩:=xh (l:=l) (i:=((c.length:Int)-1).toNat) (by omega)
  exact Gd.ix (by omega) hq (Gd.ret RW)
def y9 (st:List Sw) (I:Bool) (name:RU) (r:B2):Prop:=r.Close=I->r.Switch=name->nR r.um st=some true
theorem HG {l:List B2} (hl:AI l) (hz:∀ r ∈ l,CN r) {st:List Sw} (hs:Iy st) (hsz:∀ x ∈ st,x.Name.size<=maxLen) (I:Bool) {name:RU} (hn:∃ x ∈ st,x.Name=name):
  Gd (ox l st I name) (λr=>r.2=0/\(r.1=[]↔∀ r ∈ l,y9 st I name r)):=by
 unfold ox;obtain ⟨e,he,heq⟩:=Ey l hz;obtain ⟨f,hf,hfq⟩:=Kk st hsz;have e0:=heq.2 hl;have f0:=hfq.2 hs;subst e0; subst f0
 refine Gd.bind_eq he (Gd.ite (λh=>by simp at h) (λ_=>Gd.bind_eq hf (Gd.ite (λh=>by simp at h) (λ_=>?_))))
 refine Gd.fH (Dh st name) (λi hi=>Gd.ite (λh=>?_) (λ_=>?_))
 ·obtain ⟨x,hx,hxn⟩:=hn
  exact absurd hxn (hi.no (by simpa using h) x hx)
 have h24:=hl.1;refine Gd.eL (λk ys (out:List Int)=>ys=l.drop k/\out.length<=k/\(out=[]↔∀ r ∈ l.take k,y9 st I name r)) ?_ ?_ l 0 [] ⟨by simp,by simp,by simp⟩
 ·rintro k y ys out nx ⟨hys,hlen,hq⟩ hnx
  obtain ⟨hy,hys'⟩:=drop_cons hys;have hk:=EA hy;have htake:l.take (k+1)=l.take k++[y]:=by rw [X6,hy]; rfl
  have Y:(∀ r ∈ l.take (k+1),y9 st I name r)↔(∀ r ∈ l.take k,y9 st I name r)/\y9 st I name y:=by
   rw [htake];constructor
   ·intro h; exact ⟨λr Z=>h r (R2 _ Z),h y (by simp)⟩
   ·rintro ⟨h1,h2⟩ r Z
    rcases Sf.1 Z with Z | Z
    ·exact h1 r Z
    ·rw [Sy] at Z; subst Z; exact h2
  have J:y9 st I name y->Gd (nx out) (λr=>r.2=0/\(r.1=[]↔∀ r ∈ l,y9 st I name r)):=λha=>
   hnx out ⟨hys',by omega,by rw [Y,hq]; exact ⟨λh=>⟨h,ha⟩,λh=>h.1⟩⟩
  have hcond:CJ y.um:=by
   obtain ⟨e,he,hq⟩:=vJ y.um (hz y (Sd hy)).2;have:=(hl.2 y (Sd hy)).2;rw [he] at this; cases this; exact hq rfl
  obtain ⟨b,hb,_⟩:=LD hcond st;unfold re jJ;refine Gd.ite (λh1=>Gd.ite (λh2=>Gd.bind_eq hb (Gd.ite (λh3=>?_) (λh3=>J ?_))) (λh2=>J ?_)) (λh1=>J ?_)
  ·refine Gd.nd (by simp; omega) (hnx _ ⟨hys',by simp; omega,?_⟩)
   constructor
   ·intro h; simp at h
   ·intro h
    have:=(Y.1 h).2 (by simpa using h1) (by simpa using h2)
    rw [hb] at this; cases this; simp at h3
  ·intro _ _; rw [hb]; simpa using h3
  ·intro _ h; exact absurd h (by simpa using h2)
  ·intro h _; exact absurd h (by simpa using h1)
 ·rintro k out ⟨hys,hlen,hq⟩
  have hk:l.length<=k:=by
   have:=SJ List.length hys;simp at this; omega
  rw [Sh hk] at hq;exact Gd.ret ⟨rfl,hq⟩
theorem FD {l:List B2} (hl:AI l) (Z:∀ r ∈ l,CN r) {st:List Sw} (hs:Iy st) (Y:∀ x ∈ st,x.Name.size<=maxLen) (I:Bool) {name:RU} (hn:∃ x ∈ st,x.Name=name):
  Gd (mZ l st I name) (λr=>r.2=0/\(r.1=true↔∀ r ∈ l,y9 st I name r)):=by
 unfold mZ;refine Gd.fH (HG hl Z hs Y I hn) (λr J=>Gd.ret ⟨J.1,?_⟩);rw [J.1,<- J.2];cases r.1 <;> simp <;> omega
structure PA (n:Net) (on:List BA) (s:dB) (ov:List BA):Prop where
 PU:fG n on=some 0
 cn:cR n=some 0
 v:qJ n
 al:s.iJ.length<=100000
 fl:s.kV.length=n.aL.length
 ff:∀ x ∈ s.kV,∃ q,fits q/\x=ctext q
 oe:pB n s.kV=some ov
 ol:ov.length<=24
 om:∀ x ∈ ov,∃ b ∈ n.aL,b.Name=x
 RC:∃ p,iP (sN n on)=some (p,0)/\True
theorem J6 {l:List (aS×Rat)}:∀ {x:BA},x ∈ l.flatMap zV->∃ z ∈ l,z.1.Name=x:=by
 intro x I;obtain ⟨z,J,I⟩:=Uf.1 I;refine ⟨z,J,?_⟩
 by_cases h:Bw z
 ·rw [BG h] at I
  simp at I;exact I.symm
 ·rw [DL h] at I
  simp at I
theorem ED:∀ (l:List (aS×Rat)),(l.flatMap zV).length<=l.length
 | []=>by simp
 | z::l=>by
  have:=ED l;have:(zV z).length<=1:=by
   by_cases h:Bw z
   ·rw [BG h]; simp
   ·rw [DL h]; simp
  simp only [Tn,Sg,R_];omega
theorem CQ {n:Net} (Y:pU n) (on:List BA):Gd (fB n on) (λr=>(r.2.2≠0->r=(dB.mk [] [],[],r.2.2))/\(r.2.2=0->PA n on r.1 r.2.1)):=by
 obtain ⟨e,he,hok⟩:=Ko Y on
 by_cases h0:e=0
 ·subst h0
  have J:=hok rfl;have Z:qJ n:=by
   obtain ⟨f,hf,hs⟩:=Xu n Y;rw [J] at hf;exact hs (RX hf).symm
  rcases xS (sN n on) (Y.sN on) with ⟨x,hx,hi⟩ | ⟨t,p,s,hV',hn,hg,ht,hb,hi,hfc,hs,I,hv⟩
  ·rw [Jt Z he hx hi]
   exact Gd.ret ⟨λ_=>rfl,λh=>absurd h hx⟩
  ·obtain ⟨qs,hq,hqf⟩:=Jc I.f
   have hql:qs.length=(sN n on).aL.length:=by
    have:=I.fl;rw [hq,Uc] at this;exact this
   have ho:=FB hV' (qs:=qs) hql hqf;rw [<- hq] at ho;rw [KK Z he hi hs ho];refine Gd.ret ⟨λh=>absurd rfl h,λ_=>⟨he,J,Z,?_,I.fl,I.f,ho,?_,?_,p,hi,hv⟩⟩
   ·have:=I.al
    have:=ht.ML;show s.iJ.length<=100000;omega
   ·refine S6 (ED _) ?_
    rw [List.length_zip];exact S6 (Nat.min_le_left _ _) Z.l3
   ·intro x hx
    obtain ⟨z,Y,he⟩:=J6 hx;exact ⟨z.1,(List.of_mem_zip Y).1,he⟩
 ·rw [KJ he h0]
  exact Gd.ret ⟨λ_=>rfl,λh=>absurd h h0⟩
def PH {α:Type} (p:α->Bool) (l:List α) (r:Int):Prop:=(r = -1/\∀ x ∈ l,p x=false)\/∃ i,∃ h:i<l.length,r=(i:Int)/\p l[i]=true/\∀ x ∈ l.take i,p x=false
theorem IT {α:Type} (p:α->Bool) (l:List α):
  Gd (lH (λk (_:Unit) n=>idx l (k:Int) λy=>if p y then (some (k:Int)) else (n ())) (λ_=>some (-1)) ((l.length:Int):Int).toNat 0 ()) (PH p l):=by
 refine Gd.lH (λm i _=>i+m=l.length/\∀ x ∈ l.take i,p x=false) ?_ ?_ (l.length:Int).toNat 0 () ⟨by omega,by simp⟩
 ·intro m i _ Y ⟨hi,hno⟩ hnx
  have I:i<l.length:=by omega
  refine Gd.iT I (Gd.ite (λh=>Gd.ret (.inr ⟨i,I,rfl,h,hno⟩)) (λh=>hnx () ⟨by omega,?_⟩))
  rw [Su I];intro x J;rcases Sf.1 J with J | J
  ·exact hno x J
  ·rw [Sy.1 J]; exact h
 ·intro i _ ⟨hi,hno⟩
  refine Gd.ret (.inl ⟨rfl,?_⟩);have:l.take i=l:=Sh (by omega)
  rw [this] at hno;exact hno
theorem OX (l:List aI) (e:aB):Gd (eK l e) (PH (λx=>decide (x.Name=e.Name)) l):=IT _ l
theorem OW (l:List bK) (e:aB):Gd (eT l e) (PH (λx=>decide (x.Name=e.Name)) l):=IT _ l
theorem OZ (l:List aX) (e:aB):Gd (dT l e) (PH (λx=>decide (x.Name=e.Name)) l):=IT _ l
theorem OY (l:List aI) (x:BA):Gd (eC l x) (PH (λy=>decide (y.Name=x)) l):=IT _ l
theorem EH (n:Net) (hl:n.bM.length<=12):sJ n=some (nm n):=by
 rw [<- Gd.eq];unfold sJ;refine Gd.eL (λi (ys:List aI) (w:List BA)=>i+ys.length=n.bM.length/\n.bM.drop i=ys/\w=(n.bM.take i).map (·.Name)) ?_ ?_ n.bM 0 [] ⟨by simp,rfl,by simp⟩
 ·rintro i y ys w nx ⟨hi,J,Y⟩ Z
  simp only [R_] at hi;unfold vy;have I:i<n.bM.length:=by omega
  have hy:n.bM[i]=y:=by
   rw [SF I] at J;exact (XN J).1
  refine Gd.nd ?_ (Z _ ⟨by omega,?_,?_⟩)
  ·rw [Y]; simp; omega
  ·rw [SF I] at J
   exact (XN J).2
  ·rw [Y,Su I,hy]; simp
 ·rintro i w ⟨hi,J,Y⟩
  refine Gd.ret ?_;rw [Y,Sh (by simp at hi; omega)]
  rfl
abbrev Ev:=aB
def xv (e:Ev):Prop:=e.Kind.size<=maxLen/\e.Name.size<=maxLen
theorem Nk (s:BA) (h:s.size<=maxLen):Gd (iL s) (λ_=>True):=by
 unfold iL;refine Gd.nd h (Gd.eL (λ_ _ _=>True) (λi y ys s I _ hn=>?_) (λ_ _ _=>Gd.ret RW) _ _ _ RW);unfold rT;exact Gd.ite (λ_=>Gd.ret RW) (λ_=>hn _ RW)
theorem Jy {e:Ev} (h:xv e):Gd (eP e) (λr=>r=0->0<=e.Time/\e.Time<=200000):=by
 unfold eP;refine Gd.ite (λ_=>Gd.ret (λh=>by simp at h)) (λht=>Gd.fH (Nk e.Kind h.1) (λb _=>Gd.ite (λ_=>?_) (λ_=>Gd.ret (λh=>by simp at h))))
 refine Gd.fH (zB e.Name h.2) (λb _=>Gd.ite (λ_=>Gd.ret (λh=>by simp at h)) (λ_=>Gd.ite (λ_=>Gd.ret (λh=>by simp at h)) (λ_=>Gd.ret (λ_=>?_))))
 simp at ht;omega
theorem CY {t v:Int}{k s:BA} (ht:0<=t/\t<=200000) (I:iL k=some true) (hs:bX s=some true) (J:-1000000<=v/\v<=1000000):
  eP (aB.mk t k s v)=some 0:=by
 rw [<- Gd.eq];unfold eP;refine Gd.ite (λk=>?_) (λ_=>Gd.bind_eq I (Gd.ite (λ_=>Gd.bind_eq hs (Gd.ite (λk=>by simp at k) (λ_=>Gd.ite (λk=>?_) (λ_=>Gd.ret rfl)))) (λk=>by simp at k)))
 ·simp at k; omega
 ·simp at k; omega
theorem Kf:iL (⟨#[115,104,101,100]⟩)=some true:=by kernel_rfl
theorem H_:iL (⟨#[112,114,111,111,102]⟩)=some true:=by kernel_rfl
theorem append_eq {l:List Ev}{e:Ev} (hl:l.length<300) (ht:∀ x ∈ l,x.Time<=e.Time) (I:eP e=some 0):
  ∃ k,gC (bV.mk l) e=some (k,0,bV.mk (l++[e])):=by
 suffices h:Gd (gC (bV.mk l) e) (λr=>∃ k,r=(k,0,bV.mk (l++[e]))) by
  obtain ⟨r,Y,k,rfl⟩:=h;exact ⟨k,Y⟩
 unfold gC;refine Gd.bind_eq I (Gd.ite (λk=>by simp at k) (λ_=>Gd.ite (λJ=>?_) (λ_=>?_)))
 ·have h0:0<l.length:=by simpa using J
  have Z:i64.wrap ((l.length:Int)-1)=((l.length-1:Nat):Int):=by
   rw [bZ ⟨by omega,by omega⟩]; omega
  rw [Z];refine Gd.iT (by simp; omega) (Gd.ite (λk=>?_) (λ_=>?_))
  ·have:=ht _ (Sz (by omega:l.length-1<l.length))
   simp at k;omega
  ·refine Gd.ite (λk=>?_) (λ_=>Gd.nd ?_ (Gd.ret ⟨_,rfl⟩))
   ·simp at k; omega
   ·simp; omega
 ·refine Gd.ite (λk=>?_) (λ_=>Gd.nd ?_ (Gd.ret ⟨_,rfl⟩))
  ·simp at k; omega
  ·simp; omega
theorem K3 {n:Net} (h:qJ n) {b:aS} (J:b ∈ n.aL):0<=b.wZ/\b.wZ<=200000:=by
 obtain ⟨_,_,_,_,I⟩:=h.vb b J;unfold kO at I
 split at I
 ·omega
 ·rename_i h6
  simp [cA] at h6;omega
theorem copy_eq {n:Net} (h:qJ n):lv n=some n:=by
 have:=h.l1; have:=h.l2; have:=h.l3; have:=h.l4; have:=h.l5; have:=h.l6
 rw [<- Gd.eq];unfold lv;exact Gd.nd (by omega) (Gd.nd (by omega) (Gd.nd (by omega) (Gd.nd (by omega) (Gd.nd (by omega) (Gd.nd (by omega) (Gd.ret rfl))))))
structure yB (n:Net) (w:cM):Prop where
 b:w.ml=n.aL
 f:w.nt.length=n.aL.length
 a:w.tK.length=n.aL.length
 o:w.over.length=n.aL.length
theorem G_ {n:Net}{w:cM} (h:yB n w) (hl:n.aL.length<=24):Gd (mL w) (λr=>r.length<=24):=by
 unfold mL;rw [h.b];refine Gd.eL (λi (ys:List aS) (s:List BA)=>i+ys.length=n.aL.length/\s.length<=i) ?_ ?_ n.aL 0 [] ⟨by simp,by simp⟩
 ·rintro i y ys s J ⟨hi,hs⟩ I
  simp only [R_] at hi;unfold rh mw;refine Gd.iT (by rw [h.o]; omega) (Gd.ite (λ_=>Gd.nd ?_ (I _ ⟨by omega,?_⟩)) (λ_=>I _ ⟨by omega,by omega⟩))
  ·simp only [R_,XY]; omega
  ·simp; omega
 ·rintro i s ⟨hi,hs⟩
  exact Gd.ret (by simp at hi; omega)
theorem MF {n:Net}{w:cM} (h:yB n w) (hV:qJ n) {fl:List BA} (hl:fl.length=n.aL.length) (hf:∀ x ∈ fl,∃ q,fits q/\x=ctext q) (d:Int):
  Gd (oB w fl d) (λr=>yB n r.2.2):=by
 have I:=hV.l3;unfold oB;refine Gd.fH (P:=λ_=>True) ?_ (λr _=>Gd.ite (λ_=>Gd.ret h) (λ_=>Gd.ite (λ_=>Gd.ret h) (λ_=>Gd.ite (λ_=>Gd.ret h) (λ_=>?_))))
 ·unfold r9
  exact Gd.ite (λ_=>Gd.ret RW) (λ_=>Gd.fH (Gl (λs hs=>Lb (hf s hs))) (λ_ _=>Gd.ret RW))
 ·rw [h.b]
  refine Gd.eL (λi (ys:List aS) (s:List aA×List Int×List Bool)=>i+ys.length=n.aL.length/\(∀ y ∈ ys,y ∈ n.aL)/\s.1.length=n.aL.length/\s.2.1.length=n.aL.length/\s.2.2.length=n.aL.length) ?_ ?_ n.aL 0 (w.nt,w.tK,w.over) ⟨by simp,λ_ h=>h,h.f,h.a,h.o⟩
  ·rintro i y ys ⟨s1,s2,s3⟩ nx ⟨hi,hd,h1,h2,I⟩ Y
   simp only [R_] at hi;simp only at h1 h2 I;have hy:=JB hV (hd y (R6 ..));have hL:=hy.l;have hS:=K3 hV (hd y (R6 ..));have J:∀ z ∈ ys,z ∈ n.aL:=λz hz=>hd z (Sa _ hz);have hif:i<fl.length:=by omega
   obtain ⟨q,hq,hqe⟩:=hf _ (Sz hif);unfold ri jK;refine Gd.iT hif ?_;rw [hqe];refine Gd.fH (GS hq) (λa ha=>Gd.fH (Jd ha.1 ha.2.1 (by omega)) (λb hb=>Gd.iT (by rw [h1]; omega) ?_))
   refine Gd.fH (wT ⟨by omega,by omega⟩) (λc hc=>Gd.fH (FH hb.1 hc.1 hb.2.1 hc.2.1 (by omega)) (λe _=>?_))
   refine Gd.ite (λ_=>Gd.iT (by rw [h2]; omega) (Gd.iT (by rw [I]; omega) (Y _ ⟨by omega,J,by simpa using h1,by simpa using h2,by simpa using I⟩))) (λ_=>?_)
   refine Gd.iT (by rw [h2]; omega) (Gd.iT (by rw [h2]; omega) (Gd.iT (by simp; omega) (Gd.ite (λ_=>Gd.iT (by rw [I]; omega) (Y _ ⟨by omega,J,by simpa using h1,by simpa using h2,by simpa using I⟩)) (λ_=>?_))))
   refine Gd.fH (wT ⟨by omega,by omega⟩) (λc2 Z=>Gd.fH (FH hb.1 Z.1 hb.2.1 Z.2.1 (by omega)) (λe2 _=>?_))
   exact Gd.ite (λ_=>Gd.iT (by rw [I]; omega) (Y _ ⟨by omega,J,by simpa using h1,by simpa using h2,by simpa using I⟩)) (λ_=>Y _ ⟨by omega,J,by simpa using h1,by simpa using h2,by simpa using I⟩)
  ·rintro i ⟨s1,s2,s3⟩ ⟨hi,hd,h1,h2,I⟩
   have hw:yB n (cM.mk n.aL s1 s2 s3 (i64.wrap (w.time+d))):=⟨rfl,h1,h2,I⟩;exact Gd.fH (G_ hw hV.l3) (λr _=>Gd.ret hw)
theorem NP {n:Net} (Y:cR n=some 0) (J:qJ n):∃ w,rf n=some (some w,0)/\yB n w:=by
 suffices h:Gd (rf n) (λr=>∃ w,r=(some w,0)/\yB n w) by
  obtain ⟨r,I,w,rfl,Z⟩:=h;exact ⟨w,I,Z⟩
 have:=J.l3;unfold rf;refine Gd.bind_eq Y (Gd.ite (λk=>by simp at k) (λ_=>Gd.bind_eq (copy_eq J) ?_))
 refine Gd.fH (Bg (by omega)) (λr I=>Gd.nd (by omega) (Gd.nd (by omega) (Gd.ret ⟨_,rfl,?_⟩)))
 obtain ⟨z,rfl,_⟩:=I;exact ⟨rfl,by simp,by simp,by simp⟩
abbrev Rm:=bH
abbrev Eg:BA:=⟨#[111,112,101,110]⟩
abbrev Bo:BA:=⟨#[99,108,111,115,101]⟩
abbrev Oi:BA:=⟨#[98,97,99,107]⟩
abbrev Eh:BA:=⟨#[115,104,101,100]⟩
abbrev Bp:BA:=⟨#[112,114,111,111,102]⟩
structure PO (held:List BA) (n:Net) (e:Ev) (l:List aX):Prop where
 k:e.Kind=Eg\/e.Kind=Bo
 h:e.Name ∉ held
 s:∃ i,∃ h:i<n.aT.length,n.aT[i].Name=e.Name/\∃ b,l=n.aT.set i (aX.mk n.aT[i].Name n.aT[i].A n.aT[i].B_ n.aT[i].uS b)
structure Qy (held:List BA) (n:Net) (on:List BA) (e:Ev) (c:dS):Prop where
 sz:pU c.n
 br:c.n.aL=n.aL
 ln:nm c.n=nm n
 sw:c.n.aT=n.aT\/PO held n e c.n.aT
 on:e.Kind≠Oi/\c.on=on\/e.Kind=Oi/\e.Name ∈ nm n/\e.Name ∉ on/\c.on=on++[e.Name]
 ks:e.Kind≠Eh/\e.Kind≠Bp
 hn:e.Kind=Eg\/e.Kind=Bo->e.Name ∉ held
structure CO (l:List B2):Prop where
 ok:AI l
 sz:∀ r ∈ l,CN r
theorem My {n:Net} (h:qJ n):(n.aT.map (·.Name)).Nodup:=by
 have:=h.nd;unfold names at this;simp only [S1,Sr] at this;exact this.2.1.1
theorem H4 {r:Rm}{n:Net} (Y:pU n) (hV:qJ n) (hr:CO r.rules) {on:List BA}{e:Ev} (he:xv e) (hk:e.Kind=Eg\/e.Kind=Bo):
  Gd (oF r (dS.mk n on) e) (λc=>c.1=0->Qy r.held n on e c.2):=by
 have h2:=hV.l2;unfold oF;refine Gd.fH (OZ _ e) (λi hi=>Gd.ite (λ_=>Gd.ret (λh=>by simp at h)) (λh0=>Gd.ite (λ_=>Gd.ret (λh=>by simp at h)) (λ_=>?_)))
 rcases hi with ⟨rfl,_⟩ | ⟨i,I,rfl,hp,_⟩
 ·simp at h0
 have hp:n.aT[i].Name=e.Name:=by simpa using hp
 refine Gd.iT I (Gd.ite (λ_=>Gd.ret (λh=>by simp at h)) (λ_=>?_))
 rw [uk];refine Gd.ite (λ_=>Gd.ret (λh=>by simp at h)) (λhh=>?_)
 have hh:e.Name ∉ r.held:=by simpa using hh
 refine Gd.eL (λj (ys:List aX) (s:List aW)=>j+ys.length=n.aT.length/\n.aT.drop j=ys/\s=(n.aT.take j).map (λy=>aW.mk y.Name (!y.Open))) ?_ ?_ n.aT 0 [] ⟨by simp,rfl,by simp⟩
 ·rintro j y ys s nx ⟨hj,hd,hs⟩ hnx
  simp only [R_] at hj;unfold rp;have Z:j<n.aT.length:=by omega
  have hy:n.aT[j]=y:=by
   rw [SF Z] at hd;exact (XN hd).1
  refine Gd.nd ?_ (hnx _ ⟨by omega,?_,?_⟩)
  ·rw [hs]; simp; omega
  ·rw [SF Z] at hd
   exact (XN hd).2
  ·rw [hs,Su Z,hy]; simp
 ·rintro j s ⟨hj,hd,hs⟩
  rw [Sh (by simp at hj; omega)] at hs
  have hso:Iy s:=by
   refine ⟨by rw [hs]; simpa using h2,?_,?_⟩
   ·intro x J
    rw [hs] at J;obtain ⟨y,hy,rfl⟩:=SV.1 J;exact (hV.vs y hy).1
   ·rw [hs,List.map_map]
    exact My hV
  have hsz:∀ x ∈ s,x.Name.size<=maxLen:=by
   intro x J;rw [hs] at J;obtain ⟨y,hy,rfl⟩:=SV.1 J;exact Y.sw y hy
  have vZ:∃ x ∈ s,x.Name=e.Name:=by
   refine ⟨aW.mk n.aT[i].Name (!n.aT[i].Open),?_,hp⟩;rw [hs];exact SV.2 ⟨n.aT[i],Sz I,rfl⟩
  refine Gd.fH (FD hr.ok hr.sz hso hsz _ vZ) (λb _=>Gd.ite (λ_=>Gd.ret (λh=>by simp at h)) (λ_=>Gd.iT I (Gd.ret (λ_=>?_))))
  refine ⟨⟨Y.nd,?_,Y.br,Y.gn,Y.ld,Y.st⟩,rfl,rfl,.inr ⟨hk,hh,i,I,hp,_,rfl⟩,.inl ⟨?_,rfl⟩,?_,λ_=>hh⟩
  ·intro x J
   rcases X0 J with J | rfl
   ·exact Y.sw x J
   ·show (n.aT[i]).Name.size<=maxLen
    exact Y.sw _ (Sz I)
  ·rcases hk with h | h <;> rw [h] <;> decide
  ·rcases hk with h | h <;> rw [h] <;> decide
theorem O7 (n:Net) (i:Nat) (h:i<n.bM.length) (v:Int):(n.bM.set i (aI.mk n.bM[i].Name n.bM[i].Node v)).map (·.Name)=nm n:=by
 unfold nm;rw [List.map_set];show (n.bM.map (·.Name)).set i (n.bM[i].Name)=_;have:(n.bM.map (·.Name))[i]'(by simpa using h)=n.bM[i].Name:=by simp
 rw [<- this];exact Wh (by simpa using h)
theorem JN {r:Rm}{n:Net} (Y:pU n) (hV:qJ n) (hr:CO r.rules) {on:List BA} (ho:on.length<=1000) {e:Ev} (he:xv e):
  Gd (pC r (dS.mk n on) e) (λc=>c.1=0->Qy r.held n on e c.2):=by
 unfold pC;refine Gd.fH (OX _ e) (λi hi=>Gd.fH (OW _ e) (λj hj=>?_));have main:∀ c:Bool,(c=true->e.Kind=Eg\/e.Kind=Bo)->(e.Kind=Eg\/e.Kind=Bo->c=true)->Gd (lN r (dS.mk n on) e i j c) (λc=>c.1=0->Qy r.held n on e c.2):=by
  intro c hc hc2;unfold lN kG;refine Gd.ite (λh=>Gd.fH (H4 Y hV hr he (hc h)) (λa ha=>Gd.ret ha)) (λhno=>?_);have Z:e.Kind=Eg\/e.Kind=Bo->e.Name ∉ r.held:=λh=>by rw [hc2 h] at hno; cases hno
  refine Gd.ite (λJ=>?_) (λhk1=>Gd.ite (λJ=>?_) (λhk2=>Gd.ite (λJ=>?_) (λhk3=>Gd.ite (λJ=>?_) (λ_=>Gd.ret (λh=>by simp at h)))))
  ·refine Gd.ite (λ_=>Gd.ret (λh=>by simp at h)) (λh0=>Gd.ite (λ_=>Gd.ret (λh=>by simp at h)) (λ_=>?_))
   have J:=R7 J;rcases hi with ⟨rfl,_⟩ | ⟨i,I,rfl,hp,_⟩
   ·simp at h0
   refine Gd.iT I (Gd.ret (λ_=>⟨⟨Y.nd,Y.sw,Y.br,Y.gn,?_,Y.st⟩,rfl,O7 n i I _,.inl rfl,.inl ⟨by rw [J]; decide,rfl⟩,by rw [J]; decide,Z⟩))
   intro x hx;rcases X0 hx with hx | rfl
   ·exact Y.ld x hx
   ·show (n.bM[i]).Name.size<=maxLen
    exact Y.ld _ (Sz I)
  ·refine Gd.ite (λ_=>Gd.ret (λh=>by simp at h)) (λh0=>?_)
   have J:=R7 J;rcases hj with ⟨rfl,_⟩ | ⟨j,I,rfl,hp,_⟩
   ·simp at h0
   refine Gd.iT I (Gd.ite (λ_=>Gd.ret (λh=>by simp at h)) (λ_=>Gd.iT I (Gd.ret (λ_=>⟨⟨Y.nd,Y.sw,Y.br,?_,Y.ld,Y.st⟩,rfl,rfl,.inl rfl,.inl ⟨by rw [J]; decide,rfl⟩,by rw [J]; decide,Z⟩))))
   intro x hx;rcases X0 hx with hx | rfl
   ·exact Y.gn x hx
   ·show (n.dI[j]).Name.size<=maxLen
    exact Y.gn _ (Sz I)
  ·refine Gd.ite (λ_=>Gd.ret (λh=>by simp at h)) (λh0=>?_)
   have J:=R7 J;rcases hi with ⟨rfl,_⟩ | ⟨i,I,rfl,hp,_⟩
   ·simp at h0
   have hp:n.bM[i].Name=e.Name:=by simpa using hp
   rw [uk];refine Gd.ite (λ_=>Gd.ret (λh=>by simp at h)) (λhh=>Gd.iT I (Gd.ite (λ_=>Gd.ret (λh=>by simp at h)) (λ_=>Gd.nd ?_ (Gd.ret (λ_=>?_)))))
   ·simp; omega
   ·have hh:e.Name ∉ on:=by simpa using hh
    exact ⟨Y,rfl,rfl,.inl rfl,.inr ⟨J,SV.2 ⟨_,Sz I,hp⟩,hh,rfl⟩,by rw [J]; decide,Z⟩
  ·have J:=R7 J
   exact Gd.ite (λ_=>Gd.ret (λh=>by simp at h)) (λ_=>Gd.ret (λ_=>⟨Y,rfl,rfl,.inl rfl,.inl ⟨by rw [J]; decide,rfl⟩,by rw [J]; decide,Z⟩))
 refine Gd.ite (λh=>main _ (λ_=>.inl (R7 h)) (λ_=>h)) (λh=>main _ (λh=>.inr (R7 h)) (λk=>?_));rcases k with k | k
 ·exact absurd k (Sc h)
 ·exact Zb k
theorem NM (off:List BA) (x:BA):kH x off=some (!yU off x):=by
 unfold kH yU;rw [uk];simp
theorem NN (off A:List BA) (hA:A.length<=1000):Gd (eS A off) (λr=>r=A.filter (yU off)):=
 E7 (λx=>kH x off) (yU off) (NM off) _ A (by omega)
theorem NR (ex:List BA) (x:BA):lW x ex=some (!decide (x ∈ ex)):=by
 unfold lW;rw [uk];simp
theorem NS (ex A:List BA) (hA:A.length<=1000):Gd (fD A ex) (λr=>r=A.filter (λx=>decide (x ∈ ex))):=
 E7 (λx=>lW x ex) (λx=>decide (x ∈ ex)) (NR ex) _ A (by omega)
structure D4 (n:Net) (on:List BA):Prop where
 nd:on.Nodup
 s:∀ x ∈ on,x ∈ nm n
theorem D4.len {n:Net}{on:List BA} (h:D4 n on):on.length<=n.bM.length:=by
 have:=GP on (nm n) h.nd h.s;rw [BF] at this;exact this
theorem D4.PU {n:Net}{on:List BA} (h:D4 n on) (I:cR n=some 0) (hl:n.bM.length<=12):fG n on=some 0:=
 Kq I on (S6 h.len (by omega)) h.nd h.s
theorem D4.filter {n:Net}{on:List BA} (h:D4 n on) (p:BA->Bool):D4 n (on.filter p):=
 ⟨h.nd.sublist List.filter_sublist,λx I=>h.s x ((Tc.1 I).1)⟩
theorem G9 {n:Net}{a b:List BA} (h:∀ x ∈ nm n,x ∈ a↔x ∈ b):sN n a=sN n b:=by
 unfold sN
 congr 1
 refine List.filter_congr (λx I=>?_);unfold GB;have:=h x.Name (SV.2 ⟨x,I,rfl⟩);exact Y9.2 this
structure Own (k:BA) (t:Int) (names:List BA) (l:List Ev):Prop where
 n:l.map (·.Name)=names
 k:∀ e ∈ l,e.Kind=k/\e.Time=t
 c:∀ e ∈ l,eP e=some 0
theorem Own.add {k:BA}{t v:Int}{names:List BA}{l:List Ev} (h:Own k t names l) (s:BA) (I:eP (aB.mk t k s v)=some 0):Own k t (names++[s]) (l++[aB.mk t k s v]):=
 ⟨by simp [h.n],λe he=>by
  rcases Sf.1 he with he | he
  ·exact h.k e he
  ·rw [Sy.1 he]; exact ⟨rfl,rfl⟩,λe he=>by
  rcases Sf.1 he with he | he
  ·exact h.c e he
  ·rw [Sy.1 he]; exact I⟩
theorem Own.len {k:BA}{t:Int}{names:List BA}{l:List Ev} (h:Own k t names l):l.length=names.length:=by
 rw [<- h.n]; simp
theorem Ic {r:Rm} (hz:pU r.eD) (hV:qJ r.eD) (hc:cR r.eD=some 0) (hl:r.eD.bM.length<=5) (hon:D4 r.eD r.on)
  (ht:0<=r.time/\r.time<=200000) (hlog:∀ x ∈ r.log.lT,x.Time<=r.time) (hll:r.log.lT.length<=200) {over:List BA} (ho:over.length<=24) (hov:∀ x ∈ over,∃ b ∈ r.eD.aL,b.Name=x):
  Gd (oG r over) (λr'=>
   (pd r.eD r.on=some ([],8)/\∃ ev,Own Bp r.time over ev/\r'=bH.mk r.eD r.rules r.on r.held r.watch r.state r.time (bV.mk (r.log.lT++ev)) over) \/
   ∃ off st ev,Own Eh r.time off ev/\PA r.eD (r.on.filter (yU off)) st []/\(∀ x ∈ off,x ∈ r.on)/\off.length<=5 /\
    r'=bH.mk r.eD r.rules (r.on.filter (yU off)) r.held r.watch st r.time (bV.mk (r.log.lT++ev)) r.over):=by
 have h5:=hV.l5;have hol:=hon.len;have hck:=hon.PU hc h5;have hnl:=BF r.eD;obtain ⟨⟨off,e⟩,hre,hrs⟩:=Js hz hV r.on hck (by omega) _ rfl
 unfold oG;refine Gd.bind_eq hre (Gd.ite (λh=>?_) (λh=>?_))
 ·rcases hrs with ⟨h0,_⟩ | ⟨h8,_⟩
  ·exact absurd h0 (by simpa using h)
  refine Gd.eL (λi (ys:List BA) (s:List Ev)=>i+ys.length=over.length/\over.drop i=ys/\∃ ev,Own Bp r.time (over.take i) ev/\s=r.log.lT++ev) ?_ ?_ over 0 r.log.lT ⟨by simp,rfl,[],⟨by simp,by simp,by simp⟩,by simp⟩
  ·rintro i y ys s nx ⟨hi,hd,ev,I,rfl⟩ hnx
   simp only [R_] at hi;have Z:i<over.length:=by omega
   have Y:=hd;rw [SF Z] at Y;have hy:over[i]=y:=(XN Y).1;have hel:=I.len;unfold rq;obtain ⟨b,hb,hbn⟩:=hov y (hy▸Sz Z);have hac:eP (aB.mk r.time Bp y 0)=some 0:=CY ht H_ (by rw [<- hbn]; exact (hV.vb b hb).1) (by omega)
   obtain ⟨k,hk⟩:=append_eq (l:=r.log.lT++ev) (e:=aB.mk r.time Bp y 0) (by simp only [Sg,hel,Ss]; omega) (by
    intro x J;rcases Sf.1 J with J | J
    ·exact hlog x J
    ·exact Int.le_of_eq (I.k x J).2) hac
   refine Gd.bind_eq hk (hnx _ ⟨by omega,(XN Y).2,ev++[aB.mk r.time Bp y 0],?_,by simp⟩)
   rw [Su Z,hy];exact I.add y hac
  ·rintro i s ⟨hi,hd,ev,I,rfl⟩
   rw [Sh (by simp at hi; omega)] at I
   exact Gd.ret (.inl ⟨by rw [hre,h8],ev,I,rfl⟩)
 ·have h0:e=0:=by simpa using h
  subst h0;rcases hrs with ⟨_,hsub,hacc,_⟩ | ⟨h8,_⟩
  ·simp only at hsub hacc
   have vZ:∀ x ∈ off,x ∈ nm r.eD/\x ∈ r.on:=λx J=>by
    have:=hsub.subset J;rw [Tc] at this;exact ⟨this.1,by simpa using this.2⟩
   have hofl:off.length<=5:=by
    refine S6 hsub.length_le (S6 (XX _ _) (by omega))
   refine Gd.eL (λi (ys:List BA) (s:List Ev)=>i+ys.length=off.length/\off.drop i=ys/\∃ ev,Own Eh r.time (off.take i) ev/\s=r.log.lT++ev) ?_ ?_ off 0 r.log.lT ⟨by simp,rfl,[],⟨by simp,by simp,by simp⟩,by simp⟩
   ·rintro i y ys s nx ⟨hi,hd,ev,I,rfl⟩ hnx
    simp only [R_] at hi;have Z:i<off.length:=by omega
    have Y:=hd;rw [SF Z] at Y;have hy:off[i]=y:=(XN Y).1;have hel:=I.len;unfold rr;obtain ⟨b,hb,hbn⟩:=SV.1 (vZ y (hy▸Sz Z)).1;refine Gd.fH (OY _ y) (λj hj=>?_);rcases hj with ⟨_,hno⟩ | ⟨j,hjl,rfl,hp,_⟩
    ·have:=hno b hb
     simp [hbn] at this
    have hld:=hV.vl _ (Sz hjl);have hdm:0<=r.eD.bM[j].dY/\r.eD.bM[j].dY<=100000:=by
     have:=hld.2.2;simp [bI,cA] at this;omega
    refine Gd.iT hjl ?_;have hac:eP (aB.mk r.time Eh y r.eD.bM[j].dY)=some 0:=CY ht Kf (by rw [<- hbn]; exact (hV.vl b hb).1) (by omega)
    obtain ⟨k,hk⟩:=append_eq (l:=r.log.lT++ev) (e:=aB.mk r.time Eh y r.eD.bM[j].dY) (by simp only [Sg,hel,Ss]; omega) (by
     intro x J;rcases Sf.1 J with J | J
     ·exact hlog x J
     ·exact Int.le_of_eq (I.k x J).2) hac
    refine Gd.bind_eq hk (hnx _ ⟨by omega,(XN Y).2,ev++[aB.mk r.time Eh y r.eD.bM[j].dY],?_,by simp⟩)
    rw [Su Z,hy];exact I.add y hac
   ·rintro i s ⟨hi,hd,ev,I,rfl⟩
    rw [Sh (by simp at hi; omega)] at I
    refine Gd.fH (NN off r.on (by omega)) (λon' hon'=>?_)
    subst hon';have hon2:=hon.filter (yU off);have hck2:=hon2.PU hc h5;obtain ⟨s,hs,hsg⟩:=CQ hz (r.on.filter (yU off));obtain ⟨q,hq⟩:=Im (hz.sN (r.on.filter (yU off)));have hqs:=KI hV hck2 hq;rw [hs] at hqs;have hqs:=RX hqs;subst hqs;have hw:sN r.eD (((nm r.eD).filter (λx=>decide (x ∈ r.on))).filter (yU off))=sN r.eD (r.on.filter (yU off)):=G9 (λx J=>by
     simp only [Tc,J,true_and,SO])
    have hord:DI r.eD (r.on.filter (yU off)):=by
     unfold D5 DI at hacc;rw [hw] at hacc;exact hacc
    obtain ⟨e0,e1⟩:=(J5 hq).1 hord;have hst:=hsg.2 e0;rw [e1] at hst;exact Gd.bind_eq hs (Gd.ret (.inr ⟨off,s.1,ev,I,hst,λx J=>(vZ x J).2,hofl,rfl⟩))
  ·simp at h8
structure Inv (r:Rm):Prop where
 sz:pU r.eD
 ru:CO r.rules
 on:D4 r.eD r.on
 ll:r.eD.bM.length<=5
 st:∃ ov,PA r.eD r.on r.state ov
 w:yB r.eD r.watch
 tm:0<=r.time/\r.time<=200000
 lt:∀ x ∈ r.log.lT,x.Time<=r.time
 lc:r.log.lT.length<=250
 ol:r.over.length<=24
 lk:∀ x ∈ r.log.lT,eP x=some 0
theorem yB.Re {n m:Net}{w:cM} (h:yB n w) (e:m.aL=n.aL):yB m w:=⟨by rw [h.b,e],by rw [h.f,e],by rw [h.a,e],by rw [h.o,e]⟩
theorem NU {r:Rm} (h:Inv r) {e:Ev} (hc:eP e=some 0) (ht:r.time<=e.Time) (ht2:0<=e.Time/\e.Time<=200000) (hl:r.log.lT.length<200)
  {c:dS} (J:Qy r.held r.eD r.on e c) {st:dB}{ov:List BA} (hs:PA c.n c.on st ov) {w:cM} (hw:yB c.n w):
  Gd (lJ r e (0,c) (st,ov,0) w.ml w.nt w.tK w.over w.time) (λq=>q.1=0/\Inv q.2):=by
 have hll:c.n.bM.length=r.eD.bM.length:=by
  have:=SJ List.length J.ln
  rwa [BF,BF] at this
 have h5:=h.ll;have hon:D4 c.n c.on:=by
  rcases J.on with ⟨_,ho⟩ | ⟨_,O,hno,ho⟩
  ·rw [ho]; exact ⟨h.on.nd,λx I=>by rw [J.ln]; exact h.on.s x I⟩
  ·rw [ho]
   refine ⟨?_,λx I=>?_⟩
   ·rw [S1]
    refine ⟨h.on.nd,by simp,λa ha b hb=>?_⟩
    rw [Sy.1 hb];intro k; rw [k] at ha; exact hno ha
   ·rw [J.ln]
    rcases Sf.1 I with I | I
    ·exact h.on.s x I
    ·rw [Sy.1 I]; exact O
 have Z:∀ x ∈ r.log.lT++[e],x.Time<=e.Time:=λx I=>by
  rcases Sf.1 I with I | I
  ·exact Int.le_trans (h.lt x I) ht
  ·rw [Sy.1 I]; exact T_ _
 have hlk:∀ x ∈ r.log.lT++[e],eP x=some 0:=λx I=>by
  rcases Sf.1 I with I | I
  ·exact h.lk x I
  ·rw [Sy.1 I]; exact hc
 unfold lJ oE;obtain ⟨k,hk⟩:=append_eq (l:=r.log.lT) (e:=e) (by omega) (λx I=>Int.le_trans (h.lt x I) ht) hc
 refine Gd.bind_eq hk ?_;obtain ⟨ex,hex,hexl⟩:=G_ hw hs.v.l3;refine Gd.bind_eq hex (Gd.fH (NS ex ov (S6 hs.ol (by omega))) (λov' ho'=>?_))
 subst ho';have hol:(ov.filter (λx=>decide (x ∈ ex))).length<=24:=S6 (XX _ _) hs.ol;refine Gd.ite (λhp=>?_) (λhp=>?_)
 ·refine Gd.fH (Ic (r:=bH.mk c.n r.rules c.on r.held w st e.Time (bV.mk (r.log.lT++[e])) []) J.sz hs.v hs.cn (by simp only; omega) hon ht2 Z (by simp; omega) hol (λx I=>hs.om x (Tc.1 I).1)) (λq hq=>Gd.ret ⟨rfl,?_⟩)
  rcases hq with ⟨hre,ev,Y,rfl⟩ | ⟨off,st',ev,Y,hst,hoff,hofl,rfl⟩
  ·have hel:ev.length<=24:=by rw [Y.len]; exact hol
   refine ⟨J.sz,h.ru,hon,by simp only; omega,⟨ov,hs⟩,hw,ht2,?_,?_,hol,?_⟩
   ·intro x I
    rcases Sf.1 I with I | I
    ·exact Z x I
    ·exact Int.le_of_eq (Y.k x I).2
   ·simp only [Sg,R_,XY]; omega
   ·intro x I
    rcases Sf.1 I with I | I
    ·exact hlk x I
    ·exact Y.c x I
  ·have hel:=Y.len
   refine ⟨J.sz,h.ru,hon.filter _,by simp only; omega,⟨[],hst⟩,hw,ht2,?_,?_,by simp,?_⟩
   ·intro x I
    rcases Sf.1 I with I | I
    ·exact Z x I
    ·exact Int.le_of_eq (Y.k x I).2
   ·simp only [Sg,R_,XY,hel]; omega
   ·intro x I
    rcases Sf.1 I with I | I
    ·exact hlk x I
    ·exact Y.c x I
 ·exact Gd.ret ⟨rfl,J.sz,h.ru,hon,by simp only; omega,⟨ov,hs⟩,hw,ht2,Z,by simp; omega,by simp,hlk⟩
theorem Jl {r:Rm} (h:Inv r) {e:Ev} (he:xv e):Gd (kz r e) (λq=>Inv q.2/\(q.1≠0->q.2=r)):=by
 obtain ⟨ov0,Y⟩:=h.st;have hV:=Y.v;have hol:=h.on.len;have h5:=h.ll;have no:∀ k:Int,k≠0->Gd (some (k,r)) (λq:Int×Rm=>Inv q.2/\(q.1≠0->q.2=r)):=λk hk=>Gd.ret ⟨h,λ_=>rfl⟩;unfold kz;obtain ⟨k,hk,hkt⟩:=Jy he;refine Gd.bind_eq hk (Gd.ite (λI=>no k (by simpa using I)) (λI=>?_))
 have I:k=0:=by simpa using I
 subst I;have ht2:=hkt rfl;refine Gd.ite (λ_=>no _ (by decide)) (λht=>?_)
 have ht:r.time<=e.Time:=by simpa using ht
 have htm:=h.tm;have hlc:=h.lc;refine Gd.fH (P:=λx=>x=r.log.lT) (by unfold mX; exact Gd.nd (by omega) (Gd.ret rfl)) (λal hal=>?_)
 subst hal;refine Gd.ite (λ_=>no _ (by decide)) (λhl=>Gd.bind_eq (copy_eq hV) (Gd.nd (by omega) (Gd.fH (JN h.sz hV h.ru (by omega) he) (λc hce=>?_))))
 have hl:r.log.lT.length<200:=by
  simp at hl; omega
 obtain ⟨f,c⟩:=c;refine Gd.ite (λI=>no f (by simpa using I)) (λI=>?_)
 have I:f=0:=by simpa using I
 subst I;have J:=hce rfl;refine Gd.fH (CQ J.sz c.on) (λs hs=>?_);obtain ⟨st,ov,g⟩:=s;refine Gd.ite (λI=>no g (by simpa using I)) (λI=>?_)
 have I:g=0:=by simpa using I
 subst I;have hst:=hs.2 rfl;have hw0:=h.w.Re J.br;have hd:i64.wrap (e.Time-r.time)=e.Time-r.time:=bZ ⟨by omega,by omega⟩
 refine Gd.ite (λ_=>no _ (by decide)) (λ_=>?_)
 rw [hd];have Z:∀ w,yB c.n w->Gd (lJ r e (0,c) (st,ov,0) w.ml w.nt w.tK w.over w.time) (λq=>Inv q.2/\(q.1≠0->q.2=r)):=λw hw=>
  (NU h hk ht ht2 hl J hst hw).mono (λq hq=>⟨hq.2,λk=>absurd hq.1 k⟩)
 refine Gd.ite (λh1=>?_) (λh1=>?_)
 ·obtain ⟨q,hq,hqw⟩:=MF h.w hV Y.fl Y.ff (e.Time-r.time)
  exact Gd.bind_eq hq (Z q.2.2 (hqw.Re J.br))
 ·exact Z r.watch hw0
end Go.Sim
