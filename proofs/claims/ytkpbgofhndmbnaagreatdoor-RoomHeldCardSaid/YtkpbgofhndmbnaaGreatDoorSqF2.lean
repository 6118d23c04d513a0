/-
  The proof, part F2.
-/
import Derived.Test.YtkpbgofhndmbnaaGreatDoorSqF1
set_option linter.unusedVariables false
set_option linter.unusedSimpArgs false
set_option linter.unusedSectionVars false
set_option linter.unnecessarySimpa false
namespace Go.Sim
abbrev TD := @Int.natCast_nonneg
abbrev TG := @List.cons.inj
abbrev TJ := @List.eq_of_mem_replicate
abbrev TK := @List.filter_cons
abbrev TL := @List.getElem_set
abbrev TP := @List.length_filter_le
abbrev TU := @List.set_append_right
abbrev Ul := @Rat.intCast_le_intCast
end Go.Sim
namespace Go.Sim
open Go
open _root_.Go.IntKind (i64 u64 u32 u8)
def Il (k:Nat) (m:Mt):Mt:=λi c=>if i=k/\k<=c then m k c / m k k else m i c
theorem Ca {k i:Nat} (h:i≠k) (m:Mt) (c:Nat):Il k m i c=m i c:=O2 (λhh=>h hh.1)
theorem EC {k c:Nat} (h:k<=c) (m:Mt):Il k m k c=m k c / m k k:=O3 ⟨rfl,h⟩
theorem ED {k c:Nat} (h:c<k) (m:Mt):Il k m k c=m k c:=O2 (λhh=>by omega)
theorem NT {n w W k:Nat}{l:List Int}{sg:List Nat}{p:Int}{k1 k2:Nat}{nx:(List Int×Int×List Nat×List (List LR))->Option CX}{d:LR}{rows:List (List LR)}{m:Mt}{Q:CX->Prop}
  (hSG:(sg.set ((l.length:Int):Int).toNat k1).set (p:Int).toNat k2=xw n) (hl:l.length=k) (hk:k<n) (hn:n<=1000) (hw:w<=1000) (hkw:k<w) (hW:W<=100000)
  (hd:ou d) (hdl:RL d W) (hdv:rv d=m k k) (hd0:m k k≠0) (hM:tC rows n w W m) (hz:∀ c,c<k->m k c=0) (hb:∀ i c,i<n->c<w->RB (tR k m i c) W)
  (hnx:∀ rows',tC rows' n w W (tR k m)->Gd (nx (l++[(k:Int)],((k+1:Nat):Int),xw n,[]::rows')) Q):
  Gd (gH (λs n'=>nZ l (k:Int) sg nx p k1 k2 d s.1 s.2 n') fC ((k:Int),[]::rows)) Q:=by
 refine Gd.gH (λs=>∃ (j:Nat) (rows':List (List LR)),s=((j:Int),[]::rows')/\k<=j/\j<=w/\tC rows' n w W (λi' c=>if i'=k/\k<=c/\c<j then m k c / m k k else m i' c)) (λs=>((w:Int)-s.1).toNat) ?_ fC _
  ⟨k,rows,rfl,Pl _,by omega,hM.congr (λi' c _ _=>by rw [O2 (by omega)])⟩ (by simp only [fC]; omega)
 rintro _ nxL ⟨j,rows',rfl,hkj,hjw,hM'⟩ hnext;show Gd (nZ l (k:Int) sg nx p k1 k2 d (j:Int) ([]::rows') nxL) Q;have hdiv:m k k / m k k=1:=by rw [Uk]; exact Ur _ hd0
 unfold nZ;simp only [hSG];rw [hl];refine oN hk ?_;rw [hM'.I8 hk]
 by_cases hj:j<w
 ·refine Gd.ite (λ_=>?_) (λh=>absurd (Uv.1 h) (by simp; omega))
  refine oN hk (oN hk (rZ hM' hk hj (λy hy hyl hyv=>?_)));rw [O2 (by omega)] at hyv
  refine Gd.eC (Ko hy hd (by rw [hdv]; exact hd0) hyl hdl (by omega)) (λr hr=>rZ hM' hk hj (λ_ _ _ _=>?_))
  have hv:rv r=m k j / m k k:=by rw [hr.2.2,hyv,hdv]
  have hrl:RL r W:=hr.1.rb (by
   rw [hv];have:=hb k j hk hj;unfold tR at this;rw [O3 rfl] at this;exact this)
  rw [xd hjw hw];refine hnext _ ⟨j+1,_,rfl,by omega,by omega,(hM'.set hk hj hr.1 hrl).congr (λi' c _ _=>?_)⟩ (by simp only; omega)
  by_cases e:i'=k/\c=j
  ·obtain ⟨rfl,rfl⟩:=e
   rw [O3 ⟨rfl,rfl⟩,O3 (by omega),hv]
  ·rw [O2 e]
   by_cases e2:i'=k/\k<=c/\c<j
   ·rw [O3 e2,O3 (by omega)]
   ·rw [O2 e2,O2 (by omega)]
 ·refine Gd.ite (λh=>absurd (O1 h) (by omega)) (λ_=>?_)
  rw [vL,OX];refine Gd.nd (by omega) ?_
  refine NU (m:=Il k m) hSG hl hk hw hkw hW (hM'.congr (λi' c _ hc=>?_)) (λc hc=>(ED hc m).trans (hz c hc)) (λi c hi hik h1 h2=>?_) (λrows'' hM''=>?_)
  ·unfold Il
   by_cases e:i'=k/\k<=c
   ·rw [O3 e,O3 (by omega)]
   ·rw [O2 e,O2 (by omega)]
  ·rw [Ca hik,Ca hik,EC h1]
   have:=hb i c hi h2;unfold tR at this;rw [O2 hik] at this;exact this
  ·refine Gd.nd (by rw [show ([(k:Int)]:List Int).length=1 from rfl]; omega) ?_
   unfold nY;rw [xd (show k<=w by omega) hw]
   refine hnx rows'' (hM''.congr (λi c _ _=>?_));unfold tR
   by_cases e:i=k
   ·subst e
    rw [O3 rfl,O3 rfl]
    by_cases e2:i<=c
    ·rw [EC e2]
    ·rw [ED (by omega),hz c (by omega),Rat.div_def]; grind
   ·rw [O2 e,O2 e,Ca e,Ca e]
    by_cases e2:k<=c
    ·rw [EC e2]
    ·rw [ED (by omega),hz c (by omega),Rat.div_def]; grind
theorem G3 {n w W k:Nat}{cols:Int}{l:List Int}{nx:(List Int×Int×List Nat×List (List LR))->Option CX}{rows:List (List LR)}{m:Mt}{Q:CX->Prop}
  (hl:l.length=k) (hk:k<n) (hc:(k:Int)<cols) (hn:n<=1000) (hw:w<=1000) (hkw:k<w) (hW:W<=100000)
  (hd0:m k k≠0) (hM:tC rows n w W m) (hz:∀ c,c<k->m k c=0) (hb:∀ i c,i<n->c<w->RB (tR k m i c) W)
  (hnx:∀ rows',tC rows' n w W (tR k m)->Gd (nx (l++[(k:Int)],((k+1:Nat):Int),xw n,[]::rows')) Q):
  Gd (l_ cols l (k:Int) (xw n) ([]::rows) nx) Q:=by
 unfold l_;rw [hl,vL];refine Gd.ite (λ_=>?_) (λh=>absurd h (by simp; omega))
 refine Gd.gH (λs=>s=(k:Int)) (λ_=>0) ?_ fC _ rfl (by simp only [fC]; omega)
 rintro _ nx2 rfl _;unfold rK;rw [vL];refine Gd.ite (λ_=>?_) (λh=>absurd (Uv.1 h) (by simp; omega))
 refine oN hk (rZ hM hk hkw (λy hy hyl hyv=>?_));rw [wZ hy,hyv];refine Gd.ite (λh=>absurd (O1 h) hd0) (λ_=>?_);unfold n7;rw [vL,hl];refine Gd.ite (λh=>absurd (O1 h) (by omega)) (λ_=>?_)
 refine oN hk (oN hk (oN hk ?_));rw [DT hk,OX,zy hk];refine oN hk (oN hk (rZ hM hk hkw (λd hd hdl hdv=>?_)));exact NT (by rw [hl]; exact DT hk) hl hk hn hw hkw hW hd hdl hdv hd0 hM hz hb hnx
def D6 (n i:Nat):List Nat:=(List.range i).map (·+1)++List.replicate (n-i) 0
theorem zZ (n:Nat):D6 n 0=List.replicate n 0:=by simp [D6]
theorem zY (n:Nat):D6 n n=xw n:=by simp [D6,xw]
theorem Ej {n i:Nat} (hi:i<n):(D6 n i)[i]? = some 0:=by
 unfold D6;rw [Pz (by simp),Rf,O3 (by simp; omega)]
theorem zr {n i:Nat} (hi:i<n):(D6 n i).set i (i+1)=D6 n (i+1):=by
 unfold D6;rw [TU _ _ (by simp)]
 have e:n-i=(n-(i+1))+1:=by omega
 rw [e,Ri,Sd];simp
theorem JJ {n i:Nat} (hi:i<n):(D6 n (i+1))[i]? = some (i+1):=by
 rw [<- zr hi,Pq (by simp [D6]; omega)]
theorem A1 {n:Nat}{rows:List (List LR)} (h:rows.length=n):qL (xw n) ([]::rows)=rows:=by
 apply QD;intro i;unfold qL;rw [Ps]
 by_cases hi:i<n
 ·rw [CK hi,Qo,FN,OU (by omega)]; rfl
 ·rw [PV (by rw [vL]; omega),PV (by omega)]; rfl
theorem JO {rows:List (List LR)}{n:Nat} (hl:rows.length=n) (hn:n<=1000) (hr:∀ y ∈ rows,y.length<=1000):Gd (tZ rows) (λr=>r=(xw n,[]::rows)):=by
 unfold tZ;rw [hl];refine Gd.nd (by omega) ?_
 rw [OX];refine Gd.dR (λi l s=>∃ pre,rows=pre++l/\pre.length=i/\s=(D6 n i,[]::pre)) ?_ ?_ rows 0 _ ⟨[],rfl,rfl,by rw [zZ]⟩
 ·rintro i y ys _ nx ⟨pre,hp,hpl,rfl⟩ hnx
  have hi:i<n:=by rw [<- hl,hp,Pg,O6]; omega
  have hy:=hr y (by rw [hp]; simp)
  unfold uI;refine Gd.nd (by simp; omega) (Gd.ix (by omega) (by rw [OX]; exact Ej hi) (hnx _ ⟨pre++[y],by rw [hp]; simp,by simp [hpl],?_⟩))
  rw [OX,O6,hpl,zr hi];simp
 ·rintro i _ ⟨pre,hp,hpl,rfl⟩
  rw [PE] at hp;subst hp;refine Gd.ret ?_;rw [<- hpl,hl,zY]
theorem tC.short {rows:List (List LR)}{n w W:Nat}{m:Mt} (h:tC rows n w W m) (hw:w<=1000):∀ y ∈ rows,y.length<=1000:=by
 intro y hy;obtain ⟨i,hi,he⟩:=Qb.1 hy;obtain ⟨l,h1,h2,_⟩:=h.row i (by rw [<- h.len]; exact hi)
 rw [OU hi] at h1;have:=OZ h1;rw [<- he,this]; omega
theorem G4 {rows:List (List LR)}{n W:Nat}{A m0:Mt} (hn:n<=400) (hW:W<=100000) (hp:Pd n A) (h0:Gj n A 0 m0) (hM:tC rows n (2*n) W m0)
  (hB:∀ k m,k<=n->Gj n A k m->∀ i c,i<n->c<2*n->RB (m i c) W):
  Gd (qu rows (n:Int)) (λr=>∃ rows' m,r.1=(xw n,[]::rows')/\r.2.length=n/\Gj n A n m/\tC rows' n (2*n) W m):=by
 unfold qu;refine Gd.eC (JO hM.len (by omega) (hM.short (by omega))) (λr hr=>?_)
 subst hr;refine Gd.gH (λs=>∃ (k:Nat) (l:List Int) (rows':List (List LR)) (m:Mt),s=(l,(k:Int),xw n,[]::rows')/\l.length=k/\k<=n/\Gj n A k m/\tC rows' n (2*n) W m) (λs=>((n:Int)-s.2.1).toNat) ?_ fC _
  ⟨0,[],rows,m0,rfl,rfl,by omega,h0,hM⟩ (by simp only [fC]; omega)
 rintro _ nx ⟨k,l,rows',m,rfl,hl,hk,hG,hM'⟩ hnext;show Gd (l_ (n:Int) l (k:Int) (xw n) ([]::rows') nx) _
 by_cases h:k<n
 ·have hd:=hG.Lm hp h
  refine G3 hl h (by omega) (by omega) (by omega) (by omega) hW hd hM' (λc hc=>?_) (λi c hi hc=>hB (k+1) _ (by omega) (hG.step h hd) i c hi hc) (λrows'' hM''=>?_)
  ·rw [hG.left k c h (by omega) hc,pz (by omega)]
  ·exact hnext _ ⟨k+1,_,rows'',_,rfl,by simp [hl],by omega,hG.step h hd,hM''⟩ (by simp only; omega)
 ·obtain rfl:k=n:=by omega
  unfold l_;refine Gd.ite (λh=>absurd h (by simp)) (λ_=>Gd.ret ⟨rows',m,rfl,hl,hG,hM'⟩)
theorem yC {n:Nat} (hn:n<=1000):Gd (mS (n:Int)) (λr=>∃ z,r=List.replicate n z/\ou z/\RL z 2/\rv z=0):=by
 unfold mS;refine Gd.eC (uj (n:=0) (by omega)) (λz hz=>Gd.nd (by simp; omega) (Gd.ret ⟨z,wW _ _,hz.1,hz.2.1,by rw [hz.2.2]; rfl⟩))
theorem tC.snoc {rows:List (List LR)}{n w W:Nat}{m:Mt} (h:tC rows n w W m) {l:List LR} (h2:l.length=w) (h3:∀ c,c<w->∃ y,l[c]? = some y/\ou y/\RL y W/\rv y=m n c):tC (rows++[l]) (n+1) w W m:=by
 refine ⟨by simp [h.len],λi hi=>?_⟩
 by_cases e:i<n
 ·obtain ⟨l',a,b,c⟩:=h.row i e
  exact ⟨l',by rw [Qa (by rw [h.len]; exact e)]; exact a,b,c⟩
 ·obtain rfl:i=n:=by omega
  exact ⟨l,by rw [Pz (by rw [h.len]; omega),h.len,Qf]; rfl,h2,h3⟩
def Cb (n:Nat) (A:Mt):Mt:=λi c=>if c<n then A i c else dl i (c-n)
theorem Io (n:Nat) (A:Mt):Gj n A 0 (Cb n A):=by
 have e:∀ i j,Cb n A i (n+j)=dl i j:=λi j=>by unfold Cb; rw [O2 (by omega)]; congr 1; omega
 refine ⟨λi c hi hc=>?_,λi j _ _ _=>e i j,λi c _ _ h=>by omega⟩
 have h1:sm n (λj=>Cb n A i (n+j)*A j c)=Cb n A i (n+i)*A i c:=AZ (p:=i) hi (λj hj hne=>by rw [e,pz (λx=>hne x.symm)]; grind)
 rw [h1,e,qi];unfold Cb;rw [if_pos hc]; grind
theorem JU {n k W:Nat}{y:List LR}{z one:LR}{A:Mt} (hk:k<n) (hy:y.length=n) (hyc:∀ c,c<n->∃ v,y[c]? = some v/\ou v/\RL v W/\rv v=A k c) (hz:ou z/\RL z 2/\rv z=0) (ho:ou one/\RL one 2/\rv one=1) (hW:2<=W):
  ((([]++y)++List.replicate n z).set (n+k) one).length=2*n/\∀ c,c<2*n->∃ v,((([]++y)++List.replicate n z).set (n+k) one)[c]? = some v/\ou v/\RL v W/\rv v=Cb n A k c:=by
 refine ⟨by simp [hy]; omega,λc hc=>?_⟩
 rw [Qy];unfold Cb
 by_cases h1:c<n
 ·obtain ⟨v,a,b,d,e⟩:=hyc c h1
  refine ⟨v,?_,b,d,by rw [O3 h1]; exact e⟩
  rw [Pj (by omega),Qa (by omega)]; exact a
 ·by_cases h2:c=n+k
  ·subst h2
   refine ⟨one,by rw [Pq (by simp [hy]; omega)],ho.1,ho.2.1.mono hW,?_⟩
   rw [O2 h1,ho.2.2,Q0,qi]
  ·refine ⟨z,?_,hz.1,hz.2.1.mono hW,?_⟩
   ·rw [Pj (by omega),Pz (by omega),Rf,O3 (by omega)]
   ·rw [O2 h1,hz.2.2,pz (by omega)]
theorem EL {rows:List (List LR)}{n W:Nat}{A:Mt} (hn:n<=400) (hW:W<=100000) (hW2:2<=W) (hp:Pd n A) (hM:tC rows n n W A)
  (hB:∀ k m,k<=n->Gj n A k m->∀ i c,i<n->c<2*n->RB (m i c) W):
  Gd (pH rows) (λr=>r.2=true/\∃ m,Gj n A n m/\tC r.1 n n W (λi c=>m i (n+c))):=by
 unfold pH;rw [hM.len];refine Gd.nd (by omega) ?_
 rw [OX];refine Gd.jN (λM i s=>i+M=n/\∃ pre:List (List LR),s=(D6 n i,[]::pre)/\tC pre i (2*n) W (Cb n A)) ?_ ?_ n 0 _ ⟨by omega,[],by rw [zZ],⟨rfl,λi hi=>by omega⟩⟩
 ·rintro M i _ nx ⟨hiM,pre,rfl,hpre⟩ hnx
  have hi:i<n:=by omega
  obtain ⟨y,y1,y2,y3⟩:=hM.row i hi;unfold sr;rw [hM.len];refine Gd.ix (y:=y) (by omega) (by rw [OX]; exact y1) (Gd.nd (by simp; omega) (Gd.eC (yC (by omega)) ?_))
  rintro _ ⟨z,rfl,hz⟩;refine Gd.nd (by simp; omega) (Gd.ix (by omega) (by rw [OX]; exact Ej hi) ?_)
  have hlen:([]::pre:List (List LR)).length=i+1:=by simp [hpre.len]
  rw [hlen,OX,zr hi];refine Gd.ix (by omega) (by rw [OX]; exact JJ hi) (Gd.eC (uj (n:=1) (by omega)) (λone ho=>?_))
  have ho2:ou one/\RL one 2/\rv one=1:=⟨ho.1,ho.2.1,by rw [ho.2.2]; rfl⟩
  have hrow:=JU hi y2 y3 hz ho2 hW2;have hat:((([]::pre++[([]++y)++List.replicate n z]:List (List LR))[i+1]?).getD [])=([]++y)++List.replicate n z:=by
   rw [Q8,List.getElem?_cons_succ,Pz (by rw [hpre.len]; omega),hpre.len,Qf]; rfl
  rw [hat];have hwr:i64.wrap ((n:Int)+(i:Int))=((n+i:Nat):Int):=by rw [bJ ⟨by omega,by omega⟩]; omega
  rw [hwr];refine Gd.ix (y:=z) (by omega) ?_ (hnx _ ⟨by omega,pre++[(([]++y)++List.replicate n z).set (n+i) one],?_,hpre.snoc hrow.1 hrow.2⟩)
  ·rw [OX,Qy,Pz (by omega),Rf,O3 (by omega)]
  ·rw [OX,Q8,List.set_cons_succ,TU _ _ (by rw [hpre.len]; omega),hpre.len,Qf]
   rfl
 ·rintro i _ ⟨hi,pre,rfl,hpre⟩
  obtain rfl:i=n:=by omega
  show Gd ((qu (qL (D6 i i) ([]::pre)) (i:Int)).bind _) _;rw [zY,A1 hpre.len];refine Gd.eC (G4 hn hW hp (Io i A) hpre hB) ?_;rintro ⟨⟨sg,ls⟩,pv⟩ ⟨rows',m,he,hpl,hG,hM'⟩;obtain ⟨rfl,rfl⟩:=Prod.mk.inj he;simp only at hpl ⊢;rw [hpl];refine Gd.ite (λh=>absurd (O1 h) (by omega)) (λ_=>?_)
  rw [vL];refine Gd.nd (by omega) ?_
  rw [OX];refine Gd.jN (λM k s=>k+M=i/\∃ rs:List (List LR),s=(xw i,[]::rs)/\rs.length=i/\∀ q,q<i->rs[q]? = if q<k then (rows'[q]?).map (·.drop i) else rows'[q]?) ?_ ?_ i 0 _
   ⟨by omega,rows',rfl,hM'.len,λq _=>by rw [O2 (by omega)]⟩
  ·rintro M k _ nx ⟨hkM,rs,rfl,hrl,hrs⟩ hnx
   have hk:k<i:=by omega
   obtain ⟨l,l1,l2,l3⟩:=hM'.row k hk;have hat:rs[k]? = some l:=by rw [hrs k hk,O2 (by omega),l1]
   unfold ss;rw [hM.len];refine oN hk ?_;rw [FN,hat,QT];refine Gd.nd (by omega) (oN hk (Gd.nd ?_ ?_))
   ·rw [OX]
    refine J6 (λj hj=>?_);have hjn:j<i:=by
     have:=(OY.1 hj).1
     rwa [vL] at this
    rw [CK hjn] at hj;have:=OZ hj;omega
   ·rw [OX,OX,zy hk,LZ]
    refine hnx _ ⟨by omega,_,rfl,by rw [Qg]; exact hrl,λq hq=>?_⟩
    by_cases e:k=q
    ·subst e
     rw [Pq (by omega),O3 (by omega),l1]; rfl
    ·rw [Pj e,hrs q hq]
     by_cases e2:q<k
     ·rw [O3 e2,O3 (by omega)]
     ·rw [O2 e2,O2 (by omega)]
  ·rintro k _ ⟨hk,rs,rfl,hrl,hrs⟩
   refine Gd.ret ⟨rfl,m,hG,?_⟩;show tC (qL (xw i) ([]::rs)) i i W _;rw [A1 hrl];refine ⟨hrl,λq hq=>?_⟩;obtain ⟨l,l1,l2,l3⟩:=hM'.row q hq;refine ⟨l.drop i,by rw [hrs q hq,O3 (by omega),l1]; rfl,by rw [Qv]; omega,λc hc=>?_⟩
   obtain ⟨v,a,b,d,e⟩:=l3 (i+c) (by omega)
   exact ⟨v,by rw [PG]; exact a,b,d,e⟩
def wq (k:Nat):Rat:=(((WB ^ k:Nat):Int):Rat)
theorem uS (a b:Nat):wq a*wq b=wq (a+b):=by unfold wq; rw [T9,PO,Um]
theorem uT (a:Nat):1<=wq a:=by
 unfold wq;have h:(1:Nat)<=WB ^ a:=Nat.one_le_pow _ _ (by decide)
 have h2:(1:Int)<=((WB ^ a:Nat):Int):=by omega
 have:=Ul.2 h2
 rwa [Rat.intCast_one] at this
theorem xc {a b:Nat} (h:a<=b):wq a<=wq b:=by
 unfold wq;have h:WB ^ a<=WB ^ b:=Ua (by decide) h
 exact Ul.2 (by omega)
theorem zS {x y a b:Rat} (h1:-a<=x) (h2:x<=a) (h3:-b<=y) (h4:y<=b):-(a*b)<=x*y/\x*y<=a*b:=by
 have e1:=Rat.mul_nonneg (show 0<=a-x by grind) (show 0<=b+y by grind)
 have e2:=Rat.mul_nonneg (show 0<=a+x by grind) (show 0<=b-y by grind)
 have e3:=Rat.mul_nonneg (show 0<=a-x by grind) (show 0<=b-y by grind)
 have e4:=Rat.mul_nonneg (show 0<=a+x by grind) (show 0<=b+y by grind)
 constructor <;> grind
theorem IQ {z:Int}{k:Nat} (h1:-wq k<=(z:Rat)) (h2:(z:Rat)<=wq k):z.natAbs<WB ^ (k+1):=by
 unfold wq at h1 h2;rw [<- Un] at h1;have a1:=Ul.1 h1;have a2:=Ul.1 h2;have a3:WB ^ k<WB ^ (k+1):=Nat.pow_lt_pow_right (by decide) (by omega)
 omega
theorem yw {p q:Rat}{k:Nat} (hp:tx p) (hq:tx q) (p1:-wq k<=p) (p2:p<=wq k) (q1:-wq k<=q) (q2:q<=wq k) (q0:q≠0) (hk:k<=186):RB (p / q) (k+1):=by
 obtain ⟨a,rfl⟩:=hp;obtain ⟨b,rfl⟩:=hq;exact RB.ratio (IQ p1 p2) (IQ q1 q2) (λe=>q0 (by rw [e]; rfl)) (by omega)
theorem RB.zero:RB 0 1:=by
 have:=RB.small (m:=0) (by decide)
 simpa using this
theorem RB.one:RB 1 1:=by
 have:=RB.small (m:=1) (by decide)
 simpa using this
theorem RB.dl (i j:Nat):RB (dl i j) 1:=by
 rcases vR i j with h | h <;> rw [h]
 ·exact RB.zero
 ·exact RB.one
theorem RB.sm {f:Nat->Rat}{a:Nat}:∀ {n:Nat},n*(a+1)+1<=700000->(∀ j,j<n->RB (f j) a)->RB (sm n f) (n*(a+1)+1)
 | 0,_,_=>RB.zero.mono (by omega)
 | n+1,hn,h=>by
  have e:(n+1)*(a+1)=n*(a+1)+(a+1):=Nat.succ_mul _ _;have h1:=RB.sm (n:=n) (by omega) (λj hj=>h j (by omega))
  exact (h1.add (h n (by omega)) (by omega)).mono (by omega)
structure Nb (n:Nat) (A:Mt) (L:Nat->Rat) (B:Mt) (R:Nat->Rat):Prop where
 s:Hx n A L B R
 hP:pr n R<=wq 60
 hL:∀ i,i<n->L i<=wq 18
theorem Nb.R {n:Nat}{A B:Mt}{L R:Nat->Rat} (h:Nb n A L B R) {i:Nat} (hi:i<n):R i<=wq 60:=by
 have key:∀ {m:Nat},(∀ j,j<m->1<=R j)->i<m->R i<=pr m R:=by
  intro m
  induction m with
  | zero=>intro _ h; omega
  | succ m ih=>
   intro h1 hi;have p1:1<=pr m R:=CD (λj hj=>h1 j (by omega))
   show R i<=pr m R*R m
   by_cases e:i=m
   ·subst e
    have:=Rat.mul_le_mul_of_nonneg_right p1 (show 0<=R i by have:=h1 i hi; grind)
    grind
   ·have a:=ih (λj hj=>h1 j (by omega)) (by omega)
    have:=Rat.mul_le_mul_of_nonneg_left (h1 m (by omega)) (show 0<=pr m R by grind)
    grind
 exact Up (key (λj hj=>h.s.R1 hj) hi) h.hP
theorem Nb.L0 {n:Nat}{A B:Mt}{L R:Nat->Rat} (h:Nb n A L B R) {i:Nat} (hi:i<n):L i≠0:=λe=>by
 have:=h.s.l1 i hi; rw [e] at this; exact absurd this (by decide)
theorem Nb.ab {n:Nat}{A B:Mt}{L R:Nat->Rat} (h:Nb n A L B R) {i c:Nat} (hi:i<n) (hc:c<n):-wq 60<=L i*A i c/\L i*A i c<=wq 60:=by
 have h1:=h.s.ab i c hi hc;have h2:=Lr (f:=B i) (h.s.b0 i) hc;have h3:=h.s.rs i hi;have h4:=h.R hi;constructor <;> grind
theorem Nb.A {n:Nat}{A B:Mt}{L R:Nat->Rat} (h:Nb n A L B R) {i c:Nat} (hi:i<n) (hc:c<n):RB (A i c) 61:=by
 have e:A i c=(L i*A i c) / L i:=by
  rw [Uk];have:=Ur (L i) (h.L0 hi)
  grind
 rw [e];have l1:=h.s.l1 i hi;have l2:=h.hL i hi;have l3:=xc (show 18<=60 by omega)
 have w:=uT 60;exact yw (h.s.ai i c hi hc) (h.s.li i hi) (h.ab hi hc).1 (h.ab hi hc).2 (by grind) (by grind) (h.L0 hi) (by omega)
def Dk (A:Mt) (L:Nat->Rat) (k:Nat):Rat:=pW k (λr c=>L r*A r c)
theorem Nb.D0 {n:Nat}{A B:Mt}{L R:Nat->Rat} (h:Nb n A L B R) (hp:Pd n A):∀ {k:Nat},k<=n->Dk A L k≠0/\∃ m,Gj n A k m
 | 0,_=>⟨by show (1:Rat)≠0; decide,_,Io n A⟩
 | k+1,hk=>by
  obtain ⟨d,m,hG⟩:=h.D0 hp (k:=k) (by omega)
  have hd:=hG.Lm hp (by omega)
  refine ⟨?_,_,hG.step (by omega) hd⟩
  have e:=hG.pW (k:=k) (by omega) (L:=L) (λi hi=>h.L0 hi)
  show Sim.pW (k+1) (λr c=>L r*A r c)≠0;rw [e];intro h0;rcases Uq.1 h0 with h1 | h1
  ·rcases Uq.1 h1 with h2 | h2
   ·exact h.L0 (by omega) h2
   ·exact hd h2
  ·exact d h1
theorem Nb.Db {n:Nat}{A B:Mt}{L R:Nat->Rat} (h:Nb n A L B R) {k:Nat} (hk:k<=n):tx (Dk A L k)/\-wq 60<=Dk A L k/\Dk A L k<=wq 60:=by
 obtain ⟨a,b,c⟩:=h.s.pW hk;have:=h.hP;refine ⟨a,?_,?_⟩ <;> unfold Dk <;> grind
theorem Nb.num {n:Nat}{A B m:Mt}{L R:Nat->Rat} (h:Nb n A L B R) (hp:Pd n A) {k:Nat} (hG:Gj n A k m) (hk:k<=n) {i p:Nat} (hi:i<n) (hpk:p<k):RB (m i (n+p)) 140:=by
 obtain ⟨N,n1,n2,n3,e⟩:=hG.num h.s hk hi hpk;obtain ⟨d1,d2,d3⟩:=h.Db hk;have d0:=(h.D0 hp hk).1;have hP:=h.hP;have p1:1<=pr n R:=CD (λj hj=>h.s.R1 hj);have r1:=h.s.R1 hi;have r2:=h.R hi;have hNb:pr n R*R i<=wq 120:=by
  rw [<- uS 60 60];exact pL hP r2 (by grind) (by grind)
 have lp:=h.s.l1 p (by omega)
 have lp2:=h.hL p (by omega)
 have t:=zS (x:=N) (y:=L p) (a:=wq 120) (b:=wq 18) (by grind) (by grind) (by have:=uT 18; grind) lp2
 rw [uS] at t;have s0:(if k<=i then L i else 1)≠0:=by
  split
  ·exact h.L0 hi
  ·decide
 have s1:tx (if k<=i then L i else 1):=by
  split
  ·exact h.s.li i hi
  ·exact ⟨1,rfl⟩
 have s2:1<=(if k<=i then L i else 1)/\(if k<=i then L i else 1)<=wq 18:=by
  split
  ·exact ⟨h.s.l1 i hi,h.hL i hi⟩
  ·exact ⟨Uo,uT 18⟩
 generalize (if k<=i then L i else 1)=s at e s0 s1 s2
 have u:=zS (x:=s) (y:=Dk A L k) (a:=wq 18) (b:=wq 60) (by have:=uT 18; grind) s2.2 d2 d3
 rw [uS] at u;have e2:m i (n+p)=(N*L p) / (s*Dk A L k):=by
  have e3:s*m i (n+p)*Dk A L k=N*L p:=e;rw [<- e3,Uk];have h3:s*Dk A L k≠0:=λhh=>by
   rcases Uq.1 hh with h1 | h1
   ·exact s0 h1
   ·exact d0 h1
  have:=Ur _ h3
  grind
 rw [e2];have w1:=xc (show 18+60<=139 by omega)
 have w2:=xc (show 120+18<=139 by omega)
 refine yw (rD n1 (h.s.li p (by omega))) (rD s1 d1) (by grind) (by grind) (by grind) (by grind) ?_ (by omega)
 intro hh;rcases Uq.1 hh with h1 | h1
 ·exact s0 h1
 ·exact d0 h1
theorem Nb.rb {n:Nat}{A B:Mt}{L R:Nat->Rat} (h:Nb n A L B R) (hp:Pd n A) (hn:n<=24) (k:Nat) (m:Mt) (hk:k<=n) (hG:Gj n A k m) (i c:Nat) (hi:i<n) (hc:c<2*n):RB (m i c) 6000:=by
 have right:∀ p,p<n->RB (m i (n+p)) 140:=λp hpn=>by
  by_cases e:p<k
  ·exact h.num hp hG hk hi e
  ·rw [hG.right i p hi hpn (by omega)]
   exact (RB.dl i p).mono (by omega)
 by_cases hcn:c<n
 ·rw [hG.LC hk hi hcn]
  have h1:RB (sm k (λj=>m i (n+j)*A j c)) (k*202+1):=RB.sm (a:=201) (by omega) (λj hj=>(right j (by omega)).mul (h.A (by omega) hcn) (by omega))
  have h2:RB (if k<=i then A i c else 0) 61:=by
   split
   ·exact h.A hi hcn
   ·exact RB.zero.mono (by omega)
  exact (h1.add h2 (by omega)).mono (by omega)
 ·have e:c=n+(c-n):=by omega
  rw [e];exact (right (c-n) (by omega)).mono (by omega)
theorem GP (l:List Int) (p:Int):Gd (kO l p) (λr=>(r = -1/\p ∉ l)\/∃ (k:Nat) (h:k<l.length),r=k/\l[k]=p):=by
 unfold kO;refine Gd.jN (λm i _=>i+m=l.length/\p ∉ l.take i) ?_ ?_ (l.length:Int).toNat 0 () ⟨by omega,by simp⟩
 ·intro m i _ nx ⟨hi,hno⟩ hnx
  unfold nI;refine Gd.gA (by omega) (Gd.ite (λh=>Gd.ret (.inr ⟨i,by omega,rfl,?_⟩)) (λh=>hnx () ⟨by omega,?_⟩))
  ·have:p=l[i]:=by simpa using h
   exact this.symm
  ·rw [Po (by omega),Pa,PA]
   rintro (h' | h')
   ·exact hno h'
   ·simp [h'] at h
 ·intro i _ ⟨hi,hno⟩
  rw [Pb (by omega)] at hno
  exact Gd.ret (.inl ⟨rfl,hno⟩)
structure Hu (M:aW) (n N:Nat) (F:Nat->Nat) (l:List (Rat×Nat×Nat)) (t:Rat):Prop where
 hn:n<=23
 free:M.pU=(List.range n).map (λi=>(F i:Int))
 inj:∀ i j,i<n->j<n->F i=F j->i=j
 lt:∀ i,i<n->F i<N
 hN:N<=24
 ll:l.length<=24
 el:∀ e ∈ l,e.2.1<N/\e.2.2<N
 fr:M.oS=l.map (λe=>(e.2.1:Int))
 to:M.To=l.map (λe=>(e.2.2:Int))
 bl:M.B_.length=l.length
 b:∀ (k:Nat) (y:LR),M.B_[k]? = some y->∃ e,l[k]? = some e/\ou y/\RL y 2/\rv y=t / e.1
def Kf:Option Nat->Int
 | none=>-1
 | some i=>(i:Int)
def eo (o:Option Nat) (r:Nat):Rat:=if o=some r then 1 else 0
theorem tt (i r:Nat):eo (some i) r=dl i r:=by
 unfold eo dl
 by_cases e:i=r
 ·subst e; rw [O3 rfl,O3 rfl]
 ·rw [O2 (λh=>e (OZ h)),O2 e]
theorem tr (r:Nat):eo none r=0:=O2 (by simp)
theorem DM {M:aW}{n N:Nat}{F:Nat->Nat}{l:List (Rat×Nat×Nat)}{t:Rat} (h:Hu M n N F l t) (u:Nat):
  Gd (lD M (u:Int)) (λr=>∃ o:Option Nat,r=Kf o/\(∀ i,o=some i->i<n/\F i=u)/\∀ r,r<n->eo o r=dl (F r) u):=by
 unfold lD;refine Gd.eC (GP _ _) (λr hr=>Gd.ret ?_);rw [h.free] at hr;rcases hr with ⟨rfl,hno⟩ | ⟨k,hk,rfl,e⟩
 ·refine ⟨none,rfl,λi hi=>by simp at hi,λr hr=>?_⟩
  rw [tr,pz];intro e;exact hno (PL.2 ⟨r,PR.2 hr,by rw [e]⟩)
 ·have hkn:k<n:=by simpa using hk
  have e2:F k=u:=by simp at e; omega
  refine ⟨some k,rfl,λi hi=>by obtain rfl:=OZ hi; exact ⟨hkn,e2⟩,λr hr=>?_⟩
  rw [tt]
  by_cases e3:k=r
  ·subst e3; rw [qi,e2,qi]
  ·rw [pz e3,pz]
   intro e4;exact e3 (h.inj k r hkn hr (by omega))
theorem tC.CS {rows:List (List LR)}{n w W:Nat}{m:Mt} (h:tC rows n w W m) {p q:Nat} (hp:p<n) (hq:q<w) {e:LR}{d:Rat} (he:ou e) (hW:RL e W) (hv:rv e=m p q+d):
  tC (rows.set p (((rows[p]?).getD []).set q e)) n w W (λr c=>m r c+d*(dl p r*dl q c)):=by
 refine (h.set hp hq he hW).congr (λr c _ _=>?_)
 by_cases e1:r=p/\c=q
 ·obtain ⟨rfl,rfl⟩:=e1
  rw [if_pos ⟨rfl,rfl⟩,qi,qi,hv]; grind
 ·rw [O2 e1]
  by_cases e2:p=r
  ·rw [pz (i:=q) (λe=>e1 ⟨e2.symm,e.symm⟩)]; grind
  ·rw [pz e2]; grind
abbrev Ht:=List (List LR)->Option aW
theorem Lh {n W:Nat}{nx:Ht}{b:LR}{oi oj:Option Nat}{rows:List (List LR)}{m:Mt}{Q:aW->Prop} (hM:tC rows n n W m) (hW:W<=1000) (hb:ou b) (hbl:RL b 2)
  (hi:∀ i,oi=some i->i<n) (hj:∀ j,oj=some j->j<n) (hne:∀ i,oi=some i->oj≠some i)
  (hnx:∀ rows',tC rows' n n (W+3) (λr c=>m r c-rv b*(eo oi r*eo oj c)-rv b*(eo oj r*eo oi c))->Gd (nx ([]::rows')) Q):
  Gd (iD (xw n) nx b (Kf oi) (Kf oj) ([]::rows)) Q:=by
 unfold iD fL;cases oi with
 | none=>
  refine Gd.ite (λh=>absurd h (by simp [Kf])) (λ_=>hnx rows ((hM.mono (by omega)).congr (λr c _ _=>?_)))
  rw [tr,tr]; grind
 | some i=>
  cases oj with
  | none=>
   refine Gd.ite (λh=>absurd h (by simp [Kf])) (λ_=>hnx rows ((hM.mono (by omega)).congr (λr c _ _=>?_)))
   rw [tr,tr]; grind
  | some j=>
   have hi:=hi i rfl;have hj:=hj j rfl;have hij:i≠j:=λe=>hne i rfl (by rw [e])
   show Gd (if ((decide (0<=(i:Int)) && decide (0<=(j:Int)))=true) then _ else _) Q
   refine Gd.ite (λ_=>?_) (λh=>absurd h (by simp))
   show Gd (idx (xw n) (i:Int) _) Q;refine oN hi (oN hj (oN hi (rZ hM hi hj (λy1 a1 a2 a3=>Gd.eC (xb a1 hb a2 hbl (by omega)) (λr1 b1=>?_)))))
   show Gd (idx (xw n) (j:Int) _) Q;refine oN hj (rZ hM hj hi (λy2 c1 c2 c3=>Gd.eC (xb c1 hb c2 hbl (by omega)) (λr2 d1=>?_)))
   show Gd (idx ((([]::rows:List (List LR))[i+1]?).getD []) (j:Int) _) Q;refine rZ hM hi hj (λ_ _ _ _=>?_);have h2:=(hM.mono (show W<=W+3 by omega)).CS hi hj (d:=-rv b) b1.1 (b1.2.1.mono (by omega)) (by rw [b1.2.2,a3]; grind)
   show Gd (idx ((([]::(rows.set i (((rows[i]?).getD []).set j r1)):List (List LR))[j+1]?).getD []) (i:Int) _) Q;refine rZ h2 hj hi (λ_ _ _ _=>?_);have h3:=h2.CS hj hi (d:=-rv b) d1.1 (d1.2.1.mono (by omega)) (by
    rw [d1.2.2,c3,pz hij]; grind)
   refine hnx _ (h3.congr (λr c _ _=>?_));rw [tt,tt,tt,tt]; grind
theorem Li {n W:Nat}{nx:Ht}{b:LR}{oi oj:Option Nat}{rows:List (List LR)}{m:Mt}{Q:aW->Prop} (hM:tC rows n n W m) (hW:W<=900) (hb:ou b) (hbl:RL b 2)
  (hi:∀ i,oi=some i->i<n) (hj:∀ j,oj=some j->j<n) (hne:∀ i,oi=some i->oj≠some i)
  (hnx:∀ rows',tC rows' n n (W+6) (λr c=>m r c+rv b*(eo oj r*eo oj c)-rv b*(eo oi r*eo oj c)-rv b*(eo oj r*eo oi c))->Gd (nx ([]::rows')) Q):
  Gd (iE (xw n) nx b (Kf oi) (Kf oj) ([]::rows)) Q:=by
 unfold iE;cases oj with
 | none=>
  refine Gd.ite (λh=>absurd h (by simp [Kf])) (λ_=>Lh (oj:=none) (hM.mono (show W<=W+3 by omega)) (by omega) hb hbl hi hj hne (λrows' h'=>hnx rows' (h'.congr (λr c _ _=>?_))))
  rw [tr,tr]; grind
 | some j=>
  have hj':=hj j rfl;show Gd (if (decide (0<=(j:Int))=true) then _ else _) Q
  refine Gd.ite (λ_=>?_) (λh=>absurd h (by simp))
  show Gd (idx (xw n) (j:Int) _) Q;refine oN hj' (oN hj' (rZ hM hj' hj' (λy1 a1 a2 a3=>Gd.eC (vJ a1 hb a2 hbl (by omega)) (λr1 b1=>rZ hM hj' hj' (λ_ _ _ _=>?_)))))
  have h2:=(hM.mono (show W<=W+3 by omega)).CS hj' hj' (d:=rv b) b1.1 (b1.2.1.mono (by omega)) (by rw [b1.2.2,a3])
  refine Lh (oj:=some j) h2 (by omega) hb hbl hi hj hne (λrows' h'=>hnx rows' (h'.congr (λr c _ _=>?_)))
  rw [tt,tt]
theorem EN (l:List (Rat×(Nat->Rat))) (e:Rat×(Nat->Rat)) (r c:Nat):gE (l++[e]) r c=gE l r c+e.1*e.2 r*e.2 c:=by
 induction l with
 | nil=>show e.1*e.2 r*e.2 c+0=0+_; grind
 | cons a l ih=>show a.1*a.2 r*a.2 c+gE (l++[e]) r c=a.1*a.2 r*a.2 c+gE l r c+_; rw [ih]; grind
theorem B0 {α:Type}{l:List α}{k:Nat}{e:α} (f:α->Int) (h:l[k]? = some e):(l.map f)[k]? = some (f e):=by rw [Ps,h]; rfl
theorem ML {M:aW}{n N:Nat}{F:Nat->Nat}{l:List (Rat×Nat×Nat)}{t:Rat} (h:Hu M n N F l t) {k W:Nat}{e:Rat×Nat×Nat} (he:l[k]? = some e) {b:LR} (hb:ou b) (hbl:RL b 2) (hbv:rv b=t / e.1)
  {nx:Ht}{rows:List (List LR)}{pre:List (Rat×Nat×Nat)}{Q:aW->Prop} (hW:W<=800) (hM:tC rows n n W (gE ((pre.map (xp t)).map (mK F))))
  (hnx:∀ rows',tC rows' n n (W+9) (gE (((pre++[e]).map (xp t)).map (mK F)))->Gd (nx ([]::rows')) Q):
  Gd (jX M (xw n) k b ([]::rows) nx) Q:=by
 obtain ⟨q,u,v⟩:=e;unfold jX;rw [h.fr,h.to];have f1:=B0 (λe:Rat×Nat×Nat=>(e.2.1:Int)) he;have f2:=B0 (λe:Rat×Nat×Nat=>(e.2.2:Int)) he;have new:∀ r c,gE (((pre++[(q,u,v)]).map (xp t)).map (mK F)) r c=gE ((pre.map (xp t)).map (mK F)) r c+rv b*(dl (F r) u-dl (F r) v)*(dl (F c) u-dl (F c) v):=λr c=>by
  rw [Qj,Qj];show gE (_++[_]) r c=_;rw [EN,hbv]; rfl
 refine Gd.ix (by omega) (by rw [OX]; exact f1) ?_
 refine Gd.eC (DM h u) ?_;rintro _ ⟨oi,rfl,i1,i2⟩;refine Gd.ix (by omega) (by rw [OX]; exact f2) ?_
 refine Gd.eC (DM h v) ?_;rintro _ ⟨oj,rfl,j1,j2⟩;refine Gd.ix (by omega) (by rw [OX]; exact f1) (Gd.ix (by omega) (by rw [OX]; exact f2) ?_)
 refine Gd.ite (λhuv=>?_) (λhuv=>?_)
 ·have e1:u=v:=by have:=O1 huv; simp only at this; omega
  subst e1;unfold fL;refine hnx rows ((hM.mono (by omega)).congr (λr c _ _=>?_))
  rw [new]; grind
 ·have e1:u≠v:=λe=>by subst e; simp at huv
  have hne:∀ i,oi=some i->oj≠some i:=λi hi hj=>by
   have:=(i1 i hi).2;have:=(j1 i hj).2;omega
  have fin:∀ rows',tC rows' n n (W+9) (λr c=>gE ((pre.map (xp t)).map (mK F)) r c+rv b*(eo oi r*eo oi c)+rv b*(eo oj r*eo oj c)-rv b*(eo oi r*eo oj c)-rv b*(eo oj r*eo oi c))->Gd (nx ([]::rows')) Q:=λrows' h'=>
   hnx rows' (h'.congr (λr c hr hc=>by rw [new,i2 r hr,i2 c hc,j2 r hr,j2 c hc]; grind))
  cases oi with
  | none=>
   refine Gd.ite (λh=>absurd h (by simp [Kf])) (λ_=>Li (oi:=none) (hM.mono (show W<=W+3 by omega)) (by omega) hb hbl (λi hi=>(i1 i hi).1) (λj hj=>(j1 j hj).1) hne (λrows' h'=>fin rows' ((h'.mono (by omega)).congr (λr c _ _=>?_))))
   rw [tr,tr]; grind
  | some i=>
   have hi:=(i1 i rfl).1;show Gd (if (decide (0<=(i:Int))=true) then _ else _) Q
   refine Gd.ite (λ_=>?_) (λh=>absurd h (by simp))
   show Gd (idx (xw n) (i:Int) _) Q;refine oN hi (oN hi (rZ hM hi hi (λy1 a1 a2 a3=>Gd.eC (vJ a1 hb a2 hbl (by omega)) (λr1 b1=>rZ hM hi hi (λ_ _ _ _=>?_)))))
   have h2:=(hM.mono (show W<=W+3 by omega)).CS hi hi (d:=rv b) b1.1 (b1.2.1.mono (by omega)) (by rw [b1.2.2,a3])
   refine Li (oi:=some i) h2 (by omega) hb hbl (λi hi=>(i1 i hi).1) (λj hj=>(j1 j hj).1) hne (λrows' h'=>fin rows' ((h'.mono (by omega)).congr (λr c _ _=>?_)))
   rw [tt,tt]
structure K7 (rows:List (List LR)) (n:Nat) (A:Mt):Prop where
 ex:∃ m,Gj n A n m/\tC rows n n 6000 (λi c=>m i (n+c))
theorem GR {M:aW}{n N:Nat}{F:Nat->Nat}{l:List (Rat×Nat×Nat)}{t:Rat} (h:Hu M n N F l t) {B:Mt}{L R:Nat->Rat} (hp:Pd n (gE ((l.map (xp t)).map (mK F)))) (hB:Nb n (gE ((l.map (xp t)).map (mK F))) L B R):
  Gd (mw M) (λM'=>∃ rows,M'={ M with ql:=rows }/\K7 rows n (gE ((l.map (xp t)).map (mK F)))):=by
 have hn:=h.hn;have hfl:M.pU.length=n:=by rw [h.free]; simp
 unfold mw;rw [hfl,OX,Qd];refine Gd.nd (by omega) (Gd.nd (by omega) ?_)
 rw [OX];refine Gd.jN (λm i s=>i+m=n/\∃ pre:List (List LR),s=(D6 n i,[]::pre)/\tC pre i n 2 (λ_ _=>0)) ?_ ?_ n 0 _ ⟨by omega,[],by rw [zZ],⟨rfl,λi hi=>by omega⟩⟩
 ·rintro m i _ nx ⟨him,pre,rfl,hpre⟩ hnx
  have hi:i<n:=by omega
  unfold oX;rw [hfl];refine Gd.eC (yC (by omega)) ?_
  rintro _ ⟨z,rfl,hz⟩;refine Gd.ix (by omega) (by rw [OX]; exact Ej hi) (hnx _ ⟨by omega,pre++[List.replicate n z],?_,hpre.snoc (by simp) (λc hc=>⟨z,by rw [Rf,O3 hc],hz.1,hz.2.1,hz.2.2⟩)⟩)
  rw [OX,O6,hpre.len,zr hi]; rfl
 ·rintro i _ ⟨hi,pre,rfl,hpre⟩
  obtain rfl:i=n:=by omega
  show Gd (dR (λk y s1523 n=>jX M (D6 i i) k y s1523 n) _ 0 M.B_ ([]::pre)) _;rw [zY];refine Gd.dR (λk ys s=>∃ (bs:List LR) (rows:List (List LR)),M.B_=bs++ys/\bs.length=k/\s=[]::rows/\tC rows i i (2+9*k) (gE (((l.take k).map (xp t)).map (mK F)))) ?_ ?_ M.B_ 0 _ ⟨[],pre,rfl,rfl,rfl,by rw [SV]; exact hpre⟩
  ·rintro k y ys _ nx ⟨bs,rows,hbs,hbk,rfl,hM⟩ hnx
   have hy:M.B_[k]? = some y:=by rw [hbs,Pz (by omega),hbk,Qf]; rfl
   obtain ⟨e,he,y1,y2,y3⟩:=h.b k y hy;have hkl:=(OY.1 he).1;have hll:=h.ll;have e2:l.take (k+1)=l.take k++[e]:=by
    rw [Po hkl,(OY.1 he).2]
   refine ML h he y1 y2 y3 (by omega) hM (λrows' h'=>hnx _ ⟨bs++[y],rows',by rw [hbs]; simp,by simp [hbk],rfl,?_⟩)
   rw [e2];exact h'.mono (by omega)
  ·rintro k _ ⟨bs,rows,hbs,hbk,rfl,hM⟩
   have hll:=h.ll;have hbl:=h.bl;rw [PE] at hbs;have hkl:k=l.length:=by rw [<- hbl,hbs,hbk]
   rw [hkl,QH] at hM;show Gd ((pH (qL (xw i) ([]::rows))).bind _) _;rw [A1 hM.len];refine Gd.eC (EL (by omega) (by omega) (by omega) hp (hM.mono (by omega)) (hB.rb hp (by omega))) (λr hr=>Gd.ret ⟨r.1,rfl,⟨hr.2⟩⟩)
abbrev Net:=aD
theorem Gd.forAll {R α σ:Type}{Q:R->Prop}{body:Nat->α->σ->(σ->Option R)->Option R}{k:σ->Option R}{l:List α} (P:α->Prop) (J:σ->Prop)
  (hb:∀ i y s n,y ∈ l->J s->(P y->∀ s',J s'->Gd (n s') Q)->Gd (body i y s n) Q) (hk:(∀ x ∈ l,P x)->∀ s,J s->Gd (k s) Q) (s:σ) (hs:J s):Gd (Sim.dR body k 0 l s) Q:=by
 have key:∀ (ys pre:List α) (i:Nat) (s:σ),l=pre++ys->(∀ x ∈ pre,P x)->J s->Gd (Sim.dR body k i ys s) Q:=by
  intro ys
  induction ys with
  | nil=>intro pre i s hl hp hs; exact hk (by rw [hl,PE]; exact hp) s hs
  | cons y ys ih=>
   intro pre i s hl hp hs;refine hb i y s _ (by rw [hl]; exact P1 _ (O0 ..)) hs (λhP s' hs'=>?_)
   exact ih (pre++[y]) (i+1) s' (by rw [hl]; simp) (λx hx=>by
    rcases Pa.1 hx with hx | hx
    ·exact hp x hx
    ·simp at hx; subst hx; exact hP) hs'
 exact key l [] 0 s rfl (by simp) hs
theorem DH (s:ByteArray) (h:s.size<=maxLen):Gd (bQ s) (λ_=>True):=by
 unfold bQ;refine Gd.nd h (Gd.dR (λ_ _ _=>True) (λi y ys s n _ hn=>?_) (λi s _=>Gd.ret OV) _ _ _ OV);unfold oZ;exact Gd.ite (λ_=>Gd.ret OV) (λ_=>hn _ OV)
theorem Bz (l:List ByteArray) (p:ByteArray):Gd (bA l p) (λr=>(r = -1/\p ∉ l)\/∃ (k:Nat) (h:k<l.length),r=k/\l[k]=p):=by
 unfold bA;refine Gd.jN (λm i _=>i+m=l.length/\p ∉ l.take i) ?_ ?_ (l.length:Int).toNat 0 () ⟨by omega,by simp⟩
 ·intro m i _ nx ⟨hi,hno⟩ hnx
  unfold lq;refine Gd.gA (by omega) (Gd.ite (λh=>Gd.ret (.inr ⟨i,by omega,rfl,?_⟩)) (λh=>hnx () ⟨by omega,?_⟩))
  ·have:p=l[i]:=by simpa using h
   exact this.symm
  ·rw [Po (by omega),Pa,PA]
   rintro (h' | h')
   ·exact hno h'
   ·simp [h'] at h
 ·intro i _ ⟨hi,hno⟩
  rw [Pb (by omega)] at hno
  exact Gd.ret (.inl ⟨rfl,hno⟩)
theorem xO {l:List ByteArray}{p:ByteArray} (h:p ∈ l):∃ k:Nat,bA l p=some (k:Int)/\∃ hk:k<l.length,l[k]=p:=by
 obtain ⟨r,hr,h2⟩:=Bz l p;rcases h2 with ⟨_,hno⟩ | ⟨k,hk,rfl,e⟩
 ·exact absurd h hno
 ·exact ⟨k,hr,hk,e⟩
theorem tA (l:List ByteArray) (p:ByteArray):Gd (bF l p) (λb=>b=true↔p ∈ l):=by
 unfold bF;refine Gd.eC (Bz l p) (λr hr=>Gd.ret ?_);rcases hr with ⟨rfl,hno⟩ | ⟨k,hk,rfl,e⟩
 ·simp [hno]
 ·have:p ∈ l:=e▸Pt _
  simp [this]
theorem tE (c:aR) (name:ByteArray) (nodes:List ByteArray) (h:name.size<=maxLen):
  Gd (b_ c name nodes) (λr=>r.1=0->∀ x ∈ nodes,x ∈ c.nodes):=by
 unfold b_;refine Gd.eC (DH name h) (λa _=>Gd.ite (λ_=>Gd.ret (λh=>by simp at h)) (λ_=>Gd.ite (λ_=>Gd.ret (λh=>by simp at h)) (λ_=>?_)))
 refine Gd.forAll (λx=>x ∈ c.nodes) (λ_=>True) ?_ ?_ () OV
 ·intro i y s n hy _ hn
  unfold gK;refine Gd.eC (tA c.nodes y) (λb hb=>Gd.ite (λ_=>Gd.ret (λh=>by simp at h)) (λh=>hn (hb.1 (by simpa using h)) _ OV))
 ·intro hall s _
  refine Gd.ite (λh=>?_) (λ_=>Gd.ret (λ_=>hall));have h2:nodes.length=2:=by
   have:((nodes.length:Nat):Int)=2:=by simpa using h
   omega
  have e1:(0:Int)=((0:Nat):Int):=rfl;have e2:(1:Int)=((1:Nat):Int):=rfl;rw [e1,e2];exact Gd.gA (by omega) (Gd.gA (by omega) (Gd.ite (λ_=>Gd.ret (λh=>by simp at h)) (λ_=>Gd.ret (λ_=>hall))))
structure oL (n:Net):Prop where
 nd:∀ x ∈ n.a_,x.size<=maxLen
 sw:∀ x ∈ n.aH,x.Name.size<=maxLen
 br:∀ x ∈ n.aG,x.Name.size<=maxLen
 gn:∀ x ∈ n.cR,x.Name.size<=maxLen
 ld:∀ x ∈ n.aY,x.Name.size<=maxLen
 st:∀ x ∈ n.bM,x.Name.size<=maxLen
structure oG (n:Net):Prop where
 l1:n.a_.length<=24
 l2:n.aH.length<=32
 l3:n.aG.length<=24
 l4:n.cR.length<=10
 l5:n.aY.length<=12
 sw:∀ x ∈ n.aH,x.A ∈ n.a_/\x.B_ ∈ n.a_
 br:∀ x ∈ n.aG,x.oS ∈ n.a_/\x.To ∈ n.a_
 gn:∀ x ∈ n.cR,x.Node ∈ n.a_/\0<=x.iH/\x.iH<=x.pX/\x.pX<=100000
 ld:∀ x ∈ n.aY,x.Node ∈ n.a_/\0<=x.cV/\x.cV<=100000
theorem JR (c:aR) (n:Net) (hz:oL n):
  Gd (fN c n) (λr=>r.1=0->(∀ x ∈ n.cR,x.Node ∈ c.nodes/\0<=x.iH/\x.iH<=x.pX/\x.pX<=100000)/\(∀ x ∈ n.aY,x.Node ∈ c.nodes/\0<=x.cV/\x.cV<=100000)):=by
 unfold fN;refine Gd.forAll (λx=>x.Node ∈ c.nodes/\0<=x.iH/\x.iH<=x.pX/\x.pX<=100000) (λ_=>True) ?_ ?_ _ OV
 ·intro i y s nx hy _ hn
  unfold iM;refine Gd.eC (tE _ _ _ (hz.gn y hy)) (λr hr=>Gd.ite (λh=>Gd.ret (λh2=>absurd h2 (by simpa using h))) (λh=>Gd.ite (λ_=>Gd.ret (λh2=>by simp at h2)) (λh2=>hn ?_ _ OV)))
  have h0:r.1=0:=by simpa using h
  have:=hr h0 y.Node (by simp)
  simp [aU,bE] at h2;exact ⟨this,by omega,by omega,by omega⟩
 ·intro hg s _
  refine Gd.forAll (λx=>x.Node ∈ c.nodes/\0<=x.cV/\x.cV<=100000) (λ_=>True) ?_ ?_ _ OV
  ·intro i y s nx hy _ hn
   unfold iN;refine Gd.eC (tE _ _ _ (hz.ld y hy)) (λr hr=>Gd.ite (λh=>Gd.ret (λh2=>absurd h2 (by simpa using h))) (λh=>Gd.ite (λ_=>Gd.ret (λh2=>by simp at h2)) (λh2=>hn ?_ _ OV)))
   have h0:r.1=0:=by simpa using h
   have:=hr h0 y.Node (by simp)
   simp [aU,bE] at h2;exact ⟨this,by omega,by omega⟩
  ·intro hl s _
   refine Gd.forAll (λ_=>True) (λ_=>True) ?_ ?_ _ OV
   ·intro i y s nx hy _ hn
    unfold iP;refine Gd.eC (tE _ _ _ (hz.st y hy)) (λr hr=>Gd.ite (λh=>Gd.ret (λh2=>absurd h2 (by simpa using h))) (λh=>Gd.ite (λ_=>Gd.ret (λh2=>by simp at h2)) (λ_=>hn OV _ OV)))
   ·intro _ s _
    exact Gd.ret λ_=>⟨hg,hl⟩
theorem HW (n:Net) (hz:oL n):Gd (bT n) (λe=>e=0->oG n):=by
 unfold bT;refine Gd.ite (λ_=>Gd.ret (λh=>by simp at h)) (λhl=>?_)
 simp only [Tx,Uv,Int.not_lt] at hl;refine Gd.forAll (λ_=>True) (λ_=>True) ?_ ?_ _ OV
 ·intro i y s nx hy _ hn
  unfold mz;exact Gd.eC (tE _ _ _ (hz.nd y hy)) (λr hr=>Gd.ite (λh=>Gd.ret (λh2=>absurd h2 (by simpa using h))) (λh=>hn OV _ OV))
 intro _ s _;refine Gd.forAll (λx=>x.A ∈ n.a_/\x.B_ ∈ n.a_) (λ_=>True) ?_ ?_ _ OV
 ·intro i y s nx hy _ hn
  unfold mB;refine Gd.eC (tE _ _ _ (hz.sw y hy)) (λr hr=>Gd.ite (λh=>Gd.ret (λh2=>absurd h2 (by simpa using h))) (λh=>hn ?_ _ OV))
  have h0:r.1=0:=by simpa using h
  exact ⟨hr h0 y.A (by simp),hr h0 y.B_ (by simp)⟩
 intro hsw s _;refine Gd.forAll (λx=>x.oS ∈ n.a_/\x.To ∈ n.a_) (λ_=>True) ?_ ?_ _ OV
 ·intro i y s nx hy _ hn
  unfold mC;refine Gd.eC (tE _ _ _ (hz.br y hy)) (λr hr=>Gd.ite (λh=>Gd.ret (λh2=>absurd h2 (by simpa using h))) (λh=>Gd.ite (λh=>Gd.ret (λh2=>absurd h2 (by simpa using h))) (λ_=>hn ?_ _ OV)))
  have h0:r.1=0:=by simpa using h
  exact ⟨hr h0 y.oS (by simp),hr h0 y.To (by simp)⟩
 intro hbr s _;refine Gd.eC (JR _ n hz) (λr hr=>Gd.ret (λh=>?_));obtain ⟨hg,hl2⟩:=hr h;exact ⟨by omega,by omega,by omega,by omega,by omega,hsw,hbr,hg,hl2⟩
def CU (N:Nat) (l:List bU):Prop:=∀ e ∈ l,0<=e.a0/\e.a0<N/\0<=e.a1/\e.a1<N
structure xV (N:Nat) (many:Int) (out:List Int):Prop where
 len:out.length=N
 Jy:∀ v ∈ out,-1<=v/\v<many
def zq (N:Nat) (l:List Int):Prop:=∀ a ∈ l,0<=a/\a<(N:Int)
def rl (out:List Int):Nat:=out.countP (λv=>decide (v<0))
theorem xV.set {N:Nat}{many:Int}{out:List Int} (h:xV N many out) {v:Int} (hv:0<=v/\v<many) (i:Nat):xV N many (out.set i v):=
 ⟨by simp [h.len],λx hx=>by
  rcases TS hx with hx | rfl
  ·exact h.Jy x hx
  ·omega⟩
theorem DF {out:List Int}{i:Nat} (hi:i<out.length) (hn:out[i]<0) {v:Int} (hv:0<=v):rl (out.set i v)+1=rl out:=by
 unfold rl;rw [List.countP_set hi];have h1:decide (out[i]<0)=true:=Uw hn;have h2:decide (v<0)=false:=Uu (by omega)
 rw [h1,h2];have hpos:0<out.countP (λv=>decide (v<0)):=List.countP_pos_iff.2 ⟨_,Pt hi,h1⟩;simp;omega
def xq (a b:List Int):Prop:=∀ (i:Nat) (v:Int),a[i]? = some v->0<=v->∃ w,b[i]? = some w/\0<=w
theorem xq.refl (a:List Int):xq a a:=λi v h h0=>⟨v,h,h0⟩
theorem xq.set {a b:List Int} (h:xq a b) (i:Nat) {v:Int} (hv:0<=v):xq a (b.set i v):=by
 intro j w hj hw;obtain ⟨u,hu,hu0⟩:=h j w hj hw
 by_cases e:i=j
 ·subst e
  exact ⟨v,by simp [(OY.1 hu).1],hv⟩
 ·exact ⟨u,by rw [Pj e]; exact hu,hu0⟩
theorem IY (N:Nat) (hN:N<=24) (l:List bU) (hl:CU N l) (hll:l.length<=64) (wo:Int):Gd (ox N l wo) (λr=>r.length=N/\∀ v ∈ r,0<=v/\v<N):=by
 unfold ox;refine Gd.nd ⟨rfl,by omega,by omega⟩ (Gd.nd (by omega) ?_)
 rw [wW];refine Gd.jN (λm i s=>i+m=N/\0<=s.2/\s.2<=(i:Int)/\xV N s.2 s.1/\∀ (j:Nat) (v:Int),j<i->s.1[j]? = some v->0<=v) ?_ ?_ (N:Int).toNat 0 (List.replicate N (-1),0) ⟨by omega,by simp,by simp,⟨by simp,by simp⟩,by simp⟩
 ·rintro m i ⟨out,many⟩ nx ⟨hi,h0,hmi,hp,hk⟩ hn
  simp only at h0 hmi hp hk;have hilt:i<out.length:=by rw [hp.len]; omega
  unfold pM;refine Gd.gA hilt (Gd.ite (λh=>?_) (λh=>?_))
  ·have hge:0<=out[i]:=by simpa using h
   unfold jE;refine hn _ ⟨by omega,h0,by show many<=((i+1:Nat):Int); omega,hp,λj v hj hv=>?_⟩
   by_cases e:j=i
   ·subst e
    rw [OU hilt] at hv;cases hv; exact hge
   ·exact hk j v (by omega) hv
  ·have hneg:out[i]<0:=by simpa using h
   refine Gd.gA hilt ?_;rw [OX];have hw:i64.wrap (many+1)=many+1:=bJ ⟨by omega,by omega⟩
   have hp1:xV N (many+1) out:=⟨hp.len,λv hv=>by have:=hp.Jy v hv; omega⟩
   have hbase0:2*rl (out.set i many)+[(i:Int)].length<=2*N+1:=by
    have hc:rl (out.set i many)<=N:=by unfold rl; rw [<- hp.len,<- Qg (as:=out) (i:=i) (a:=many)]; exact Rx
    simp only [PW]; omega
   refine Gd.gH (λ(s:List Int×List Int)=>xV N (many+1) s.1/\xq (out.set i many) s.1/\zq N s.2/\2*rl s.1+s.2.length<=2*N+1) (λs=>2*rl s.1+s.2.length) ?_ fC _ ⟨hp1.set ⟨h0,by omega⟩ i,xq.refl _,by intro a ha; simp at ha; omega,hbase0⟩ ?_
   ·rintro ⟨o,todo⟩ nx2 ⟨hq,hkp,htd,htot⟩ hn2
    simp only at hq hkp htd htot;unfold pN;refine Gd.ite (λhne=>?_) (λ_=>?_)
    ·have hne:0<todo.length:=by
      have:(0:Int)<((todo.length:Nat):Int):=by simpa using hne
      omega
     obtain ⟨at_,ts,rfl⟩:∃ a ts,todo=a::ts:=by
      cases todo with
      | nil=>simp at hne
      | cons a ts=>exact ⟨a,ts,rfl⟩
     refine Gd.ix (y:=at_) (by decide) rfl (Gd.nd ⟨by omega,by simp only [O6]; omega⟩ ?_)
     have hat:=htd at_ (O0 ..);have hsl:rV (at_::ts) (1:Int).toNat (at_::ts).length=ts:=by
      unfold rV;rw [show (1:Int).toNat=1 from rfl,Tk,Qh,Pb (by simp)]
     rw [hsl];simp only [O6] at htot;have push:∀ (b:List Int) (td:List Int) (q:Int) (nn:(List Int×List Int)->Option (List Int)),0<=q->q<N->xV N (many+1) b->xq (out.set i many) b->zq N td->2*rl b+td.length<=2*rl o+ts.length ->
       (∀ s',(xV N (many+1) s'.1/\xq (out.set i many) s'.1/\zq N s'.2/\2*rl s'.1+s'.2.length<=2*rl o+ts.length)->Gd (nn s') (λr=>r.length=N/\∀ v ∈ r,0<=v/\v<N)) ->
       Gd (Sim.idx b q λy7689=>if decide (y7689<0) then (Sim.idx b q λy7694=>dG ((td.length+([q]).length)*8<=140737488355328) (dZ nn (b.set (q:Int).toNat many) (td++([q])))) else (dZ nn b td)) (λr=>r.length=N/\∀ v ∈ r,0<=v/\v<N):=by
      intro b td q nn q0 qN hb hkb htd2 hms hnn;have hql:q.toNat<b.length:=by rw [hb.len]; omega
      have hget:b[q.toNat]? = some b[q.toNat]:=OU hql;unfold dZ;refine Gd.ix q0 hget (Gd.ite (λh=>Gd.ix q0 hget (Gd.nd ?_ (hnn _ ⟨hb.set ⟨h0,by omega⟩ _,hkb.set _ h0,?_,?_⟩))) (λh=>hnn _ ⟨hb,hkb,htd2,hms⟩))
      ·have h1:b[q.toNat]<0:=by simpa using h
       have hc:rl o<=N:=by unfold rl; rw [<- hq.len]; exact Rx
       simp;omega
      ·intro a ha
       rcases Pa.1 ha with ha | ha
       ·exact htd2 a ha
       ·simp at ha; omega
      ·have h1:b[q.toNat]<0:=by simpa using h
       have:=DF hql h1 h0;simp;omega
     have hc:rl o<=N:=by unfold rl; rw [<- hq.len]; exact Rx
     ·refine Gd.forAll (λ_=>True) (λ(s:List Int×List Int)=>xV N (many+1) s.1/\xq (out.set i many) s.1/\zq N s.2/\2*rl s.1+s.2.length<=2*rl o+ts.length) ?_ ?_ _ ⟨hq,hkp,(λa ha=>htd a (O5 _ ha):zq N ts),Pl (2*rl o+ts.length)⟩
      ·rintro k e ⟨b,td⟩ nn he ⟨hb,hkb,htd2,hms⟩ hnn
       simp only at hb hkb htd2 hms;obtain ⟨e1,e2,e3,e4⟩:=hl e he;have hw1:i64.wrap (e.a0+e.a1)=e.a0+e.a1:=bJ ⟨by omega,by omega⟩
       have hw2:i64.wrap (e.a0+e.a1-at_)=e.a0+e.a1-at_:=bJ ⟨by omega,by omega⟩
       unfold pO;rw [hw1,hw2];refine Gd.ite (λ_=>hnn OV _ ⟨hb,hkb,htd2,hms⟩) (λ_=>Gd.ite (λh=>?_) (λ_=>Gd.ite (λ_=>hnn OV _ ⟨hb,hkb,htd2,hms⟩) (λh=>?_)))
       ·have h:e.a0=at_:=by simpa using h
        exact push b td _ nn (by omega) (by omega) hb hkb htd2 hms (λs' hs'=>hnn OV s' hs')
       ·have h:e.a1=at_:=by simpa using h
        exact push b td _ nn (by omega) (by omega) hb hkb htd2 hms (λs' hs'=>hnn OV s' hs')
      ·rintro _ ⟨b,td⟩ ⟨hb,hkb,htd2,hms⟩
       simp only at hb hkb htd2 hms;exact hn2 _ ⟨hb,hkb,htd2,by show 2*rl b+td.length<=2*N+1; omega⟩ (by simp only [O6]; omega)
    ·unfold jE
     rw [hw];refine hn _ ⟨by omega,by show (0:Int)<=many+1; omega,by show many+1<=((i+1:Nat):Int); omega,hq,λj v hj hv=>?_⟩
     have hjl:j<out.length:=by omega
     have hbase:∃ w,(out.set i many)[j]? = some w/\0<=w:=by
      by_cases e:i=j
      ·subst e; exact ⟨many,by simp [hilt],h0⟩
      ·exact ⟨out[j],by rw [Pj e]; exact OU hjl,hk j _ (by omega) (OU hjl)⟩
     obtain ⟨w,hw1,hw0⟩:=hbase;obtain ⟨u,hu,hu0⟩:=hkp j w hw1 hw0;simp only at hv;rw [hu] at hv; cases hv; exact hu0
   ·refine RS hbase0 ?_
    unfold fC; omega
 ·rintro i ⟨out,many⟩ ⟨hi,h0,hmi,hp,hk⟩
  simp only at h0 hmi hp hk;refine Gd.ret ⟨hp.len,λv hv=>?_⟩;obtain ⟨j,hj,hje⟩:=Qb.1 hv;have hj:j<out.length:=hj;have h1:=hp.Jy v hv;have h2:=hk j v (by have:=hp.len; omega) (by rw [OU hj]; exact P3 some hje)
  omega
theorem Bv (N:Nat) (hN:N<=24) (l:List bU) (hl:CU N l) (hll:l.length<=64):qR N l=some 0:=by
 rw [<- Gd.eq];unfold qR;refine Gd.ite (λh=>?_) (λ_=>Gd.forAll (Q:=λx=>x=0) (λ_=>True) (λ_=>True) ?_ (λ_ _ _=>Gd.ret rfl) _ OV)
 ·simp at h; omega
 ·intro i e s n he _ hn
  obtain ⟨e1,e2,e3,e4⟩:=hl e he;unfold sn;exact Gd.ite (λh=>by simp at h; omega) (λ_=>Gd.ite (λh=>by simp at h; omega) (λ_=>Gd.ite (λh=>by simp at h; omega) (λ_=>Gd.ite (λh=>by simp at h; omega) (λ_=>hn OV _ OV))))
theorem HZ (N:Nat) (hN:N<=24) (l:List bU) (hl:CU N l) (hll:l.length<=64):Gd (iI N l) (λr=>r.1.length=N/\zq N r.1):=by
 unfold iI;refine Gd.bind_eq (Bv N hN l hl hll) (Gd.ite (λh=>by simp at h) (λ_=>Gd.eC (IY N hN l hl hll (-1)) (λr hr=>Gd.ret hr)))
theorem Im (n:Net) (hn:oG n) (o:Bool):Gd (pC n o) (λr=>r.1.length<=32/\CU n.a_.length r.1):=by
 unfold pC;refine Gd.dR (λi ys s=>i+ys.length=n.aH.length/\(∀ y ∈ ys,y ∈ n.aH)/\s.1.length<=i/\s.2.length<=i/\CU n.a_.length s.1) ?_ ?_ _ _ _ ⟨by simp,λ_ h=>h,by simp,by simp,by intro e he; simp at he⟩
 ·rintro i y ys ⟨a,b⟩ nx ⟨hi,hm,ha,hb,he⟩ hnx
  simp only [O6] at hi ha hb he;have h2:=hn.l2;have hys:∀ z ∈ ys,z ∈ n.aH:=λz hz=>hm z (O5 _ hz);unfold rk ny;refine Gd.ite (λ_=>?_) (λ_=>hnx _ ⟨by omega,hys,by simp only; omega,by simp only; omega,he⟩)
  obtain ⟨h1,h2'⟩:=hn.sw y (hm y (O0 ..));obtain ⟨p,hp,hpl,_⟩:=xO h1;obtain ⟨q,hq,hql,_⟩:=xO h2';refine Gd.bind_eq hp (Gd.bind_eq hq (Gd.nd (by simp; omega) (Gd.nd (by simp; omega) (hnx _ ⟨by omega,hys,by simp; omega,by simp; omega,?_⟩))))
  intro e hme;rcases Pa.1 hme with hme | hme
  ·exact he e hme
  ·simp at hme; subst hme
   exact ⟨by simp only; omega,by simp only; omega,by simp only; omega,by simp only; omega⟩
 ·rintro i ⟨a,b⟩ ⟨hi,hm,ha,hb,he⟩
  have h2:=hn.l2;simp only [TQ] at hi ha;exact Gd.ret ⟨by simp only; omega,he⟩
theorem HV (n:Net) (hn:oG n):Gd (nP n) (λr=>r.length=n.a_.length/\zq n.a_.length r):=by
 unfold nP;refine Gd.eC (Im n hn false) (λr hr=>?_);have h1:=hn.l1;exact Gd.eC (HZ n.a_.length hn.l1 r.1 hr.2 (by omega)) (λr hr=>Gd.ret hr)
structure N8 (n:Net) (t:aV):Prop where
 bl:t.px.length=n.a_.length
 bi:zq t.bK.length t.px
 ii:zq t.bK.length t.bK
 il:t.bK.length<=24
theorem J8 {R:Type}{Q:R->Prop} (N:Nat) (hN:N<=24) (body:Nat->Int->Int->(Int->Option R)->Option R) (hb:∀ k y n nx,body k y n nx=nx (max n (i64.wrap (y+1)))) (K:Int->Option R) (l:List Int) (hl:zq N l)
  (hk:∀ m:Nat,m<=N->zq m l->Gd (K (m:Int)) Q):Gd (dR body K 0 l 0) Q:=by
 have key:∀ (ys pre:List Int) (i m:Nat),l=pre++ys->m<=N->zq m pre->Gd (dR body K i ys (m:Int)) Q:=by
  intro ys
  induction ys with
  | nil=>intro pre i m e hm hp; rw [PE] at e; subst e; exact hk m hm hp
  | cons y ys ih=>
   intro pre i m e hm hp;have hy:=hl y (by rw [e]; exact P1 _ (O0 ..))
   show Gd (body i y (m:Int) (λs=>dR body K (i+1) ys s)) Q;rw [hb,bJ ⟨by omega,by omega⟩]
   have hmx:max (m:Int) (y+1)=((max m (y+1).toNat:Nat):Int):=by omega
   rw [hmx];refine ih (pre++[y]) (i+1) _ (by rw [e]; simp) (by omega) (λa ha=>?_)
   rcases Pa.1 ha with ha | ha
   ·have:=hp a ha; omega
   ·simp at ha; subst ha; omega
 have:=key l [] 0 0 rfl (by omega) (by intro a ha; simp at ha)
 exact this
abbrev BA:=ByteArray
abbrev Seen:=List (ByteArray×Bool)
theorem IM (l:List (ByteArray×Bool)) (k k':ByteArray):(qK (ur l k true) k').getD false=((qK l k').getD false || decide (k=k')):=by
 have key:∀ (l:List (ByteArray×Bool)) (i:Nat),(∀ p,vo l k' i=some p->vo (l++[(k,true)]) k' i=some p)/\(vo l k' i=none->vo (l++[(k,true)]) k' i=if k=k' then some (i+l.length,true) else none):=by
  intro l
  induction l with
  | nil=>intro i; refine ⟨λp h=>by simp [vo] at h,λ_=>?_⟩; simp [vo]
  | cons q l ih=>
   obtain ⟨a,b⟩:=q;intro i;simp only [Q8,vo]
   by_cases h:a=k'
   ·simp [h]
   ·simp only [h,Qw]
    refine ⟨(ih (i+1)).1,λhn=>?_⟩;rw [(ih (i+1)).2 hn];simp; split
    ·simp; omega
    ·rfl
 have set_ne:∀ (l:List (ByteArray×Bool)) (i j:Nat) (v:Bool),vo l k i=some (j,v)->qK (l.set (j-i) (k,true)) k'=if k=k' then some true else qK l k':=by
  intro l;unfold qK;have:∀ (l:List (ByteArray×Bool)) (i j:Nat) (v:Bool) (q:Nat),vo l k i=some (j,v)->((vo (l.set (j-i) (k,true)) k' q).map (·.2))=if k=k' then some true else (vo l k' q).map (·.2):=by
   intro l
   induction l with
   | nil=>intro i j v q h; simp [vo] at h
   | cons p l ih=>
    obtain ⟨a,b⟩:=p;intro i j v q h;simp only [vo] at h
    split at h
    ·rename_i e
     simp only [Pf,Ra] at h;obtain ⟨rfl,rfl⟩:=h;subst e;rw [Qf,List.set_cons_zero];simp only [vo]
     by_cases e:a=k' <;> simp [e]
    ·rename_i e
     obtain ⟨h1,h2,_⟩:=ER h;rw [show j-i=(j-(i+1))+1 by omega,List.set_cons_succ]
     simp only [vo];have:=ih (i+1) j v (q+1) h
     by_cases e2:a=k'
     ·subst e2
      have hk:k≠a:=λx=>e x.symm;simp [hk]
     ·simp only [e2,Qw]; exact this
  intro i j v h;exact this l i j v 0 h
 unfold ur;cases h:vo l k 0 with
 | none=>
  simp only;unfold qK;cases h2:vo l k' 0 with
  | none=>
   rw [(key l 0).2 h2]
   by_cases e:k=k' <;> simp [e]
  | some p=>
   rw [(key l 0).1 p h2]
   by_cases e:k=k'
   ·subst e; rw [h] at h2; cases h2
   ·simp [e]
 | some p=>
  obtain ⟨j,v⟩:=p;simp only;have:=set_ne l 0 j v h;rw [RT] at this;rw [this]
  by_cases e:k=k' <;> simp [e]
def oT (P:List BA) (s:Seen):Prop:=∀ k:BA,(qK s k).getD false=true↔k ∈ P
theorem oT.nil:oT [] ([]:Seen):=λk=>by simp [qK,vo]
theorem oT.put {P:List BA}{s:Seen} (h:oT P s) (k:BA):oT (P++[k]) (ur s k true):=λk'=>by
 rw [IM,Qu,h k',Pa,PA,PF];exact or_congr Iff.rfl ⟨λe=>e.symm,λe=>e.symm⟩
structure Mw (ns P:List BA) (name:BA) (nodes:List BA):Prop where
 nm:bQ name=some true
 nw:name ∉ P
 at_:∀ x ∈ nodes,x ∈ ns
 two:∀ a b,nodes=[a,b]->a≠b
theorem tD {c:aR}{P:List BA} (hs:oT P c.seen) {name:BA} (nodes:List BA) (h:name.size<=maxLen):
  Gd (b_ c name nodes) (λr=>r.1=0->Mw c.nodes P name nodes/\oT (P++[name]) r.2.seen):=by
 unfold b_;obtain ⟨b,hb,_⟩:=DH name h;refine Gd.bind_eq hb (Gd.ite (λ_=>Gd.ret (λh=>by simp at h)) (λhbt=>Gd.ite (λ_=>Gd.ret (λh=>by simp at h)) (λhsn=>?_)))
 have hbt:b=true:=by simpa using hbt
 subst hbt;have hnw:name ∉ P:=λhm=>by rw [(hs name).2 hm] at hsn; cases hsn
 refine Gd.forAll (λx=>x ∈ c.nodes) (λ_=>True) ?_ ?_ () OV
 ·intro i y s n hy _ hn
  unfold gK;refine Gd.eC (tA c.nodes y) (λb hb=>Gd.ite (λ_=>Gd.ret (λh=>by simp at h)) (λh=>hn (hb.1 (by simpa using h)) _ OV))
 ·intro hall s _
  refine Gd.ite (λh=>?_) (λh2=>Gd.ret (λ_=>⟨⟨hb,hnw,hall,λa b e=>?_⟩,hs.put name⟩))
  ·have h2:nodes.length=2:=by
    have:((nodes.length:Nat):Int)=2:=by simpa using h
    omega
   obtain ⟨a,b,rfl⟩:∃ a b,nodes=[a,b]:=by
    match nodes,h2 with
    | [a,b],_=>exact ⟨a,b,rfl⟩
   refine Gd.ix (y:=a) (by decide) rfl (Gd.ix (y:=b) (by decide) rfl (Gd.ite (λ_=>Gd.ret (λh=>by simp at h)) (λhne=>Gd.ret (λ_=>⟨⟨hb,hnw,hall,λp q e=>?_⟩,hs.put name⟩))))
   have hne:a≠b:=by simpa using hne
   simp at e;rw [<- e.1,<- e.2]; exact hne
  ·subst e
   simp at h2
theorem uW {c:aR}{P:List BA} (hs:oT P c.seen) {name:BA}{nodes:List BA} (h:Mw c.nodes P name nodes):
  b_ c name nodes=some (0,⟨ur c.seen name true,c.nodes⟩):=by
 rw [<- Gd.eq];unfold b_;refine Gd.bind_eq h.nm (Gd.ite (λh=>by simp at h) (λ_=>Gd.ite (λhsn=>absurd ((hs name).1 hsn) h.nw) (λ_=>?_)))
 refine Gd.forAll (λ_=>True) (λ_=>True) ?_ ?_ () OV
 ·intro i y s n hy _ hn
  unfold gK;refine Gd.eC (tA c.nodes y) (λb hb=>Gd.ite (λhn2=>?_) (λ_=>hn OV _ OV));have:=hb.2 (h.at_ y hy);simp [this] at hn2
 ·intro _ s _
  refine Gd.ite (λh2=>?_) (λ_=>Gd.ret rfl);have h2:nodes.length=2:=by
   have:((nodes.length:Nat):Int)=2:=by simpa using h2
   omega
  obtain ⟨a,b,rfl⟩:∃ a b,nodes=[a,b]:=by
   match nodes,h2 with
   | [a,b],_=>exact ⟨a,b,rfl⟩
  have hne:=h.two a b rfl;exact Gd.ix (y:=a) (by decide) rfl (Gd.ix (y:=b) (by decide) rfl (Gd.ite (λe=>absurd (by simpa using e) hne) (λ_=>Gd.ret rfl)))
def names (n:Net):List BA:=n.a_++n.aH.map (·.Name)++n.aG.map (·.Name)++n.cR.map (·.Name)++n.aY.map (·.Name)++n.bM.map (·.Name)
theorem tH {R α:Type}{Q:R->Prop}{body:Nat->α->Seen->(Seen->Option R)->Option R}{k:Seen->Option R}{l:List α} (nm:α->BA) (P:List BA)
  (hb:∀ (i:Nat) (y:α) (s:Seen) (n:Seen->Option R) (pre:List α),(∃ post,l=pre++y::post)->oT (P++pre.map nm) s->Gd (n (ur s (nm y) true)) Q->Gd (body i y s n) Q) (hk:∀ s,oT (P++l.map nm) s->Gd (k s) Q) (s:Seen) (hs:oT P s):Gd (dR body k 0 l s) Q:=by
 refine Gd.seen (λpre s=>oT (P++pre.map nm) s) ?_ hk s (by simpa using hs)
 intro i y s n pre hpre hs hn;refine hb i y s n pre hpre hs (hn _ ?_);have:=hs.put (nm y);rw [Qj,<- Pr]; exact this
theorem sf {R α:Type}{Q:R->Prop}{body:Nat->α->Seen->(Seen->Option R)->Option R}{k:Seen->Option R}{l:List α} (nm:α->BA) (P:List BA) (C:α->Prop)
  (hb:∀ (i:Nat) (y:α) (s:Seen) (n:Seen->Option R) (pre:List α),y ∈ l->oT (P++pre.map nm) s->(nm y ∉ P++pre.map nm->C y->∀ s',oT (P++pre.map nm++[nm y]) s'->Gd (n s') Q)->Gd (body i y s n) Q)
  (hk:∀ s,oT (P++l.map nm) s->(∀ x ∈ l,C x)->(P.Nodup->(P++l.map nm).Nodup)->Gd (k s) Q) (s:Seen) (hs:oT P s):Gd (dR body k 0 l s) Q:=by
 refine Gd.seen (λpre s=>oT (P++pre.map nm) s/\(∀ x ∈ pre,C x)/\(P.Nodup->(P++pre.map nm).Nodup)) ?_ (λs h=>hk s h.1 h.2.1 h.2.2) s ⟨by simpa using hs,by simp,λh=>by simpa using h⟩
 rintro i y s n pre hpre ⟨h1,h2,h3⟩ hn;refine hb i y s n pre (uQ hpre).2.1 h1 (λhnew hC s' hs'=>hn s' ⟨by rw [Qj,<- Pr]; exact hs',λx hx=>?_,λhP=>?_⟩)
 ·rcases Pa.1 hx with hx | hx
  ·exact h2 x hx
  ·simp at hx; subst hx; exact hC
 ·rw [Qj,<- Pr,PS]
  refine ⟨h3 hP,by simp,λa ha b hb=>?_⟩
  simp at hb; subst hb
  intro e; subst e; exact hnew ha
def Dm (g:bB):Bool:=!(((!(aU g.iH)) || (bE g.pX g.iH 100000)) || (!(aU g.A9)))
def BI (s:bS):Bool:=!(((!(aU s.rA)) || (!(aU s.Discharge))) || (!(aU s.tM)))
structure oA (n:Net):Prop where
 l1:n.a_.length<=24
 l2:n.aH.length<=32
 l3:n.aG.length<=24
 l4:n.cR.length<=10
 l5:n.aY.length<=12
 l6:n.bM.length<=4
 nd:(names n).Nodup
 vn:∀ x ∈ n.a_,bQ x=some true
 vs:∀ x ∈ n.aH,bQ x.Name=some true/\x.A ∈ n.a_/\x.B_ ∈ n.a_/\x.A≠x.B_
 vb:∀ x ∈ n.aG,bQ x.Name=some true/\x.oS ∈ n.a_/\x.To ∈ n.a_/\x.oS≠x.To/\gX x=0
 vg:∀ x ∈ n.cR,bQ x.Name=some true/\x.Node ∈ n.a_/\Dm x=true
 vl:∀ x ∈ n.aY,bQ x.Name=some true/\x.Node ∈ n.a_/\aU x.cV=true
 vt:∀ x ∈ n.bM,bQ x.Name=some true/\x.Node ∈ n.a_/\BI x=true
theorem Tq (n:Net) (hz:oL n):Gd (bT n) (λe=>e=0->oA n):=by
 unfold bT;refine Gd.ite (λ_=>Gd.ret (λh=>by simp at h)) (λhl=>?_)
 simp only [Tx,Uv,Int.not_lt] at hl;refine sf (id:BA->BA) [] (λx=>bQ x=some true) ?_ ?_ _ oT.nil
 ·intro i y s nx pre hy hs hn
  unfold mz;exact Gd.eC (tD (c:=⟨s,n.a_⟩) hs [] (hz.nd y hy)) (λr hr=>Gd.ite (λh=>Gd.ret (λh2=>absurd h2 (by simpa using h))) (λh=>by
   obtain ⟨h1,h2⟩:=hr (by simpa using h)
   exact hn h1.nw h1.nm _ h2))
 intro s hs hvn hnd1;simp only [List.map_id,Qy] at hs hnd1;refine sf (λx:aK=>x.Name) _ (λx=>bQ x.Name=some true/\x.A ∈ n.a_/\x.B_ ∈ n.a_/\x.A≠x.B_) ?_ ?_ _ hs
 ·intro i y s nx pre hy hs hn
  unfold mB;exact Gd.eC (tD (c:=⟨s,n.a_⟩) hs [y.A,y.B_] (hz.sw y hy)) (λr hr=>Gd.ite (λh=>Gd.ret (λh2=>absurd h2 (by simpa using h))) (λh=>by
   obtain ⟨h1,h2⟩:=hr (by simpa using h)
   exact hn h1.nw ⟨h1.nm,h1.at_ _ (by simp),h1.at_ _ (by simp),h1.two _ _ rfl⟩ _ h2))
 intro s hs hvs hnd2;refine sf (λx:aO=>x.Name) _ (λx=>bQ x.Name=some true/\x.oS ∈ n.a_/\x.To ∈ n.a_/\x.oS≠x.To/\gX x=0) ?_ ?_ _ hs
 ·intro i y s nx pre hy hs hn
  unfold mC;exact Gd.eC (tD (c:=⟨s,n.a_⟩) hs [y.oS,y.To] (hz.br y hy)) (λr hr=>Gd.ite (λh=>Gd.ret (λh2=>absurd h2 (by simpa using h))) (λh=>Gd.ite (λh3=>Gd.ret (λh2=>absurd h2 (by simpa using h3))) (λh3=>by
   obtain ⟨h1,h2⟩:=hr (by simpa using h)
   exact hn h1.nw ⟨h1.nm,h1.at_ _ (by simp),h1.at_ _ (by simp),h1.two _ _ rfl,by simpa using h3⟩ _ h2)))
 intro s hs hvb hnd3;refine Gd.eC (P:=λr=>r.1=0->(∀ x ∈ n.cR,bQ x.Name=some true/\x.Node ∈ n.a_/\Dm x=true)/\(∀ x ∈ n.aY,bQ x.Name=some true/\x.Node ∈ n.a_/\aU x.cV=true) /\
  (∀ x ∈ n.bM,bQ x.Name=some true/\x.Node ∈ n.a_/\BI x=true)/\(names n).Nodup) ?_ (λr hr=>Gd.ret (λh=>by
   obtain ⟨a,b,c,d⟩:=hr h;exact ⟨by omega,by omega,by omega,by omega,by omega,by omega,d,hvn,hvs,hvb,a,b,c⟩))
 unfold fN;refine sf (λx:bB=>x.Name) _ (λx=>bQ x.Name=some true/\x.Node ∈ n.a_/\Dm x=true) ?_ ?_ _ hs
 ·intro i y s nx pre hy hs hn
  unfold iM;exact Gd.eC (tD (c:=⟨s,n.a_⟩) hs [y.Node] (hz.gn y hy)) (λr hr=>Gd.ite (λh=>Gd.ret (λh2=>absurd h2 (by simpa using h))) (λh=>Gd.ite (λ_=>Gd.ret (λh2=>by simp at h2)) (λh3=>by
   obtain ⟨h1,h2⟩:=hr (by simpa using h)
   exact hn h1.nw ⟨h1.nm,h1.at_ _ (by simp),by unfold Dm; rw [h3]; rfl⟩ _ h2)))
 intro s hs hvg hnd4;refine sf (λx:aE=>x.Name) _ (λx=>bQ x.Name=some true/\x.Node ∈ n.a_/\aU x.cV=true) ?_ ?_ _ hs
 ·intro i y s nx pre hy hs hn
  unfold iN;exact Gd.eC (tD (c:=⟨s,n.a_⟩) hs [y.Node] (hz.ld y hy)) (λr hr=>Gd.ite (λh=>Gd.ret (λh2=>absurd h2 (by simpa using h))) (λh=>Gd.ite (λ_=>Gd.ret (λh2=>by simp at h2)) (λh3=>by
   obtain ⟨h1,h2⟩:=hr (by simpa using h)
   exact hn h1.nw ⟨h1.nm,h1.at_ _ (by simp),by simpa using h3⟩ _ h2)))
 intro s hs hvl hnd5;refine sf (λx:bS=>x.Name) _ (λx=>bQ x.Name=some true/\x.Node ∈ n.a_/\BI x=true) ?_ ?_ _ hs
 ·intro i y s nx pre hy hs hn
  unfold iP;exact Gd.eC (tD (c:=⟨s,n.a_⟩) hs [y.Node] (hz.st y hy)) (λr hr=>Gd.ite (λh=>Gd.ret (λh2=>absurd h2 (by simpa using h))) (λh=>Gd.ite (λ_=>Gd.ret (λh2=>by simp at h2)) (λh3=>by
   obtain ⟨h1,h2⟩:=hr (by simpa using h)
   exact hn h1.nw ⟨h1.nm,h1.at_ _ (by simp),by unfold BI; rw [h3]; rfl⟩ _ h2)))
 intro s hs hvt hnd6;exact Gd.ret λ_=>⟨hvg,hvl,hvt,hnd6 (hnd5 (hnd4 (hnd3 (hnd2 (hnd1 List.nodup_nil)))))⟩
theorem GW {A B C:List BA}{x:BA} (h:(A++(B++x::C)).Nodup):x ∉ A++B:=by
 rw [<- Pr,PS] at h;exact λhm=>h.2.2 x hm x (O0 ..) rfl
theorem fresh {P:List BA}{α:Type}{nm:α->BA}{l pre:List α}{y:α} (h:(P++l.map nm).Nodup) (hp:∃ post,l=pre++y::post):nm y ∉ P++pre.map nm:=by
 obtain ⟨post,rfl⟩:=hp;rw [Qj,RG] at h;exact GW h
theorem Eo (n:Net) (h:oA n):bT n=some 0:=by
 have hnd:=h.nd;unfold names at hnd;have n5:=(PS.1 hnd).1;have n4:=(PS.1 n5).1;have n3:=(PS.1 n4).1;have n2:=(PS.1 n3).1;have n1:=(PS.1 n2).1;have g1:=h.l1; have g2:=h.l2; have g3:=h.l3; have g4:=h.l4; have g5:=h.l5; have g6:=h.l6
 rw [<- Gd.eq];unfold bT;refine Gd.ite (λhl=>?_) (λ_=>?_)
 ·simp only [Qu,PF] at hl
  omega
 refine tH (id:BA->BA) [] ?_ ?_ _ oT.nil
 ·intro i y s nx pre hpre hs hn
  have hy:=(uQ hpre).2.1;have hf:=fresh (P:=[]) (nm:=id) (by simpa using n1) hpre
  unfold mz;exact Gd.bind_eq (uW (c:=⟨s,n.a_⟩) hs ⟨h.vn y hy,hf,by simp,by simp⟩) (Gd.ite (λh=>by simp at h) (λ_=>hn))
 intro s hs;simp only [List.map_id,Qy] at hs;refine tH (λx:aK=>x.Name) _ ?_ ?_ _ hs
 ·intro i y s nx pre hpre hs hn
  obtain ⟨a,b,c,d⟩:=h.vs y (uQ hpre).2.1;unfold mB;exact Gd.bind_eq (uW (c:=⟨s,n.a_⟩) hs ⟨a,fresh n2 hpre,by simp [b,c],λp q e=>by simp at e; rw [<- e.1,<- e.2]; exact d⟩) (Gd.ite (λh=>by simp at h) (λ_=>hn))
 intro s hs;refine tH (λx:aO=>x.Name) _ ?_ ?_ _ hs
 ·intro i y s nx pre hpre hs hn
  obtain ⟨a,b,c,d,e⟩:=h.vb y (uQ hpre).2.1;unfold mC;exact Gd.bind_eq (uW (c:=⟨s,n.a_⟩) hs ⟨a,fresh n3 hpre,by simp [b,c],λp q e=>by simp at e; rw [<- e.1,<- e.2]; exact d⟩) (Gd.ite (λh=>by simp at h) (λ_=>Gd.ite (λh=>by simp [e] at h) (λ_=>hn)))
 intro s hs;refine Gd.eC (P:=λr=>r.1=0) ?_ (λr hr=>Gd.ret hr);unfold fN;refine tH (λx:bB=>x.Name) _ ?_ ?_ _ hs
 ·intro i y s nx pre hpre hs hn
  obtain ⟨a,b,c⟩:=h.vg y (uQ hpre).2.1;unfold Dm at c;unfold iM;exact Gd.bind_eq (uW (c:=⟨s,n.a_⟩) hs ⟨a,fresh n4 hpre,by simp [b],by simp⟩) (Gd.ite (λh=>by simp at h) (λ_=>Gd.ite (λh=>by rw [h] at c; cases c) (λ_=>hn)))
 intro s hs;refine tH (λx:aE=>x.Name) _ ?_ ?_ _ hs
 ·intro i y s nx pre hpre hs hn
  obtain ⟨a,b,c⟩:=h.vl y (uQ hpre).2.1;unfold iN;exact Gd.bind_eq (uW (c:=⟨s,n.a_⟩) hs ⟨a,fresh n5 hpre,by simp [b],by simp⟩) (Gd.ite (λh=>by simp at h) (λ_=>Gd.ite (λh=>by simp [c] at h) (λ_=>hn)))
 intro s hs;refine tH (λx:bS=>x.Name) _ ?_ ?_ _ hs
 ·intro i y s nx pre hpre hs hn
  obtain ⟨a,b,c⟩:=h.vt y (uQ hpre).2.1;unfold BI at c;unfold iP;exact Gd.bind_eq (uW (c:=⟨s,n.a_⟩) hs ⟨a,fresh hnd hpre,by simp [b],by simp⟩) (Gd.ite (λh=>by simp at h) (λ_=>Gd.ite (λh=>by rw [h] at c; cases c) (λ_=>hn)))
 intro s hs;exact Gd.ret rfl
def JP (n:Net) (q:Nat):Net:={ n with aG:=n.aG.take q++n.aG.drop (q+1) }
theorem FB {α:Type} (l:List α) (q:Nat):(l.take q++l.drop (q+1)).Sublist l:=by
 have h1:(l.drop (q+1)).Sublist (l.drop q):=by rw [<- QF]; exact List.drop_sublist _ _
 have:=(Q5 (l.take q)).append h1
 rwa [Qm] at this
theorem oA.cut {n:Net} (h:oA n) (q:Nat):oA (JP n q):=by
 have hs:=FB n.aG q;have hnm:(names (JP n q)).Sublist (names n):=by
  unfold names JP;exact ((((Q5 _).append (hs.map _)).append (Q5 _)).append (Q5 _)).append (Q5 _)
 exact ⟨h.l1,h.l2,P0 hs.length_le h.l3,h.l4,h.l5,h.l6,hnm.nodup h.nd,h.vn,h.vs,λx hx=>h.vb x (hs.subset hx),h.vg,h.vl,h.vt⟩
theorem oA.ok {n:Net} (h:oA n) (hz:oL n):oG n:=by
 obtain ⟨e,he,hok⟩:=HW n hz;rw [Eo n h] at he;exact hok (OZ he).symm
theorem oL.cut {n:Net} (h:oL n) (q:Nat):oL (JP n q):=
 ⟨h.nd,h.sw,λx hx=>h.br x ((FB n.aG q).subset hx),h.gn,h.ld,h.st⟩
abbrev Ed:=bU
def lb (o:List Int) (u:Int):Int:=if 0<=u then (o[u.toNat]?).getD (-1) else -1
theorem IG {o:List Int}{u:Int} (h:0<=lb o u):0<=u/\u<o.length:=by
 unfold lb at h
 split at h
 ·rename_i h0
  refine ⟨h0,?_⟩
  by_cases e:u.toNat<o.length
  ·omega
  ·rw [PV (by omega)] at h; simp at h
 ·omega
theorem Au {o:List Int}{k:Nat} (h:k<o.length):lb o (k:Int)=o[k]:=by
 unfold lb; rw [O3 (by omega),OX,OU h]; rfl
theorem IF {o:List Int}{u:Int} (h0:0<=u) (h:u.toNat<o.length):lb o u=o[u.toNat]:=by
 unfold lb; rw [O3 h0,OU h]; rfl
theorem wO {o:List Int}{q:Int} (h0:0<=q) (h:q.toNat<o.length) (m u:Int):lb (o.set q.toNat m) u=if u=q then m else lb o u:=by
 unfold lb
 by_cases e:u=q
 ·subst e
  rw [O3 h0,O3 rfl,Pq h]; rfl
 ·rw [O2 e]
  by_cases hu:0<=u
  ·rw [O3 hu,O3 hu,Pj (by omega)]
  ·rw [O2 hu,O2 hu]
def Jx (l:List Ed) (u v:Int):Prop:=∃ e ∈ l,(e.a0=u/\e.a1=v)\/(e.a1=u/\e.a0=v)
theorem Jx.symm {l:List Ed}{u v:Int} (h:Jx l u v):Jx l v u:=by
 obtain ⟨e,he,h | h⟩:=h
 ·exact ⟨e,he,.inr ⟨h.2,h.1⟩⟩
 ·exact ⟨e,he,.inl ⟨h.2,h.1⟩⟩
inductive wv (l:List Ed) (u:Int):Int->Prop
 | refl:wv l u u
 | snoc {v w:Int}:wv l u v->Jx l v w->wv l u w
theorem wv.trans {l:List Ed}{u v w:Int} (h1:wv l u v) (h2:wv l v w):wv l u w:=by
 induction h2 with
 | refl=>exact h1
 | snoc _ h ih=>exact .snoc ih h
theorem wv.symm {l:List Ed}{u v:Int} (h:wv l u v):wv l v u:=by
 induction h with
 | refl=>exact .refl
 | snoc _ h ih=>exact (wv.snoc .refl h.symm).trans ih
structure Nq (N:Nat) (l:List Ed) (many:Int) (out:List Int):Prop where
 pt:xV N many out
 cls:∀ u v,Jx l u v->0<=lb out u->lb out v=lb out u
 N9:∀ u v,0<=lb out u->lb out u=lb out v->wv l u v
 NK:∀ c,0<=c->c<many->∃ u,lb out u=c
theorem xV.lt {N:Nat}{many:Int}{out:List Int} (h:xV N many out) (hm:0<=many) (u:Int):-1<=lb out u/\lb out u<many:=by
 by_cases h0:0<=lb out u
 ·obtain ⟨a,b⟩:=IG h0
  have:u.toNat<out.length:=by omega
  rw [IF a this];exact h.Jy _ (Pt _)
 ·refine ⟨?_,by omega⟩
  unfold lb
  split
  ·by_cases e:u.toNat<out.length
   ·rw [OU e]
    exact (h.Jy _ (Pt e)).1
   ·rw [PV (by omega)]; simp
  ·omega
structure A7 (N:Nat) (l:List Ed) (m:Int) (i:Int) (out o:List Int):Prop where
 pt:xV N (m+1) o
 uh:∀ u,0<=lb out u->lb o u=lb out u
 new:∀ u,lb out u<0->0<=lb o u->lb o u=m/\wv l i u
 st:lb o i=m
theorem A7.put {N:Nat}{l:List Ed}{m i:Int}{out o:List Int} (h:A7 N l m i out o) (hc:Nq N l m out) (h0:0<=m) {a q:Int} (ha:lb o a=m) (hadj:Jx l a q) (q0:0<=q) (qN:q<N) (hq:lb o q<0):A7 N l m i out (o.set q.toNat m):=by
 have hql:q.toNat<o.length:=by rw [h.pt.len]; omega
 have ca:wv l i a:=by
  by_cases e:0<=lb out a
  ·have h1:=h.uh a e
   have h2:=(hc.pt.lt h0 a).2;omega
  ·exact (h.new a (by omega) (by omega)).2
 refine ⟨h.pt.set ⟨h0,by omega⟩ _,λu hu=>?_,λu hu hn=>?_,?_⟩
 ·rw [wO q0 hql]
  have h1:=h.uh u hu;rw [O2 (λe=>by subst e; omega)]
  exact h1
 ·rw [wO q0 hql] at hn ⊢
  by_cases e:u=q
  ·subst e
   rw [O3 rfl];exact ⟨rfl,ca.snoc hadj⟩
  ·rw [O2 e] at hn ⊢
   exact h.new u hu hn
 ·rw [wO q0 hql]
  split
  ·rfl
  ·exact h.st
theorem A7.mono {N:Nat}{m:Int}{o:List Int} (hl:o.length=N) (h0:0<=m) {q:Int} (q0:0<=q) (qN:q<N) {u:Int} (hu:0<=lb o u):0<=lb (o.set q.toNat m) u:=by
 rw [wO q0 (by omega)]
 split
 ·exact h0
 ·exact hu
theorem A7.done {N:Nat}{l:List Ed}{m i:Int}{out o:List Int} (h:A7 N l m i out o) (hc:Nq N l m out) (h0:0<=m) (hp:∀ u,lb o u=m->∀ v,Jx l u v->0<=lb o v):Nq N l (m+1) o:=by
 refine ⟨h.pt,λu v huv hu=>?_,λu v hu huv=>?_,λc c0 c1=>?_⟩
 ·by_cases e:0<=lb out u
  ·have h1:=h.uh u e
   have h2:=hc.cls u v huv e;have h3:=h.uh v (by omega)
   omega
  ·obtain ⟨h1,_⟩:=h.new u (by omega) hu
   have h2:=hp u h1 v huv
   by_cases e2:0<=lb out v
   ·have:=hc.cls v u huv.symm e2
    omega
   ·have:=(h.new v (by omega) h2).1
    omega
 ·by_cases e:0<=lb out u
  ·have h1:=h.uh u e
   have h2:=(hc.pt.lt h0 u).2
   by_cases e2:0<=lb out v
   ·exact hc.N9 u v e (by have:=h.uh v e2; omega)
   ·have:=(h.new v (by omega) (by omega)).1
    omega
  ·obtain ⟨h1,h2⟩:=h.new u (by omega) hu
   by_cases e2:0<=lb out v
   ·have h3:=h.uh v e2
    have h4:=(hc.pt.lt h0 v).2;omega
   ·exact h2.symm.trans (h.new v (by omega) (by omega)).2
 ·by_cases e:c<m
  ·obtain ⟨u,hu⟩:=hc.NK c c0 e
   exact ⟨u,by rw [h.uh u (by omega)]; exact hu⟩
  ·exact ⟨i,by rw [h.st]; omega⟩
structure Gb (N:Nat) (l:List Ed) (r:List Int) (many:Nat):Prop where
 len:r.length=N
 all:∀ u:Int,0<=u->u<N->0<=lb r u/\lb r u<many
 mN:many<=N
 iff:∀ u v:Int,0<=u->u<N->0<=v->v<N->(lb r u=lb r v↔wv l u v)
 NK:∀ c:Int,0<=c->c<many->∃ u:Int,0<=u/\u<N/\lb r u=c
theorem EY (N:Nat) (hN:N<=24) (l:List Ed) (hl:CU N l) (hll:l.length<=64):Gd (ox N l (-1)) (λr=>∃ many:Nat,Gb N l r many):=by
 unfold ox;refine Gd.nd ⟨rfl,by omega,by omega⟩ (Gd.nd (by omega) ?_)
 rw [wW];have hrep:∀ u,lb (List.replicate N (-1)) u = -1:=λu=>by
  unfold lb
  split
  ·by_cases e:u.toNat<N
   ·rw [OU (by simpa using e)]; simp
   ·rw [PV (by simpa using e)]; rfl
  ·rfl
 refine Gd.jN (λm i (s:List Int×Int)=>i+m=N/\0<=s.2/\s.2<=(i:Int)/\Nq N l s.2 s.1/\∀ j:Nat,j<i->0<=lb s.1 (j:Int)) ?_ ?_ (N:Int).toNat 0 (List.replicate N (-1),0)
  ⟨by omega,by simp,by simp,⟨⟨by simp,by simp⟩,λu v _ h=>by rw [hrep] at h; omega,λu v h _=>by rw [hrep] at h; omega,λc h1 h2=>by omega⟩,by simp⟩
 ·rintro m i ⟨out,many⟩ nx ⟨hi,h0,hmi,hc,hk⟩ hn
  simp only at h0 hmi hc hk;have hilt:i<out.length:=by rw [hc.pt.len]; omega
  have hwm:i64.wrap (many+1)=many+1:=bJ ⟨by omega,by omega⟩
  unfold pM;refine Gd.gA hilt (Gd.ite (λh=>?_) (λh=>?_))
  ·have hge:0<=out[i]:=by simpa using h
   unfold jE;refine hn _ ⟨by omega,h0,by show many<=((i+1:Nat):Int); omega,hc,λj hj=>?_⟩
   by_cases e:j=i
   ·subst e; simp only; rw [Au hilt]; exact hge
   ·exact hk j (by omega)
  ·have hneg:out[i]<0:=by simpa using h
   refine Gd.gA hilt ?_;rw [OX];have hnegl:lb out (i:Int)<0:=by rw [Au hilt]; exact hneg
   have hset:∀ u,lb (out.set i many) u=if u=(i:Int) then many else lb out u:=λu=>by
    have:=wO (o:=out) (q:=(i:Int)) (by omega) (by simpa using hilt) many u
    rwa [OX] at this
   have hp1:xV N (many+1) out:=⟨hc.pt.len,λv hv=>by have:=hc.pt.Jy v hv; omega⟩
   have hbase:2*rl (out.set i many)+[(i:Int)].length<=2*N+1:=by
    have hcn:rl (out.set i many)<=N:=by unfold rl; rw [<- hc.pt.len,<- Qg (as:=out) (i:=i) (a:=many)]; exact Rx
    simp only [PW]; omega
   have hf0:A7 N l many (i:Int) out (out.set i many):=by
    refine ⟨hp1.set ⟨h0,by omega⟩ i,λu hu=>?_,λu hu hn2=>?_,by rw [hset,O3 rfl]⟩
    ·rw [hset,O2 (λe=>by subst e; omega)]
    ·rw [hset] at hn2 ⊢
     by_cases e:u=(i:Int)
     ·subst e; rw [O3 rfl]; exact ⟨rfl,.refl⟩
     ·rw [O2 e] at hn2; omega
   refine Gd.gH (λ(s:List Int×List Int)=>A7 N l many (i:Int) out s.1/\(∀ a ∈ s.2,lb s.1 a=many)/\(∀ u,lb s.1 u=many->u ∉ s.2->∀ v,Jx l u v->0<=lb s.1 v)/\2*rl s.1+s.2.length<=2*N+1)
    (λs=>2*rl s.1+s.2.length) ?_ fC _ ⟨hf0,λa ha=>?_,λu hu hnu=>?_,hbase⟩ ?_
   ·rintro ⟨o,todo⟩ nx2 ⟨hf,htd,hpr,htot⟩ hn2
    simp only at hf htd hpr htot;have hol:=hf.pt.len;unfold pN;refine Gd.ite (λhne=>?_) (λhze=>?_)
    ·obtain ⟨at_,ts,rfl⟩:∃ a ts,todo=a::ts:=by
      cases todo with
      | nil=>simp at hne
      | cons a ts=>exact ⟨a,ts,rfl⟩
     simp only [O6] at htot;refine Gd.ix (y:=at_) (by decide) rfl (Gd.nd ⟨by omega,by simp only [O6]; omega⟩ ?_)
     have hat:=htd at_ (O0 ..);obtain ⟨at0,atN⟩:=IG (by omega:0<=lb o at_)
     have hsl:rV (at_::ts) (1:Int).toNat (at_::ts).length=ts:=by
      unfold rV;rw [show (1:Int).toNat=1 from rfl,Tk,Qh,Pb (by simp)]
     rw [hsl]
     let J:List Ed->List Int×List Int->Prop:=λpre s=>A7 N l many (i:Int) out s.1/\(∀ a ∈ s.2,lb s.1 a=many)/\lb s.1 at_=many/\(∀ u,lb s.1 u=many->u ∉ s.2->u≠at_->∀ v,Jx l u v->0<=lb s.1 v) /\
      (∀ e ∈ pre,(e.a0=at_->0<=lb s.1 e.a1)/\(e.a1=at_->0<=lb s.1 e.a0))/\2*rl s.1+s.2.length<=2*rl o+ts.length
     have push:∀ (pre:List Ed) (e:Ed) (b td:List Int) (q:Int) (nn:List Int×List Int->Option (List Int)),e ∈ l->J pre (b,td)->Jx l at_ q->0<=q->q<N->((e.a0=at_/\e.a1=q)\/(e.a1=at_/\e.a0=q)) ->
       (∀ s',J (pre++[e]) s'->Gd (nn s') (λr=>∃ many:Nat,Gb N l r many)) ->
       Gd (Sim.idx b q λy7689=>if decide (y7689<0) then (Sim.idx b q λy7694=>dG ((td.length+([q]).length)*8<=140737488355328) (dZ nn (b.set (q:Int).toNat many) (td++([q])))) else (dZ nn b td)) (λr=>∃ many:Nat,Gb N l r many):=by
      intro pre e b td q nn hel ⟨j1,j2,j3,j4,j5,j6⟩ hadj q0 qN hends hnn;simp only at j1 j2 j3 j4 j5 j6;have hbl:=j1.pt.len;have hql:q.toNat<b.length:=by omega
      have hget:b[q.toNat]? = some b[q.toNat]:=OU hql;have hlq:lb b q=b[q.toNat]:=IF q0 hql;have hno:rl o<=N:=by unfold rl; rw [<- hol]; exact Rx
      unfold dZ;refine Gd.ix q0 hget (Gd.ite (λh=>Gd.ix q0 hget (Gd.nd ?_ (hnn _ ?_))) (λh=>hnn _ ⟨j1,j2,j3,j4,λd hd=>?_,j6⟩))
      ·simp; omega
      ·have h1:b[q.toNat]<0:=by simpa using h
       have hlt:lb b q<0:=by omega
       have up:∀ {u:Int},0<=lb b u->0<=lb (b.set q.toNat many) u:=λ{u} hu=>A7.mono hbl h0 q0 qN hu;have hqs:lb (b.set q.toNat many) q=many:=by rw [wO q0 hql,O3 rfl]
       have same:∀ {u:Int},lb b u=many->lb (b.set q.toNat many) u=many:=λ{u} hu=>by
        rw [wO q0 hql]; split
        ·rfl
        ·exact hu
       refine ⟨j1.put hc h0 j3 hadj q0 qN hlt,λa ha=>?_,same j3,λu hu hnu hua v hv=>?_,λd hd=>?_,?_⟩
       ·rcases Pa.1 ha with ha | ha
        ·exact same (j2 a ha)
        ·simp at ha; subst ha; exact hqs
       ·simp only at hu hnu
        by_cases e2:u=q
        ·subst e2
         exact absurd (P1 _ (List.mem_singleton_self _)) hnu
        ·rw [wO q0 hql,O2 e2] at hu
         exact up (j4 u hu (λhm=>hnu (OW _ hm)) hua v hv)
       ·rcases Pa.1 hd with hd | hd
        ·obtain ⟨x1,x2⟩:=j5 d hd
         exact ⟨λhh=>up (x1 hh),λhh=>up (x2 hh)⟩
        ·simp at hd; subst hd
         have hat2:0<=lb (b.set q.toNat many) at_:=up (by omega)
         have hq2:0<=lb (b.set q.toNat many) q:=by omega
         rcases hends with ⟨x1,x2⟩ | ⟨x1,x2⟩
         ·exact ⟨λ_=>by rw [x2]; exact hq2,λ_=>by rw [x1]; exact hat2⟩
         ·exact ⟨λ_=>by rw [x1]; exact hat2,λ_=>by rw [x2]; exact hq2⟩
       ·have:=DF hql h1 h0
        simp only [Pg,PW];omega
      ·have h1:0<=b[q.toNat]:=by simpa using h
       rcases Pa.1 hd with hd | hd
       ·exact j5 d hd
       ·simp at hd; subst hd
        rcases hends with ⟨x1,x2⟩ | ⟨x1,x2⟩
        ·exact ⟨λ_=>by rw [x2]; simp only; omega,λ_=>by rw [x1]; simp only; omega⟩
        ·exact ⟨λ_=>by rw [x1]; simp only; omega,λ_=>by rw [x2]; simp only; omega⟩
     refine Gd.seen J ?_ ?_ _ ⟨hf,λa ha=>htd a (O5 _ ha),hat,λu hu hnu hua v hv=>hpr u hu (λhm=>(PH.1 hm).elim hua hnu) v hv,by simp,Pl (2*rl o+ts.length)⟩
     ·rintro k e ⟨b,td⟩ nn pre hpre hJ hnn
      obtain ⟨_,hel,_⟩:=uQ hpre;obtain ⟨e1,e2,e3,e4⟩:=hl e hel;have hw1:i64.wrap (e.a0+e.a1)=e.a0+e.a1:=bJ ⟨by omega,by omega⟩
      have hw2:i64.wrap (e.a0+e.a1-at_)=e.a0+e.a1-at_:=bJ ⟨by omega,by omega⟩
      unfold pO;rw [hw1,hw2];refine Gd.ite (λh=>by simp at h) (λ_=>Gd.ite (λh=>?_) (λh=>Gd.ite (λh2=>?_) (λh2=>?_)))
      ·have h:e.a0=at_:=by simpa using h
       have hq:e.a0+e.a1-at_=e.a1:=by omega
       rw [hq];exact push pre e b td _ nn hel hJ ⟨e,hel,.inl ⟨h,rfl⟩⟩ e3 e4 (.inl ⟨h,rfl⟩) hnn
      ·have h1:e.a0≠at_:=by simpa using h
       have h2:e.a1≠at_:=by simpa using h2
       obtain ⟨j1,j2,j3,j4,j5,j6⟩:=hJ;refine hnn _ ⟨j1,j2,j3,j4,λd hd=>?_,j6⟩;rcases Pa.1 hd with hd | hd
       ·exact j5 d hd
       ·simp at hd; subst hd
        exact ⟨λhh=>absurd hh h1,λhh=>absurd hh h2⟩
      ·have h2:e.a1=at_:=by simpa using h2
       have hq:e.a0+e.a1-at_=e.a0:=by omega
       rw [hq];exact push pre e b td _ nn hel hJ ⟨e,hel,.inr ⟨h2,rfl⟩⟩ e1 e2 (.inr ⟨h2,rfl⟩) hnn
     ·rintro ⟨b,td⟩ ⟨j1,j2,j3,j4,j5,j6⟩
      simp only at j1 j2 j3 j4 j5 j6;refine hn2 _ ⟨j1,j2,λu hu hnu v hv=>?_,by show 2*rl b+td.length<=2*N+1; omega⟩ (by simp only [O6]; omega)
      by_cases e:u=at_
      ·subst e
       obtain ⟨d,hd,hh | hh⟩:=hv
       ·have:=(j5 d hd).1 hh.1
        rw [hh.2] at this; exact this
       ·have:=(j5 d hd).2 hh.1
        rw [hh.2] at this; exact this
      ·exact j4 u hu hnu e v hv
    ·have htn:todo=[]:=by
      cases todo with
      | nil=>rfl
      | cons a ts=>simp at hze
     subst htn;unfold jE;rw [hwm];refine hn _ ⟨by omega,by show (0:Int)<=many+1; omega,by show many+1<=((i+1:Nat):Int); omega,hf.done hc h0 (λu hu v hv=>hpr u hu (by simp) v hv),λj hj=>?_⟩
     by_cases e:j=i
     ·subst e; show 0<=lb o (j:Int); rw [hf.st]; exact h0
     ·have h1:=hk j (by omega)
      show 0<=lb o (j:Int);rw [hf.uh _ h1]; exact h1
   ·simp only [PA] at ha
    subst ha;exact hf0.st
   ·exfalso
    rw [hset] at hu
    by_cases e:u=(i:Int)
    ·subst e; simp at hnu
    ·rw [O2 e] at hu
     have:=(hc.pt.lt h0 u).2;omega
   ·refine RS hbase ?_
    unfold fC; omega
 ·rintro i ⟨out,many⟩ ⟨hi,h0,hmi,hc,hk⟩
  simp only at h0 hmi hc hk;have hge:∀ u:Int,0<=u->u<N->0<=lb out u:=λu u0 uN=>by
   have:=hk u.toNat (by omega)
   rwa [show ((u.toNat:Nat):Int)=u by omega] at this
  refine Gd.ret ⟨many.toNat,hc.pt.len,λu u0 uN=>⟨hge u u0 uN,by have h1:=hge u u0 uN; have h2:=(hc.pt.lt h0 u).2; show lb out u<((many.toNat:Nat):Int); omega⟩,by omega,λu v u0 uN v0 vN=>⟨λe=>hc.N9 u v (hge u u0 uN) e,λe=>?_⟩,λc c0 c1=>?_⟩
  ·clear vN v0
   induction e with
   | refl=>rfl
   | snoc _ h ih=>
    rename_i p q _
    have ih:lb out u=lb out p:=ih;have hp:0<=lb out p:=by have:=hge u u0 uN; omega
    show lb out u=lb out q;rw [ih];exact (hc.cls p q h hp).symm
  ·obtain ⟨u,hu⟩:=hc.NK c c0 (by omega)
   obtain ⟨a,b⟩:=IG (by omega:0<=lb out u)
   exact ⟨u,a,by have:=hc.pt.len; omega,hu⟩
theorem Et (N:Nat) (hN:N<=24) (l:List Ed) (hl:CU N l) (hll:l.length<=64):Gd (iI N l) (λr=>r.2=0/\∃ many:Nat,Gb N l r.1 many):=by
 unfold iI;refine Gd.bind_eq (Bv N hN l hl hll) (Gd.ite (λh=>by simp at h) (λ_=>Gd.eC (EY N hN l hl hll) (λr hr=>Gd.ret ⟨rfl,hr⟩)))
theorem J7 (N:Nat) (hN:N<=24) (l:List Int) (hl:zq N l):∃ m:Nat,m<=N/\zq m l/\(∀ c:Nat,zq c l->m<=c) /\
  ∀ {R:Type} (body:Nat->Int->Int->(Int->Option R)->Option R) (hb:∀ k y n nx,body k y n nx=nx (max n (i64.wrap (y+1)))) (K:Int->Option R),dR body K 0 l 0=K (m:Int):=by
 have key:∀ (ys pre:List Int) (m:Nat),l=pre++ys->m<=N->zq m pre->(∀ c:Nat,zq c pre->m<=c)->∃ m2:Nat,m2<=N/\zq m2 l/\(∀ c:Nat,zq c l->m2<=c) /\
   ∀ {R:Type} (body:Nat->Int->Int->(Int->Option R)->Option R) (hb:∀ k y n nx,body k y n nx=nx (max n (i64.wrap (y+1)))) (K:Int->Option R) (i:Nat),dR body K i ys (m:Int)=K (m2:Int):=by
  intro ys
  induction ys with
  | nil=>
   intro pre m e hm hp hmin;rw [PE] at e; subst e
   exact ⟨m,hm,hp,hmin,λ_ _ _ _=>rfl⟩
  | cons y ys ih=>
   intro pre m e hm hp hmin;have hy:=hl y (by rw [e]; exact P1 _ (O0 ..))
   have hw:i64.wrap (y+1)=y+1:=bJ ⟨by omega,by omega⟩
   have hmx:max (m:Int) (y+1)=((max m (y+1).toNat:Nat):Int):=by omega
   obtain ⟨m2,h1,h2,h3,h4⟩:=ih (pre++[y]) (max m (y+1).toNat) (by rw [e]; simp) (by omega) (λa ha=>by
    rcases Pa.1 ha with ha | ha
    ·have:=hp a ha; omega
    ·simp at ha; subst ha; omega) (λc hc=>by
     have c1:=hmin c (λa ha=>hc a (OW _ ha));have c2:=hc y (P1 _ (List.mem_singleton_self _));omega)
   refine ⟨m2,h1,h2,h3,λ{R} body hb K i=>?_⟩;show body i y (m:Int) (λs=>dR body K (i+1) ys s)=_;rw [hb,hw,hmx];exact h4 body hb K (i+1)
 obtain ⟨m2,h1,h2,h3,h4⟩:=key l [] 0 rfl (by omega) (by intro a ha; simp at ha) (λc _=>by omega)
 exact ⟨m2,h1,h2,h3,λ{R} body hb K=>h4 body hb K 0⟩
def pos (n:Net) (s:BA):Nat:=((bA n.a_ s).getD 0).toNat
theorem SS {n:Net}{s:BA} (h:s ∈ n.a_):bA n.a_ s=some (pos n s:Int)/\pos n s<n.a_.length:=by
 obtain ⟨k,hk,hl,_⟩:=xO h;unfold pos;rw [hk];exact ⟨rfl,hl⟩
def HN (n:Net) (bus:List Int) (b:aO):Ed:=⟨bus.getD (pos n b.oS) 0,bus.getD (pos n b.To) 0⟩
theorem HO {n:Net} (hn:oG n) {bus:List Int}{m:Nat} (hbl:bus.length=n.a_.length) (hm:zq m bus):CU m (n.aG.map (HN n bus)):=λe he=>by
 obtain ⟨b,hb,rfl⟩:=PL.1 he;obtain ⟨h1,h2⟩:=hn.br b hb;have p1:=(SS h1).2;have p2:=(SS h2).2;have q:∀ k,k<bus.length->0<=bus.getD k 0/\bus.getD k 0<m:=λk hk=>by
  rw [Py,OU hk];exact hm _ (Pt hk)
 exact ⟨(q _ (by omega)).1,(q _ (by omega)).2,(q _ (by omega)).1,(q _ (by omega)).2⟩
theorem JT {n:Net} (hn:oG n) {bus:List Int} (hbus:nP n=some bus) (hbl:bus.length=n.a_.length) {m:Nat} (hm24:m<=24) (hm:zq m bus)
  (hmost:∀ {R:Type} (body:Nat->Int->Int->(Int->Option R)->Option R) (hb:∀ k y n nx,body k y n nx=nx (max n (i64.wrap (y+1)))) (K:Int->Option R),dR body K 0 bus 0=K (m:Int)):
  Gd (dN n) (λt=>t.px=bus/\∃ c:Nat,Gb m (n.aG.map (HN n bus)) t.bK c):=by
 have l3:=hn.l3;unfold dN;refine Gd.bind_eq hbus ?_;rw [hmost _ (λk y n nx=>by unfold rQ; rfl)]
 refine Gd.seen (λpre out=>out=pre.map (HN n bus)) ?_ ?_ _ rfl
 ·rintro i y out nn pre hpre rfl hnx
  obtain ⟨hpl,hyl,_⟩:=uQ hpre;obtain ⟨h1,h2⟩:=hn.br y hyl;obtain ⟨p1,p2⟩:=SS h1;obtain ⟨q1,q2⟩:=SS h2;have g:∀ k (hk:k<bus.length),bus[k]=bus.getD k 0:=λk hk=>by
   rw [Py,OU hk]; rfl
  unfold rR;refine Gd.bind_eq p1 (Gd.gA (by omega) (Gd.bind_eq q1 (Gd.gA (by omega) (Gd.nd ?_ (hnx _ ?_)))))
  ·simp only [QN,PW]; omega
  ·rw [Qj,g _ (by omega),g _ (by omega)]; rfl
 ·rintro out rfl
  exact Gd.eC (Et m hm24 _ (HO hn hbl hm) (by simp; omega)) (λr ⟨_,hr⟩=>Gd.ret ⟨rfl,hr⟩)
section
variable {ν:Type}
def IB (l:List (Int×ν)) (k:Int):Option ν:=(l.find? (λp=>p.1=k)).map (·.2)
theorem ES (l:List (Int×ν)) (k:Int):qK l k=IB l k:=by
 unfold qK IB;have:∀ (l:List (Int×ν)) (i:Nat),(vo l k i).map (·.2)=(l.find? (λp=>p.1=k)).map (·.2):=by
  intro l
  induction l with
  | nil=>intro i; rfl
  | cons p l ih=>
   obtain ⟨a,v⟩:=p;intro i;simp only [vo,List.find?_cons]
   by_cases e:a=k
   ·simp [e]
   ·simp only [e,Qw,Tg]; exact ih (i+1)
 exact this l 0
theorem IL {l:List (Int×ν)}{k:Int}:∀ {i j:Nat}{v:ν},vo l k i=some (j,v)->∃ q,j=i+q/\l[q]? = some (k,v):=by
 induction l with
 | nil=>intro i j v h; simp [vo] at h
 | cons p l ih=>
  obtain ⟨a,u⟩:=p;intro i j v h;simp only [vo] at h
  split at h
  ·rename_i e
   simp only [Pf,Ra] at h;obtain ⟨rfl,rfl⟩:=h;exact ⟨0,rfl,by rw [e]; rfl⟩
  ·obtain ⟨q,rfl,h2⟩:=ih h
   exact ⟨q+1,by omega,h2⟩
theorem IK {l:List (Int×ν)}{k:Int}:∀ {i:Nat},vo l k i=none->∀ p ∈ l,p.1≠k:=by
 induction l with
 | nil=>intro i _ p hp; cases hp
 | cons p l ih=>
  obtain ⟨a,u⟩:=p;intro i h;simp only [vo] at h
  split at h
  ·cases h
  ·rename_i e
   intro q hq;rcases PH.1 hq with rfl | hq
   ·exact e
   ·exact ih h q hq
def CP (l:List (Int×ν)):Prop:=(l.map (·.1)).Nodup
theorem CP.find {l:List (Int×ν)} (h:CP l) {k:Int}{v:ν}:qK l k=some v↔(k,v) ∈ l:=by
 rw [ES];unfold IB CP at *
 induction l with
 | nil=>simp
 | cons p l ih=>
  obtain ⟨a,u⟩:=p;simp only [RG,Sc] at h;rw [List.find?_cons]
  by_cases e:a=k
  ·subst e
   simp only [decide_true,Qo,Pf,PH,Ra,true_and];constructor
   ·intro h1; exact .inl h1.symm
   ·rintro (h1 | h1)
    ·exact h1.symm
    ·exact absurd (PL.2 ⟨_,h1,rfl⟩) h.1
  ·simp only [e,Tg,PH,Ra]
   rw [ih h.2];constructor
   ·exact λh1=>.inr h1
   ·rintro (⟨h1,_⟩ | h1)
    ·exact absurd h1.symm e
    ·exact h1
theorem CP.put {l:List (Int×ν)} (h:CP l) (k:Int) (v:ν):CP (ur l k v)/\∀ p,p ∈ ur l k v↔p=(k,v)\/(p ∈ l/\p.1≠k):=by
 unfold ur;cases hm:vo l k 0 with
 | none=>
  have hno:=IK hm;refine ⟨?_,λp=>?_⟩
  ·show ((l++[(k,v)]).map (·.1)).Nodup
   rw [Qj,PS];refine ⟨h,by simp,?_⟩
   intro a ha b hb;obtain ⟨p,hp,rfl⟩:=PL.1 ha;simp at hb;subst hb;exact hno p hp
  ·simp only [Pa,PA]
   constructor
   ·rintro (h1 | h1)
    ·exact .inr ⟨h1,hno p h1⟩
    ·exact .inl h1
   ·rintro (h1 | ⟨h1,_⟩)
    ·exact .inr h1
    ·exact .inl h1
 | some q=>
  obtain ⟨j,u⟩:=q;obtain ⟨i,rfl,hi⟩:=IL hm;obtain ⟨hil,hie⟩:=OY.1 hi;simp only [Pm];have hmap:(l.set i (k,v)).map (·.1)=l.map (·.1):=by
   rw [List.map_set];apply AX;rw [Ps,hi]; rfl
  refine ⟨by unfold CP; rw [hmap]; exact h,λp=>?_⟩
  have huniq:∀ (a:Nat) (x:Int×ν),l[a]? = some x->x.1=k->a=i:=λa x ha hx=>by
   obtain ⟨hal,hae⟩:=OY.1 ha;unfold CP at h;rw [List.nodup_iff_pairwise_ne,RZ] at h;rcases RX a i with hlt | heq | hgt
   ·exact (h a i (by simpa using hal) (by simpa using hil) hlt (by rw [QR,QR,hae,hie,hx])).elim
   ·exact heq
   ·exact (h i a (by simpa using hil) (by simpa using hal) hgt (by rw [QR,QR,hae,hie,hx])).elim
  constructor
  ·intro hp
   obtain ⟨a,ha,hae⟩:=Qb.1 hp;rw [TL] at hae
   split at hae
   ·exact .inl hae.symm
   ·rename_i hne
    have hal:a<l.length:=by simpa using ha
    refine .inr ⟨by rw [<- hae]; exact Pt hal,λhk=>?_⟩
    exact hne (huniq a p (by rw [OU hal,hae]) hk).symm
  ·rintro (rfl | ⟨hp,hk⟩)
   ·exact Qb.2 ⟨i,by simpa using hil,by simp⟩
   ·obtain ⟨a,ha,hae⟩:=Qb.1 hp
    have hne:i≠a:=λe=>by
     subst e;rw [hie] at hae;exact hk (by rw [<- hae])
    exact Qb.2 ⟨a,by simpa using ha,by rw [List.getElem_set_ne hne]; exact hae⟩
theorem CP.FF {l:List (Int×ν)} (h:CP l) (k k':Int) (v:ν):qK (ur l k v) k'=if k'=k then some v else qK l k':=by
 obtain ⟨h1,h2⟩:=h.put k v
 split
 ·rename_i e
  rw [h1.find,h2]; exact .inl (by rw [e])
 ·rename_i e
  cases hg:qK l k' with
  | some u=>
   rw [h1.find,h2];exact .inr ⟨h.find.1 hg,e⟩
  | none=>
   cases hg2:qK (ur l k v) k' with
   | none=>rfl
   | some u=>
    rcases (h2 _).1 (h1.find.1 hg2) with h3 | ⟨h3,_⟩
    ·exact absurd (Prod.mk.inj h3).1 e
    ·rw [h.find.2 h3] at hg; cases hg
theorem CP.nil:CP ([]:List (Int×ν)):=by unfold CP; simp
end
structure tN (n:Net) (t:aV):Prop where
 bl:t.px.length=n.a_.length
 Hv:t.bK.length<=24
 bi:zq t.bK.length t.px
 comp:∃ c:Nat,Gb t.bK.length (n.aG.map (HN n t.px)) t.bK c
theorem KA {n:Net} (hn:oG n):∃ t,dN n=some t/\tN n t:=by
 have g1:=hn.l1;obtain ⟨bus,hbus,hbl,hbin⟩:=HV n hn;obtain ⟨m,hm1,hmin,_,hmost⟩:=J7 n.a_.length hn.l1 bus hbin;obtain ⟨t,ht,htb,c,hc⟩:=JT hn hbus hbl (by omega) hmin hmost
 have hl:=hc.len;refine ⟨t,ht,⟨by rw [htb]; exact hbl,by omega,by rw [htb,hl]; exact hmin,c,?_⟩⟩
 rw [htb,hl];exact hc
def fr (isl:List Int):List Nat:=(List.range isl.length).filter (λi=>(List.range i).any (λj=>decide (isl[j]? = isl[i]?)))
theorem EG {isl:List Int}{i:Nat}:i ∈ fr isl↔i<isl.length/\∃ j:Nat,j<i/\isl[j]? = isl[i]? := by
 unfold fr;simp
theorem Iq (isl:List Int):(fr isl).Nodup:=List.Pairwise.filter _ List.nodup_range
theorem Cf {isl:List Int} (h:isl.length<=24):(fr isl).length<=23:=by
 have h1:(fr isl).length<=((List.range isl.length).filter (λi=>decide (0<i))).length:=by
  unfold fr;rw [<- List.countP_eq_length_filter,<- List.countP_eq_length_filter];refine List.countP_mono_left (λi _ hi=>?_);simp at hi;obtain ⟨j,hj,_⟩:=hi;simp; omega
 have h2:∀ m,((List.range m).filter (λi=>decide (0<i))).length<=m-1:=by
  intro m
  induction m with
  | zero=>simp
  | succ m ih=>
   rw [Sd,Ry,Pg];cases m with
   | zero=>simp
   | succ m=>simp at ih ⊢; omega
 have:=h2 isl.length;omega
def A6 (isl:List Int) (i:Nat):Nat:=(fr isl).getD i 0
theorem Cd {isl:List Int}{i:Nat} (h:i<(fr isl).length):(fr isl)[i]? = some (A6 isl i):=by
 unfold A6;rw [Py,OU h]; rfl
theorem Ce {isl:List Int}{i:Nat} (h:i<(fr isl).length):A6 isl i ∈ fr isl:=O7 (Cd h)
theorem yf {isl:List Int}{i j:Nat} (hi:i<(fr isl).length) (hj:j<(fr isl).length) (e:A6 isl i=A6 isl j):i=j:=by
 have a:=Cd hi;have b:=Cd hj;rw [e] at a;have nd:=Iq isl;obtain ⟨_,ha⟩:=OY.1 a;obtain ⟨_,hb⟩:=OY.1 b;exact (List.getElem_inj nd).1 (ha.trans hb.symm)
theorem MK (isl:List Int):(fr isl).map (λx:Nat=>(x:Int))=(List.range (fr isl).length).map (λi=>(A6 isl i:Int)):=by
 apply QD;intro i;rw [Ps,Ps]
 by_cases h:i<(fr isl).length
 ·rw [Cd h,QU h]; rfl
 ·rw [PV (by omega),PV (by simp; omega)]; rfl
def Fz (n:Net) (bus:List Int) (b:aO):Rat×Nat×Nat:=(((b.X*b.A5:Int):Rat),(HN n bus b).a0.toNat,(HN n bus b).a1.toNat)
def zc (n:Net) (bus:List Int):List (Rat×Nat×Nat):=n.aG.map (Fz n bus)
structure Nz (b:aO):Prop where
 x:1<=b.X/\b.X<=10000
 t:500<=b.A5/\b.A5<=1500
 s:-1000<=b.Shift/\b.Shift<=1000
 l:0<=b.sK/\b.sK<=100000
theorem Gr {n:Net} (h:oA n) {b:aO} (hb:b ∈ n.aG):Nz b:=by
 obtain ⟨_,_,_,_,h5⟩:=h.vb b hb;unfold gX at h5
 split at h5
 ·omega
 ·rename_i h6
  simp [bE] at h6;exact ⟨by omega,by omega,by omega,by omega⟩
theorem Nz.q {b:aO} (h:Nz b):500<=b.X*b.A5/\b.X*b.A5<=15000000:=by
 have h1:=h.x; have h2:=h.t
 have a:1*500<=b.X*b.A5:=Int.mul_le_mul h1.1 h2.1 (by omega) (by omega)
 have c:b.X*b.A5<=10000*1500:=Int.mul_le_mul h1.2 h2.2 (by omega) (by omega)
 omega
structure Nr (N:Nat) (l:List (Rat×Nat×Nat)):Prop where
 ll:l.length<=24
 el:∀ e ∈ l,e.2.1<N/\e.2.2<N
 q:∀ e ∈ l,∃ z:Int,e.1=(z:Rat)/\500<=z/\z<=15000000
theorem Af {n:Net} (h:oA n) (hn:oG n) {t:aV} (ht:tN n t):Nr t.bK.length (zc n t.px):=by
 refine ⟨by unfold zc; rw [QN]; exact h.l3,λe he=>?_,λe he=>?_⟩
 ·obtain ⟨b,hb,rfl⟩:=PL.1 he
  have:=HO hn ht.bl ht.bi (HN n t.px b) (PL.2 ⟨b,hb,rfl⟩);show (HN n t.px b).a0.toNat<_/\(HN n t.px b).a1.toNat<_;omega
 ·obtain ⟨b,hb,rfl⟩:=PL.1 he
  exact ⟨_,rfl,(Gr h hb).q.1,(Gr h hb).q.2⟩
theorem yv {N:Nat}{l:List (Rat×Nat×Nat)} (h:Nr N l) {e:Rat×Nat×Nat} (he:e ∈ l):tx e.1/\500<=e.1/\e.1<=15000000:=by
 obtain ⟨z,hz,h1,h2⟩:=h.q e he;have a:=Ul.2 h1;have b:=Ul.2 h2;rw [<- hz] at a b;exact ⟨⟨z,hz⟩,a,b⟩
abbrev tq:Rat:=((1000000:Int):Rat)
abbrev JZ (F:Nat->Nat) (l:List (Rat×Nat×Nat)):Mt:=gE ((l.map (xp tq)).map (mK F))
theorem Jl:0<tq:=by
 have:((0:Int):Rat)<((1000000:Int):Rat):=Rat.intCast_lt_intCast.2 (by decide)
 simpa using this
theorem I0 {a:Nat}{c:Rat} (h0:0<=c) (h:c<=(((2 ^ a:Nat):Int):Rat)):∀ k:Nat,0<=pr k (λ_=>c)/\pr k (λ_=>c)<=(((2 ^ (a*k):Nat):Int):Rat)
 | 0=>by
  refine ⟨by show (0:Rat)<=1; decide,?_⟩
  show (1:Rat)<=_;rw [T8,Uf];exact Uo
 | k+1=>by
  obtain ⟨h1,h2⟩:=I0 h0 h k;refine ⟨Us h1 h0,?_⟩;show pr k (λ_=>c)*c<=_;have e:a*(k+1)=a*k+a:=Nat.mul_succ a k;rw [e,T9,PO,Um];exact pL h2 h h1 h0
theorem L_ {a b:Nat} (h:a<=32*b):(((2 ^ a:Nat):Int):Rat)<=wq b:=by
 unfold wq;rw [zK];have:2 ^ a<=2 ^ (32*b):=Ua (by decide) h
 exact Ul.2 (by omega)
theorem Ln {a c:Nat}{x:Rat} (h0:0<=x) (h:x<=(((2 ^ a:Nat):Int):Rat)) (k:Nat) (hk:a*k<=32*c):pr k (λ_=>x)<=wq c:=
 Up (I0 h0 h k).2 (L_ hk)
theorem Fw {N:Nat}{l:List (Rat×Nat×Nat)} (h:Nr N l):1<=uV l/\uV l<=wq 18:=by
 have h1:=h.ll;refine ⟨zU (λe he=>by have:=yv h he; grind),?_⟩
 refine Rat.le_trans (Fv (q:=15000000) (λe he=>by have:=yv h he; constructor <;> grind)) (Ln (a:=24) (by decide) ?_ l.length (by omega))
 have:((15000000:Int):Rat)<=(((2 ^ 24:Nat):Int):Rat):=Ul.2 (by decide)
 exact this
theorem DR {u:Nat}:∀ {l:List (Rat×Nat×Nat)},(∀ e ∈ l,1<=e.1)->tk u l<=uV l
 | [],_=>Uo
 | e::l,h=>by
  have ih:=DR (u:=u) (l:=l) (λe he=>h e (List.mem_cons_of_mem _ he));have h1:=h e (List.mem_cons_self ..);have h2:=yz (u:=u) (l:=l) (λe he=>h e (List.mem_cons_of_mem _ he));unfold tk uV;refine pL ?_ ih ?_ (by grind)
  ·split <;> grind
  ·split <;> grind
theorem F_ {N:Nat}:∀ {l:List (Rat×Nat×Nat)},(∀ e ∈ l,500<=e.1)->0<=A2 (l.map (xp tq))/\A2 (l.map (xp tq))<=2000*(((l.length:Nat):Int):Rat)
 | [],_=>⟨Uo,by
  show (0:Rat)<=2000*((((0:Nat):Int)):Rat);simp⟩
 | e::l,h=>by
  obtain ⟨a,b⟩:=F_ (N:=N) (l:=l) (λe he=>h e (List.mem_cons_of_mem _ he));have h1:=h e (List.mem_cons_self ..);have e1:A2 ((e::l).map (xp tq))=tq / e.1+A2 (l.map (xp tq)):=rfl;have p:0<e.1⁻¹:=Rat.inv_pos.2 (by grind)
  have i1:=Rat.mul_inv_cancel e.1 (by grind)
  have i2:=Rat.mul_le_mul_of_nonneg_right h1 (Rat.le_of_lt p);have t1:tq=1000000:=rfl;have e2:(((e::l).length:Nat):Int)=(((l.length:Nat):Int))+1:=by simp
  rw [e1,Rat.div_def,t1,e2,Rat.intCast_add,Rat.intCast_one];constructor <;> grind
theorem EU {N n:Nat}{F:Nat->Nat}{l:List (Rat×Nat×Nat)} (h:Nr N l) (hn:n<=23) (hF:∀ i j,i<n->j<n->F i=F j->i=j):
  Nb n (JZ F l) (λi=>tk (F i) l) (λi c=>tk (F i) l*gE ((l.map (xp tq)).map (oC F)) i c+dl i c) (λi=>tk (F i) l*(4*A2 (l.map (xp tq)))+1):=by
 have h1:=h.ll;have hq1:∀ e ∈ l,1<=e.1:=λe he=>by have:=yv h he; grind
 have ws:=F_ (N:=N) (λe he=>(yv h he).2.1);have hlc:(((l.length:Nat):Int):Rat)<=24:=Ul.2 (show ((l.length:Nat):Int)<=24 by omega)
 refine ⟨Ka hF ⟨_,rfl⟩ Jl (λe he=>⟨(yv h he).1,hq1 e he⟩),?_,λi _=>Rat.le_trans (DR hq1) (Fw h).2⟩;have a:=MT (n:=n) (F:=F) (l:=l) (s:=4*A2 (l.map (xp tq))) (w:=192000) hF hq1 (by grind) (by grind)
 have b:=Fw h;have c:pr n (λ_=>(192000:Rat)+1)<=wq 13:=Ln (a:=18) (by grind) (by
  have:((192001:Int):Rat)<=(((2 ^ 18:Nat):Int):Rat):=Ul.2 (by decide)
  have e:(192000:Rat)+1=((192001:Int):Rat):=by grind
  rw [e]; exact this) n (by omega)
 have d:uV l*uV l<=wq 36:=by
  rw [<- uS 18 18];exact pL b.2 b.2 (by grind) (by grind)
 have c0:0<=pr n (λ_=>(192000:Rat)+1):=me (λ_ _=>by grind)
 have f:uV l*uV l*pr n (λ_=>(192000:Rat)+1)<=wq 49:=by
  rw [<- uS 36 13];exact pL d c (Rat.mul_nonneg (by grind) (by grind)) c0
 exact Up a (Up f (xc (by omega)))
theorem Ip (isl:List Int):∀ i:Nat,∃ r,r<=i/\isl[r]? = isl[i]? /\ ∀ j,j<r->isl[j]? ≠ isl[i]? := by
 intro i
 induction i using Nat.strongRecOn with
 | ind i ih=>
  by_cases h:∃ j,j<i/\isl[j]? = isl[i]?
  ·obtain ⟨j,hj,e⟩:=h
   obtain ⟨r,h1,h2,h3⟩:=ih j hj;exact ⟨r,by omega,h2.trans e,λq hq hh=>h3 q hq (hh.trans e.symm)⟩
  ·exact ⟨i,Pl _,rfl,λj hj e=>h ⟨j,hj,e⟩⟩
theorem JN {n:Net}{t:aV}{u v:Int} (h:wv (n.aG.map (HN n t.px)) u v):Lk ((zc n t.px).map (xp tq)) u.toNat v.toNat:=by
 induction h with
 | refl=>exact .refl
 | snoc _ ha ih=>
  obtain ⟨e,he,hh⟩:=ha;obtain ⟨b,hb,rfl⟩:=PL.1 he;have hm:xp tq (Fz n t.px b) ∈ (zc n t.px).map (xp tq):=PL.2 ⟨_,PL.2 ⟨b,hb,rfl⟩,rfl⟩;rcases hh with ⟨rfl,rfl⟩ | ⟨rfl,rfl⟩
  ·exact .step ih (.inl hm)
  ·exact .step ih (.inr hm)
theorem EV {n:Net} (h:oA n) (hn:oG n) {t:aV} (ht:tN n t):Pd (fr t.bK).length (JZ (A6 t.bK) (zc n t.px)):=by
 have hE:=Af h hn ht;obtain ⟨c,hc⟩:=ht.comp;refine MW (λe he=>?_) (λi j hi hj e=>yf hi hj e) (λi hi=>?_)
 ·obtain ⟨d,hd,rfl⟩:=PL.1 he
  have:=yv hE hd;show 0<tq / d.1;rw [Rat.div_def];exact Rat.mul_pos Jl (Rat.inv_pos.2 (by grind))
 ·have hm:=EG.1 (Ce hi)
  obtain ⟨r,h1,h2,h3⟩:=Ip t.bK (A6 t.bK i);refine ⟨r,λj hj e=>?_,?_⟩
  ·have hm2:=EG.1 (Ce hj)
   rw [e] at hm2;obtain ⟨_,q,hq,hqe⟩:=hm2;exact h3 q hq (hqe.trans h2)
  ·have hl:∀ (a:Nat),a<t.bK.length->lb t.bK (a:Int)=t.bK[a]! := λa ha=>by
    rw [Au ha]; simp [ha]
   have hcon:wv (n.aG.map (HN n t.px)) ((A6 t.bK i:Nat):Int) ((r:Nat):Int):=by
    refine (hc.iff _ _ (by omega) (by omega) (by omega) (by omega)).1 ?_
    have hr:r<t.bK.length:=by omega
    rw [Au hm.1,Au hr];rw [OU hr,OU hm.1] at h2;exact (OZ h2).symm
   have:=JN hcon;simpa using this
structure Md (n:Net) (t:aV) (M:aW):Prop where
 top:M.uF=t
 md:Hu M (fr t.bK).length t.bK.length (A6 t.bK) (zc n t.px) tq
 B4:M.C.length=n.aG.length
 c:∀ (k:Nat) (y:LR),M.C[k]? = some y->∃ b,n.aG[k]? = some b/\ou y/\RL y 4/\rv y=(tq / ((b.X*b.A5:Int):Rat))*(((0-b.Shift:Int):Rat) / ((1000:Int):Rat))
 inv:K7 M.ql (fr t.bK).length (JZ (A6 t.bK) (zc n t.px))
theorem F8 {α β:Type}{P:α->β->Prop}{l:List α}{m:List β} (hl:l.length=m.length) (h:∀ (k:Nat) (y:α),l[k]? = some y->∃ b,m[k]? = some b/\P y b) {x:α}{b:β} (hx:P x b):∀ (k:Nat) (y:α),(l++[x])[k]? = some y->∃ b',(m++[b])[k]? = some b'/\P y b':=by
 intro k y hk
 by_cases e:k<l.length
 ·rw [Qa e] at hk
  obtain ⟨b',h1,h2⟩:=h k y hk;exact ⟨b',by rw [Qa (by omega)]; exact h1,h2⟩
 ·have hk2:=(OY.1 hk).1
  rw [Pg,PW] at hk2;obtain rfl:k=l.length:=by omega
  rw [Pz (Pl _),Qf] at hk;obtain rfl:=OZ hk;exact ⟨b,by rw [hl,Pz (Pl _),Qf]; rfl,hx⟩
theorem El {n:Net} (hn:oG n) {t:aV} (ht:tN n t) {k:Nat} (hk:k<n.a_.length):∃ v:Nat,t.px[k]? = some (v:Int)/\v=(t.px.getD k 0).toNat:=by
 have hkl:k<t.px.length:=by rw [ht.bl]; exact hk
 have h1:=ht.bi _ (Pt hkl);refine ⟨(t.px[k]).toNat,?_,?_⟩
 ·rw [OU hkl]; congr 1; omega
 ·rw [Py,OU hkl]; rfl
theorem DC {n:Net} (h:oA n) (hn:oG n) {t:aV} (hg:dN n=some t) (ht:tN n t):Gd (tI n) (λo=>∃ M,o=some M/\Md n t M):=by
 have hE:=Af h hn ht;have hll:=h.l3;have hN:=ht.Hv;unfold tI;refine Gd.bind_eq hg ?_;refine Gd.dR (λk ys s=>∃ pre,n.aG=pre++ys/\pre.length=k/\s.1=pre.map (λb=>((Fz n t.px b).2.1:Int))/\s.2.1=pre.map (λb=>((Fz n t.px b).2.2:Int))/\s.2.2.1.length=pre.length/\s.2.2.2.length=pre.length /\
  (∀ (k:Nat) (y:LR),s.2.2.1[k]? = some y->∃ b,pre[k]? = some b/\(ou y/\RL y 2/\rv y=tq / ((b.X*b.A5:Int):Rat))) /\
  (∀ (k:Nat) (y:LR),s.2.2.2[k]? = some y->∃ b,pre[k]? = some b/\(ou y/\RL y 4/\rv y=(tq / ((b.X*b.A5:Int):Rat))*(((0-b.Shift:Int):Rat) / ((1000:Int):Rat))))) ?_ ?_ n.aG 0 _
  ⟨[],rfl,rfl,rfl,rfl,rfl,rfl,λk y hy=>by simp at hy,λk y hy=>by simp at hy⟩
 ·rintro k b ys ⟨l1,l2,l3,l4⟩ nx ⟨pre,hp,hpk,e1,e2,e3,e4,hB,hC⟩ hnx
  simp only at e1 e2 e3 e4 hB hC;subst e1 e2;have hb:b ∈ n.aG:=by rw [hp]; simp
  have hkl:pre.length<24:=by
   have:n.aG.length=pre.length+(ys.length+1):=by rw [hp]; simp
   omega
  obtain ⟨_,m1,m2,_⟩:=h.vb b hb;obtain ⟨p1,p2⟩:=SS m1;obtain ⟨q1,q2⟩:=SS m2;obtain ⟨u,u1,u2⟩:=El hn ht p2;obtain ⟨v,v1,v2⟩:=El hn ht q2;have V:=Gr h hb;have hq:=V.q;have hx:=V.x; have htp:=V.t; have hs:=V.s
  unfold vx;have w1:i64.wrap (b.X*b.A5)=b.X*b.A5:=bJ ⟨by omega,by omega⟩
  have w2:i64.wrap (0-b.Shift)=0-b.Shift:=bJ ⟨by omega,by omega⟩
  rw [w1,w2];refine Gd.bind_eq p1 (Gd.ix (by omega) (by rw [OX]; exact u1) (Gd.nd (by simp; omega) (Gd.bind_eq q1 (Gd.ix (by omega) (by rw [OX]; exact v1) (Gd.nd (by simp; omega) ?_)))))
  refine Gd.eC (FE (by omega) (by omega) (by omega)) (λs hs'=>Gd.nd (by simp; omega) (Gd.eC (FE (by omega) (by omega) (by omega)) (λf hf=>Gd.eC (yx hs'.1 hf.1 hs'.2.1 hf.2.1 (by omega)) (λc hc=>Gd.nd (by simp; omega) ?_))))
  refine hnx _ ⟨pre++[b],by rw [hp]; simp,by simp [hpk],?_,?_,by simp [e3],by simp [e4],?_,?_⟩
  ·simp only [Qj,RG,Td]
   rw [u2]; rfl
  ·simp only [Qj,RG,Td]
   rw [v2]; rfl
  ·exact F8 e3 hB ⟨hs'.1,hs'.2.1,hs'.2.2⟩
  ·exact F8 e4 hC ⟨hc.1,hc.2.1,by rw [hc.2.2,hs'.2.2,hf.2.2]⟩
 ·rintro k ⟨l1,l2,l3,l4⟩ ⟨pre,hp,hpk,e1,e2,e3,e4,hB,hC⟩
  simp only at e1 e2 e3 e4 hB hC;rw [PE] at hp;subst hp;subst e1 e2;refine Gd.dR (λi ys s=>∃ pre,t.bK=pre++ys/\pre.length=i/\CP s.1/\(∀ k:Int,(qK s.1 k).getD false=true↔k ∈ pre) /\
   s.2=((List.range i).filter (λi=>(List.range i).any (λj=>decide (t.bK[j]? = t.bK[i]?)))).map (λx:Nat=>(x:Int))) ?_ ?_ t.bK 0 _
   ⟨[],rfl,rfl,CP.nil,λk=>by simp [qK,vo],rfl⟩
  ·rintro i y ys ⟨seen,free⟩ nx ⟨pre,hp,hpi,hk,hs,e⟩ hnx
   simp only at hk hs e;subst e;have hi:t.bK[i]? = some y:=by rw [hp,Pz (by omega),hpi,Qf]; rfl
   have hil:=(OY.1 hi).1;have hmem:y ∈ pre↔(List.range i).any (λj=>decide (t.bK[j]? = t.bK[i]?))=true:=by
    rw [List.any_eq_true];constructor
    ·intro hy
     obtain ⟨j,hj,he⟩:=Qb.1 hy;refine ⟨j,PR.2 (by omega),?_⟩
     rw [hi,hp,Qa hj,OU hj,he]; simp
    ·rintro ⟨j,hj,he⟩
     have hj:=PR.1 hj;have he:=O1 he;rw [hi,hp,Qa (by omega)] at he
     exact O7 he
   have hfl:((List.range i).filter (λi=>(List.range i).any (λj=>decide (t.bK[j]? = t.bK[i]?)))).length<=i:=by
    have:=TP (λi=>(List.range i).any (λj=>decide (t.bK[j]? = t.bK[i]?))) (List.range i);simpa using this
   have hput:CP (ur seen y true)/\∀ k:Int,(qK (ur seen y true) k).getD false=true↔k ∈ pre++[y]:=by
    refine ⟨(hk.put y true).1,λk=>?_⟩;rw [hk.FF,Pa,PA]
    split
    ·rename_i e; simp [e]
    ·rename_i e; rw [hs k]; simp [e]
   unfold vy;refine Gd.ite (λhc=>?_) (λhc=>?_)
   ·have hc2:=hmem.1 ((hs y).1 hc)
    unfold qp;refine Gd.nd (by simp only [QN,PW]; omega) (hnx _ ⟨pre++[y],by rw [hp]; simp,by simp [hpi],hput.1,hput.2,?_⟩)
    simp only;rw [Sd,Ry,Qj,TK,O3 hc2]
    rfl
   ·have hc2:¬ (List.range i).any (λj=>decide (t.bK[j]? = t.bK[i]?))=true:=λhh=>by
     have:=(hs y).2 (hmem.2 hh);rw [this] at hc; cases hc
    unfold qp;refine hnx _ ⟨pre++[y],by rw [hp]; simp,by simp [hpi],hput.1,hput.2,?_⟩
    simp only;rw [Sd,Ry,Qj,TK,O2 hc2];simp
  ·rintro i ⟨seen,free⟩ ⟨pre,hp,hpi,hk,hs,e⟩
   simp only at e;rw [PE] at hp;subst e;have hi:i=t.bK.length:=by rw [<- hpi,<- hp]
   subst hi;have hmd:Hu (aW.mk t (n.aG.map (λb=>((Fz n t.px b).2.1:Int))) (n.aG.map (λb=>((Fz n t.px b).2.2:Int))) l3 l4 ((fr t.bK).map (λx:Nat=>(x:Int))) []) (fr t.bK).length t.bK.length (A6 t.bK) (zc n t.px) tq:=by
    refine ⟨Cf hN,MK _,λi j hi hj e=>yf hi hj e,λi hi=>(EG.1 (Ce hi)).1,hN,hE.ll,hE.el,?_,?_,by show l3.length=_; rw [e3]; simp [zc],λk y hy=>?_⟩
    ·simp [zc]
    ·simp [zc]
    ·obtain ⟨b,hb,y1,y2,y3⟩:=hB k y hy
     exact ⟨Fz n t.px b,by unfold zc; rw [Ps,hb]; rfl,y1,y2,y3⟩
   have hinv:=GR hmd (EV h hn ht) (EU hE (Cf hN) (λi j hi hj e=>yf hi hj e));refine Gd.eC hinv ?_;rintro _ ⟨rows,rfl,hI⟩;refine Gd.ret ⟨_,rfl,⟨rfl,?_,e4,hC,hI⟩⟩;exact ⟨hmd.hn,hmd.free,hmd.inj,hmd.lt,hmd.hN,hmd.ll,hmd.el,hmd.fr,hmd.to,hmd.bl,hmd.b⟩
def NL (l:List LR) (N:Nat) (P:Nat->LR->Prop):Prop:=l.length=N/\∀ (b:Nat) (y:LR),l[b]? = some y->P b y
theorem NL.mono {l:List LR}{N:Nat}{P P':Nat->LR->Prop} (h:NL l N P) (k:∀ b y,b<N->P b y->P' b y):NL l N P':=
 ⟨h.1,λb y hb=>k b y (by rw [<- h.1]; exact (OY.1 hb).1) (h.2 b y hb)⟩
theorem NL.set {l:List LR}{N:Nat}{P:Nat->LR->Prop} (h:NL l N P) {b:Nat}{y:LR} (hy:P b y):NL (l.set b y) N P:=by
 refine ⟨by rw [Qg]; exact h.1,λb' y' hb=>?_⟩
 by_cases e:b=b'
 ·subst e
  have hl:b<l.length:=by
   have:=(OY.1 hb).1
   rwa [Qg] at this
  rw [Pq hl] at hb;obtain rfl:=OZ hb;exact hy
 ·rw [Pj e] at hb
  exact h.2 b' y' hb
theorem NL.snoc {l:List LR}{N:Nat}{P:Nat->LR->Prop} (h:NL l N P) {y:LR} (hy:P N y):NL (l++[y]) (N+1) P:=by
 refine ⟨by simp [h.1],λb y' hb=>?_⟩
 by_cases e:b<l.length
 ·rw [Qa e] at hb
  exact h.2 b y' hb
 ·have hk2:=(OY.1 hb).1
  rw [Pg,PW] at hk2;obtain rfl:b=l.length:=by omega
  rw [Pz (Pl _),Qf] at hb;obtain rfl:=OZ hb;rw [h.1]; exact hy
theorem NL.get {R:Type}{Q:R->Prop}{l:List LR}{N:Nat}{P:Nat->LR->Prop} (h:NL l N P) {b:Nat} (hb:b<N) {f:LR->Option R} (hk:∀ y,P b y->Gd (f y) Q):Gd (idx l (b:Int) f) Q:=by
 have hl:b<l.length:=by rw [h.1]; exact hb
 exact Gd.gA hl (hk _ (h.2 b _ (OU hl)))
theorem Ky {n:Net}{t:aV}{M:aW} (hM:Md n t M) (ht:tN n t) (hn:oG n) {p:List Int} (hp:p.length=n.a_.length) (hb:∀ z ∈ p,-100000<=z/\z<=100000):
  Gd (nQ M p) (λr=>NL r t.bK.length (λ_ y=>ou y/\RL y 2/\∃ z:Int,rv y=(z:Rat)/\-2400000<=z/\z<=2400000)):=by
 have h24:=hn.l1;have hN:=ht.Hv;unfold nQ eD;rw [hM.top];refine Gd.nd (by omega) ?_
 rw [OX];refine Gd.dR (λi ys s=>∃ pre,p=pre++ys/\pre.length=i/\s.length=t.bK.length/\∀ z ∈ s,-100000*(i:Int)<=z/\z<=100000*(i:Int)) ?_ ?_ p 0 _ ⟨[],rfl,rfl,by simp,λz hz=>by
  have:=TJ hz;omega⟩
 ·rintro i y ys s nx ⟨pre,hpp,hpi,hsl,hs⟩ hnx
  have hi:i<n.a_.length:=by rw [<- hp,hpp]; simp; omega
  have hy:=hb y (by rw [hpp]; simp)
  obtain ⟨v,v1,v2⟩:=El hn ht hi;have hv:v<t.bK.length:=by
   have:=ht.bi _ (O7 v1);omega
  have hvs:v<s.length:=by omega
  unfold pZ;rw [hM.top];refine Gd.ix (by omega) (by rw [OX]; exact v1) (Gd.gA hvs (Gd.gA hvs ?_))
  have hz:=hs _ (Pt hvs);have hw:i64.wrap (s[v]+y)=s[v]+y:=bJ ⟨by omega,by omega⟩
  rw [hw,OX];refine hnx _ ⟨pre++[y],by rw [hpp]; simp,by simp [hpi],by rw [Qg]; exact hsl,λz hz'=>?_⟩
  rcases TS hz' with h1 | h1
  ·have:=hs z h1; omega
  ·subst h1; omega
 ·rintro i s ⟨pre,hpp,hpi,hsl,hs⟩
  rw [PE] at hpp;have hil:i<=24:=by rw [<- hpi,<- hpp,hp]; exact h24
  refine Gd.dR (λk ys r=>∃ pre,s=pre++ys/\pre.length=k/\NL r k (λ_ y=>ou y/\RL y 2/\∃ z:Int,rv y=(z:Rat)/\-2400000<=z/\z<=2400000)) ?_ ?_ s 0 _ ⟨[],rfl,rfl,rfl,λb y hb=>by simp at hb⟩
  ·rintro k y ys r nx ⟨pre,hps,hpk,hr⟩ hnx
   have hy:=hs y (by rw [hps]; simp)
   have hkl:s.length=pre.length+(ys.length+1):=by rw [hps]; simp
   have hrl:=hr.1;unfold p_;refine Gd.eC (uj (by omega)) (λw hw=>Gd.nd (by simp; omega) (hnx _ ⟨pre++[y],by rw [hps]; simp,by simp [hpk],hr.snoc ⟨hw.1,hw.2.1,y,hw.2.2,by omega,by omega⟩⟩))
  ·rintro k r ⟨pre,hps,hpk,hr⟩
   rw [PE] at hps;have hkn:k=t.bK.length:=by rw [<- hpk,<- hps,hsl]
   subst hkn;exact Gd.ret hr
theorem LF {a b:List LR}{n W:Nat}{A B:Nat->Rat} (hn:n<=24) (hW:W<=6000) (ha:NL a n (λj y=>ou y/\RL y W/\rv y=A j)) (hb:NL b n (λj y=>ou y/\RL y W/\rv y=B j)):
  Gd (sR a b) (λr=>ou r/\rv r=sm n (λj=>A j*B j)):=by
 unfold sR;refine Gd.eC (uj (n:=0) (by omega)) (λz hz=>?_)
 rw [ha.1,OX];refine Gd.jN (λm k s=>k+m=n/\∃ r:LR,s=(r.N.minus,r.N.words,r.D.minus,r.D.words)/\ou r/\RL r (2+(2*W+1)*k)/\rv r=sm k (λj=>A j*B j)) ?_ ?_ n 0 _ ⟨by omega,z,rfl,hz.1,hz.2.1,by rw [hz.2.2]; rfl⟩
 ·rintro m k _ nx ⟨hk,r,rfl,hr,hrl,hv⟩ hnx
  have hkn:k<n:=by omega
  have hbig:(2*W+1)*k<=(2*W+1)*23:=T7 _ (by omega)
  have hsucc:(2*W+1)*(k+1)=(2*W+1)*k+(2*W+1):=Nat.mul_succ _ _;unfold tT;refine ha.get hkn (λy hy=>?_);have skip:A k*B k=0->Gd (lQ nx r.N.minus r.N.words r.D.minus r.D.words) (λr=>ou r/\rv r=sm n (λj=>A j*B j)):=λh0=>by
   unfold lQ;refine hnx _ ⟨by omega,r,rfl,hr,hrl.mono (by omega),?_⟩
   rw [hv];show _=sm k (λj=>A j*B j)+A k*B k;rw [h0]; grind
  rw [wZ hy.1,hy.2.2];refine Gd.ite (λh=>skip (by rw [of_decide_eq_true h]; grind)) (λ_=>hb.get hkn (λu hu=>?_))
  rw [wZ hu.1,hu.2.2];refine Gd.ite (λ_=>ha.get hkn (λy2 hy2=>hb.get hkn (λu2 hu2=>?_))) (λh=>skip (by
   have h1:decide (B k=0)=true:=by simpa using h
   rw [of_decide_eq_true h1]; grind))
  refine Gd.eC (yx hy2.1 hu2.1 hy2.2.1 hu2.2.1 (by omega)) (λc hc=>Gd.eC (vJ (a:=⟨⟨r.N.minus,r.N.words⟩,⟨r.D.minus,r.D.words⟩⟩) hr hc.1 hrl hc.2.1 (by omega)) (λd hd=>?_))
  unfold lQ;refine hnx _ ⟨by omega,d,rfl,hd.1,hd.2.1.mono (by omega),?_⟩
  rw [hd.2.2,hc.2.2,hy2.2.2,hu2.2.2];show rv r+_=sm k (λj=>A j*B j)+A k*B k;rw [hv]
 ·rintro k _ ⟨hk,r,rfl,hr,hrl,hv⟩
  obtain rfl:k=n:=by omega
  exact Gd.ret ⟨hr,hv⟩
theorem JK {q s:Int} (hq:500<=q) (hs:-1000<=s/\s<=1000):-2000<=(tq / (q:Rat))*((s:Rat) / ((1000:Int):Rat))/\(tq / (q:Rat))*((s:Rat) / ((1000:Int):Rat))<=2000/\(tq / (q:Rat))*((s:Rat) / ((1000:Int):Rat))=(((1000*s:Int):Rat)) / (q:Rat):=by
 have h1:((500:Int):Rat)<=(q:Rat):=Ul.2 hq;have h2:((-1000:Int):Rat)<=(s:Rat):=Ul.2 hs.1;have h3:(s:Rat)<=((1000:Int):Rat):=Ul.2 hs.2;have e1:((500:Int):Rat)=500:=rfl;have e2:((-1000:Int):Rat) = -1000:=by rw [Un]; rfl
 have e3:((1000:Int):Rat)=1000:=rfl;have e4:tq=1000000:=rfl;rw [e1] at h1; rw [e2] at h2; rw [e3] at h3 ⊢
 have p:0<((q:Rat))⁻¹:=Rat.inv_pos.2 (by grind)
 have i1:=Rat.mul_inv_cancel (q:Rat) (by grind)
 have i2:=Rat.mul_le_mul_of_nonneg_right h1 (Rat.le_of_lt p);have i3:(q:Rat)⁻¹<=1 / 500:=by grind
 have e5:(tq / (q:Rat))*((s:Rat) / 1000)=(1000*(s:Rat))*(q:Rat)⁻¹:=by rw [e4,Rat.div_def,Rat.div_def]; grind
 have m:=zS (x:=1000*(s:Rat)) (y:=(q:Rat)⁻¹) (a:=1000000) (b:=1 / 500) (by grind) (by grind) (by grind) i3
 refine ⟨by rw [e5]; grind,by rw [e5]; grind,?_⟩
 rw [e5,Um,e3,Uk]
def Lg (l:List (Rat×Nat×Nat)) (W:Nat) (C:Rat) (b:Nat) (y:LR):Prop:=ou y/\RL y W/\tx (tk b l*rv y)/\-C<=rv y/\rv y<=C
theorem Lg.mono {l:List (Rat×Nat×Nat)}{W W':Nat}{C C':Rat}{b:Nat}{y:LR} (h:Lg l W C b y) (hW:W<=W') (hC:C<=C'):Lg l W' C' b y:=
 ⟨h.1,h.2.1.mono hW,h.2.2.1,by have:=h.2.2.2.1; grind,by have:=h.2.2.2.2; grind⟩
theorem FG {a:Rat} (h:tx a):tx (-a):=by
 obtain ⟨z,rfl⟩:=h;exact ⟨-z,by rw [Un]⟩
theorem Lg.sub {l:List (Rat×Nat×Nat)}{W:Nat}{C:Rat}{b:Nat}{y c:LR} (h:Lg l W C b y) (hc:Lg l 4 2000 b c) (hW:W<=1000):Gd (iU y c) (Lg l (W+5) (C+2000) b):=by
 obtain ⟨a1,a2,a3,a4,a5⟩:=h;obtain ⟨c1,c2,c3,c4,c5⟩:=hc;refine (xb a1 c1 a2 c2 (by omega)).mono (λr hr=>⟨hr.1,hr.2.1.mono (by omega),?_,?_,?_⟩)
 ·rw [hr.2.2]
  have e:tk b l*(rv y-rv c)=tk b l*rv y+-(tk b l*rv c):=by grind
  rw [e]; exact yg a3 (FG c3)
 ·rw [hr.2.2]; grind
 ·rw [hr.2.2]; grind
theorem Lg.add {l:List (Rat×Nat×Nat)}{W:Nat}{C:Rat}{b:Nat}{y c:LR} (h:Lg l W C b y) (hc:Lg l 4 2000 b c) (hW:W<=1000):Gd (gJ y c) (Lg l (W+5) (C+2000) b):=by
 obtain ⟨a1,a2,a3,a4,a5⟩:=h;obtain ⟨c1,c2,c3,c4,c5⟩:=hc;refine (vJ a1 c1 a2 c2 (by omega)).mono (λr hr=>⟨hr.1,hr.2.1.mono (by omega),?_,?_,?_⟩)
 ·rw [hr.2.2]
  have e:tk b l*(rv y+rv c)=tk b l*rv y+tk b l*rv c:=by grind
  rw [e]; exact yg a3 c3
 ·rw [hr.2.2]; grind
 ·rw [hr.2.2]; grind
theorem IJ {n:Net}{t:aV}{M:aW} (hM:Md n t M) {k:Nat}{b:aO} (hb:n.aG[k]? = some b):
  M.oS[k]? = some ((Fz n t.px b).2.1:Int)/\M.To[k]? = some ((Fz n t.px b).2.2:Int)/\(zc n t.px)[k]? = some (Fz n t.px b):=by
 have e:(zc n t.px)[k]? = some (Fz n t.px b):=by unfold zc; rw [Ps,hb]; rfl
 refine ⟨?_,?_,e⟩
 ·rw [hM.md.fr]; exact B0 (λe:Rat×Nat×Nat=>(e.2.1:Int)) e
 ·rw [hM.md.to]; exact B0 (λe:Rat×Nat×Nat=>(e.2.2:Int)) e
theorem NH {n:Net}{t:aV}{M:aW} (h:oA n) (hn:oG n) (hM:Md n t M) (ht:tN n t) {k:Nat}{c:LR} (hc:M.C[k]? = some c):
  ∃ b,n.aG[k]? = some b/\Lg (zc n t.px) 4 2000 (Fz n t.px b).2.1 c/\Lg (zc n t.px) 4 2000 (Fz n t.px b).2.2 c:=by
 obtain ⟨b,hb,c1,c2,c3⟩:=hM.c k c hc;have V:=Gr h (O7 hb);have hE:=Af h hn ht;obtain ⟨_,_,e⟩:=IJ hM hb;have hm:=O7 e;have hs:=V.s;obtain ⟨d1,d2,d3⟩:=JK (q:=b.X*b.A5) (s:=0-b.Shift) V.q.1 (by omega)
 rw [<- c3] at d1 d2 d3;have I:=λ(u:Nat) hu=>CJ (u:=u) (l:=zc n t.px) (λe he=>⟨(yv hE he).1,by have:=(yv hE he).2.1; grind⟩) _ hm hu (((1000*(0-b.Shift):Int)):Rat) ⟨_,rfl⟩
 refine ⟨b,hb,⟨c1,c2,?_,d1,d2⟩,⟨c1,c2,?_,d1,d2⟩⟩
 ·rw [d3]; exact I _ (.inl rfl)
 ·rw [d3]; exact I _ (.inr rfl)
theorem yG (k:Nat):(((k+1:Nat):Int):Rat)=((k:Int):Rat)+1:=by rw [TC,Rat.intCast_add]; rfl
theorem J4 {n:Net}{t:aV}{M:aW} (h:oA n) (hn:oG n) (hM:Md n t M) (ht:tN n t) {p:List LR}
  (hp:NL p t.bK.length (λ_ y=>ou y/\RL y 2/\∃ z:Int,rv y=(z:Rat)/\-2400000<=z/\z<=2400000)) {Q:List LR->Prop}{K:List LR->Option (List LR)} (hK:∀ s,NL s t.bK.length (Lg (zc n t.px) 300 2500000)->Gd (K s) Q):
  Gd (dR (λk y s n=>mM M k y s n) K 0 M.C p) Q:=by
 have hE:=Af h hn ht;have hcl:=hM.B4;have h24:=h.l3;refine Gd.dR (λk ys s=>∃ pre,M.C=pre++ys/\pre.length=k/\NL s t.bK.length (Lg (zc n t.px) (2+10*k) (2400000+4000*((k:Int):Rat)))) ?_ ?_ M.C 0 p ⟨[],rfl,rfl,hp.mono (λb y hb hy=>?_)⟩
 ·rintro k c ys s nx ⟨pre,hpc,hpk,hs⟩ hnx
  have hck:M.C[k]? = some c:=by rw [hpc,Pz (by omega),hpk,Qf]; rfl
  obtain ⟨b,hb,g1,g2⟩:=NH h hn hM ht hck;obtain ⟨f1,f2,f3⟩:=IJ hM hb;have hlt:=hE.el _ (O7 f3);have hk24:k<24:=by have:=(OY.1 hck).1; omega
  generalize Fz n t.px b=e at g1 g2 f1 f2 f3 hlt;unfold mM;refine Gd.ix (by omega) (by rw [OX]; exact f1) (Gd.ix (by omega) (by rw [OX]; exact f1) (hs.get hlt.1 (λy hy=>Gd.eC (hy.sub g1 (by omega)) (λr hr=>hs.get hlt.1 (λ_ _=>?_)))))
  have c0:(2400000+4000*((k:Int):Rat))<=(2400000+4000*((k:Int):Rat))+2000:=by grind
  have hs2:=(hs.mono (P':=Lg (zc n t.px) (2+10*k+5) (2400000+4000*((k:Int):Rat)+2000)) (λb y _ hy=>hy.mono (by omega) c0)).set (b:=e.2.1) hr
  refine Gd.ix (by omega) (by rw [OX]; exact f2) (Gd.ix (by omega) (by rw [OX]; exact f2) ?_)
  rw [OX,OX];refine hs2.get hlt.2 (λy2 hy2=>Gd.eC (hy2.add g2 (by omega)) (λr2 hr2=>hs2.get hlt.2 (λ_ _=>?_)))
  have c1:(2400000+4000*((k:Int):Rat))+2000<=2400000+4000*(((k+1:Nat):Int):Rat):=by rw [yG]; grind
  have c2:(2400000+4000*((k:Int):Rat))+2000+2000<=2400000+4000*(((k+1:Nat):Int):Rat):=by rw [yG]; grind
  exact hnx _ ⟨pre++[c],by rw [hpc]; simp,by simp [hpk],(hs2.mono (λb y _ hy=>hy.mono (by omega) c1)).set (hr2.mono (by omega) c2)⟩
 ·rintro k s ⟨pre,hpc,hpk,hs⟩
  rw [PE] at hpc;have hk24:k<=24:=by rw [<- hpk,<- hpc]; omega
  have hc:((k:Int):Rat)<=((24:Int):Rat):=Ul.2 (by omega)
  have e24:((24:Int):Rat)=24:=rfl;rw [e24] at hc;exact hK s (hs.mono (λb y _ hy=>hy.mono (by omega) (by grind)))
 ·obtain ⟨y1,y2,z,y3,y4,y5⟩:=hy
  have e0:(((0:Nat):Int):Rat)=0:=rfl;have a:=Ul.2 y4;have b:=Ul.2 y5;have e1:((2400000:Int):Rat)=2400000:=rfl;rw [Un,e1] at a;rw [e1] at b;refine ⟨y1,y2,?_,?_,?_⟩
  ·rw [y3]
   exact rD (zx (λe he=>(yv hE he).1)) ⟨z,rfl⟩
  ·rw [y3,e0]; grind
  ·rw [y3,e0]; grind
def An (D:Rat) (y:LR):Prop:=ou y/\∃ T,tx T/\-wq 140<=T/\T<=wq 140/\rv y=T / D
structure Dv (D:Rat):Prop where
 i:tx D
 z:D≠0
 a:-wq 60<=D
 b:D<=wq 60
theorem Ix:tx 0:=⟨0,rfl⟩
theorem An.rb {D:Rat} (hD:Dv D) {y:LR} (h:An D y):RB (rv y) 141:=by
 obtain ⟨_,T,t1,t2,t3,e⟩:=h;rw [e];have:=xc (show 60<=140 by omega)
 have h1:=hD.a;have h2:=hD.b;exact yw t1 hD.i t2 t3 (by grind) (by grind) hD.z (by omega)
theorem An.zero {D:Rat}{y:LR} (hy:ou y) (h0:rv y=0):An D y:=⟨hy,0,Ix,by have:=uT 140; grind,by have:=uT 140; grind,by rw [h0,Rat.div_def]; grind⟩
theorem Lq {f:Nat->Rat}{b:Rat} (hb:0<=b):∀ {n:Nat},(∀ i,i<n->-b<=f i/\f i<=b)->-(((n:Int):Rat)*b)<=sm n f/\sm n f<=((n:Int):Rat)*b
 | 0,_=>by
  show -((((0:Nat):Int):Rat)*b)<=0/\0<=((((0:Nat):Int):Rat)*b);have e:((((0:Nat):Int)):Rat)=0:=rfl;rw [e]; grind
 | n+1,h=>by
  have h1:=Lq hb (n:=n) (λi hi=>h i (by omega))
  have h2:=h n (by omega)
  rw [yG];show _<=sm n f+f n/\sm n f+f n<=_
  grind
theorem HK {n:Nat}{A B m:Mt}{L R:Nat->Rat} (h:Nb n A L B R) (hp:Pd n A) (hn:n<=23) (hG:Gj n A n m) {i:Nat} (hi:i<n) {x:Nat->Rat} (hx:∀ p,p<n->tx (L p*x p)/\-2500000<=x p/\x p<=2500000) {y:LR} (hy:ou y)
  (e:rv y=sm n (λp=>m i (n+p)*x p)):An (Dk A L n) y:=by
 have d0:=(h.D0 hp (Pl n)).1;have key:∀ p,p<n->∃ T,tx T/\-wq 139<=T/\T<=wq 139/\m i (n+p)*x p=T*(Dk A L n)⁻¹:=λp hpn=>by
  obtain ⟨N,n1,n2,n3,e1⟩:=hG.num h.s (Pl n) hi hpn;rw [O2 (by omega)] at e1
  have e1':m i (n+p)*Dk A L n=N*L p:=by
   have e2:1*m i (n+p)*Dk A L n=N*L p:=e1
   grind
  obtain ⟨x1,x2,x3⟩:=hx p hpn;have hP:=h.hP;have p1:1<=pr n R:=CD (λj hj=>h.s.R1 hj);have r1:=h.s.R1 hi;have r2:=h.R hi;have hNb:pr n R*R i<=wq 120:=by
   rw [<- uS 60 60];exact pL hP r2 (by grind) (by grind)
  have l1:=h.s.l1 p hpn;have l2:=h.hL p hpn;have w1:(2500000:Rat)<=wq 1:=by
   have:((2500000:Int):Rat)<=(((WB ^ 1:Nat):Int):Rat):=Ul.2 (by decide)
   exact this
  have q1:=zS (x:=L p) (y:=x p) (a:=wq 18) (b:=wq 1) (by have:=uT 18; grind) l2 (by grind) (by grind)
  rw [uS] at q1;have q2:=zS (x:=N) (y:=L p*x p) (a:=wq 120) (b:=wq (18+1)) (by grind) (by grind) q1.1 q1.2
  rw [uS] at q2;refine ⟨N*(L p*x p),rD n1 x1,q2.1,q2.2,?_⟩;have i1:=Rat.mul_inv_cancel _ d0;have e3:m i (n+p)=N*L p*(Dk A L n)⁻¹:=by rw [<- e1']; grind
  rw [e3]; grind
 have:∃ T:Nat->Rat,∀ p,p<n->tx (T p)/\-wq 139<=T p/\T p<=wq 139/\m i (n+p)*x p=(Dk A L n)⁻¹*T p:=by
  refine ⟨λp=>m i (n+p)*x p*Dk A L n,λp hpn=>?_⟩;obtain ⟨T,t1,t2,t3,t4⟩:=key p hpn;have i1:=Rat.mul_inv_cancel _ d0;have e2:m i (n+p)*x p*Dk A L n=T:=by rw [t4]; grind
  simp only;rw [e2];exact ⟨t1,t2,t3,by rw [t4]; grind⟩
 obtain ⟨T,hT⟩:=this;have hs:sm n (λp=>m i (n+p)*x p)=(Dk A L n)⁻¹*sm n T:=by
  rw [<- qM];exact oh (λp hp=>(hT p hp).2.2.2)
 have hb:=Lq (f:=T) (b:=wq 139) (by have:=uT 139; grind) (n:=n) (λp hp=>⟨(hT p hp).2.1,(hT p hp).2.2.1⟩)
 have hn2:((n:Int):Rat)*wq 139<=wq 140:=by
  have e1:wq 1*wq 139=wq 140:=uS 1 139;rw [<- e1];have h1:((n:Int):Rat)<=wq 1:=Ul.2 (show (n:Int)<=((WB ^ 1:Nat):Int) by
   have:((WB ^ 1:Nat):Int)=4294967296:=by decide
   rw [this]; omega)
  exact Rat.mul_le_mul_of_nonneg_right h1 (by have:=uT 139; grind)
 refine ⟨hy,sm n T,EM (λp hp=>(hT p hp).1),by grind,by grind,?_⟩
 rw [e,hs,Rat.div_def]; grind
theorem An.mk' {D:Rat} (hD:Dv D) {y z:LR} (h:An D y) (k:An D z):RB (rv y-rv z) 142:=by
 obtain ⟨_,T,t1,t2,t3,e⟩:=h;obtain ⟨_,U,u1,u2,u3,f⟩:=k;have e1:rv y-rv z=(T+-U) / D:=by rw [e,f,Rat.div_def,Rat.div_def,Rat.div_def]; grind
 have w:wq 140+wq 140<=wq 141:=by
  have e2:wq 1*wq 140=wq 141:=uS 1 140;rw [<- e2];have h1:((2:Int):Rat)<=wq 1:=Ul.2 (by decide)
  have h2:((2:Int):Rat)=2:=rfl;rw [h2] at h1;have:=Rat.mul_le_mul_of_nonneg_right h1 (show 0<=wq 140 by have:=uT 140; grind)
  grind
 rw [e1];have w2:=xc (show 60<=141 by omega)
 have d1:=hD.a;have d2:=hD.b;exact yw (yg t1 (FG u1)) hD.i (by grind) (by grind) (by grind) (by grind) hD.z (by omega)
def MH (n:Net) (t:aV):Rat:=Dk (JZ (A6 t.bK) (zc n t.px)) (λi=>tk (A6 t.bK i) (zc n t.px)) (fr t.bK).length
theorem H7 {n:Net} (h:oA n) (hn:oG n) {t:aV} (ht:tN n t):Dv (MH n t):=by
 have hE:=Af h hn ht;have hNb:=EU hE (Cf ht.Hv) (λi j hi hj e=>yf hi hj e);have hp:=EV h hn ht;obtain ⟨a,b,c⟩:=hNb.Db (Pl _);exact ⟨a,(hNb.D0 hp (Pl _)).1,b,c⟩
theorem Gn {n:Net}{t:aV}{M:aW} (h:oA n) (hn:oG n) (hM:Md n t M) (ht:tN n t) {s:List LR} (hs:NL s t.bK.length (Lg (zc n t.px) 300 2500000)):
  Gd (mu M s) (λr=>NL r t.bK.length (λ_ y=>An (MH n t) y)):=by
 have hE:=Af h hn ht;have hnf:=Cf ht.Hv;have hNb:=EU hE hnf (λi j hi hj e=>yf hi hj e);have hp:=EV h hn ht;have hfl:M.pU.length=(fr t.bK).length:=by rw [hM.md.free]; simp
 have hfr:∀ k (y:Int),M.pU[k]? = some y->k<(fr t.bK).length/\y=(A6 t.bK k:Int):=λk y hk=>by
  have hk1:=(OY.1 hk).1;rw [hM.md.free,Ps,QU (by omega)] at hk
  exact ⟨by omega,(OZ hk).symm⟩
 obtain ⟨m,hG,hR⟩:=hM.inv.ex;unfold mu;rw [hfl,OX];refine Gd.nd (by omega) ?_
 refine Gd.dR (λk ys r=>∃ pre,M.pU=pre++ys/\pre.length=k/\r.length=(fr t.bK).length/\∀ j,j<k->r[j]? = s[A6 t.bK j]?) ?_ ?_ M.pU 0 _ ⟨[],rfl,rfl,by simp,λj hj=>by omega⟩
 ·rintro k y ys r nx ⟨pre,hpf,hpk,hrl,hr⟩ hnx
  obtain ⟨hk,rfl⟩:=hfr k y (by rw [hpf,Pz (by omega),hpk,Qf]; rfl)
  have hlt:=hM.md.lt k hk;unfold oV;refine Gd.gA (by rw [hs.1]; exact hlt) (Gd.gA (by omega) ?_)
  rw [OX];refine hnx _ ⟨pre++[(A6 t.bK k:Int)],by rw [hpf]; simp,by simp [hpk],by rw [Qg]; exact hrl,λj hj=>?_⟩
  by_cases e:k=j
  ·subst e
   rw [Pq (by omega),OU]
  ·rw [Pj e]; exact hr j (by omega)
 ·rintro k r ⟨pre,hpf,hpk,hrl,hr⟩
  rw [PE] at hpf;have hk:k=(fr t.bK).length:=by rw [<- hpk,<- hpf,hfl]
  subst hk;unfold eD;rw [hM.top];refine Gd.eC (yC (by have:=ht.Hv; omega)) ?_
  rintro _ ⟨z,rfl,z1,z2,z3⟩;have hx:∀ j,j<(fr t.bK).length->∃ y,r[j]? = some y/\Lg (zc n t.px) 300 2500000 (A6 t.bK j) y:=λj hj=>by
   have hlt:=hM.md.lt j hj;have hl:A6 t.bK j<s.length:=by rw [hs.1]; exact hlt
   have hsj:=OU hl;exact ⟨s[A6 t.bK j],by rw [hr j hj,hsj],hs.2 _ _ hsj⟩
  have hb:NL r (fr t.bK).length (λj y=>ou y/\RL y 6000/\rv y=((r[j]?).map rv).getD 0):=⟨hrl,λj y hj=>by
   have hj1:=(OY.1 hj).1;obtain ⟨y2,e,g⟩:=hx j (by omega)
   rw [hj] at e;obtain rfl:=OZ e;exact ⟨g.1,g.2.1.mono (by omega),by rw [hj]; rfl⟩⟩
  have hxx:∀ p,p<(fr t.bK).length->tx (tk (A6 t.bK p) (zc n t.px)*((r[p]?).map rv).getD 0)/\-2500000<=((r[p]?).map rv).getD 0/\((r[p]?).map rv).getD 0<=2500000:=λp hp=>by
   obtain ⟨y2,e,g⟩:=hx p hp;rw [e];exact ⟨g.2.2.1,g.2.2.2.1,g.2.2.2.2⟩
  refine Gd.dR (λk ys o=>∃ pre,M.pU=pre++ys/\pre.length=k/\NL o t.bK.length (λ_ y=>An (MH n t) y)) ?_ ?_ M.pU 0 _ ⟨[],rfl,rfl,⟨by simp,λb y hb=>by
   have:=TJ (O7 hb);subst this;exact An.zero z1 z3⟩⟩
  ·rintro k y ys o nx ⟨pre,hpf,hpk,ho⟩ hnx
   obtain ⟨hk,rfl⟩:=hfr k y (by rw [hpf,Pz (by omega),hpk,Qf]; rfl)
   have hlt:=hM.md.lt k hk;obtain ⟨row,w1,w2,w3⟩:=hR.row k hk;have ha:NL row (fr t.bK).length (λj y=>ou y/\RL y 6000/\rv y=m k ((fr t.bK).length+j)):=⟨w2,λj y hj=>by
    have hj1:=(OY.1 hj).1;obtain ⟨y2,e,g⟩:=w3 j (by omega)
    rw [hj] at e;obtain rfl:=OZ e;exact g⟩
   unfold oW;refine Gd.ix (by omega) (by rw [OX]; exact w1) (Gd.eC (LF (by omega) (by omega) ha hb) (λd hd=>ho.get hlt (λ_ _=>?_)))
   rw [OX];exact hnx _ ⟨pre++[(A6 t.bK k:Int)],by rw [hpf]; simp,by simp [hpk],ho.set (HK hNb hp hnf hG hk hxx hd.1 hd.2)⟩
  ·rintro k o ⟨_,_,_,ho⟩
   exact Gd.ret ho
theorem Ga {n:Net}{t:aV}{M:aW} (h:oA n) (hn:oG n) (hM:Md n t M) (ht:tN n t) {p:List LR}
  (hp:NL p t.bK.length (λ_ y=>ou y/\RL y 2/\∃ z:Int,rv y=(z:Rat)/\-2400000<=z/\z<=2400000)):Gd (mr M p) (λr=>NL r t.bK.length (λ_ y=>An (MH n t) y)):=by
 have h1:=ht.Hv;have h2:=hp.1;unfold mr;exact Gd.nd (by omega) (J4 h hn hM ht hp (λs hs=>Gd.eC (Gn h hn hM ht hs) (λr hr=>Gd.ret hr)))
theorem Hr {n:Net}{t:aV}{M:aW} (h:oA n) (hn:oG n) (hM:Md n t M) (ht:tN n t) {a:List LR} (ha:NL a t.bK.length (λ_ y=>An (MH n t) y)):
  Gd (ng M a) (λr=>NL r n.aG.length (λ_ y=>ou y/\fits (rv y))):=by
 have hE:=Af h hn ht;have hD:=H7 h hn ht;have hcl:=hM.B4;have h24:=h.l3;unfold ng;refine Gd.dR (λk ys r=>∃ pre,M.C=pre++ys/\pre.length=k/\NL r k (λ_ y=>ou y/\fits (rv y))) ?_ ?_ M.C 0 _ ⟨[],rfl,rfl,rfl,λb y hb=>by simp at hb⟩
 ·rintro k c ys r nx ⟨pre,hpc,hpk,hr⟩ hnx
  have hck:M.C[k]? = some c:=by rw [hpc,Pz (by omega),hpk,Qf]; rfl
  have hk24:k<24:=by have:=(OY.1 hck).1; omega
  obtain ⟨b,hb,c1,c2,c3⟩:=hM.c k c hck;obtain ⟨f1,f2,f3⟩:=IJ hM hb;have hlt:=hE.el _ (O7 f3);have hbl:k<M.B_.length:=by rw [hM.md.bl]; exact (OY.1 f3).1
  obtain ⟨e,e1,b1,b2,b3⟩:=hM.md.b k M.B_[k] (OU hbl);rw [f3] at e1;obtain rfl:=OZ e1;obtain ⟨q,q1,q2,q3⟩:=hE.q _ (O7 f3);have hBR:RB (rv M.B_[k]) 1:=by
   rw [b3,q1];exact RB.NN (by decide) (by omega) (by omega)
  have hrl:=hr.1;unfold pK;refine Gd.ix (by omega) (by rw [OX]; exact OU hbl) (Gd.ix (by omega) (by rw [OX]; exact f1) (ha.get hlt.1 (λy hy=>Gd.ix (by omega) (by rw [OX]; exact f2) (ha.get hlt.2 (λz hz=>?_)))))
  refine Gd.eC (xb hy.1 hz.1 (hy.1.rb (hy.rb hD)) (hz.1.rb (hz.rb hD)) (by omega)) (λd hd=>?_)
  have hdR:RB (rv d) 142:=by rw [hd.2.2]; exact hy.mk' hD hz
  refine Gd.eC (yx b1 hd.1 (b1.rb hBR) (hd.1.rb hdR) (by omega)) (λf hf=>?_)
  refine Gd.eC (vJ hf.1 c1 hf.2.1 c2 (by omega)) (λg hg=>Gd.nd (by simp; omega) (hnx _ ⟨pre++[c],by rw [hpc]; simp,by simp [hpk],hr.snoc ⟨hg.1,?_⟩⟩))
  exact RB.fits ⟨g,hg.1,hg.2.1,rfl⟩ (by omega)
 ·rintro k r ⟨pre,hpc,hpk,hr⟩
  rw [PE] at hpc;have hk:k=n.aG.length:=by rw [<- hpk,<- hpc,hcl]
  subst hk;exact Gd.ret hr
theorem DY {l:List LR} (hl:l.length<=1000) (h:∀ y ∈ l,ou y/\fits (rv y)):Gd (m_ l) (λr=>r=(l.map (λy=>ctext (rv y)),0)):=by
 unfold m_;refine Gd.eC (P:=λr=>r=(l.map (λy=>ctext (rv y)),true)) ?_ (λr hr=>by subst hr; exact Gd.ite (λh=>by simp at h) (λ_=>Gd.ret rfl))
 unfold sF;refine Gd.nd (by omega) ?_
 rw [OX];refine Gd.dR (λk ys s=>∃ pre,l=pre++ys/\pre.length=k/\s=pre.map (λy=>ctext (rv y))++List.replicate ys.length (⟨#[]⟩:ByteArray)) ?_ ?_ l 0 _ ⟨[],rfl,rfl,by simp⟩
 ·rintro k y ys _ nx ⟨pre,hp,hpk,rfl⟩ hnx
  obtain ⟨y1,y2⟩:=h y (by rw [hp]; simp)
  unfold sq;refine Gd.eC (I9 y1) (λr hr=>?_);have h2:=hr.1.2 y2;refine Gd.ite (λhh=>by rw [h2] at hh; simp at hh) (λ_=>?_)
  refine Gd.ix (y:=⟨#[]⟩) (by omega) ?_ (hnx _ ⟨pre++[y],by rw [hp]; simp,by simp [hpk],?_⟩)
  ·rw [OX,Pz (by simp [hpk]),QN,hpk,Qf,O6,Ri]; rfl
  ·rw [OX,TU _ _ (by simp [hpk]),QN,hpk,Qf,O6,Ri,List.set_cons_zero,hr.2 h2]
   simp
 ·rintro k _ ⟨pre,hp,hpk,rfl⟩
  rw [PE] at hp;subst hp;exact Gd.ret (by simp)
structure Lw (n:Net) (t:aV) (s:cE):Prop where
 al:s.f_.length=t.bK.length
 fl:s.iW.length=n.aG.length
 a:∀ x ∈ s.f_,∃ q,fits q/\x=ctext q
 f:∀ x ∈ s.iW,∃ q,fits q/\x=ctext q
theorem NL.all {l:List LR}{N:Nat}{P:LR->Prop} (h:NL l N (λ_ y=>P y)):∀ y ∈ l,P y:=λy hy=>by
 obtain ⟨i,hi,rfl⟩:=Qb.1 hy;exact h.2 i _ (OU hi)
theorem Jf {n:Net}{p:List Int} (h:oA n) (hn:oG n) {t:aV} (hg:dN n=some t) (ht:tN n t) (hp:p.length=n.a_.length) (hb:∀ z ∈ p,-100000<=z/\z<=100000) (hc:mL n p=some 0):
  Gd (mO n p) (λr=>r.2=0/\Lw n t r.1):=by
 have hN:=ht.Hv;have h24:=h.l3;unfold mO;refine Gd.bind_eq hc (Gd.ite (λh=>by simp at h) (λ_=>?_))
 refine Gd.eC (DC h hn hg ht) ?_;rintro _ ⟨M,rfl,hM⟩;simp only [Bh];refine Gd.eC (Ky hM ht hn hp hb) (λsm hsm=>Gd.eC (Ga h hn hM ht hsm) (λa ha=>?_));have hD:=H7 h hn ht;have hl1:=ha.1;refine Gd.eC (DY (by omega) (λy hy=>⟨(ha.all y hy).1,(An.rb hD (ha.all y hy)).fits (by omega)⟩)) ?_
 rintro _ rfl;refine Gd.eC (Hr h hn hM ht ha) (λf hf=>?_);have hl2:=hf.1;refine Gd.eC (DY (by omega) (λy hy=>hf.all y hy)) ?_
 rintro _ rfl;refine Gd.ite (λh=>by simp at h) (λ_=>Gd.ret ⟨rfl,by simp [hl1],by simp [hl2],λx hx=>?_,λx hx=>?_⟩)
 ·obtain ⟨y,hy,rfl⟩:=PL.1 hx
  exact ⟨_,(An.rb hD (ha.all y hy)).fits (by omega),rfl⟩
 ·obtain ⟨y,hy,rfl⟩:=PL.1 hx
  exact ⟨_,(hf.all y hy).2,rfl⟩
def acc {α:Type} (f:α->Int) (p:α->Nat) (k:Nat):List α->Int
 | []=>0
 | x::xs=>(if p x=k then f x else 0)+acc f p k xs
theorem BZ {α:Type}{f:α->Int}{p:α->Nat}{k:Nat}:∀ {l:List α},(∀ x ∈ l,0<=f x)->0<=acc f p k l
 | [],_=>Rk _
 | x::xs,h=>by
  have h1:=h x (O0 ..);have h2:=BZ (f:=f) (p:=p) (k:=k) (l:=xs) λy hy=>h y (O5 _ hy);unfold acc
  split <;> omega
theorem Ee {α:Type}{f:α->Int}{p:α->Nat}{k:Nat}{B:Int} (hB:0<=B):∀ {l:List α},(∀ x ∈ l,f x<=B)->acc f p k l<=B*l.length
 | [],_=>by simp [acc]
 | x::xs,h=>by
  have h1:=h x (O0 ..);have h2:=Ee (f:=f) (p:=p) (k:=k) (B:=B) hB (l:=xs) λy hy=>h y (O5 _ hy);unfold acc;rw [O6,TC,Tz]
  split <;> omega
theorem Fu {α:Type}{f:α->Int}{p:α->Nat}{k:Nat}:∀ (a b:List α),acc f p k (a++b)=acc f p k a+acc f p k b
 | [],b=>by show acc f p k b=0+acc f p k b; omega
 | x::xs,b=>by
  have:=Fu (f:=f) (p:=p) (k:=k) xs b;show (if p x=k then f x else 0)+acc f p k (xs++b)=(if p x=k then f x else 0)+acc f p k xs+acc f p k b
  omega
theorem x9 {α:Type}{f:α->Int}{p:α->Nat}{k:Nat} (a:List α) (x:α):acc f p k (a++[x])=acc f p k a+(if p x=k then f x else 0):=by
 rw [Fu];show _+((if p x=k then f x else 0)+0)=_
 omega
def sx (pl:Nat->Nat) (k:Nat):Nat->List Int->Int
 | _,[]=>0
 | i,x::xs=>(if pl i=k then x else 0)+sx pl k (i+1) xs
theorem DD (pl:Nat->Nat) (k:Nat):∀ (a b:List Int) (i:Nat),sx pl k i (a++b)=sx pl k i a+sx pl k (i+a.length) b
 | [],b,i=>by show sx pl k i b=0+sx pl k (i+0) b; rw [Qs]; omega
 | x::xs,b,i=>by
  have:=DD pl k xs b (i+1);have e:i+(x::xs).length=i+1+xs.length:=by simp; omega
  rw [e];show (if pl i=k then x else 0)+sx pl k (i+1) (xs++b)=(if pl i=k then x else 0)+sx pl k (i+1) xs+_
  omega
theorem AF (pl:Nat->Nat) (k:Nat) (y:Int):∀ (l:List Int) (i j:Nat) (h:j<l.length),sx pl k i (l.set j y)=sx pl k i l+(if pl (i+j)=k then y-l[j] else 0)
 | [],_,_,h=>by simp at h
 | x::xs,i,0,_=>by
  rw [List.set_cons_zero,Qs,List.getElem_cons_zero];show (if pl i=k then y else 0)+sx pl k (i+1) xs=(if pl i=k then x else 0)+sx pl k (i+1) xs+_
  split <;> omega
 | x::xs,i,j+1,h=>by
  have h':j<xs.length:=by simpa using h
  have:=AF pl k y xs (i+1) j h';have e:i+1+j=i+(j+1):=by omega
  rw [e] at this;rw [List.set_cons_succ,List.getElem_cons_succ];show (if pl i=k then x else 0)+sx pl k (i+1) (xs.set j y)=(if pl i=k then x else 0)+sx pl k (i+1) xs+_
  rw [this]; omega
theorem DE (pl:Nat->Nat) (k:Nat):∀ (m i:Nat),sx pl k i (List.replicate m 0)=0
 | 0,_=>rfl
 | m+1,i=>by
  show (if pl i=k then (0:Int) else 0)+sx pl k (i+1) (List.replicate m 0)=0
  rw [DE pl k m (i+1)]; split <;> rfl
theorem FO (pl:Nat->Nat) (k:Nat) {B:Int} (hB:0<=B):∀ (l:List Int) (i:Nat),(∀ z ∈ l,-B<=z/\z<=B)->-(B*l.length)<=sx pl k i l/\sx pl k i l<=B*l.length
 | [],_,_=>by simp [sx]
 | x::xs,i,h=>by
  have h1:=h x (O0 ..);have h2:=FO pl k hB xs (i+1) (λz hz=>h z (O5 _ hz));show -(B*(x::xs).length)<=(if pl i=k then x else 0)+sx pl k (i+1) xs/\(if pl i=k then x else 0)+sx pl k (i+1) xs<=B*(x::xs).length
  rw [O6,TC,Tz]
  split <;> omega
def CB (t:aV) (i:Nat):Nat:=((t.bK[((t.px[i]?).getD 0).toNat]?).getD 0).toNat
theorem EZ {n:Net}{t:aV} (ht:tN n t) {i:Nat} (hi:i<n.a_.length):∃ v:Nat,t.px[i]? = some (v:Int)/\v<t.bK.length/\t.bK[v]? = some (CB t i:Int)/\CB t i<t.bK.length:=by
 have hil:i<t.px.length:=by rw [ht.bl]; exact hi
 have h1:=ht.bi _ (Pt hil);obtain ⟨c,hc⟩:=ht.comp;have hv:(t.px[i]).toNat<t.bK.length:=by omega
 have e1:t.px[i]? = some (((t.px[i]).toNat:Nat):Int):=by rw [OU hil]; congr 1; omega
 have h2:=hc.all ((t.px[i]).toNat:Int) (by omega) (by omega)
 rw [Au hv] at h2;have hm:=hc.mN;refine ⟨(t.px[i]).toNat,e1,hv,?_,?_⟩
 ·unfold CB
  rw [e1,QT,OX,OU hv,QT]
  congr 1; omega
 ·unfold CB
  rw [e1,QT,OX,OU hv,QT];omega
def xo (n:Net) (t:aV) (s:BA):Nat:=CB t (pos n s)
theorem AS {n:Net}{t:aV} (ht:tN n t) {s:BA} (hs:s ∈ n.a_):mh n t s=some (xo n t s:Int)/\xo n t s<t.bK.length:=by
 obtain ⟨p1,p2⟩:=SS hs;obtain ⟨v,v1,v2,v3,v4⟩:=EZ ht p2;refine ⟨?_,v4⟩;rw [<- Gd.eq];unfold mh;exact Gd.bind_eq p1 (Gd.ix (by omega) (by rw [OX]; exact v1) (Gd.ix (by omega) (by rw [OX]; exact v3) (Gd.ret rfl)))
theorem GX {n:Net}{t:aV} (hg:dN n=some t) (ht:tN n t):∃ N:Nat,lF n=some (N:Int)/\N<=24/\∀ s ∈ n.a_,xo n t s<N:=by
 obtain ⟨c,hc⟩:=ht.comp;have hm:=hc.mN;have hII:zq t.bK.length t.bK:=λa ha=>by
  obtain ⟨k,hk,rfl⟩:=Qb.1 ha;have:=hc.all (k:Int) (by omega) (by omega)
  rw [Au hk] at this;omega
 have h:Gd (lF n) (λr=>∃ N:Nat,r=N/\N<=24/\zq N t.bK):=by
  unfold lF;refine Gd.bind_eq hg (J8 t.bK.length ht.Hv _ (λk y n nx=>by unfold qC; rfl) _ t.bK hII (λm hm hbm=>Gd.ret ⟨m,rfl,by have:=ht.Hv; omega,hbm⟩))
 obtain ⟨r,hr,N,rfl,h1,h2⟩:=h;refine ⟨N,hr,h1,λs hs=>?_⟩;obtain ⟨v,_,_,v3,_⟩:=EZ ht (SS hs).2;have:=h2 _ (O7 v3);show CB t (pos n s)<N;omega
abbrev GF (n:Net) (t:aV) (k:Nat):Int:=acc aE.cV (λl:aE=>xo n t l.Node) k n.aY
theorem H8 {n:Net} (hn:oG n) (t:aV) (k:Nat):0<=GF n t k/\GF n t k<=1200000:=by
 have h1:=BZ (f:=aE.cV) (p:=λl:aE=>xo n t l.Node) (k:=k) (l:=n.aY) (λl hl=>(hn.ld l hl).2.1);have h2:=Ee (f:=aE.cV) (p:=λl:aE=>xo n t l.Node) (k:=k) (B:=100000) (by omega) (l:=n.aY) (λl hl=>(hn.ld l hl).2.2)
 have:=hn.l5;have h3:GF n t k<=100000*(n.aY.length:Int):=h2;exact ⟨h1,by omega⟩
theorem Iy {n:Net}{t:aV} (hn:oG n) (hg:dN n=some t) (ht:tN n t) {N:Nat} (hN:lF n=some (N:Int)) (h24:N<=24) (hpl:∀ s ∈ n.a_,xo n t s<N):
  Gd (qc n) (λr=>r.length=N/\∀ k (hk:k<r.length),r[k].cV=GF n t k):=by
 have h4:=hn.l4;have h5:=hn.l5;unfold qc;refine Gd.bind_eq hg (Gd.bind_eq hN (Gd.nd ⟨by omega,by omega⟩ ?_))
 rw [OX];refine Gd.dR (λi ys s=>(∀ y ∈ ys,y ∈ n.cR)/\s.length=N/\∀ k (hk:k<s.length),s[k].cV=0) ?_ ?_ _ _ _ ⟨λ_ h=>h,by simp,?_⟩
 ·rintro i y ys s nx ⟨hm,hl,hk⟩ hnx
  have hy:=hm y (O0 ..);obtain ⟨hp,_⟩:=AS ht (hn.gn y hy).1;have hlt:xo n t y.Node<s.length:=by have:=hpl _ (hn.gn y hy).1; omega
  unfold rG;refine Gd.bind_eq hp (Gd.gA hlt ?_);rw [OX,List.set_set];refine hnx _ ⟨λz hz=>hm z (O5 _ hz),by simp [hl],λk hkl=>?_⟩
  rw [Qg] at hkl;rw [TL]
  split
  ·exact hk _ hlt
  ·exact hk k hkl
 ·rintro i s ⟨_,hl,hk⟩
  refine Gd.dR (λi ys s=>∃ pre,n.aY=pre++ys/\s.length=N/\∀ k (hk:k<s.length),s[k].cV=acc aE.cV (λl:aE=>xo n t l.Node) k pre) ?_ ?_ _ _ _ ⟨[],rfl,hl,hk⟩
  ·rintro i y ys s nx ⟨pre,hp,hl,hk⟩ hnx
   have hy:y ∈ n.aY:=by rw [hp]; simp
   obtain ⟨hpp,_⟩:=AS ht (hn.ld y hy).1;have hlt:xo n t y.Node<s.length:=by have:=hpl _ (hn.ld y hy).1; omega
   have hyd:=hn.ld y hy;have hb1:=BZ (f:=aE.cV) (p:=λl:aE=>xo n t l.Node) (k:=xo n t y.Node) (l:=pre) (λl hl=>(hn.ld l (by rw [hp]; simp [hl])).2.1)
   have hb2:=Ee (f:=aE.cV) (p:=λl:aE=>xo n t l.Node) (k:=xo n t y.Node) (B:=100000) (by omega) (l:=pre) (λl hl=>(hn.ld l (by rw [hp]; simp [hl])).2.2)
   have hpre:pre.length<=12:=by
    have:n.aY.length=pre.length+(ys.length+1):=by rw [hp]; simp
    omega
   have hkk:=hk _ hlt;have hw1:i64.wrap (s[xo n t y.Node].cV+y.cV)=s[xo n t y.Node].cV+y.cV:=bJ ⟨by omega,by omega⟩
   unfold rH;refine Gd.bind_eq hpp (Gd.gA hlt (Gd.gA hlt ?_));rw [hw1,OX];refine hnx _ ⟨pre++[y],by rw [hp]; simp,by simp [hl],λk hkl=>?_⟩
   rw [Qg] at hkl;rw [TL,x9]
   by_cases e:xo n t y.Node=k
   ·subst e
    rw [O3 rfl,O3 rfl,hkk]
   ·rw [O2 e,O2 e,hk k hkl]; omega
  ·rintro i s ⟨pre,hp,hl,hk⟩
   rw [PE] at hp;subst hp;exact Gd.ret ⟨hl,hk⟩
 ·intro k hk
  have e:(List.replicate N ({ iH:=0,pX:=0,cV:=0 }:bG))[k]={ iH:=0,pX:=0,cV:=0 }:=List.getElem_replicate _;rw [e]
theorem JV (l:List Int):Gd (dF l) (λb=>b=true↔∃ v ∈ l,0<v):=by
 unfold dF eE;refine Gd.eC (P:=λr=>0<=r↔∃ v ∈ l,0<v) ?_ (λr hr=>Gd.ret (by simpa using hr))
 refine Gd.jN (λm i _=>i+m=l.length/\∀ v ∈ l.take i,v<=0) ?_ ?_ (l.length:Int).toNat 0 () ⟨by omega,by simp⟩
 ·intro m i _ nx ⟨hi,hno⟩ hnx
  unfold fE nR;refine Gd.gA (by omega) (Gd.ite (λh=>Gd.ret ⟨λ_=>⟨l[i],Pt _,by simpa using h⟩,λ_=>by omega⟩) (λh=>hnx () ⟨by omega,?_⟩))
  rw [Po (by omega)]
  intro v hv;rcases Pa.1 hv with hv | hv
  ·exact hno v hv
  ·simp at hv; subst hv; simpa using h
 ·intro i _ ⟨hi,hno⟩
  rw [Pb (by omega)] at hno
  exact Gd.ret ⟨λh=>by omega,λ⟨v,hv,h⟩=>by have:=hno v hv; omega⟩
abbrev Dl (n:Net) (t:aV) (k:Nat) (l:List (bB×Int)):Int:=acc (λz:bB×Int=>z.2) (λz:bB×Int=>xo n t z.1.Node) k l
structure NF (n:Net) (t:aV) (p:List Int):Prop where
 len:p.length=n.cR.length
 each:∀ z ∈ n.cR.zip p,0<=z.2/\z.2<=100000/\(z.2=0\/z.1.iH<=z.2/\z.2<=z.1.pX)
 NG:∀ k,Dl n t k (n.cR.zip p)=GF n t k
theorem GS {n:Net}{t:aV} (hn:oG n) (hg:dN n=some t) (ht:tN n t) (hc:bT n=some 0):
  Gd (mg n) (λx=>(x.2=14/\x.1=[])\/(x.2=0/\NF n t x.1)):=by
 obtain ⟨N,hN,h24,hpl⟩:=GX hg ht;have h4:=hn.l4;have h5:=hn.l5;obtain ⟨r,hr,hlen,hk⟩:=Iy hn hg ht hN h24 hpl;unfold mg;refine Gd.bind_eq hc (Gd.ite (λh=>by simp at h) (λ_=>Gd.bind_eq hg (Gd.bind_eq hr ?_)))
 refine Gd.dR (λi ys s=>i+ys.length=r.length/\ys=r.drop i/\s=(r.take i).map bG.cV) ?_ ?_ _ _ _ ⟨by simp,by simp,by simp⟩
 ·rintro i y ys s nx ⟨hi,hys,rfl⟩ hnx
  simp only [O6] at hi;have hlt:i<r.length:=by omega
  rw [Px hlt] at hys;obtain ⟨rfl,rfl⟩:=TG hys;unfold q9;refine Gd.nd (by simp; omega) (hnx _ ⟨by omega,rfl,?_⟩)
  rw [Po hlt,Qj]; rfl
 rintro i s ⟨hi,_,rfl⟩;rw [Pb (by simp at hi; omega)]
 refine Gd.dR (λi ys (s:List Int×List Int)=>∃ pre,n.cR=pre++ys/\pre.length=i/\s.1.length=N/\s.2.length=pre.length/\(∀ v ∈ s.1,0<=v)/\(∀ z ∈ pre.zip s.2,0<=z.2/\z.2<=100000/\(z.2=0\/z.1.iH<=z.2/\z.2<=z.1.pX)) /\
   (∀ k (hk:k<s.1.length),s.1[k]+Dl n t k (pre.zip s.2)=GF n t k)) ?_ ?_ _ _ _
  ⟨[],rfl,rfl,by simp [hlen],rfl,?_,by simp,?_⟩
 ·rintro i y ys ⟨rest,out⟩ nx ⟨pre,hp,hpi,hl1,hl2,h0,he,hb⟩ hnx
  simp only at hl1 hl2 h0 he hb;have hy:y ∈ n.cR:=by rw [hp]; simp
  obtain ⟨hpp,_⟩:=AS ht (hn.gn y hy).1;have hlp:xo n t y.Node<rest.length:=by have:=hpl _ (hn.gn y hy).1; omega
  have hgy:=hn.gn y hy;have hr0:=h0 rest[xo n t y.Node] (Pt _);have hb0:=hb _ hlp;have hd:=H8 hn t (xo n t y.Node);have hge:0<=Dl n t (xo n t y.Node) (pre.zip out):=BZ (λz hz=>(he z hz).1);have hpl10:pre.length<10:=by
   have:n.cR.length=pre.length+(ys.length+1):=by rw [hp]; simp
   omega
  have step:∀ p:Int,0<=p->p<=rest[xo n t y.Node]->p<=y.pX->(p=0\/y.iH<=p/\p<=y.pX) ->
    Gd (lG rest out nx (xo n t y.Node:Int) rest[xo n t y.Node] p) (λx=>(x.2=14/\x.1=[])\/(x.2=0/\NF n t x.1)):=by
   intro p p0 pr pm pe;have hw:i64.wrap (rest[xo n t y.Node]-p)=rest[xo n t y.Node]-p:=bJ ⟨by omega,by omega⟩
   have hz:(pre++[y]).zip (out++[p])=pre.zip out++[(y,p)]:=by rw [List.zip_append hl2.symm]; rfl
   unfold lG;rw [hw,OX];refine Gd.nd (by simp; omega) (hnx _ ⟨pre++[y],by rw [hp]; simp,by simp [hpi],by simp [hl1],by simp [hl2],?_,?_,?_⟩)
   ·intro v hv
    rcases TS hv with hv | rfl
    ·exact h0 v hv
    ·omega
   ·simp only
    rw [hz];intro z hzz;rcases Pa.1 hzz with h1 | h1
    ·exact he z h1
    ·rw [PA] at h1
     subst h1;exact ⟨p0,by simp only; omega,pe⟩
   ·intro k hkl
    simp only [Qg] at hkl;simp only;rw [hz];unfold Dl;rw [x9,TL];have hbk:=hb k hkl;unfold Dl at hbk
    by_cases e:xo n t y.Node=k
    ·subst e
     rw [O3 rfl,O3 rfl];simp only; omega
    ·rw [O2 e,O2 e]; omega
  unfold q_;refine Gd.bind_eq hpp (Gd.gA hlp (Gd.ite (λhle=>?_) (λ_=>step 0 (by omega) (by omega) (by omega) (.inl rfl))))
  have hle:y.iH<=rest[xo n t y.Node]:=by simpa using hle
  exact step (min y.pX rest[xo n t y.Node]) (by omega) (by omega) (by omega) (.inr ⟨by omega,by omega⟩)
 ·rintro i ⟨rest,out⟩ ⟨pre,hp,hpi,hl1,hl2,h0,he,hb⟩
  simp only at hl1 hl2 h0 he hb;rw [PE] at hp;subst hp;refine Gd.eC (JV rest) (λb hb2=>Gd.ite (λ_=>Gd.ret (.inl ⟨rfl,rfl⟩)) (λh=>Gd.ret (.inr ⟨rfl,hl2,he,λk=>?_⟩)));have hno:∀ v ∈ rest,v=0:=λv hv=>by
   have h1:=h0 v hv
   by_cases e:0<v
   ·have:=hb2.2 ⟨v,hv,e⟩
    rw [this] at h; cases h
   ·omega
  by_cases hkN:k<rest.length
  ·have:=hb k hkN
   rw [hno _ (Pt _)] at this;show Dl n t k (n.cR.zip out)=_;omega
  ·have none:∀ {α:Type} (f:α->Int) (p:α->Nat) (l:List α),(∀ x ∈ l,p x<N)->acc f p k l=0:=by
    intro α f p l
    induction l with
    | nil=>intro _; rfl
    | cons x l ih=>
     intro hx;have h1:=hx x (O0 ..);have h2:=ih (λx h=>hx x (O5 _ h));show (if p x=k then f x else 0)+acc f p k l=0
     rw [O2 (by omega),h2]; rfl
   rw [show GF n t k=0 from none _ _ _ (λl hl=>hpl _ (hn.ld l hl).1)];exact none _ _ _ (λz hz=>hpl _ (hn.gn _ (List.of_mem_zip hz).1).1)
 ·intro v hv
  obtain ⟨s,hs,rfl⟩:=PL.1 hv;obtain ⟨k,hk2,rfl⟩:=Qb.1 hs;rw [hk k hk2]; exact (H8 hn t k).1
 ·intro k hkl
  simp only [QN] at hkl;simp only [QR];rw [hk k hkl];show GF n t k+0=_;omega
theorem D4 {α β:Type}{y:α}{v:β}:∀ {pre:List α}{p:List β},p[pre.length]? = some v->(pre++[y]).zip p=pre.zip p++[(y,v)]
 | [],[],h=>by simp at h
 | [],b::p,h=>by
  have:b=v:=by simpa using h
  subst this;simp
 | a::pre,[],h=>by simp at h
 | a::pre,b::p,h=>by
  have h2:p[pre.length]? = some v:=by simpa using h
  have:=D4 (y:=y) h2;simp [this]
structure Hs (n:Net) (t:aV) (p:List Int):Prop where
 len:p.length=n.a_.length
 Jy:∀ z ∈ p,-100000<=z/\z<=100000
 NG:∀ k,sx (CB t) k 0 p=0
theorem EF {n:Net}{t:aV} (h:oA n) (hn:oG n) (hg:dN n=some t) (ht:tN n t) (hc:bT n=some 0) {p:List Int} (hp:NF n t p):
  Gd (qQ n p (List.replicate n.bM.length 0)) (λx=>(x.2=4/\x.1=[])\/(x.2=0/\Hs n t x.1)):=by
 have l1:=hn.l1;have l4:=hn.l4;have l5:=hn.l5;have l6:=h.l6;unfold qQ;refine Gd.bind_eq hc (Gd.ite (λh=>by simp at h) (λ_=>?_))
 refine Gd.ite (λh=>absurd h (by simp [hp.len])) (λ_=>Gd.nd (by omega) ?_)
 rw [OX];refine Gd.dR (λi ys s=>∃ pre,n.cR=pre++ys/\pre.length=i/\s.length=n.a_.length/\(∀ k,sx (CB t) k 0 s=Dl n t k (pre.zip p))/\∀ z ∈ s,-(100000*(i:Int))<=z/\z<=100000*(i:Int)) ?_ ?_ n.cR 0 _
  ⟨[],rfl,rfl,by simp,λk=>DE _ _ _ _,λz hz=>by have:=TJ hz; omega⟩
 ·rintro i y ys s nx ⟨pre,hpp,hpi,hsl,hb,hs⟩ hnx
  have hy:y ∈ n.cR:=by rw [hpp]; simp
  obtain ⟨q1,q2⟩:=SS (hn.gn y hy).1;have hil:i<n.cR.length:=by rw [hpp]; simp; omega
  have hip:i<p.length:=by rw [hp.len]; exact hil
  have hpi2:=OU hip;have hzip:=D4 (y:=y) (pre:=pre) (p:=p) (v:=p[i]) (by rw [hpi]; exact hpi2)
  have hmem:(y,p[i]) ∈ n.cR.zip p:=by
   refine Qb.2 ⟨i,by simp [hp.len]; omega,?_⟩
   rw [List.getElem_zip]
   congr 1
   have:n.cR[i]? = some y:=by rw [hpp,Pz (by omega),hpi,Qf]; rfl
   rw [OU hil] at this;exact OZ this
  have he:=hp.each _ hmem;simp only at he;have hps:pos n y.Node<s.length:=by omega
  have hz:=hs _ (Pt hps);have fin:Gd (nx (s.set ((pos n y.Node:Int)).toNat (i64.wrap (s[pos n y.Node]+p[i])))) (λx=>(x.2=4/\x.1=[])\/(x.2=0/\Hs n t x.1)):=by
   have hw:i64.wrap (s[pos n y.Node]+p[i])=s[pos n y.Node]+p[i]:=bJ ⟨by omega,by omega⟩
   rw [hw,OX];refine hnx _ ⟨pre++[y],by rw [hpp]; simp,by simp [hpi],by simp [hsl],λk=>?_,λz hz2=>?_⟩
   ·rw [AF _ _ _ _ _ _ hps,hb k,hzip]
    unfold Dl;rw [x9,Pm];show _+(if xo n t y.Node=k then _ else _)=_
    split <;> omega
   ·rcases TS hz2 with h1 | h1
    ·have:=hs z h1; omega
    ·subst h1; omega
  unfold sh;refine Gd.gA hip (Gd.ite (λh0=>?_) (λh0=>?_))
  ·exact Gd.bind_eq q1 (Gd.gA hps (Gd.gA hip (Gd.gA hps fin)))
  ·have h0:p[i]≠0:=O9 h0
   refine Gd.gA hip (Gd.ite (λh1=>?_) (λ_=>Gd.gA hip (Gd.ite (λh1=>?_) (λ_=>Gd.bind_eq q1 (Gd.gA hps (Gd.gA hip (Gd.gA hps fin)))))))
   ·have:=O1 h1; omega
   ·have:=O1 h1; omega
 ·rintro i s ⟨pre,hpp,hpi,hsl,hb,hs⟩
  rw [PE] at hpp;subst hpp;have hb2:∀ k,sx (CB t) k 0 s=GF n t k:=λk=>(hb k).trans (hp.NG k);have hs2:∀ z ∈ s,-1000000<=z/\z<=1000000:=λz hz=>by have:=hs z hz; omega
  clear hb hs;refine Gd.dR (λi ys s'=>∃ pre,n.bM=pre++ys/\pre.length=i/\s'=s) ?_ ?_ n.bM 0 _ ⟨[],rfl,rfl,rfl⟩
  ·rintro i y ys s nx ⟨pre,hpp,hpi,rfl⟩ hnx
   have hy:y ∈ n.bM:=by rw [hpp]; simp
   obtain ⟨_,v2,v3⟩:=h.vt y hy;obtain ⟨q1,q2⟩:=SS v2;have hil:i<n.bM.length:=by rw [hpp]; simp; omega
   have hst:(List.replicate n.bM.length (0:Int))[i]? = some 0:=by rw [Rf,O3 hil]
   have hps:pos n y.Node<s.length:=by omega
   have hz:=hs2 _ (Pt hps);have hch:0<=y.rA/\y.rA<=100000/\0<=y.Discharge/\y.Discharge<=100000:=by
    simp [BI,aU,bE] at v3;omega
   have hw:i64.wrap (0-y.rA)=0-y.rA:=bJ ⟨by omega,by omega⟩
   have hw2:i64.wrap (s[pos n y.Node]+0)=s[pos n y.Node]:=by rw [bJ ⟨by omega,by omega⟩]; omega
   unfold si;rw [hw];refine Gd.ix (by omega) (by rw [OX]; exact hst) (Gd.ite (λh1=>?_) (λ_=>Gd.ix (by omega) (by rw [OX]; exact hst) (Gd.ite (λh1=>?_) (λ_=>Gd.bind_eq q1 (Gd.gA hps (Gd.ix (by omega) (by rw [OX]; exact hst) (Gd.gA hps ?_)))))))
   ·have:=O1 h1; omega
   ·have:=O1 h1; omega
   ·rw [hw2,OX]
    exact hnx _ ⟨pre++[y],by rw [hpp]; simp,by simp [hpi],AX (OU hps)⟩
  ·rintro i _ ⟨_,_,_,rfl⟩
   refine Gd.dR (λi ys s'=>∃ pre,n.aY=pre++ys/\pre.length=i/\s'.length=n.a_.length/\(∀ k,sx (CB t) k 0 s'=GF n t k-acc aE.cV (λl:aE=>xo n t l.Node) k pre)/\∀ z ∈ s',-(1000000+100000*(i:Int))<=z/\z<=1000000) ?_ ?_ n.aY 0 _
    ⟨[],rfl,rfl,hsl,λk=>by rw [hb2 k]; show _=GF n t k-0; omega,λz hz=>by have:=hs2 z hz; omega⟩
   ·rintro i y ys s' nx ⟨pre,hpp,hpi,hsl',hb',hs'⟩ hnx
    have hy:y ∈ n.aY:=by rw [hpp]; simp
    obtain ⟨q1,q2⟩:=SS (hn.ld y hy).1;have hd:=(hn.ld y hy).2;have hil:i<n.aY.length:=by rw [hpp]; simp; omega
    have hps:pos n y.Node<s'.length:=by omega
    have hz:=hs' _ (Pt hps);have hw:i64.wrap (s'[pos n y.Node]-y.cV)=s'[pos n y.Node]-y.cV:=bJ ⟨by omega,by omega⟩
    unfold sj;refine Gd.bind_eq q1 (Gd.gA hps (Gd.gA hps ?_));rw [hw,OX];refine hnx _ ⟨pre++[y],by rw [hpp]; simp,by simp [hpi],by simp [hsl'],λk=>?_,λz hz2=>?_⟩
    ·rw [AF _ _ _ _ _ _ hps,hb' k,x9,Pm]
     show _+(if xo n t y.Node=k then _ else _)=_
     split <;> omega
    ·rcases TS hz2 with h1 | h1
     ·have:=hs' z h1; omega
     ·subst h1; omega
   ·rintro i s' ⟨pre,hpp,hpi,hsl',hb',hs'⟩
    rw [PE] at hpp;subst hpp;refine Gd.dR (λi ys _=>∃ pre,s'=pre++ys/\∀ z ∈ pre,-100000<=z/\z<=100000) ?_ ?_ s' 0 _ ⟨[],rfl,λz hz=>by simp at hz⟩
    ·rintro i y ys _ nx ⟨pre,hpp,hr⟩ hnx
     unfold sk;refine Gd.ite (λ_=>Gd.ret (.inl ⟨rfl,rfl⟩)) (λh1=>hnx () ⟨pre++[y],by rw [hpp]; simp,λz hz=>?_⟩)
     simp only [Tx,Uv] at h1;rcases Pa.1 hz with h2 | h2
     ·exact hr z h2
     ·rw [PA] at h2
      subst h2; omega
    ·rintro i _ ⟨pre,hpp,hr⟩
     rw [PE] at hpp;subst hpp;exact Gd.ret (.inr ⟨rfl,hsl',hr,λk=>by rw [hb' k]; show GF n t k-GF n t k=0; omega⟩)
theorem GQ {n:Net}{t:aV} (h:oA n) (hn:oG n) (hg:dN n=some t) (ht:tN n t) (hc:bT n=some 0):
  Gd (fM n) (λx=>(x.2≠0/\x.1=[])\/(x.2=0/\Hs n t x.1)):=by
 have l6:=h.l6;unfold fM;refine Gd.eC (GS hn hg ht hc) (λx hx=>?_);rcases hx with ⟨e,_⟩ | ⟨e,hb⟩
 ·rw [e]
  exact Gd.ite (λ_=>Gd.ret (.inl ⟨by simp,rfl⟩)) (λh=>by simp at h)
 ·rw [e]
  refine Gd.ite (λh=>by simp at h) (λ_=>Gd.nd (by omega) ?_)
  rw [OX];refine Gd.eC (EF h hn hg ht hc hb) (λy hy=>Gd.ret ?_);rcases hy with ⟨e1,e2⟩ | hy
  ·exact .inl ⟨by simp only; omega,e2⟩
  ·exact .inr hy
theorem GK {n:Net}{t:aV} (hg:dN n=some t) (ht:tN n t) (hn:oG n) (hc:bT n=some 0) {p:List Int} (hp:Hs n t p):mL n p=some 0:=by
 have l1:=hn.l1;rw [<- Gd.eq];unfold mL;refine Gd.bind_eq hc (Gd.ite (λh=>by simp at h) (λ_=>Gd.ite (λh=>absurd h (by simp [hp.len])) (λ_=>Gd.bind_eq hg ?_)))
 refine Gd.dR (λi ys (l:List (Int×Int))=>∃ pre,p=pre++ys/\pre.length=i/\CP l/\(∀ z ∈ l,∃ k:Nat,z.1=(k:Int))/\∀ k:Nat,(qK l (k:Int)).getD 0=sx (CB t) k 0 pre) ?_ ?_ p 0 _ ⟨[],rfl,rfl,CP.nil,λz hz=>by simp at hz,λk=>by simp [qK,vo,sx]⟩
 ·rintro i y ys l nx ⟨pre,hpp,hpi,hk,hkey,hs⟩ hnx
  have hy:=hp.Jy y (by rw [hpp]; simp)
  have hpl:p.length=pre.length+(ys.length+1):=by rw [hpp]; simp
  have hpn:=hp.len;obtain ⟨v,v1,v2,v3,v4⟩:=EZ ht (show i<n.a_.length by omega)
  have hbd:=FO (CB t) (CB t i) (B:=100000) (by omega) pre 0 (λz hz=>hp.Jy z (by rw [hpp]; simp [hz]))
  have hw:i64.wrap ((qK l (CB t i:Int)).getD 0+y)=(qK l (CB t i:Int)).getD 0+y:=by
   rw [hs (CB t i)];exact bJ ⟨by omega,by omega⟩
  unfold s5;refine Gd.ite (λh=>?_) (λ_=>Gd.ix (by omega) (by rw [OX]; exact v1) (Gd.ix (by omega) (by rw [OX]; exact v3) ?_))
  ·exfalso
   simp only [Qu,PF] at h;omega
  ·rw [hw]
   refine hnx _ ⟨pre++[y],by rw [hpp]; simp,by simp [hpi],(hk.put _ _).1,λz hz=>?_,λk=>?_⟩
   ·rcases ((hk.put _ _).2 z).1 hz with h1 | h1
    ·exact ⟨CB t i,by rw [h1]⟩
    ·exact hkey z h1.1
   ·rw [hk.FF,DD]
    show _=_+((if CB t (0+pre.length)=k then y else 0)+0)
    rw [Pm,hpi]
    by_cases e:CB t i=k
    ·subst e
     rw [O3 rfl,O3 rfl,QT,hs]; omega
    ·rw [O2 (by omega),O2 e,hs]; omega
 ·rintro i l ⟨pre,hpp,hpi,hk,hkey,hs⟩
  rw [PE] at hpp;subst hpp;have:(l.any λp=>!decide (p.2=0))=false:=by
   rw [List.any_eq_false];intro z hz;obtain ⟨k,hk2⟩:=hkey z hz;have h1:qK l (k:Int)=some z.2:=hk.find.2 (by rw [<- hk2]; exact hz)
   have h2:=hs k;rw [h1,QT,hp.NG k] at h2;simp [h2]
  rw [this];exact Gd.ret rfl
theorem Jq (l:List ByteArray):iZ l l=some true:=by
 rw [<- Gd.eq];unfold iZ;refine Gd.ite (λh=>by simp at h) (λ_=>?_)
 refine Gd.jN (Q:=λx=>x=true) (λm i (_:Unit)=>i+m=l.length) ?_ (λ_ _ _=>Gd.ret rfl) ((l.length:Int)).toNat 0 () (by omega)
 intro m i _ nx hi hnx;unfold nD;exact Gd.gA (by omega) (Gd.gA (by omega) (Gd.ite (λh=>by simp at h) (λ_=>hnx () (by omega))))
theorem Dc {s:ByteArray} (h:∃ q,fits q/\s=ctext q):s.size<=maxLen:=by
 obtain ⟨q,hq,rfl⟩:=h;have:=Ey hq;unfold maxLen; omega
theorem Hg {n:Net}{p:List Int} (h:oA n) (hn:oG n) {t:aV} (hg:dN n=some t) (ht:tN n t) (hc:mL n p=some 0) {s:cE} (hs:Lw n t s) (hr:mO n p=some (s,0)):sE n p s=some 0:=by
 have hN:=ht.Hv;have h24:=h.l3;rw [<- Gd.eq];unfold sE;refine Gd.bind_eq hc (Gd.ite (λh=>by simp at h) (λ_=>?_))
 refine Gd.eC (DC h hn hg ht) ?_;rintro _ ⟨M,rfl,hM⟩;simp only [Bh];unfold eD;rw [hM.top,hs.al,hs.fl];refine Gd.ite (λ_=>Gd.ite (λh=>by simp at h) (λ_=>?_)) (λh=>by simp at h)
 refine Gd.seen (l:=[s.f_,s.iW]) (λ_ _=>True) ?_ ?_ () OV
 ·rintro i y _ nx pre hpre _ hnx
  have hy:=(uQ hpre).2.1;unfold u5;have hcv:kL y=some 0:=by
   rw [<- Gd.eq];have hlen:y.length<=24/\∀ x ∈ y,∃ q,fits q/\x=ctext q:=by
    rcases PH.1 hy with rfl | hy
    ·exact ⟨by rw [hs.al]; exact hN,hs.a⟩
    ·rw [PA] at hy
     subst hy;exact ⟨by rw [hs.fl]; exact h24,hs.f⟩
   unfold kL;refine Gd.ite (λh=>absurd (O1 h) (by omega)) (λ_=>Gd.eC (y9 (λx hx=>Dc (hlen.2 x hx))) (λc hc=>Gd.ret (hc.2 hlen.2)))
  exact Gd.bind_eq hcv (Gd.ite (λh=>by simp at h) (λ_=>hnx () OV))
 ·rintro _ _
  refine Gd.bind_eq hr (Gd.ite (λ_=>?_) (λh=>by simp at h))
  exact Gd.bind_eq (Jq _) (Gd.ite (λ_=>Gd.bind_eq (Jq _) (Gd.ite (λh=>by simp at h) (λ_=>Gd.ret rfl))) (λh=>by simp at h))
theorem vw (n:Net) (hz:oL n):(∃ e,e≠0/\fM n=some ([],e)) \/
  (∃ t p s,oA n/\oG n/\dN n=some t/\tN n t/\Hs n t p/\fM n=some (p,0)/\mL n p=some 0/\mO n p=some (s,0)/\Lw n t s/\sE n p s=some 0):=by
 obtain ⟨e,he,hok⟩:=Tq n hz
 by_cases h0:e=0
 ·subst h0
  have hV:=hok rfl;have hn:=hV.ok hz;obtain ⟨t,hg,ht⟩:=KA hn;obtain ⟨⟨p,x⟩,hi,hx⟩:=GQ hV hn hg ht he;rcases hx with ⟨hne,hp⟩ | ⟨hx,hb⟩
  ·left
   simp only at hne hp;subst hp;exact ⟨x,hne,hi⟩
  ·right
   simp only at hx hb;subst hx;have hc:=GK hg ht hn he hb;obtain ⟨⟨s,y⟩,hs,hy,hst⟩:=Jf hV hn hg ht hb.len hb.Jy hc;simp only at hy hst;subst hy;exact ⟨t,p,s,hV,hn,hg,ht,hb,hi,hc,hs,hst,Hg hV hn hg ht hc hst hs⟩
 ·left
  refine ⟨e,h0,?_⟩;have hsh:mg n=some ([],e):=by
   rw [<- Gd.eq];unfold mg;exact Gd.bind_eq he (Gd.ite (λ_=>Gd.ret rfl) (λh=>absurd (by simpa using h) h0))
  rw [<- Gd.eq];unfold fM;exact Gd.bind_eq hsh (Gd.ite (λ_=>Gd.ret rfl) (λh=>absurd (by simpa using h) h0))
instance NR (p:ByteArray) (l:List ByteArray):Decidable (p ∈ l):=@List.instDecidableMemOfLawfulBEq _ instBEqOfDecidableEq inferInstance p l
theorem rU (l:List ByteArray) (p:ByteArray):bF l p=some (decide (p ∈ l)):=by
 obtain ⟨b,e,h⟩:=tA l p;rw [e]
 congr 1
 cases b <;> simp_all
theorem B5 {α:Type} (p:α->Option Bool) (kp:α->Bool) (hp:∀ x,p x=some (!kp x)) (z:α) (A:List α) (hA:A.length<=100000):
  Gd ((jN (λk (_:Unit) n=>idx A (k:Int) λy=>(p y).bind λr=>if r then (some (k:Int)) else (n ())) (λ_=>some (-1)) ((A.length:Int)).toNat 0 ()).bind λr=>
   if decide (r=(-1)) then (some A) else (gH (λ(s:List α×Int×Int) n=>if decide (s.2.2<(s.1.length:Int)) then (idx s.1 s.2.2 λy=>(p y).bind λr=>if !r then (idx s.1 s.2.1 λ_=>n (s.1.set (s.2.1).toNat y,i64.wrap (s.2.1+1),i64.wrap (s.2.2+1))) else (n (s.1,s.2.1,i64.wrap (s.2.2+1))))
    else (dG (0<=s.2.1/\s.2.1<=(s.1.length:Int)) (dG (0<=s.2.1/\s.2.1<=((s.1.take (s.2.1).toNat++List.replicate (s.1.length-(s.2.1).toNat) z).length:Int)) (some (rV (s.1.take (s.2.1).toNat++List.replicate (s.1.length-(s.2.1).toNat) z) 0 (s.2.1).toNat))))) fC (A,r,i64.wrap (r+1)))) (λr=>r=A.filter kp):=by
 refine Gd.eC (P:=λr=>(r = -1/\∀ x ∈ A,kp x=true)\/∃ (i:Nat) (h:i<A.length),r=i/\kp A[i]=false/\∀ x ∈ A.take i,kp x=true) ?_ (λr hr=>?_)
 ·refine Gd.jN (λm i _=>i+m=A.length/\∀ x ∈ A.take i,kp x=true) ?_ ?_ (A.length:Int).toNat 0 () ⟨by omega,by simp⟩
  ·intro m i _ nx ⟨hi,hno⟩ hnx
   have hlt:i<A.length:=by omega
   refine Gd.gA hlt ?_;rw [hp];refine Gd.ite (λh=>Gd.ret (.inr ⟨i,hlt,rfl,by simpa using h,hno⟩)) (λh=>hnx () ⟨by omega,?_⟩)
   rw [Po hlt];intro x hx;rcases Pa.1 hx with hx | hx
   ·exact hno x hx
   ·simp at hx; subst hx; simpa using h
  ·intro i _ ⟨hi,hno⟩
   rw [Pb (by omega)] at hno
   exact Gd.ret (.inl ⟨rfl,hno⟩)
 ·rcases hr with ⟨rfl,hall⟩ | ⟨i,hi,rfl,hki,hpre⟩
  ·exact Gd.ite (λ_=>Gd.ret (Tl.2 hall).symm) (λh=>by simp at h)
  ·refine Gd.ite (λh=>by simp at h) (λ_=>?_)
   have hw0:i64.wrap ((i:Int)+1)=((i+1:Nat):Int):=by rw [bJ ⟨by omega,by omega⟩]; omega
   rw [hw0];have hinit:A.take i=(A.take (i+1)).filter kp:=by
    rw [Po hi,Ry,Tl.2 hpre];simp [TK,hki]
   refine Gd.gH (λ(s:List α×Int×Int)=>∃ p q:Nat,s.2.1=p/\s.2.2=q/\p<q/\q<=A.length/\s.1.length=A.length/\s.1.take p=(A.take q).filter kp/\s.1.drop q=A.drop q) (λs=>A.length-s.2.2.toNat) ?_ fC _ ⟨i,i+1,rfl,rfl,by omega,by omega,rfl,hinit,rfl⟩ (by unfold fC; omega)
   rintro ⟨l,n1,n2⟩ nx ⟨p,q,h1,h2,hpq,hqA,hl,htk,hdr⟩ hn;simp only at h1 h2 hl htk hdr;subst h1; subst h2
   have hwq:i64.wrap ((q:Int)+1)=((q+1:Nat):Int):=by rw [bJ ⟨by omega,by omega⟩]; omega
   have hwp:i64.wrap ((p:Int)+1)=((p+1:Nat):Int):=by rw [bJ ⟨by omega,by omega⟩]; omega
   rw [hwq];refine Gd.ite (λh=>?_) (λh=>?_)
   ·have hq:q<l.length:=by
     have:(q:Int)<((l.length:Nat):Int):=by simpa using h
     omega
    have hqa:q<A.length:=by omega
    have hv:l[q]=A[q]:=by
     have e1:=Px hq;have e2:=Px hqa;rw [hdr,e2] at e1;exact (TG e1).1.symm
    have hd2:l.drop (q+1)=A.drop (q+1):=by
     have:=P3 (List.drop 1) hdr;simpa [QF] using this
    have htk2:(A.take (q+1)).filter kp=(A.take q).filter kp++(if kp A[q] then [A[q]] else []):=by
     rw [Po hqa,Ry]
     congr 1
     simp only [TK,List.filter_nil]
    refine Gd.gA hq ?_;rw [hp,hv];refine Gd.ite (λhk=>Gd.gA (show p<l.length by omega) ?_) (λhk=>?_)
    ·have hk:kp A[q]=true:=by simpa using hk
     rw [hwp,OX];refine hn _ ⟨p+1,q+1,rfl,rfl,by omega,by omega,by simpa using hl,?_,?_⟩ (by simp only [OX]; omega)
     ·simp only
      have hp:p<(l.set p A[q]).length:=by simp; omega
      rw [Po hp,List.getElem_set_self,htk2,O3 hk,RM (Pl p),htk]
     ·simp only
      rw [Rh (by omega),hd2]
    ·have hk:kp A[q]=false:=by simpa using hk
     refine hn _ ⟨p,q+1,rfl,rfl,by omega,by omega,hl,?_,hd2⟩ (by simp only [OX]; omega)
     simp only;rw [htk2,O2 (by simp [hk]),PE,htk]
   ·have hq:l.length<=q:=by
     have:((l.length:Nat):Int)<=(q:Int):=by simpa using h
     omega
    have hqe:q=A.length:=by omega
    refine Gd.nd ⟨TD p,show (p:Int)<=((l.length:Nat):Int) by omega⟩ (Gd.nd ⟨TD p,?_⟩ (Gd.ret ?_))
    ·simp only [OX,Pg,Pn,Qd]; omega
    ·unfold rV
     rw [Qh,RT,OX,List.take_append_of_le_length (by simp; omega),SU,Nat.min_self,htk,hqe,QH]
def Dt (W:List BA) (x:aE):Bool:=decide (x.Name ∈ W)
theorem del_eq (W:List BA) (x:aE):lK x W=some (!Dt W x):=by
 unfold lK;rw [rU]; rfl
theorem Ez (W:List BA) (A:List aE) (hA:A.length<=1000):Gd (dK A W) (λr=>r=A.filter (Dt W)):=
 B5 (λy=>lK y W) (Dt W) (del_eq W) (aE.mk ⟨#[]⟩ ⟨#[]⟩ 0) A (by omega)
theorem Ha {l:List ByteArray}{k:Nat}:rV l 0 k=l.take k:=by unfold rV; simp
theorem Hi {n:Net} (hz:oL n) (on:List ByteArray):Gd (dV n on) (λe=>e=0->bT n=some 0):=by
 obtain ⟨e,he,_⟩:=Tq n hz;unfold dV;refine Gd.bind_eq he (Gd.ite (λh=>Gd.ret (λh0=>by subst h0; simp at h)) (λh=>?_))
 have h0:e=0:=by simpa using h
 subst h0;refine Gd.dR (Q:=λe=>e=0->bT n=some 0) (λi (ys:List ByteArray) (_:Unit)=>i+ys.length=on.length) ?_ (λ_ _ _=>Gd.ret (λ_=>he)) on 0 () (by simp)
 intro i y ys _ nx hi hnx;simp only [O6] at hi;unfold pf;refine Gd.eC (P:=λ_=>True) ?_ (λb _=>Gd.ite (λ_=>Gd.ret (λh=>by simp at h)) (λ_=>?_))
 ·unfold cG cJ
  refine Gd.eC (P:=λ_=>True) ?_ (λ_ _=>Gd.ret OV);refine Gd.jN (Q:=λ_=>True) (λm i (_:Unit)=>i+m=n.aY.length) ?_ (λ_ _ _=>Gd.ret OV) ((n.aY.length:Int)).toNat 0 () (by omega)
  intro m i _ nx hi hnx;unfold dC;exact Gd.gA (by omega) (Gd.ite (λ_=>Gd.ret OV) (λ_=>hnx () (by omega)))
 ·refine Gd.nd (by omega) ?_
  rw [rU];exact Gd.ite (λ_=>Gd.ret (λh=>by simp at h)) (λ_=>hnx () (by omega))
def qh (n:Net) (on:List ByteArray):Net:=aD.mk n.a_ n.aH n.aG n.cR (n.aY.filter (Dt on)) n.bM
theorem F9 {n:Net} (h:oA n) (on:List ByteArray):oJ n on=some (qh n on):=by
 have:=h.l1; have:=h.l2; have:=h.l3; have:=h.l4; have:=h.l5; have:=h.l6
 rw [<- Gd.eq];unfold oJ iV;refine Gd.eC (P:=λr=>r=n) (Gd.nd (by omega) (Gd.nd (by omega) (Gd.nd (by omega) (Gd.nd (by omega) (Gd.nd (by omega) (Gd.nd (by omega) (Gd.ret rfl))))))) (λr hr=>?_)
 subst hr;refine Gd.eC (Ez on r.aY (by omega)) (λl hl=>Gd.ret ?_)
 rw [hl]; rfl
theorem oL.qh {n:Net} (h:oL n) (on:List ByteArray):oL (qh n on):=
 ⟨h.nd,h.sw,h.br,h.gn,λx hx=>h.ld x (P6.1 hx).1,h.st⟩
theorem JF {n:Net}{on:List ByteArray}{e:Int} (h:dV n on=some e) (h0:e≠0):np n on=some (aD.mk [] [] [] [] [] [],e):=by
 rw [<- Gd.eq];unfold np;exact Gd.bind_eq h (Gd.ite (λ_=>Gd.ret rfl) (λk=>absurd (by simpa using k) h0))
theorem BY {n:Net} (hV:oA n) {on:List ByteArray} (h:dV n on=some 0):np n on=some (qh n on,0):=by
 rw [<- Gd.eq];unfold np;exact Gd.bind_eq h (Gd.ite (λk=>by simp at k) (λ_=>Gd.bind_eq (F9 hV on) (Gd.ret rfl)))
def yI (z:aO×Rat):Prop:=(z.1.sK:Rat)<L6 z.2
open Classical in
noncomputable def xu (z:aO×Rat):List ByteArray:=if yI z then [z.1.Name] else []
theorem yR {z:aO×Rat} (h:yI z):xu z=[z.1.Name]:=O3 h
theorem AQ {z:aO×Rat} (h:¬ yI z):xu z=[]:=O2 h
theorem F0:∀ {l:List ByteArray},(∀ x ∈ l,∃ q,fits q/\x=ctext q)->∃ qs:List Rat,l=qs.map ctext/\∀ q ∈ qs,fits q
 | [],_=>⟨[],rfl,λq h=>by cases h⟩
 | x::l,h=>by
  obtain ⟨q,hq,rfl⟩:=h x (O0 ..);obtain ⟨qs,rfl,hf⟩:=F0 (l:=l) (λy hy=>h y (O5 _ hy));refine ⟨q::qs,rfl,λp hp=>?_⟩;rcases PH.1 hp with rfl | hp
  ·exact hq
  ·exact hf p hp
theorem Jw {bs:List aO}{qs:List Rat}{i:Nat} (h:i<bs.length) (h':i<qs.length):
  ((bs.zip qs).take (i+1)).flatMap xu=((bs.zip qs).take i).flatMap xu++xu (bs[i],qs[i]):=by
 have hz:i<(bs.zip qs).length:=by simp; omega
 rw [Po hz,R9,List.getElem_zip];simp
theorem Cy {n:Net} (hV:oA n) {qs:List Rat} (hl:qs.length=n.aG.length) (hf:∀ q ∈ qs,fits q):
  nq n (qs.map ctext)=some ((n.aG.zip qs).flatMap xu):=by
 have h3:=hV.l3;rw [<- Gd.eq];unfold nq;refine Gd.dR (λi (ys:List aO) (w:List ByteArray)=>i+ys.length=n.aG.length/\n.aG.drop i=ys/\w.length<=i/\w=((n.aG.zip qs).take i).flatMap xu) ?_ ?_ n.aG 0 [] ⟨by simp,rfl,by simp,by simp⟩
 ·rintro i y ys w nx ⟨hi,hd,hw,hv⟩ hnx
  simp only [O6] at hi;have hib:i<n.aG.length:=by omega
  have hiq:i<qs.length:=by omega
  have hy:n.aG[i]=y:=by
   have e:=Px hib;rw [hd] at e; exact (TG e).1.symm
  have hd':n.aG.drop (i+1)=ys:=by
   have:=P3 (List.drop 1) hd;simpa [QF] using this
  have hL:=(Gr hV (Pt hib)).l;have hst:=Jw hib hiq;rw [<- hv] at hst;unfold rO ob;refine Gd.gA (by simpa using hiq) ?_
  rw [QR];refine Gd.eC (DL (hf _ (Pt hiq))) (λa ha=>Gd.eC (F1 ha.1 ha.2.1 (by omega)) (λb hb=>?_))
  rw [<- hy];refine Gd.eC (uj ⟨by omega,by omega⟩) (λc hc=>Gd.eC (CE hb.1 hc.1 hb.2.1 hc.2.1 (by omega)) (λd hd2=>?_))
  rw [hb.2.2,hc.2.2,ha.2.2] at hd2;have hov:0<d↔yI (n.aG[i],qs[i]):=hd2.1;clear hd2;refine Gd.ite (λh=>Gd.nd ?_ (hnx _ ⟨by omega,hd',?_,?_⟩)) (λh=>hnx _ ⟨by omega,hd',by omega,?_⟩)
  ·simp only [O6,TQ]; omega
  ·simp; omega
  ·rw [hst,yR (hov.1 (O1 h))]
  ·rw [hst,AQ (λk=>O9 h (hov.2 k)),PE]
 ·rintro i w ⟨hi,_,_,hv⟩
  rw [Pb (by simp at hi ⊢; omega)] at hv
  exact Gd.ret hv
theorem EX {c:Net} (hz:oL c):∃ e,lg c=some e:=by
 suffices h:Gd (lg c) (λ_=>True) by
  obtain ⟨e,he,_⟩:=h;exact ⟨e,he⟩
 unfold lg;refine Gd.eC (P:=λ_=>True) ?_ (λr _=>Gd.ite (λ_=>Gd.ret OV) (λ_=>Gd.ret OV));unfold fI;rcases vw c hz with ⟨x,hx,hi⟩ | ⟨t,p,s,hV,hn,hg,ht,hb,hi,hfc,hs,hst,hv⟩
 ·exact Gd.bind_eq hi (Gd.ite (λ_=>Gd.ret OV) (λk=>absurd (by simpa using k) hx))
 ·obtain ⟨qs,hq,hqf⟩:=F0 hst.f
  have hql:qs.length=c.aG.length:=by
   have:=hst.fl;rw [hq,QN] at this;exact this
  have ho:=Cy hV (qs:=qs) hql hqf;rw [<- hq] at ho;exact Gd.bind_eq hi (Gd.ite (λk=>by simp at k) (λ_=>Gd.bind_eq hs (Gd.ite (λk=>by simp at k) (λ_=>Gd.bind_eq ho (Gd.ret OV)))))
def AN (n:Net) (l:List ByteArray):Prop:=lg (qh n l)=some 0
def nm (n:Net):List ByteArray:=n.aY.map (·.Name)
theorem IS {n:Net} (h:oA n):(nm n).Nodup:=by
 have:=h.nd;unfold names at this;exact (PS.1 (PS.1 this).1).2.1
theorem yQ (n:Net):(nm n).length=n.aY.length:=by simp [nm]
theorem Jc (l:List ByteArray):rV l 0 ((l.length:Int)).toNat=l:=by simp [rV]
structure Found (n:Net) (l out:List ByteArray):Prop where
 ext:out.take l.length=l
 len:out.length=n.aY.length
 ok:∀ k,l.length<=k->k<=out.length->AN n (out.take k)
 set:l.Nodup->(∀ x ∈ l,x ∈ nm n)->out.Nodup/\∀ x ∈ out,x ∈ nm n

theorem Hz {n:Net}{on:List ByteArray}{e:Int} (h:dV n on=some e) (h0:e≠0):dP n on=some (cE.mk [] [],[],e):=by
 rw [<- Gd.eq];unfold dP;exact Gd.bind_eq (JF h h0) (Gd.ite (λ_=>Gd.ret rfl) (λk=>absurd (by simpa using k) h0))
theorem Gg {n:Net} (hV:oA n) {on:List ByteArray} (h:dV n on=some 0) {e:Int} (h0:e≠0) (hi:fM (qh n on)=some ([],e)):
  dP n on=some (cE.mk [] [],[],e):=by
 rw [<- Gd.eq];unfold dP fI;exact Gd.bind_eq (BY hV h) (Gd.ite (λk=>by simp at k) (λ_=>Gd.eC (P:=λr=>r=(cE.mk [] [],[],e)) (Gd.bind_eq hi (Gd.ite (λ_=>Gd.ret rfl) (λk=>absurd (by simpa using k) h0))) (λr hr=>by subst hr; exact Gd.ret rfl)))
theorem HA {n:Net} (hV:oA n) {on:List ByteArray} (h:dV n on=some 0) {p:List Int}{s:cE}{ov:List ByteArray}
  (hi:fM (qh n on)=some (p,0)) (hs:mO (qh n on) p=some (s,0)) (ho:nq (qh n on) s.iW=some ov):
  dP n on=some (s,ov,0):=by
 rw [<- Gd.eq];unfold dP fI;exact Gd.bind_eq (BY hV h) (Gd.ite (λk=>by simp at k) (λ_=>Gd.eC (P:=λr=>r=(s,ov,0)) (Gd.bind_eq hi (Gd.ite (λk=>by simp at k) (λ_=>Gd.bind_eq hs (Gd.ite (λk=>by simp at k) (λ_=>Gd.bind_eq ho (Gd.ret rfl)))))) (λr hr=>by subst hr; exact Gd.ret rfl)))
theorem Hj {n:Net} (hc:bT n=some 0) (l:List ByteArray) (hl:l.length<=1000) (hnd:l.Nodup) (hs:∀ x ∈ l,x ∈ nm n):dV n l=some 0:=by
 rw [<- Gd.eq];unfold dV;refine Gd.bind_eq hc (Gd.ite (λh=>by simp at h) (λ_=>?_))
 refine Gd.dR (Q:=λe=>e=0) (λi (ys:List ByteArray) (_:Unit)=>i+ys.length=l.length/\l.drop i=ys) ?_ (λ_ _ _=>Gd.ret rfl) l 0 () ⟨by simp,rfl⟩
 rintro i y ys _ nx ⟨hi,hd⟩ hnx;simp only [O6] at hi;have hil:i<l.length:=by omega
 have hy:l[i]=y:=by
  have e:=Px hil;rw [hd] at e; exact (TG e).1.symm
 have hd':l.drop (i+1)=ys:=by
  have:=P3 (List.drop 1) hd;simpa [QF] using this
 have hmem:y ∈ nm n:=hs y (hy▸Pt hil);obtain ⟨q,hq,hqy⟩:=Qb.1 hmem;rw [yQ] at hq;have hqy:n.aY[q].Name=y:=by simpa [nm] using hqy
 unfold pf;refine Gd.eC (P:=λb=>b=true) ?_ (λb hb=>?_)
 ·unfold cG cJ
  refine Gd.eC (P:=λr=>(0:Int)<=r) ?_ (λr hr=>Gd.ret (by simpa using hr))
  refine Gd.jN (Q:=λr=>(0:Int)<=r) (λm i (_:Unit)=>i+m=n.aY.length/\i<=q) ?_ (λi _ h=>by omega) ((n.aY.length:Int)).toNat 0 () ⟨by omega,by omega⟩
  rintro m i _ nx ⟨hi,hiq⟩ hnx;unfold dC;refine Gd.gA (by omega) (Gd.ite (λ_=>Gd.ret (by omega)) (λh=>hnx () ⟨by omega,?_⟩))
  refine Nat.lt_of_le_of_ne hiq (λe=>?_);subst e;simp [oa,hqy] at h
 ·subst hb
  refine Gd.ite (λh=>by simp at h) (λ_=>Gd.nd (by omega) ?_)
  rw [rU,Ha,OX];refine Gd.ite (λh=>?_) (λ_=>hnx () ⟨by omega,hd'⟩)
  exfalso;have h:=O1 h;obtain ⟨p,hp,hp2⟩:=List.mem_take_iff_getElem.1 h;rw [<- hy] at hp2;have:p=i:=(List.getElem_inj hnd).1 hp2;omega
def vG (off:List BA) (x:BA):Bool:=!decide (x ∈ off)
theorem Kc (off:List BA) (x:BA):iQ x off=some (!vG off x):=by
 unfold iQ vG;rw [rU,Bool.not_not]; rfl
theorem G5 (off A:List BA) (hA:A.length<=1000):Gd (dL A off) (λr=>r=A.filter (vG off)):=
 B5 (λy=>iQ y off) (vG off) (Kc off) ⟨#[]⟩ A (by omega)
def Bb (n:Net) (names off:List BA):Prop:=AN n (names.filter (vG off))
theorem Gl {n:Net} (hz:oL n) (hV:oA n) (names off:List BA) (hl:names.length<=1000):Gd (nk off names n) (λb=>b=true↔Bb n names off):=by
 unfold nk;refine Gd.nd (by omega) (Gd.eC (G5 off names hl) (λr hr=>?_))
 subst hr;obtain ⟨e,he⟩:=EX (hz.qh (names.filter (vG off)));refine Gd.bind_eq (F9 hV _) (Gd.bind_eq he (Gd.ret ?_));unfold Bb AN;rw [he];constructor
 ·intro h; rw [O1 h]
 ·intro h; exact Uw (OZ h)
theorem Jg {y:BA}{s L:List BA}{m:Nat} (h:s.Sublist (y::L)) (hl:s.length=m+1):s.Sublist L\/∃ s',s=y::s'/\s'.Sublist L/\s'.length=m:=by
 cases h with
 | cons _ h=>exact .inl h
 | cons_cons _ h=>exact .inr ⟨_,rfl,h,by simpa using hl⟩
theorem z_ {n:Net} (hz:oL n) (hV:oA n) (names:List BA) (hl:names.length<=12):∀ (m:Nat) (off:List BA) (i:Nat),off.length+m<=1000->i<=names.length->∀ f,m<f ->
  Gd (dE f names off (i:Int) (m:Int) names n) (λr=>
   (r.2=true->∃ s,r.1=off++s/\s.Sublist (names.drop i)/\s.length=m/\Bb n names r.1) /\
   (r.2=false->∀ s,s.Sublist (names.drop i)->s.length=m->¬ Bb n names (off++s)))
 | m,off,i,ho,hi,0,hf=>by omega
 | m,off,i,ho,hi,f+1,hf=>by
  show Gd (dY (dE f) names off i m names n) _;unfold dY;refine Gd.ite (λh=>?_) (λh=>?_)
  ·have hm:m=0:=by have:=O1 h; omega
   subst hm;refine Gd.eC (Gl hz hV names off (by omega)) (λb hb=>Gd.ret ⟨λh=>⟨[],by simp,by simp,rfl,hb.1 h⟩,λh s hs h0 ha=>?_⟩)
   have hs0:=Pw h0;subst hs0;rw [PE] at ha;have:=hb.2 ha;simp only at h;rw [h] at this; cases this
  ·obtain ⟨k,rfl⟩:∃ k,m=k+1:=⟨m-1,by have:=O9 h; omega⟩
   have hwm:i64.wrap (((k+1:Nat):Int)-1)=(k:Int):=by rw [bJ ⟨by omega,by omega⟩]; omega
   refine Gd.gH (λ(s:Int)=>∃ j:Nat,s=j/\i<=j/\j<=names.length/\∀ s,s.Sublist (names.drop i)->s.length=k+1->¬ Bb n names (off++s)\/s.Sublist (names.drop j)) (λs=>names.length-s.toNat) ?_ fC _ ⟨i,rfl,Pl _,hi,λs hs _=>.inr hs⟩ (by unfold fC; omega)
   rintro _ nx ⟨j,rfl,hij,hj,hI⟩ hn;unfold iS;refine Gd.ite (λh=>?_) (λh=>Gd.ret ⟨λh=>by simp at h,λ_ s hs hs1 ha=>?_⟩)
   ·have hjl:j<names.length:=by have:=O1 h; omega
    have hwj:i64.wrap ((j:Int)+1)=((j+1:Nat):Int):=by rw [bJ ⟨by omega,by omega⟩]; omega
    have hd:=Px hjl;rw [hwj,hwm];refine Gd.nd (by omega) (Gd.gA hjl ?_)
    rw [Jc];refine Gd.nd (by simp only [O6,TQ]; omega) ?_
    refine Gd.eC (z_ hz hV names hl k (off++[names[j]]) (j+1) (by simp; omega) hjl f (by omega)) (λr hr=>Gd.ite (λh=>Gd.ret ⟨λ_=>?_,λh=>by simp at h⟩) (λh=>hn _ ⟨j+1,rfl,by omega,hjl,λs hs hs1=>?_⟩ (by simp only [OX]; omega)))
    ·obtain ⟨s,h1,h2,h3,h4⟩:=hr.1 h
     refine ⟨names[j]::s,by simp [h1],?_,by simp [h3],h4⟩
     refine (h2.cons_cons _).trans ?_;rw [<- hd];obtain ⟨d,rfl⟩:∃ d,j=i+d:=⟨j-i,by omega⟩
     rw [<- QF];exact List.drop_sublist _ _
    ·rcases hI s hs hs1 with h' | h'
     ·exact .inl h'
     ·rw [hd] at h'
      rcases Jg h' hs1 with h' | ⟨s',rfl,h2,h3⟩
      ·exact .inr h'
      ·have:=hr.2 h s' h2 h3
       rw [Pr] at this;exact .inl this
   ·have hjl:j=names.length:=by have:=O9 h; omega
    rcases hI s hs hs1 with h' | h'
    ·exact h' ha
    ·rw [hjl,RN] at h'
     rw [List.sublist_nil.1 h'] at hs1;simp at hs1
theorem Gf {n:Net} (hz:oL n) (hV:oA n) (on:List BA) (hc:dV n on=some 0) (hl:on.length<=5) (names:List BA) (hnm:names=(nm n).filter (λx=>decide (x ∈ on))):
  Gd (lJ n on) (λr=>(r.2=0/\r.1.Sublist names/\Bb n names r.1/\∀ s,s.Sublist names->s.length<r.1.length->¬ Bb n names s) \/
   (r=([],8)/\∀ s,s.Sublist names->¬ Bb n names s)):=by
 have hnl:=yQ n;have h5:=hV.l5;have hnll:names.length<=12:=by
  rw [hnm]; exact P0 (TP _ _) (by omega)
 unfold lJ;refine Gd.bind_eq hc (Gd.ite (λh=>by simp at h) (λ_=>Gd.ite (λh=>?_) (λ_=>?_)))
 ·have:=O1 h
  omega
 refine Gd.dR (λi (ys:List aE) (w:List BA)=>i+ys.length=n.aY.length/\n.aY.drop i=ys/\w=((nm n).take i).filter (λx=>decide (x ∈ on))/\w.length<=i) ?_ ?_ n.aY 0 [] ⟨by simp,rfl,by simp,by simp⟩
 ·rintro i y ys w nx ⟨hi,hd,hw,hwl⟩ hnx
  simp only [O6] at hi;have hil:i<n.aY.length:=by omega
  have hy:n.aY[i]=y:=by
   have e:=Px hil;rw [hd] at e; exact (TG e).1.symm
  have hd':n.aY.drop (i+1)=ys:=by
   have:=P3 (List.drop 1) hd;simpa [QF] using this
  have tG:i<(nm n).length:=by omega
  have hny:(nm n)[i]=y.Name:=by simp [nm,hy]
  have hst:((nm n).take (i+1)).filter (λx=>decide (x ∈ on))=w++(if decide (y.Name ∈ on) then [y.Name] else []):=by
   rw [Po tG,Ry,<- hw,hny]
   congr 1
   simp only [TK,List.filter_nil]
  unfold qI mD;rw [rU];refine Gd.ite (λh=>Gd.nd (by simp only [O6,TQ]; omega) (hnx _ ⟨by omega,hd',?_,by simp; omega⟩)) (λh=>hnx _ ⟨by omega,hd',?_,by omega⟩)
  ·rw [hst,O3 h]
  ·rw [hst,O2 (by rw [h]; simp),PE]
 ·rintro i w ⟨hi,_,hw,_⟩
  rw [Pb (by simp at hi; omega),<- hnm] at hw
  subst hw;refine Gd.gH (λ(s:Int)=>∃ k:Nat,s=k/\k<=w.length+1/\∀ s,s.Sublist w->s.length<k->¬ Bb n w s) (λs=>w.length+1-s.toNat) ?_ fC _ ⟨0,rfl,by omega,λs _ h=>by omega⟩ (by unfold fC; simp; omega)
  rintro _ nx ⟨k,rfl,hk,hI⟩ hn;unfold qJ;refine Gd.ite (λh=>?_) (λh=>Gd.ret (.inr ⟨rfl,λs hs=>hI s hs ?_⟩))
  ·have hkw:k<=w.length:=by have:=O1 h; omega
   have hwk:i64.wrap ((k:Int)+1)=((k+1:Nat):Int):=by rw [bJ ⟨by omega,by omega⟩]; omega
   unfold jR;rw [hwk];refine Gd.eC (z_ hz hV w hnll k [] 0 (by simp; omega) (Nat.zero_le _) fC (by unfold fC; omega)) (λr hr=>Gd.ite (λh=>Gd.ret (.inl ?_)) (λh=>hn _ ⟨k+1,rfl,by omega,λs hs hs1=>?_⟩ (by simp only [OX]; omega)))
   ·obtain ⟨s,h1,h2,h3,h4⟩:=hr.1 h
    rw [Qy] at h1;rw [Qh,<- h1] at h2;exact ⟨rfl,h2,h4,λs' hs hl'=>hI s' hs (by rw [h1] at hl'; omega)⟩
   ·by_cases e:s.length=k
    ·have:=hr.2 h s (by rw [Qh]; exact hs) e
     rwa [Qy] at this
    ·exact hI s hs (by omega)
  ·have:=hs.length_le
   have:=O9 h;omega
theorem Fa {c:Net} (hz:oL c):∃ r,fI c=some r:=by
 suffices h:Gd (fI c) (λ_=>True) by
  obtain ⟨e,he,_⟩:=h;exact ⟨e,he⟩
 unfold fI;rcases vw c hz with ⟨x,hx,hi⟩ | ⟨t,p,s,hV,hn,hg,ht,hb,hi,hfc,hs,hst,hv⟩
 ·exact Gd.bind_eq hi (Gd.ite (λ_=>Gd.ret OV) (λk=>absurd (by simpa using k) hx))
 ·obtain ⟨qs,hq,hqf⟩:=F0 hst.f
  have hql:qs.length=c.aG.length:=by
   have:=hst.fl;rw [hq,QN] at this;exact this
  have ho:=Cy hV (qs:=qs) hql hqf;rw [<- hq] at ho;exact Gd.bind_eq hi (Gd.ite (λk=>by simp at k) (λ_=>Gd.bind_eq hs (Gd.ite (λk=>by simp at k) (λ_=>Gd.bind_eq ho (Gd.ret OV)))))
theorem Hy {n:Net} (hV:oA n) {l:List BA} (h:dV n l=some 0) {r:cE×List ByteArray×Int} (hs:fI (qh n l)=some r):dP n l=some r:=by
 rw [<- Gd.eq];unfold dP;exact Gd.bind_eq (BY hV h) (Gd.ite (λk=>by simp at k) (λ_=>Gd.bind_eq hs (Gd.ret rfl)))
theorem GY {n:Net}{l:List BA}{r:cE×List ByteArray×Int} (hs:fI (qh n l)=some r):AN n l↔r.2.2=0/\r.2.1=[]:=by
 unfold AN lg;rw [hs];show (if _ then _ else _)=_↔_
 by_cases h0:r.2.2=0
 ·by_cases h1:r.2.1=[]
  ·simp [h0,h1]
  ·have:0<r.2.1.length:=TR.2 h1
   simp [h0,h1]
 ·simp [h0]
abbrev Node:=bH
abbrev BQ:=aX
abbrev Sw:=aM
theorem uG {α:Type}{l:List α}{i:Nat} (h:i<l.length):∃ x,l[i]? = some x:=⟨_,OU h⟩
theorem Bx {α:Type}{l:List α}{i:Nat}{x:α} (h:l[i]? = some x):i<l.length:=(OY.1 h).1
theorem drop_cons {α:Type}{l:List α}{k:Nat}{y:α}{ys:List α} (h:y::ys=l.drop k):l[k]? = some y/\ys=l.drop (k+1):=by
 constructor
 ·have:=P3 (·[0]?) h
  simpa [PG] using this.symm
 ·have:=P3 (List.drop 1) h
  simpa using this
theorem w_ (s:ByteArray) (h:s.size<=maxLen):Gd (bQ s) (λ_=>True):=by
 unfold bQ;refine Gd.nd h (Gd.dR (λ_ _ _=>True) (λi y ys s n _ hn=>?_) (λi s _=>Gd.ret OV) _ _ _ OV);unfold oZ;exact Gd.ite (λ_=>Gd.ret OV) (λ_=>hn _ OV)
structure At (l:List Sw) (name:ByteArray) (r:Int):Prop where
 no:r<0->∀ x ∈ l,x.Name≠name
 yes:0<=r->∃ x,l[r.toNat]? = some x/\x.Name=name
theorem Ao (l:List Sw) (name:ByteArray):Gd (kI l name) (At l name):=by
 unfold kI;refine Gd.eC (P:=At l name) ?_ (λa h=>Gd.ret h);unfold bW;refine Gd.jN (λm i _=>i+m=l.length/\∀ x ∈ l.take i,x.Name≠name) ?_ ?_ (l.length:Int).toNat 0 () ⟨by omega,by simp⟩
 ·intro m i _ nx ⟨hi,hno⟩ hnx
  unfold cL;refine Gd.gA (by omega) ?_
  refine Gd.ite (λh=>Gd.ret ⟨λh=>by omega,λ_=>⟨l[i]'(by omega),by rw [show ((i:Int)).toNat=i by omega]; exact OU _,by simpa [kQ] using h⟩⟩) (λh=>hnx () ⟨by omega,?_⟩)
  intro x hx;rw [Po (by omega),Pa,PA] at hx
  rcases hx with hx | rfl
  ·exact hno x hx
  ·simpa [kQ] using h
 ·intro i _ ⟨hi,hno⟩
  refine Gd.ret ⟨λ_=>?_,λh=>by omega⟩
  rw [Pb (by omega)] at hno
  exact hno
def Fk (l:List Sw):Prop:=l.length<=32/\(∀ x ∈ l,bQ x.Name=some true)/\(l.map (·.Name)).Nodup
theorem Hc (l:List Sw) (hl:∀ x ∈ l,x.Name.size<=maxLen):Gd (jY l) (λe=>e=0↔Fk l):=by
 unfold jY;refine Gd.ite (λh=>Gd.ret ?_) (λh=>?_)
 ·simp only [PF] at h
  exact ⟨λh=>by omega,λh'=>by have:=h'.1; omega⟩
 ·simp only [Uv] at h
  refine Gd.dR (λk ys _=>ys=l.drop k/\k<=l.length/\(∀ x ∈ l.take k,bQ x.Name=some true)/\((l.take k).map (·.Name)).Nodup) ?_ ?_ l 0 () ⟨by simp,by omega,by simp,by simp⟩
  ·rintro k y ys _ nx ⟨hys,hk,hn,hd⟩ hnx
   obtain ⟨hy,hys'⟩:=drop_cons hys;have hky:=Bx hy;have hym:=O7 hy;obtain ⟨b,hb,_⟩:=w_ y.Name (hl y hym);have htake:l.take (k+1)=l.take k++[y]:=by rw [TV,hy]; rfl
   unfold ni;refine Gd.bind_eq hb (Gd.ite (λh=>Gd.ret ?_) (λh=>?_))
   ·refine ⟨λh=>by omega,λh'=>?_⟩
    have:=h'.2.1 y hym;rw [hb] at this; cases this; simp at h
   ·have hbt:b=true:=by simpa using h
    subst hbt;refine Gd.nd (by omega) ?_
    refine Gd.eC (Ao _ _) (λr hr=>Gd.ite (λh=>Gd.ret ?_) (λh=>?_))
    ·refine ⟨λh=>by omega,λh'=>?_⟩
     simp only [PF] at h;obtain ⟨x,hx,hxn⟩:=hr.yes h;simp only [rV,Qh,RT,OX] at hx;have hnd:=h'.2.2;rw [PN] at hx
     split at hx
     case isFalse=>cases hx
     rename_i hlt
     rw [<- Qm k l,Qj,PS] at hnd;refine absurd hxn (hnd.2.2 _ (PL.2 ⟨x,?_,rfl⟩) _ (PL.2 ⟨y,?_,rfl⟩))
     ·exact O7 (i:=r.toNat) (by rw [PN,O3 hlt]; exact hx)
     ·rw [<- hys]; exact O0 ..
    ·simp only [Uv] at h
     have hno:=hr.no (by omega)
     simp only [rV,Qh,RT,OX] at hno;refine hnx () ⟨hys',by omega,?_,?_⟩
     ·rw [htake]
      intro x hx;rw [Pa,PA] at hx;rcases hx with hx | rfl
      ·exact hn x hx
      ·exact hb
     ·rw [htake,Qj,PS]
      refine ⟨hd,by simp,?_⟩
      rintro a ha b hb2 rfl;simp only [RG,Td,PA] at hb2;obtain ⟨x,hx,rfl⟩:=PL.1 ha;exact hno x hx hb2
  ·rintro k _ ⟨hys,hk,hn,hd⟩
   have:l.length<=k:=by
    have:=P3 List.length hys;simp at this; omega
   rw [Pb this] at hn hd;exact Gd.ret ⟨λ_=>⟨by omega,hn,hd⟩,λ_=>rfl⟩
def D_ (k:Nat) (y:Node):Prop:=(y.Kind=4->0<=y.A/\y.A<k)/\((y.Kind=5\/y.Kind=6)->0<=y.A/\y.A<k/\0<=y.B_/\y.B_<k)
structure zF (c:List Node):Prop where
 pos:0<c.length
 len:c.length<=40
 ok:∀ j y,c[j]? = some y->D_ j y
structure CI (c:List Node) (k:Nat) (l:List Int):Prop where
 len:l.length=c.length
 st:∀ (j:Nat) (v:Int),j<k->l[j]? = some v->0<=v/\v<=j
 ok:∀ j y,j<k->c[j]? = some y->D_ j y
theorem CI.next {c:List Node}{k:Nat}{l:List Int}{y:Node}{v:Int} (h:CI c k l) (hy:c[k]? = some y) (hn:D_ k y) (h0:0<=v) (h1:v<=k):CI c (k+1) (l.set k v):=by
 refine ⟨by simp [h.len],?_,?_⟩
 ·intro j w hj hw
  rw [Sr] at hw
  split at hw
  ·rename_i e
   split at hw
   ·cases hw; omega
   ·cases hw
  ·exact h.st j w (by omega) hw
 ·intro j z hj hz
  by_cases e:j=k
  ·subst e; rw [hy] at hz; cases hz; exact hn
  ·exact h.ok j z (by omega) hz
theorem H4:jA=dX:=rfl
theorem HL {c:List Node}{k:Nat}{l:List Int}{y:Node}{Q:Int->Prop}{nx:List Int->Option Int} (h:CI c k l) (hc:c.length<=40) (hy:c[k]? = some y) (hQ:Q 3) (hnx:∀ l',CI c (k+1) l'->Gd (nx l') Q)
  (b:Bool) (h4:y.Kind≠4) (hb:b=false->y.Kind≠5/\y.Kind≠6):Gd (dX l nx y k b) Q:=by
 have hk:=Bx hy;have hw:i64.wrap ((k:Int)-1)=(k:Int)-1:=bJ (by omega)
 have hkn:((k:Int)).toNat=k:=by omega
 unfold dX dM;rw [hw,hkn];refine Gd.ite (λ_=>?_) (λh0=>?_)
 ·refine Gd.ite (λ_=>Gd.ret hQ) (λh1=>?_)
  simp only [Uv] at h1;refine Gd.ite (λh2=>?_) (λ_=>Gd.ret hQ);simp only [PF] at h2;obtain ⟨p,hp⟩:=uG (l:=l) (i:=k-1) (by rw [h.len]; omega)
  have hp':(l.set k (k:Int))[((k:Int)-1).toNat]? = some p:=by
   rw [show ((k:Int)-1).toNat=k-1 by omega,Sr,O2 (by omega)]; exact hp
  have hpb:=h.st (k-1) p (by omega) hp
  refine Gd.ix (by omega) hp' (Gd.ite (λ_=>Gd.ret hQ) (λh3=>?_))
  simp only [Uv] at h3;refine Gd.ix (by omega) hp' ?_
  rw [bJ (n:=p-1) (by omega)]
  refine Gd.ite (λ_=>Gd.ret hQ) (λh4=>?_);have h4:y.A=p-1:=by simpa using h4
  obtain ⟨q,hq⟩:=uG (l:=l) (i:=y.A.toNat) (by rw [h.len]; omega)
  have hq':(l.set k (k:Int))[y.A.toNat]? = some q:=by
   rw [Sr,O2 (by omega)]; exact hq
  have hqb:=h.st y.A.toNat q (by omega) hq
  refine Gd.ix (by omega) hq' (Gd.gA (by simp [h.len]; omega) ?_)
  rw [List.set_set];exact hnx _ (h.next hy ⟨λe=>by omega,λ_=>⟨by omega,by omega,by omega,by omega⟩⟩ hqb.1 (by omega))
 ·refine Gd.ite (λ_=>Gd.ret hQ) (λh1=>?_)
  have:=hb h0;exact hnx _ (h.next hy ⟨λe=>absurd e h4,λe=>by omega⟩ (by omega) (by omega))
theorem vq (c:List Node) (hc:∀ x ∈ c,x.Name.size<=maxLen):Gd (jH c) (λe=>e=0->zF c):=by
 unfold jH;refine Gd.ite (λ_=>Gd.ret (by omega)) (λh40=>?_)
 simp only [Uv] at h40;refine Gd.ite (λ_=>Gd.ret (by omega)) (λh1=>?_)
 simp only [Uv] at h1;refine Gd.nd (by omega) ?_
 refine Gd.dR (λk ys l=>ys=c.drop k/\CI c k l) ?_ ?_ c 0 _ ⟨by simp,by simp,λj v hj=>by omega,λj y hj=>by omega⟩
 ·rintro k y ys l nx ⟨hys,hI⟩ hnx
  obtain ⟨hy,hys'⟩:=drop_cons hys;have hk:=Bx hy;have hnx':∀ l',CI c (k+1) l'->Gd (nx l') (λe=>e=0->zF c):=λl' h=>hnx l' ⟨hys',h⟩;have hkn:((k:Int)).toNat=k:=by omega
  have hw:i64.wrap ((k:Int)-1)=(k:Int)-1:=bJ (by omega)
  have rest:Gd (idx l (k:Int) λy926=>if decide (y.Kind=4) then (if ((decide ((k:Int)=0)) || (!decide (y.A=(i64.wrap ((k:Int)-1))))) || (!decide (y.B_=0)) then (some 3) else (idx (l.set (((k:Int):Int).toNat) ((k:Int))) y.A λy939=>idx (l.set (((k:Int):Int).toNat) ((k:Int))) (k:Int) λy943=>dM nx ((l.set (((k:Int):Int).toNat) ((k:Int))).set (((k:Int):Int).toNat) y939))) else (if decide (y.Kind=5) then (dX l nx y k (decide (y.Kind=5))) else (dX l nx y k (decide (y.Kind=6)))))
    (λe=>e=0->zF c):=by
   rw [hw,hkn];refine Gd.gA (by rw [hI.len]; exact hk) ?_
   refine Gd.ite (λh4=>?_) (λh4=>?_)
   ·refine Gd.ite (λ_=>Gd.ret (by omega)) (λh5=>?_)
    simp only [Tx,Uv,Tw,PF] at h5;obtain ⟨q,hq⟩:=uG (l:=l) (i:=y.A.toNat) (by rw [hI.len]; omega)
    have hq':(l.set k (k:Int))[y.A.toNat]? = some q:=by
     rw [Sr,O2 (by omega)]; exact hq
    have hqb:=hI.st y.A.toNat q (by omega) hq
    refine Gd.ix (by omega) hq' (Gd.gA (by simp [hI.len]; omega) ?_)
    rw [List.set_set];simp only [PF] at h4;exact hnx' _ (hI.next hy ⟨λe=>by omega,λe=>by omega⟩ hqb.1 (by omega))
   ·simp only [Uv] at h4
    refine Gd.ite (λh5=>?_) (λh5=>?_)
    ·exact HL hI (by omega) hy (by omega) hnx' _ h4 (λh=>by simp only [Uv] at h; simp only [PF] at h5; exact absurd h5 h)
    ·exact HL hI (by omega) hy (by omega) hnx' _ h4 (λh=>by simp only [Uv] at h h5; exact ⟨h5,h⟩)
  unfold nG;rw [H4];refine Gd.ite (λ_=>Gd.ret (by omega)) (λ_=>?_)
  refine Gd.ite (λ_=>?_) (λ_=>?_)
  ·refine Gd.eC (w_ _ (hc y (O7 hy))) (λb _=>Gd.ite (λ_=>Gd.ret (by omega)) (λ_=>rest))
  ·exact Gd.ite (λ_=>Gd.ret (by omega)) (λ_=>rest)
 ·rintro k l ⟨hys,hI⟩
  have hk:c.length<=k:=by
   have:=P3 List.length hys;simp at this; omega
  have hw:i64.wrap ((c.length:Int)-1)=(c.length:Int)-1:=bJ (by omega)
  rw [hw];obtain ⟨q,hq⟩:=uG (l:=l) (i:=((c.length:Int)-1).toNat) (by rw [hI.len]; omega)
  refine Gd.ix (by omega) hq (Gd.ite (λ_=>Gd.ret (by omega)) (λ_=>Gd.ret λ_=>⟨by omega,by omega,λj y hj=>hI.ok j y (by have:=Bx hj; omega) hj⟩))
def Hw (r:BQ):Prop:=bQ r.Switch=some true/\jH r.vU=some 0
def zI (r:BQ):Prop:=r.Switch.size<=maxLen/\∀ x ∈ r.vU,x.Name.size<=maxLen
def xW (l:List BQ):Prop:=l.length<=24/\∀ r ∈ l,Hw r
theorem Bw (l:List BQ) (hl:∀ r ∈ l,zI r):Gd (l7 l) (λe=>e=0↔xW l):=by
 unfold l7;refine Gd.ite (λh=>Gd.ret ?_) (λh=>?_)
 ·simp only [PF] at h
  exact ⟨λh=>by omega,λh'=>by have:=h'.1; omega⟩
 ·simp only [Uv] at h
  refine Gd.dR (λk ys _=>(∀ r ∈ ys,r ∈ l)/\∀ r ∈ l,r ∈ ys\/Hw r) ?_ ?_ l 0 () ⟨λr h=>h,λr h=>.inl h⟩
  ·rintro k y ys _ nx ⟨h1,h2⟩ hnx
   have hy:=h1 y (O0 ..);unfold qa;obtain ⟨b,hb,_⟩:=w_ y.Switch (hl y hy).1;obtain ⟨e,he,_⟩:=vq y.vU (hl y hy).2;refine Gd.bind_eq hb (Gd.ite (λh=>Gd.ret ?_) (λh=>Gd.bind_eq he (Gd.ite (λh=>Gd.ret ?_) (λh'=>hnx () ⟨λr hr=>h1 r (O5 _ hr),λr hr=>?_⟩))))
   ·refine ⟨λh=>by omega,λh'=>?_⟩
    have:=(h'.2 y hy).1;rw [hb] at this; cases this; simp at h
   ·have h:e≠0:=by simpa using h
    refine ⟨λh'=>absurd h' h,λh'=>?_⟩;have:=(h'.2 y hy).2;rw [he] at this; cases this; simp at h
   ·have hbt:b=true:=by simpa using h
    have het:e=0:=by simpa using h'
    subst hbt; subst het
    rcases h2 r hr with h | h
    ·rcases PH.1 h with rfl | h
     ·exact .inr ⟨hb,he⟩
     ·exact .inl h
    ·exact .inr h
  ·rintro k _ ⟨h1,h2⟩
   exact Gd.ret ⟨λ_=>⟨by omega,λr hr=>(h2 r hr).resolve_left (by simp)⟩,λ_=>rfl⟩
theorem Iw {c:List Node} (hc:zF c) (st:List Sw):Gd (l8 c st) (λ_=>True):=by
 have hl:=hc.len;have hp:=hc.pos;unfold l8;refine Gd.nd (by omega) ?_
 refine Gd.dR (λk ys (l:List Bool)=>ys=c.drop k/\l.length=c.length) ?_ ?_ c 0 _ ⟨by simp,by simp⟩
 ·rintro k y ys l nx ⟨hys,hlen⟩ hnx
  obtain ⟨hy,hys'⟩:=drop_cons hys;have hk:=Bx hy;have hn:=hc.ok k y hy;have hnx':∀ l':List Bool,l'.length=c.length->Gd (nx l') (λ_=>True):=λl' h=>hnx l' ⟨hys',h⟩;have hset:∀ b:Bool,Gd (idx l (k:Int) λ_=>c_ nx (l.set ((k:Int)).toNat b)) (λ_=>True):=λb=>
   Gd.gA (by omega) (hnx' _ (by simp [hlen]))
  unfold qb;refine Gd.eC (Ao st y.Name) (λr hr=>?_);refine Gd.ite (λ_=>hset true) (λ_=>?_);refine Gd.ite (λ_=>Gd.ite (λh=>?_) (λ_=>hset false)) (λ_=>?_)
  ·obtain ⟨x,hx,_⟩:=hr.yes (by simpa using h)
   exact Gd.ix (by simpa using h) hx (hset _)
  refine Gd.ite (λ_=>Gd.ite (λh=>?_) (λ_=>hset false)) (λ_=>?_)
  ·obtain ⟨x,hx,_⟩:=hr.yes (by simpa using h)
   exact Gd.ix (by simpa using h) hx (hset _)
  refine Gd.ite (λh=>?_) (λ_=>?_)
  ·have hA:=hn.1 (by simpa using h)
   obtain ⟨x,hx⟩:=uG (l:=l) (i:=y.A.toNat) (by omega)
   exact Gd.ix hA.1 hx (hset _)
  refine Gd.ite (λh=>?_) (λ_=>?_)
  ·have hA:=hn.2 (.inl (by simpa using h))
   obtain ⟨x,hx⟩:=uG (l:=l) (i:=y.A.toNat) (by omega)
   obtain ⟨z,hz⟩:=uG (l:=l) (i:=y.B_.toNat) (by omega)
   exact Gd.ix hA.1 hx (Gd.ite (λ_=>Gd.ix hA.2.2.1 hz (hset _)) (λ_=>hset _))
  refine Gd.ite (λh=>?_) (λ_=>hnx' _ hlen)
  ·have hA:=hn.2 (.inr (by simpa using h))
   obtain ⟨x,hx⟩:=uG (l:=l) (i:=y.A.toNat) (by omega)
   obtain ⟨z,hz⟩:=uG (l:=l) (i:=y.B_.toNat) (by omega)
   exact Gd.ix hA.1 hx (Gd.ite (λ_=>hset _) (λ_=>Gd.ix hA.2.2.1 hz (hset _)))
 ·rintro k l ⟨hys,hlen⟩
  rw [bJ (n:=(c.length:Int)-1) (by omega)]
  obtain ⟨q,hq⟩:=uG (l:=l) (i:=((c.length:Int)-1).toNat) (by omega)
  exact Gd.ix (by omega) hq (Gd.ret OV)
def wI (st:List Sw) (closing:Bool) (name:ByteArray) (r:BQ):Prop:=r.Close=closing->r.Switch=name->l8 r.vU st=some true
theorem EE {l:List BQ} (hl:xW l) (hz:∀ r ∈ l,zI r) {st:List Sw} (hs:Fk st) (hsz:∀ x ∈ st,x.Name.size<=maxLen) (closing:Bool) {name:ByteArray} (hn:∃ x ∈ st,x.Name=name):
  Gd (my l st closing name) (λr=>r.2=0/\(r.1=[]↔∀ r ∈ l,wI st closing name r)):=by
 unfold my;obtain ⟨e,he,heq⟩:=Bw l hz;obtain ⟨f,hf,hfq⟩:=Hc st hsz;have e0:=heq.2 hl;have f0:=hfq.2 hs;subst e0; subst f0
 refine Gd.bind_eq he (Gd.ite (λh=>by simp at h) (λ_=>Gd.bind_eq hf (Gd.ite (λh=>by simp at h) (λ_=>?_))))
 refine Gd.eC (Ao st name) (λi hi=>Gd.ite (λh=>?_) (λ_=>?_))
 ·obtain ⟨x,hx,hxn⟩:=hn
  exact absurd hxn (hi.no (by simpa using h) x hx)
 have h24:=hl.1;refine Gd.dR (λk ys (out:List Int)=>ys=l.drop k/\out.length<=k/\(out=[]↔∀ r ∈ l.take k,wI st closing name r)) ?_ ?_ l 0 [] ⟨by simp,by simp,by simp⟩
 ·rintro k y ys out nx ⟨hys,hlen,hq⟩ hnx
  obtain ⟨hy,hys'⟩:=drop_cons hys;have hk:=Bx hy;have htake:l.take (k+1)=l.take k++[y]:=by rw [TV,hy]; rfl
  have hall:(∀ r ∈ l.take (k+1),wI st closing name r)↔(∀ r ∈ l.take k,wI st closing name r)/\wI st closing name y:=by
   rw [htake];constructor
   ·intro h; exact ⟨λr hr=>h r (OW _ hr),h y (by simp)⟩
   ·rintro ⟨h1,h2⟩ r hr
    rcases Pa.1 hr with hr | hr
    ·exact h1 r hr
    ·rw [PA] at hr; subst hr; exact h2
  have hsame:wI st closing name y->Gd (nx out) (λr=>r.2=0/\(r.1=[]↔∀ r ∈ l,wI st closing name r)):=λha=>
   hnx out ⟨hys',by omega,by rw [hall,hq]; exact ⟨λh=>⟨h,ha⟩,λh=>h.1⟩⟩
  have hcond:zF y.vU:=by
   obtain ⟨e,he,hq⟩:=vq y.vU (hz y (O7 hy)).2;have:=(hl.2 y (O7 hy)).2;rw [he] at this; cases this; exact hq rfl
  obtain ⟨b,hb,_⟩:=Iw hcond st;unfold oY gB;refine Gd.ite (λh1=>Gd.ite (λh2=>Gd.bind_eq hb (Gd.ite (λh3=>?_) (λh3=>hsame ?_))) (λh2=>hsame ?_)) (λh1=>hsame ?_)
  ·refine Gd.nd (by simp; omega) (hnx _ ⟨hys',by simp; omega,?_⟩)
   constructor
   ·intro h; simp at h
   ·intro h
    have:=(hall.1 h).2 (by simpa using h1) (by simpa using h2)
    rw [hb] at this; cases this; simp at h3
  ·intro _ _; rw [hb]; simpa using h3
  ·intro _ h; exact absurd h (by simpa using h2)
  ·intro h _; exact absurd h (by simpa using h1)
 ·rintro k out ⟨hys,hlen,hq⟩
  have hk:l.length<=k:=by
   have:=P3 List.length hys;simp at this; omega
  rw [Pb hk] at hq;exact Gd.ret ⟨rfl,hq⟩
theorem CA {l:List BQ} (hl:xW l) (hz:∀ r ∈ l,zI r) {st:List Sw} (hs:Fk st) (hsz:∀ x ∈ st,x.Name.size<=maxLen) (closing:Bool) {name:ByteArray} (hn:∃ x ∈ st,x.Name=name):
  Gd (lz l st closing name) (λr=>r.2=0/\(r.1=true↔∀ r ∈ l,wI st closing name r)):=by
 unfold lz;refine Gd.eC (EE hl hz hs hsz closing hn) (λr hr=>Gd.ret ⟨hr.1,?_⟩);rw [hr.1,<- hr.2];cases r.1 <;> simp <;> omega
structure K_ (n:Net) (on:List BA) (s:cE) (ov:List BA):Prop where
 MG:dV n on=some 0
 cn:bT n=some 0
 v:oA n
 al:s.f_.length<=100000
 fl:s.iW.length=n.aG.length
 ff:∀ x ∈ s.iW,∃ q,fits q/\x=ctext q
 oe:nq n s.iW=some ov
 ol:ov.length<=24
 om:∀ x ∈ ov,∃ b ∈ n.aG,b.Name=x
 OD:∃ p,fM (qh n on)=some (p,0)/\sE (qh n on) p s=some 0
theorem GZ {l:List (aO×Rat)}:∀ {x:BA},x ∈ l.flatMap xu->∃ z ∈ l,z.1.Name=x:=by
 intro x hx;obtain ⟨z,hz,hx⟩:=QS.1 hx;refine ⟨z,hz,?_⟩
 by_cases h:yI z
 ·rw [yR h] at hx
  simp at hx;exact hx.symm
 ·rw [AQ h] at hx
  simp at hx
theorem BB:∀ (l:List (aO×Rat)),(l.flatMap xu).length<=l.length
 | []=>by simp
 | z::l=>by
  have:=BB l;have:(xu z).length<=1:=by
   by_cases h:yI z
   ·rw [yR h]; simp
   ·rw [AQ h]; simp
  simp only [Qe,Pg,O6];omega
theorem zJ {n:Net} (hz:oL n) (on:List BA):Gd (dP n on) (λr=>(r.2.2≠0->r=(cE.mk [] [],[],r.2.2))/\(r.2.2=0->K_ n on r.1 r.2.1)):=by
 obtain ⟨e,he,hok⟩:=Hi hz on
 by_cases h0:e=0
 ·subst h0
  have hcn:=hok rfl;have hV:oA n:=by
   obtain ⟨f,hf,hs⟩:=Tq n hz;rw [hcn] at hf;exact hs (OZ hf).symm
  rcases vw (qh n on) (hz.qh on) with ⟨x,hx,hi⟩ | ⟨t,p,s,hV',hn,hg,ht,hb,hi,hfc,hs,hst,hv⟩
  ·rw [Gg hV he hx hi]
   exact Gd.ret ⟨λ_=>rfl,λh=>absurd h hx⟩
  ·obtain ⟨qs,hq,hqf⟩:=F0 hst.f
   have hql:qs.length=(qh n on).aG.length:=by
    have:=hst.fl;rw [hq,QN] at this;exact this
   have ho:=Cy hV' (qs:=qs) hql hqf;rw [<- hq] at ho;rw [HA hV he hi hs ho];refine Gd.ret ⟨λh=>absurd rfl h,λ_=>⟨he,hcn,hV,?_,hst.fl,hst.f,ho,?_,?_,p,hi,hv⟩⟩
   ·have:=hst.al
    have:=ht.Hv;show s.f_.length<=100000;omega
   ·refine P0 (BB _) ?_
    rw [List.length_zip];exact P0 (Nat.min_le_left _ _) hV.l3
   ·intro x hx
    obtain ⟨z,hz,he⟩:=GZ hx;exact ⟨z.1,(List.of_mem_zip hz).1,he⟩
 ·rw [Hz he h0]
  exact Gd.ret ⟨λ_=>rfl,λh=>absurd h h0⟩
def Mo {α:Type} (p:α->Bool) (l:List α) (r:Int):Prop:=(r = -1/\∀ x ∈ l,p x=false)\/∃ i,∃ h:i<l.length,r=(i:Int)/\p l[i]=true/\∀ x ∈ l.take i,p x=false
theorem Ds {α:Type} (p:α->Bool) (l:List α):
  Gd (jN (λk (_:Unit) n=>idx l (k:Int) λy=>if p y then (some (k:Int)) else (n ())) (λ_=>some (-1)) ((l.length:Int):Int).toNat 0 ()) (Mo p l):=by
 refine Gd.jN (λm i _=>i+m=l.length/\∀ x ∈ l.take i,p x=false) ?_ ?_ (l.length:Int).toNat 0 () ⟨by omega,by simp⟩
 ·intro m i _ nx ⟨hi,hno⟩ hnx
  have hlt:i<l.length:=by omega
  refine Gd.gA hlt (Gd.ite (λh=>Gd.ret (.inr ⟨i,hlt,rfl,h,hno⟩)) (λh=>hnx () ⟨by omega,?_⟩))
  rw [Po hlt];intro x hx;rcases Pa.1 hx with hx | hx
  ·exact hno x hx
  ·rw [PA.1 hx]; exact h
 ·intro i _ ⟨hi,hno⟩
  refine Gd.ret (.inl ⟨rfl,?_⟩);have:l.take i=l:=Pb (by omega)
  rw [this] at hno;exact hno
theorem LS (l:List aE) (e:aI):Gd (dD l e) (Mo (λx=>decide (x.Name=e.Name)) l):=Ds _ l
theorem LP (l:List bB) (e:aI):Gd (dJ l e) (Mo (λx=>decide (x.Name=e.Name)) l):=Ds _ l
theorem LV (l:List aK) (e:aI):Gd (cO l e) (Mo (λx=>decide (x.Name=e.Name)) l):=Ds _ l
theorem LU (l:List aE) (x:BA):Gd (cX l x) (Mo (λy=>decide (y.Name=x)) l):=Ds _ l
theorem LQ (l:List aK) (x:aK):Gd (cH l x) (Mo (λy=>decide (y.Name=x.Name)) l):=Ds _ l
theorem BF (n:Net) (hl:n.aY.length<=12):pw n=some (nm n):=by
 rw [<- Gd.eq];unfold pw;refine Gd.dR (λi (ys:List aE) (w:List BA)=>i+ys.length=n.aY.length/\n.aY.drop i=ys/\w=(n.aY.take i).map (·.Name)) ?_ ?_ n.aY 0 [] ⟨by simp,rfl,by simp⟩
 ·rintro i y ys w nx ⟨hi,hd,hw⟩ hnx
  simp only [O6] at hi;unfold te;have hlt:i<n.aY.length:=by omega
  have hy:n.aY[i]=y:=by
   rw [Px hlt] at hd;exact (TG hd).1
  refine Gd.nd ?_ (hnx _ ⟨by omega,?_,?_⟩)
  ·rw [hw]; simp; omega
  ·rw [Px hlt] at hd
   exact (TG hd).2
  ·rw [hw,Po hlt,hy]; simp
 ·rintro i w ⟨hi,hd,hw⟩
  refine Gd.ret ?_;rw [hw,Pb (by simp at hi; omega)]
  rfl
abbrev Ev:=aI
def CV (e:Ev):Prop:=e.Kind.size<=maxLen/\e.Name.size<=maxLen
theorem JY (s:BA) (h:s.size<=maxLen):Gd (lP s) (λ_=>True):=by
 unfold lP;refine Gd.nd h (Gd.dR (λ_ _ _=>True) (λi y ys s nx _ hn=>?_) (λ_ _ _=>Gd.ret OV) _ _ _ OV);unfold rE;exact Gd.ite (λ_=>Gd.ret OV) (λ_=>hn _ OV)
theorem Gm {e:Ev} (h:CV e):Gd (dU e) (λr=>r=0->0<=e.Time/\e.Time<=200000):=by
 unfold dU;refine Gd.ite (λ_=>Gd.ret (λh=>by simp at h)) (λht=>Gd.eC (JY e.Kind h.1) (λb _=>Gd.ite (λ_=>?_) (λ_=>Gd.ret (λh=>by simp at h))))
 refine Gd.eC (w_ e.Name h.2) (λb _=>Gd.ite (λ_=>Gd.ret (λh=>by simp at h)) (λ_=>Gd.ite (λ_=>Gd.ret (λh=>by simp at h)) (λ_=>Gd.ret (λ_=>?_))))
 simp at ht;omega
theorem zT {t v:Int}{k s:BA} (ht:0<=t/\t<=200000) (hk:lP k=some true) (hs:bQ s=some true) (hv:-1000000<=v/\v<=1000000):
  dU (aI.mk t k s v)=some 0:=by
 rw [<- Gd.eq];unfold dU;refine Gd.ite (λk=>?_) (λ_=>Gd.bind_eq hk (Gd.ite (λ_=>Gd.bind_eq hs (Gd.ite (λk=>by simp at k) (λ_=>Gd.ite (λk=>?_) (λ_=>Gd.ret rfl)))) (λk=>by simp at k)))
 ·simp at k; omega
 ·simp at k; omega
theorem G8:lP (⟨#[115,104,101,100]⟩)=some true:=by kernel_rfl
theorem E1:lP (⟨#[112,114,111,111,102]⟩)=some true:=by kernel_rfl
theorem append_eq {l:List Ev}{e:Ev} (hl:l.length<300) (ht:∀ x ∈ l,x.Time<=e.Time) (hc:dU e=some 0):
  ∃ k,eN (bD.mk l) e=some (k,0,bD.mk (l++[e])):=by
 suffices h:Gd (eN (bD.mk l) e) (λr=>∃ k,r=(k,0,bD.mk (l++[e]))) by
  obtain ⟨r,hr,k,rfl⟩:=h;exact ⟨k,hr⟩
 unfold eN;refine Gd.bind_eq hc (Gd.ite (λk=>by simp at k) (λ_=>Gd.ite (λhp=>?_) (λ_=>?_)))
 ·have h0:0<l.length:=by simpa using hp
  have hw:i64.wrap ((l.length:Int)-1)=((l.length-1:Nat):Int):=by
   rw [bJ ⟨by omega,by omega⟩]; omega
  rw [hw];refine Gd.gA (by simp; omega) (Gd.ite (λk=>?_) (λ_=>?_))
  ·have:=ht _ (Pt (by omega:l.length-1<l.length))
   simp at k;omega
  ·refine Gd.ite (λk=>?_) (λ_=>Gd.nd ?_ (Gd.ret ⟨_,rfl⟩))
   ·simp at k; omega
   ·simp; omega
 ·refine Gd.ite (λk=>?_) (λ_=>Gd.nd ?_ (Gd.ret ⟨_,rfl⟩))
  ·simp at k; omega
  ·simp; omega
theorem HT {n:Net} (h:oA n) {b:aO} (hb:b ∈ n.aG):0<=b.wz/\b.wz<=200000:=by
 obtain ⟨_,_,_,_,h5⟩:=h.vb b hb;unfold gX at h5
 split at h5
 ·omega
 ·rename_i h6
  simp [bE] at h6;omega
theorem copy_eq {n:Net} (h:oA n):iV n=some n:=by
 have:=h.l1; have:=h.l2; have:=h.l3; have:=h.l4; have:=h.l5; have:=h.l6
 rw [<- Gd.eq];unfold iV;exact Gd.nd (by omega) (Gd.nd (by omega) (Gd.nd (by omega) (Gd.nd (by omega) (Gd.nd (by omega) (Gd.nd (by omega) (Gd.ret rfl))))))
structure vQ (n:Net) (w:bO):Prop where
 b:w.kE=n.aG
 f:w.lO.length=n.aG.length
 a:w.rq.length=n.aG.length
 o:w.over.length=n.aG.length
theorem D2 {n:Net}{w:bO} (h:vQ n w) (hl:n.aG.length<=24):Gd (jC w) (λr=>r.length<=24):=by
 unfold jC;rw [h.b];refine Gd.dR (λi (ys:List aO) (s:List BA)=>i+ys.length=n.aG.length/\s.length<=i) ?_ ?_ n.aG 0 [] ⟨by simp,by simp⟩
 ·rintro i y ys s nx ⟨hi,hs⟩ hnx
  simp only [O6] at hi;unfold o_ kM;refine Gd.gA (by rw [h.o]; omega) (Gd.ite (λ_=>Gd.nd ?_ (hnx _ ⟨by omega,?_⟩)) (λ_=>hnx _ ⟨by omega,by omega⟩))
  ·simp only [O6,TQ]; omega
  ·simp; omega
 ·rintro i s ⟨hi,hs⟩
  exact Gd.ret (by simp at hi; omega)
theorem Jt {n:Net}{w:bO} (h:vQ n w) (hV:oA n) {fl:List BA} (hl:fl.length=n.aG.length) (hf:∀ x ∈ fl,∃ q,fits q/\x=ctext q) (d:Int):
  Gd (kX w fl d) (λr=>vQ n r.2.2):=by
 have h3:=hV.l3;unfold kX;refine Gd.eC (P:=λ_=>True) ?_ (λr _=>Gd.ite (λ_=>Gd.ret h) (λ_=>Gd.ite (λ_=>Gd.ret h) (λ_=>Gd.ite (λ_=>Gd.ret h) (λ_=>?_))))
 ·unfold kL
  exact Gd.ite (λ_=>Gd.ret OV) (λ_=>Gd.eC (y9 (λs hs=>Dc (hf s hs))) (λ_ _=>Gd.ret OV))
 ·rw [h.b]
  refine Gd.dR (λi (ys:List aO) (s:List aA×List Int×List Bool)=>i+ys.length=n.aG.length/\(∀ y ∈ ys,y ∈ n.aG)/\s.1.length=n.aG.length/\s.2.1.length=n.aG.length/\s.2.2.length=n.aG.length) ?_ ?_ n.aG 0 (w.lO,w.rq,w.over) ⟨by simp,λ_ h=>h,h.f,h.a,h.o⟩
  ·rintro i y ys ⟨s1,s2,s3⟩ nx ⟨hi,hd,h1,h2,h3⟩ hnx
   simp only [O6] at hi;simp only at h1 h2 h3;have hy:=Gr hV (hd y (O0 ..));have hL:=hy.l;have hS:=HT hV (hd y (O0 ..));have hd':∀ z ∈ ys,z ∈ n.aG:=λz hz=>hd z (O5 _ hz);have hif:i<fl.length:=by omega
   obtain ⟨q,hq,hqe⟩:=hf _ (Pt hif);unfold pd gC;refine Gd.gA hif ?_;rw [hqe];refine Gd.eC (DL hq) (λa ha=>Gd.eC (F1 ha.1 ha.2.1 (by omega)) (λb hb=>Gd.gA (by rw [h1]; omega) ?_))
   refine Gd.eC (uj ⟨by omega,by omega⟩) (λc hc=>Gd.eC (CE hb.1 hc.1 hb.2.1 hc.2.1 (by omega)) (λe _=>?_))
   refine Gd.ite (λ_=>Gd.gA (by rw [h2]; omega) (Gd.gA (by rw [h3]; omega) (hnx _ ⟨by omega,hd',by simpa using h1,by simpa using h2,by simpa using h3⟩))) (λ_=>?_)
   refine Gd.gA (by rw [h2]; omega) (Gd.gA (by rw [h2]; omega) (Gd.gA (by simp; omega) (Gd.ite (λ_=>Gd.gA (by rw [h3]; omega) (hnx _ ⟨by omega,hd',by simpa using h1,by simpa using h2,by simpa using h3⟩)) (λ_=>?_))))
   refine Gd.eC (uj ⟨by omega,by omega⟩) (λc2 hc2=>Gd.eC (CE hb.1 hc2.1 hb.2.1 hc2.2.1 (by omega)) (λe2 _=>?_))
   exact Gd.ite (λ_=>Gd.gA (by rw [h3]; omega) (hnx _ ⟨by omega,hd',by simpa using h1,by simpa using h2,by simpa using h3⟩)) (λ_=>hnx _ ⟨by omega,hd',by simpa using h1,by simpa using h2,by simpa using h3⟩)
  ·rintro i ⟨s1,s2,s3⟩ ⟨hi,hd,h1,h2,h3⟩
   have hw:vQ n (bO.mk n.aG s1 s2 s3 (i64.wrap (w.time+d))):=⟨rfl,h1,h2,h3⟩;exact Gd.eC (D2 hw hV.l3) (λr _=>Gd.ret hw)
theorem Kq {n:Net} (hc:bT n=some 0) (hV:oA n):∃ w,o9 n=some (some w,0)/\vQ n w:=by
 suffices h:Gd (o9 n) (λr=>∃ w,r=(some w,0)/\vQ n w) by
  obtain ⟨r,hr,w,rfl,hw⟩:=h;exact ⟨w,hr,hw⟩
 have:=hV.l3;unfold o9;refine Gd.bind_eq hc (Gd.ite (λk=>by simp at k) (λ_=>Gd.bind_eq (copy_eq hV) ?_))
 refine Gd.eC (yC (by omega)) (λr hr=>Gd.nd (by omega) (Gd.nd (by omega) (Gd.ret ⟨_,rfl,?_⟩)))
 obtain ⟨z,rfl,_⟩:=hr;exact ⟨rfl,by simp,by simp,by simp⟩
abbrev Rm:=aQ
abbrev zW:BA:=⟨#[111,112,101,110]⟩
abbrev xC:BA:=⟨#[99,108,111,115,101]⟩
abbrev Fx:BA:=⟨#[98,97,99,107]⟩
abbrev y8:BA:=⟨#[115,104,101,100]⟩
abbrev wJ:BA:=⟨#[112,114,111,111,102]⟩
structure La (held:List BA) (n:Net) (e:Ev) (l:List aK):Prop where
 k:e.Kind=zW\/e.Kind=xC
 h:e.Name ∉ held
 s:∃ i,∃ h:i<n.aH.length,n.aH[i].Name=e.Name/\∃ b,l=n.aH.set i (aK.mk n.aH[i].Name n.aH[i].A n.aH[i].B_ n.aH[i].lZ b)
structure Ns (held:List BA) (n:Net) (on:List BA) (e:Ev) (c:cN):Prop where
 sz:oL c.n
 br:c.n.aG=n.aG
 ln:nm c.n=nm n
 sw:c.n.aH=n.aH\/La held n e c.n.aH
 on:e.Kind≠Fx/\c.on=on\/e.Kind=Fx/\e.Name ∈ nm n/\e.Name ∉ on/\c.on=on++[e.Name]
 ks:e.Kind≠y8/\e.Kind≠wJ
 hn:e.Kind=zW\/e.Kind=xC->e.Name ∉ held
structure Ea (l:List BQ):Prop where
 ok:xW l
 sz:∀ r ∈ l,zI r
theorem DW {n:Net} (h:oA n):(n.aH.map (·.Name)).Nodup:=by
 have:=h.nd;unfold names at this;simp only [PS,Pr] at this;exact this.2.1.1
theorem EW {r:Rm}{n:Net} (hz:oL n) (hV:oA n) (hr:Ea r.rules) {on:List BA}{e:Ev} (he:CV e) (hk:e.Kind=zW\/e.Kind=xC):
  Gd (mF r (cN.mk n on) e) (λc=>c.1=0->Ns r.held n on e c.2):=by
 have h2:=hV.l2;unfold mF;refine Gd.eC (LV _ e) (λi hi=>Gd.ite (λ_=>Gd.ret (λh=>by simp at h)) (λh0=>Gd.ite (λ_=>Gd.ret (λh=>by simp at h)) (λ_=>?_)))
 rcases hi with ⟨rfl,_⟩ | ⟨i,hlt,rfl,hp,_⟩
 ·simp at h0
 have hp:n.aH[i].Name=e.Name:=by simpa using hp
 refine Gd.gA hlt (Gd.ite (λ_=>Gd.ret (λh=>by simp at h)) (λ_=>?_))
 rw [rU];refine Gd.ite (λ_=>Gd.ret (λh=>by simp at h)) (λhh=>?_)
 have hh:e.Name ∉ r.held:=by simpa using hh
 refine Gd.dR (λj (ys:List aK) (s:List aM)=>j+ys.length=n.aH.length/\n.aH.drop j=ys/\s=(n.aH.take j).map (λy=>aM.mk y.Name (!y.Open))) ?_ ?_ n.aH 0 [] ⟨by simp,rfl,by simp⟩
 ·rintro j y ys s nx ⟨hj,hd,hs⟩ hnx
  simp only [O6] at hj;unfold pn;have hjl:j<n.aH.length:=by omega
  have hy:n.aH[j]=y:=by
   rw [Px hjl] at hd;exact (TG hd).1
  refine Gd.nd ?_ (hnx _ ⟨by omega,?_,?_⟩)
  ·rw [hs]; simp; omega
  ·rw [Px hjl] at hd
   exact (TG hd).2
  ·rw [hs,Po hjl,hy]; simp
 ·rintro j s ⟨hj,hd,hs⟩
  rw [Pb (by simp at hj; omega)] at hs
  have hso:Fk s:=by
   refine ⟨by rw [hs]; simpa using h2,?_,?_⟩
   ·intro x hx
    rw [hs] at hx;obtain ⟨y,hy,rfl⟩:=PL.1 hx;exact (hV.vs y hy).1
   ·rw [hs,List.map_map]
    exact DW hV
  have hsz:∀ x ∈ s,x.Name.size<=maxLen:=by
   intro x hx;rw [hs] at hx;obtain ⟨y,hy,rfl⟩:=PL.1 hx;exact hz.sw y hy
  have tG:∃ x ∈ s,x.Name=e.Name:=by
   refine ⟨aM.mk n.aH[i].Name (!n.aH[i].Open),?_,hp⟩;rw [hs];exact PL.2 ⟨n.aH[i],Pt hlt,rfl⟩
  refine Gd.eC (CA hr.ok hr.sz hso hsz _ tG) (λb _=>Gd.ite (λ_=>Gd.ret (λh=>by simp at h)) (λ_=>Gd.gA hlt (Gd.ret (λ_=>?_))))
  refine ⟨⟨hz.nd,?_,hz.br,hz.gn,hz.ld,hz.st⟩,rfl,rfl,.inr ⟨hk,hh,i,hlt,hp,_,rfl⟩,.inl ⟨?_,rfl⟩,?_,λ_=>hh⟩
  ·intro x hx
   rcases TS hx with hx | rfl
   ·exact hz.sw x hx
   ·show (n.aH[i]).Name.size<=maxLen
    exact hz.sw _ (Pt hlt)
  ·rcases hk with h | h <;> rw [h] <;> decide
  ·rcases hk with h | h <;> rw [h] <;> decide
theorem L3 (n:Net) (i:Nat) (h:i<n.aY.length) (v:Int):(n.aY.set i (aE.mk n.aY[i].Name n.aY[i].Node v)).map (·.Name)=nm n:=by
 unfold nm;rw [List.map_set];show (n.aY.map (·.Name)).set i (n.aY[i].Name)=_;have:(n.aY.map (·.Name))[i]'(by simpa using h)=n.aY[i].Name:=by simp
 rw [<- this];exact S_ (by simpa using h)
theorem GH {r:Rm}{n:Net} (hz:oL n) (hV:oA n) (hr:Ea r.rules) {on:List BA} (ho:on.length<=1000) {e:Ev} (he:CV e):
  Gd (nr r (cN.mk n on) e) (λc=>c.1=0->Ns r.held n on e c.2):=by
 unfold nr;refine Gd.eC (LS _ e) (λi hi=>Gd.eC (LP _ e) (λj hj=>?_));have main:∀ c:Bool,(c=true->e.Kind=zW\/e.Kind=xC)->(e.Kind=zW\/e.Kind=xC->c=true)->Gd (jI r (cN.mk n on) e i j c) (λc=>c.1=0->Ns r.held n on e c.2):=by
  intro c hc hc2;unfold jI gT;refine Gd.ite (λh=>Gd.eC (EW hz hV hr he (hc h)) (λa ha=>Gd.ret ha)) (λhno=>?_);have hnn:e.Kind=zW\/e.Kind=xC->e.Name ∉ r.held:=λh=>by rw [hc2 h] at hno; cases hno
  refine Gd.ite (λhk=>?_) (λhk1=>Gd.ite (λhk=>?_) (λhk2=>Gd.ite (λhk=>?_) (λhk3=>Gd.ite (λhk=>?_) (λ_=>Gd.ret (λh=>by simp at h)))))
  ·refine Gd.ite (λ_=>Gd.ret (λh=>by simp at h)) (λh0=>Gd.ite (λ_=>Gd.ret (λh=>by simp at h)) (λ_=>?_))
   have hk:=O1 hk;rcases hi with ⟨rfl,_⟩ | ⟨i,hlt,rfl,hp,_⟩
   ·simp at h0
   refine Gd.gA hlt (Gd.ret (λ_=>⟨⟨hz.nd,hz.sw,hz.br,hz.gn,?_,hz.st⟩,rfl,L3 n i hlt _,.inl rfl,.inl ⟨by rw [hk]; decide,rfl⟩,by rw [hk]; decide,hnn⟩))
   intro x hx;rcases TS hx with hx | rfl
   ·exact hz.ld x hx
   ·show (n.aY[i]).Name.size<=maxLen
    exact hz.ld _ (Pt hlt)
  ·refine Gd.ite (λ_=>Gd.ret (λh=>by simp at h)) (λh0=>?_)
   have hk:=O1 hk;rcases hj with ⟨rfl,_⟩ | ⟨j,hlt,rfl,hp,_⟩
   ·simp at h0
   refine Gd.gA hlt (Gd.ite (λ_=>Gd.ret (λh=>by simp at h)) (λ_=>Gd.gA hlt (Gd.ret (λ_=>⟨⟨hz.nd,hz.sw,hz.br,?_,hz.ld,hz.st⟩,rfl,rfl,.inl rfl,.inl ⟨by rw [hk]; decide,rfl⟩,by rw [hk]; decide,hnn⟩))))
   intro x hx;rcases TS hx with hx | rfl
   ·exact hz.gn x hx
   ·show (n.cR[j]).Name.size<=maxLen
    exact hz.gn _ (Pt hlt)
  ·refine Gd.ite (λ_=>Gd.ret (λh=>by simp at h)) (λh0=>?_)
   have hk:=O1 hk;rcases hi with ⟨rfl,_⟩ | ⟨i,hlt,rfl,hp,_⟩
   ·simp at h0
   have hp:n.aY[i].Name=e.Name:=by simpa using hp
   rw [rU];refine Gd.ite (λ_=>Gd.ret (λh=>by simp at h)) (λhh=>Gd.gA hlt (Gd.ite (λ_=>Gd.ret (λh=>by simp at h)) (λ_=>Gd.nd ?_ (Gd.ret (λ_=>?_)))))
   ·simp; omega
   ·have hh:e.Name ∉ on:=by simpa using hh
    exact ⟨hz,rfl,rfl,.inl rfl,.inr ⟨hk,PL.2 ⟨_,Pt hlt,hp⟩,hh,rfl⟩,by rw [hk]; decide,hnn⟩
  ·have hk:=O1 hk
   exact Gd.ite (λ_=>Gd.ret (λh=>by simp at h)) (λ_=>Gd.ret (λ_=>⟨hz,rfl,rfl,.inl rfl,.inl ⟨by rw [hk]; decide,rfl⟩,by rw [hk]; decide,hnn⟩))
 refine Gd.ite (λh=>main _ (λ_=>.inl (O1 h)) (λ_=>h)) (λh=>main _ (λh=>.inr (O1 h)) (λk=>?_));rcases k with k | k
 ·exact absurd k (O9 h)
 ·exact Uw k
end Go.Sim
