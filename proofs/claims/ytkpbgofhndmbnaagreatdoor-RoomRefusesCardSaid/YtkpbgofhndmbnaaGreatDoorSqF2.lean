/-
  The proof, part F2.
-/
import Derived.Test.YtkpbgofhndmbnaaGreatDoorSqF1
set_option linter.unusedVariables false
set_option linter.unusedSimpArgs false
set_option linter.unusedSectionVars false
set_option linter.unnecessarySimpa false
namespace Go.Sim
abbrev VJ := @Int.natCast_nonneg
abbrev VO := @List.cons.inj
abbrev VR := @List.eq_of_mem_replicate
abbrev VS := @List.filter_cons
abbrev VT := @List.getElem_set
abbrev VX := @List.length_filter_le
abbrev V2 := @List.set_append_right
abbrev W2 := @Rat.intCast_le_intCast
end Go.Sim
namespace Go.Sim
open Go
open _root_.Go.IntKind (i64 u64 u32 u8)
def JV (k:Nat) (m:Mt):Mt:=λi c=>if i=k/\k<=c then m k c / m k k else m i c
theorem DN {k i:Nat} (h:i≠k) (m:Mt) (c:Nat):JV k m i c=m i c:=Qs (λhh=>h hh.1)
theorem F7 {k c:Nat} (h:k<=c) (m:Mt):JV k m k c=m k c / m k k:=Qu ⟨rfl,h⟩
theorem F8 {k c:Nat} (h:c<k) (m:Mt):JV k m k c=m k c:=Qs (λhh=>by omega)
theorem Pn {n w W k:Nat}{l:List Int}{sg:List Nat}{p:Int}{k1 k2:Nat}{nx:(List Int×Int×List Nat×List (List LR))->Option EB}{d:LR}{rows:List (List LR)}{m:Mt}{Q:EB->Prop}
  (hSG:(sg.set ((l.length:Int):Int).toNat k1).set (p:Int).toNat k2=yw n) (hl:l.length=k) (hk:k<n) (hn:n<=1000) (hw:w<=1000) (hkw:k<w) (hW:W<=100000)
  (hd:pA d) (hdl:RL d W) (hdv:rv d=m k k) (hd0:m k k≠0) (hM:uF rows n w W m) (hz:∀ c,c<k->m k c=0) (hb:∀ i c,i<n->c<w->RB (uV k m i c) W)
  (hnx:∀ rows',uF rows' n w W (uV k m)->Gd (nx (l++[(k:Int)],((k+1:Nat):Int),yw n,[]::rows')) Q):
  Gd (iN (λs n'=>oW l (k:Int) sg nx p k1 k2 d s.1 s.2 n') fY ((k:Int),[]::rows)) Q:=by
 refine Gd.iN (λs=>∃ (j:Nat) (rows':List (List LR)),s=((j:Int),[]::rows')/\k<=j/\j<=w/\uF rows' n w W (λi' c=>if i'=k/\k<=c/\c<j then m k c / m k k else m i' c)) (λs=>((w:Int)-s.1).toNat) ?_ fY _
  ⟨k,rows,rfl,QI _,by omega,hM.congr (λi' c _ _=>by rw [Qs (by omega)])⟩ (by simp only [fY]; omega)
 rintro _ nxL ⟨j,rows',rfl,hkj,hjw,hM'⟩ hnext;show Gd (oW l (k:Int) sg nx p k1 k2 d (j:Int) ([]::rows') nxL) Q;have hdiv:m k k / m k k=1:=by rw [W1]; exact W8 _ hd0
 unfold oW;simp only [hSG];rw [hl];refine pQ hk ?_;rw [hM'.KG hk]
 by_cases hj:j<w
 ·refine Gd.ite (λ_=>?_) (λh=>absurd (Xc.1 h) (by simp; omega))
  refine pQ hk (pQ hk (s6 hM' hk hj (λy hy hyl hyv=>?_)));rw [Qs (by omega)] at hyv
  refine Gd.eQ (L5 hy hd (by rw [hdv]; exact hd0) hyl hdl (by omega)) (λr hr=>s6 hM' hk hj (λ_ _ _ _=>?_))
  have hv:rv r=m k j / m k k:=by rw [hr.2.2,hyv,hdv]
  have hrl:RL r W:=hr.1.rb (by
   rw [hv];have:=hb k j hk hj;unfold uV at this;rw [Qu rfl] at this;exact this)
  rw [yc hjw hw];refine hnext _ ⟨j+1,_,rfl,by omega,by omega,(hM'.set hk hj hr.1 hrl).congr (λi' c _ _=>?_)⟩ (by simp only; omega)
  by_cases e:i'=k/\c=j
  ·obtain ⟨rfl,rfl⟩:=e
   rw [Qu ⟨rfl,rfl⟩,Qu (by omega),hv]
  ·rw [Qs e]
   by_cases e2:i'=k/\k<=c/\c<j
   ·rw [Qu e2,Qu (by omega)]
   ·rw [Qs e2,Qs (by omega)]
 ·refine Gd.ite (λh=>absurd (Qr h) (by omega)) (λ_=>?_)
  rw [w5,Qn];refine Gd.nd (by omega) ?_
  refine Po (m:=JV k m) hSG hl hk hw hkw hW (hM'.congr (λi' c _ hc=>?_)) (λc hc=>(F8 hc m).trans (hz c hc)) (λi c hi hik h1 h2=>?_) (λrows'' hM''=>?_)
  ·unfold JV
   by_cases e:i'=k/\k<=c
   ·rw [Qu e,Qu (by omega)]
   ·rw [Qs e,Qs (by omega)]
  ·rw [DN hik,DN hik,F7 h1]
   have:=hb i c hi h2;unfold uV at this;rw [Qs hik] at this;exact this
  ·refine Gd.nd (by rw [show ([(k:Int)]:List Int).length=1 from rfl]; omega) ?_
   unfold oV;rw [yc (show k<=w by omega) hw]
   refine hnx rows'' (hM''.congr (λi c _ _=>?_));unfold uV
   by_cases e:i=k
   ·subst e
    rw [Qu rfl,Qu rfl]
    by_cases e2:i<=c
    ·rw [F7 e2]
    ·rw [F8 (by omega),hz c (by omega),Rat.div_def]; grind
   ·rw [Qs e,Qs e,DN e,DN e]
    by_cases e2:k<=c
    ·rw [F7 e2]
    ·rw [F8 (by omega),hz c (by omega),Rat.div_def]; grind
theorem IF {n w W k:Nat}{cols:Int}{l:List Int}{nx:(List Int×Int×List Nat×List (List LR))->Option EB}{rows:List (List LR)}{m:Mt}{Q:EB->Prop}
  (hl:l.length=k) (hk:k<n) (hc:(k:Int)<cols) (hn:n<=1000) (hw:w<=1000) (hkw:k<w) (hW:W<=100000)
  (hd0:m k k≠0) (hM:uF rows n w W m) (hz:∀ c,c<k->m k c=0) (hb:∀ i c,i<n->c<w->RB (uV k m i c) W)
  (hnx:∀ rows',uF rows' n w W (uV k m)->Gd (nx (l++[(k:Int)],((k+1:Nat):Int),yw n,[]::rows')) Q):
  Gd (mS cols l (k:Int) (yw n) ([]::rows) nx) Q:=by
 unfold mS;rw [hl,w5];refine Gd.ite (λ_=>?_) (λh=>absurd h (by simp; omega))
 refine Gd.iN (λs=>s=(k:Int)) (λ_=>0) ?_ fY _ rfl (by simp only [fY]; omega)
 rintro _ nx2 rfl _;unfold sK;rw [w5];refine Gd.ite (λ_=>?_) (λh=>absurd (Xc.1 h) (by simp; omega))
 refine pQ hk (s6 hM hk hkw (λy hy hyl hyv=>?_));rw [xQ hy,hyv];refine Gd.ite (λh=>absurd (Qr h) hd0) (λ_=>?_);unfold oY;rw [w5,hl];refine Gd.ite (λh=>absurd (Qr h) (by omega)) (λ_=>?_)
 refine pQ hk (pQ hk (pQ hk ?_));rw [Fx hk,Qn,A8 hk];refine pQ hk (pQ hk (s6 hM hk hkw (λd hd hdl hdv=>?_)));exact Pn (by rw [hl]; exact Fx hk) hl hk hn hw hkw hW hd hdl hdv hd0 hM hz hb hnx
def FI (n i:Nat):List Nat:=(List.range i).map (·+1)++List.replicate (n-i) 0
theorem BH (n:Nat):FI n 0=List.replicate n 0:=by simp [FI]
theorem BG (n:Nat):FI n n=yw n:=by simp [FI,yw]
theorem FU {n i:Nat} (hi:i<n):(FI n i)[i]? = some 0:=by
 unfold FI;rw [QX (by simp),SZ,Qu (by simp; omega)]
theorem A1 {n i:Nat} (hi:i<n):(FI n i).set i (i+1)=FI n (i+1):=by
 unfold FI;rw [V2 _ _ (by simp)]
 have e:n-i=(n-(i+1))+1:=by omega
 rw [e,S4,TS];simp
theorem Lh {n i:Nat} (hi:i<n):(FI n (i+1))[i]? = some (i+1):=by
 rw [<- A1 hi,QQ (by simp [FI]; omega)]
theorem CC {n:Nat}{rows:List (List LR)} (h:rows.length=n):rM (yw n) ([]::rows)=rows:=by
 apply R8;intro i;unfold rM;rw [QS]
 by_cases hi:i<n
 ·rw [Eh hi,RR,Hk,Ql (by omega)]; rfl
 ·rw [Rj (by rw [w5]; omega),Rj (by omega)]; rfl
theorem Ln {rows:List (List LR)}{n:Nat} (hl:rows.length=n) (hn:n<=1000) (hr:∀ y ∈ rows,y.length<=1000):Gd (u9 rows) (λr=>r=(yw n,[]::rows)):=by
 unfold u9;rw [hl];refine Gd.nd (by omega) ?_
 rw [Qn];refine Gd.dI (λi l s=>∃ pre,rows=pre++l/\pre.length=i/\s=(FI n i,[]::pre)) ?_ ?_ rows 0 _ ⟨[],rfl,rfl,by rw [BH]⟩
 ·rintro i y ys _ nx ⟨pre,hp,hpl,rfl⟩ hnx
  have hi:i<n:=by rw [<- hl,hp,QE,Qy]; omega
  have hy:=hr y (by rw [hp]; simp)
  unfold vM;refine Gd.nd (by simp; omega) (Gd.ix (by omega) (by rw [Qn]; exact FU hi) (hnx _ ⟨pre++[y],by rw [hp]; simp,by simp [hpl],?_⟩))
  rw [Qn,Qy,hpl,A1 hi];simp
 ·rintro i _ ⟨pre,hp,hpl,rfl⟩
  rw [Q5] at hp;subst hp;refine Gd.ret ?_;rw [<- hpl,hl,BG]
theorem uF.short {rows:List (List LR)}{n w W:Nat}{m:Mt} (h:uF rows n w W m) (hw:w<=1000):∀ y ∈ rows,y.length<=1000:=by
 intro y hy;obtain ⟨i,hi,he⟩:=RC.1 hy;obtain ⟨l,h1,h2,_⟩:=h.row i (by rw [<- h.len]; exact hi)
 rw [Ql hi] at h1;have:=Qp h1;rw [<- he,this]; omega
theorem IG {rows:List (List LR)}{n W:Nat}{A m0:Mt} (hn:n<=400) (hW:W<=100000) (hp:Pd n A) (h0:Gj n A 0 m0) (hM:uF rows n (2*n) W m0)
  (hB:∀ k m,k<=n->Gj n A k m->∀ i c,i<n->c<2*n->RB (m i c) W):
  Gd (rq rows (n:Int)) (λr=>∃ rows' m,r.1=(yw n,[]::rows')/\r.2.length=n/\Gj n A n m/\uF rows' n (2*n) W m):=by
 unfold rq;refine Gd.eQ (Ln hM.len (by omega) (hM.short (by omega))) (λr hr=>?_)
 subst hr;refine Gd.iN (λs=>∃ (k:Nat) (l:List Int) (rows':List (List LR)) (m:Mt),s=(l,(k:Int),yw n,[]::rows')/\l.length=k/\k<=n/\Gj n A k m/\uF rows' n (2*n) W m) (λs=>((n:Int)-s.2.1).toNat) ?_ fY _
  ⟨0,[],rows,m0,rfl,rfl,by omega,h0,hM⟩ (by simp only [fY]; omega)
 rintro _ nx ⟨k,l,rows',m,rfl,hl,hk,hG,hM'⟩ hnext;show Gd (mS (n:Int) l (k:Int) (yw n) ([]::rows') nx) _
 by_cases h:k<n
 ·have hd:=hG.MN hp h
  refine IF hl h (by omega) (by omega) (by omega) (by omega) hW hd hM' (λc hc=>?_) (λi c hi hc=>hB (k+1) _ (by omega) (hG.step h hd) i c hi hc) (λrows'' hM''=>?_)
  ·rw [hG.left k c h (by omega) hc,qx (by omega)]
  ·exact hnext _ ⟨k+1,_,rows'',_,rfl,by simp [hl],by omega,hG.step h hd,hM''⟩ (by simp only; omega)
 ·obtain rfl:k=n:=by omega
  unfold mS;refine Gd.ite (λh=>absurd h (by simp)) (λ_=>Gd.ret ⟨rows',m,rfl,hl,hG,hM'⟩)
theorem zT {n:Nat} (hn:n<=1000):Gd (nM (n:Int)) (λr=>∃ z,r=List.replicate n z/\pA z/\RL z 2/\rv z=0):=by
 unfold nM;refine Gd.eQ (vm (n:=0) (by omega)) (λz hz=>Gd.nd (by simp; omega) (Gd.ret ⟨z,xN _ _,hz.1,hz.2.1,by rw [hz.2.2]; rfl⟩))
theorem uF.snoc {rows:List (List LR)}{n w W:Nat}{m:Mt} (h:uF rows n w W m) {l:List LR} (h2:l.length=w) (h3:∀ c,c<w->∃ y,l[c]? = some y/\pA y/\RL y W/\rv y=m n c):uF (rows++[l]) (n+1) w W m:=by
 refine ⟨by simp [h.len],λi hi=>?_⟩
 by_cases e:i<n
 ·obtain ⟨l',a,b,c⟩:=h.row i e
  exact ⟨l',by rw [RA (by rw [h.len]; exact e)]; exact a,b,c⟩
 ·obtain rfl:i=n:=by omega
  exact ⟨l,by rw [QX (by rw [h.len]; omega),h.len,RG]; rfl,h2,h3⟩
def DO (n:Nat) (A:Mt):Mt:=λi c=>if c<n then A i c else dl i (c-n)
theorem JY (n:Nat) (A:Mt):Gj n A 0 (DO n A):=by
 have e:∀ i j,DO n A i (n+j)=dl i j:=λi j=>by unfold DO; rw [Qs (by omega)]; congr 1; omega
 refine ⟨λi c hi hc=>?_,λi j _ _ _=>e i j,λi c _ _ h=>by omega⟩
 have h1:sm n (λj=>DO n A i (n+j)*A j c)=DO n A i (n+i)*A i c:=CA (p:=i) hi (λj hj hne=>by rw [e,qx (λx=>hne x.symm)]; grind)
 rw [h1,e,ri];unfold DO;rw [if_pos hc]; grind
theorem Lu {n k W:Nat}{y:List LR}{z one:LR}{A:Mt} (hk:k<n) (hy:y.length=n) (hyc:∀ c,c<n->∃ v,y[c]? = some v/\pA v/\RL v W/\rv v=A k c) (hz:pA z/\RL z 2/\rv z=0) (ho:pA one/\RL one 2/\rv one=1) (hW:2<=W):
  ((([]++y)++List.replicate n z).set (n+k) one).length=2*n/\∀ c,c<2*n->∃ v,((([]++y)++List.replicate n z).set (n+k) one)[c]? = some v/\pA v/\RL v W/\rv v=DO n A k c:=by
 refine ⟨by simp [hy]; omega,λc hc=>?_⟩
 rw [R2];unfold DO
 by_cases h1:c<n
 ·obtain ⟨v,a,b,d,e⟩:=hyc c h1
  refine ⟨v,?_,b,d,by rw [Qu h1]; exact e⟩
  rw [QM (by omega),RA (by omega)]; exact a
 ·by_cases h2:c=n+k
  ·subst h2
   refine ⟨one,by rw [QQ (by simp [hy]; omega)],ho.1,ho.2.1.mono hW,?_⟩
   rw [Qs h1,ho.2.2,Sy,ri]
  ·refine ⟨z,?_,hz.1,hz.2.1.mono hW,?_⟩
   ·rw [QM (by omega),QX (by omega),SZ,Qu (by omega)]
   ·rw [Qs h1,hz.2.2,qx (by omega)]
theorem Gg {rows:List (List LR)}{n W:Nat}{A:Mt} (hn:n<=400) (hW:W<=100000) (hW2:2<=W) (hp:Pd n A) (hM:uF rows n n W A)
  (hB:∀ k m,k<=n->Gj n A k m->∀ i c,i<n->c<2*n->RB (m i c) W):
  Gd (qG rows) (λr=>r.2=true/\∃ m,Gj n A n m/\uF r.1 n n W (λi c=>m i (n+c))):=by
 unfold qG;rw [hM.len];refine Gd.nd (by omega) ?_
 rw [Qn];refine Gd.kL (λM i s=>i+M=n/\∃ pre:List (List LR),s=(FI n i,[]::pre)/\uF pre i (2*n) W (DO n A)) ?_ ?_ n 0 _ ⟨by omega,[],by rw [BH],⟨rfl,λi hi=>by omega⟩⟩
 ·rintro M i _ nx ⟨hiM,pre,rfl,hpre⟩ hnx
  have hi:i<n:=by omega
  obtain ⟨y,y1,y2,y3⟩:=hM.row i hi;unfold tA;rw [hM.len];refine Gd.ix (y:=y) (by omega) (by rw [Qn]; exact y1) (Gd.nd (by simp; omega) (Gd.eQ (zT (by omega)) ?_))
  rintro _ ⟨z,rfl,hz⟩;refine Gd.nd (by simp; omega) (Gd.ix (by omega) (by rw [Qn]; exact FU hi) ?_)
  have hlen:([]::pre:List (List LR)).length=i+1:=by simp [hpre.len]
  rw [hlen,Qn,A1 hi];refine Gd.ix (by omega) (by rw [Qn]; exact Lh hi) (Gd.eQ (vm (n:=1) (by omega)) (λone ho=>?_))
  have ho2:pA one/\RL one 2/\rv one=1:=⟨ho.1,ho.2.1,by rw [ho.2.2]; rfl⟩
  have hrow:=Lu hi y2 y3 hz ho2 hW2;have hat:((([]::pre++[([]++y)++List.replicate n z]:List (List LR))[i+1]?).getD [])=([]++y)++List.replicate n z:=by
   rw [SL,List.getElem?_cons_succ,QX (by rw [hpre.len]; omega),hpre.len,RG]; rfl
  rw [hat];have hwr:i64.wrap ((n:Int)+(i:Int))=((n+i:Nat):Int):=by rw [bV ⟨by omega,by omega⟩]; omega
  rw [hwr];refine Gd.ix (y:=z) (by omega) ?_ (hnx _ ⟨by omega,pre++[(([]++y)++List.replicate n z).set (n+i) one],?_,hpre.snoc hrow.1 hrow.2⟩)
  ·rw [Qn,R2,QX (by omega),SZ,Qu (by omega)]
  ·rw [Qn,SL,List.set_cons_succ,V2 _ _ (by rw [hpre.len]; omega),hpre.len,RG]
   rfl
 ·rintro i _ ⟨hi,pre,rfl,hpre⟩
  obtain rfl:i=n:=by omega
  show Gd ((rq (rM (FI i i) ([]::pre)) (i:Int)).bind _) _;rw [BG,CC hpre.len];refine Gd.eQ (IG hn hW hp (JY i A) hpre hB) ?_;rintro ⟨⟨sg,ls⟩,pv⟩ ⟨rows',m,he,hpl,hG,hM'⟩;obtain ⟨rfl,rfl⟩:=Prod.mk.inj he;simp only at hpl ⊢;rw [hpl];refine Gd.ite (λh=>absurd (Qr h) (by omega)) (λ_=>?_)
  rw [w5];refine Gd.nd (by omega) ?_
  rw [Qn];refine Gd.kL (λM k s=>k+M=i/\∃ rs:List (List LR),s=(yw i,[]::rs)/\rs.length=i/\∀ q,q<i->rs[q]? = if q<k then (rows'[q]?).map (·.drop i) else rows'[q]?) ?_ ?_ i 0 _
   ⟨by omega,rows',rfl,hM'.len,λq _=>by rw [Qs (by omega)]⟩
  ·rintro M k _ nx ⟨hkM,rs,rfl,hrl,hrs⟩ hnx
   have hk:k<i:=by omega
   obtain ⟨l,l1,l2,l3⟩:=hM'.row k hk;have hat:rs[k]? = some l:=by rw [hrs k hk,Qs (by omega),l1]
   unfold tB;rw [hM.len];refine pQ hk ?_;rw [Hk,hat,Sp];refine Gd.nd (by omega) (pQ hk (Gd.nd ?_ ?_))
   ·rw [Qn]
    refine LH (λj hj=>?_);have hjn:j<i:=by
     have:=(Qo.1 hj).1
     rwa [w5] at this
    rw [Eh hjn] at hj;have:=Qp hj;omega
   ·rw [Qn,Qn,A8 hk,Nw]
    refine hnx _ ⟨by omega,_,rfl,by rw [RH]; exact hrl,λq hq=>?_⟩
    by_cases e:k=q
    ·subst e
     rw [QQ (by omega),Qu (by omega),l1]; rfl
    ·rw [QM e,hrs q hq]
     by_cases e2:q<k
     ·rw [Qu e2,Qu (by omega)]
     ·rw [Qs e2,Qs (by omega)]
  ·rintro k _ ⟨hk,rs,rfl,hrl,hrs⟩
   refine Gd.ret ⟨rfl,m,hG,?_⟩;show uF (rM (yw i) ([]::rs)) i i W _;rw [CC hrl];refine ⟨hrl,λq hq=>?_⟩;obtain ⟨l,l1,l2,l3⟩:=hM'.row q hq;refine ⟨l.drop i,by rw [hrs q hq,Qu (by omega),l1]; rfl,by rw [RX]; omega,λc hc=>?_⟩
   obtain ⟨v,a,b,d,e⟩:=l3 (i+c) (by omega)
   exact ⟨v,by rw [Q7]; exact a,b,d,e⟩
def wq (k:Nat):Rat:=(((WB ^ k:Nat):Int):Rat)
theorem vW (a b:Nat):wq a*wq b=wq (a+b):=by unfold wq; rw [Wg,Rd,W3]
theorem vX (a:Nat):1<=wq a:=by
 unfold wq;have h:(1:Nat)<=WB ^ a:=Nat.one_le_pow _ _ (by decide)
 have h2:(1:Int)<=((WB ^ a:Nat):Int):=by omega
 have:=W2.2 h2
 rwa [Rat.intCast_one] at this
theorem yb {a b:Nat} (h:a<=b):wq a<=wq b:=by
 unfold wq;have h:WB ^ a<=WB ^ b:=Wj (by decide) h
 exact W2.2 (by omega)
theorem BB {x y a b:Rat} (h1:-a<=x) (h2:x<=a) (h3:-b<=y) (h4:y<=b):-(a*b)<=x*y/\x*y<=a*b:=by
 have e1:=Rat.mul_nonneg (show 0<=a-x by grind) (show 0<=b+y by grind)
 have e2:=Rat.mul_nonneg (show 0<=a+x by grind) (show 0<=b-y by grind)
 have e3:=Rat.mul_nonneg (show 0<=a-x by grind) (show 0<=b-y by grind)
 have e4:=Rat.mul_nonneg (show 0<=a+x by grind) (show 0<=b+y by grind)
 constructor <;> grind
theorem Kn {z:Int}{k:Nat} (h1:-wq k<=(z:Rat)) (h2:(z:Rat)<=wq k):z.natAbs<WB ^ (k+1):=by
 unfold wq at h1 h2;rw [<- W4] at h1;have a1:=W2.1 h1;have a2:=W2.1 h2;have a3:WB ^ k<WB ^ (k+1):=Nat.pow_lt_pow_right (by decide) (by omega)
 omega
theorem zx {p q:Rat}{k:Nat} (hp:uy p) (hq:uy q) (p1:-wq k<=p) (p2:p<=wq k) (q1:-wq k<=q) (q2:q<=wq k) (q0:q≠0) (hk:k<=186):RB (p / q) (k+1):=by
 obtain ⟨a,rfl⟩:=hp;obtain ⟨b,rfl⟩:=hq;exact RB.ratio (Kn p1 p2) (Kn q1 q2) (λe=>q0 (by rw [e]; rfl)) (by omega)
theorem RB.zero:RB 0 1:=by
 have:=RB.small (m:=0) (by decide)
 simpa using this
theorem RB.one:RB 1 1:=by
 have:=RB.small (m:=1) (by decide)
 simpa using this
theorem RB.dl (i j:Nat):RB (dl i j) 1:=by
 rcases w9 i j with h | h <;> rw [h]
 ·exact RB.zero
 ·exact RB.one
theorem RB.sm {f:Nat->Rat}{a:Nat}:∀ {n:Nat},n*(a+1)+1<=700000->(∀ j,j<n->RB (f j) a)->RB (sm n f) (n*(a+1)+1)
 | 0,_,_=>RB.zero.mono (by omega)
 | n+1,hn,h=>by
  have e:(n+1)*(a+1)=n*(a+1)+(a+1):=Nat.succ_mul _ _;have h1:=RB.sm (n:=n) (by omega) (λj hj=>h j (by omega))
  exact (h1.add (h n (by omega)) (by omega)).mono (by omega)
structure Nb (n:Nat) (A:Mt) (L:Nat->Rat) (B:Mt) (R:Nat->Rat):Prop where
 s:Jc n A L B R
 hP:pr n R<=wq 60
 hL:∀ i,i<n->L i<=wq 18
theorem Nb.R {n:Nat}{A B:Mt}{L R:Nat->Rat} (h:Nb n A L B R) {i:Nat} (hi:i<n):R i<=wq 60:=by
 have key:∀ {m:Nat},(∀ j,j<m->1<=R j)->i<m->R i<=pr m R:=by
  intro m
  induction m with
  | zero=>intro _ h; omega
  | succ m ih=>
   intro h1 hi;have p1:1<=pr m R:=Eb (λj hj=>h1 j (by omega))
   show R i<=pr m R*R m
   by_cases e:i=m
   ·subst e
    have:=Rat.mul_le_mul_of_nonneg_right p1 (show 0<=R i by have:=h1 i hi; grind)
    grind
   ·have a:=ih (λj hj=>h1 j (by omega)) (by omega)
    have:=Rat.mul_le_mul_of_nonneg_left (h1 m (by omega)) (show 0<=pr m R by grind)
    grind
 exact W6 (key (λj hj=>h.s.R1 hj) hi) h.hP
theorem Nb.L0 {n:Nat}{A B:Mt}{L R:Nat->Rat} (h:Nb n A L B R) {i:Nat} (hi:i<n):L i≠0:=λe=>by
 have:=h.s.l1 i hi; rw [e] at this; exact absurd this (by decide)
theorem Nb.ab {n:Nat}{A B:Mt}{L R:Nat->Rat} (h:Nb n A L B R) {i c:Nat} (hi:i<n) (hc:c<n):-wq 60<=L i*A i c/\L i*A i c<=wq 60:=by
 have h1:=h.s.ab i c hi hc;have h2:=MS (f:=B i) (h.s.b0 i) hc;have h3:=h.s.rs i hi;have h4:=h.R hi;constructor <;> grind
theorem Nb.A {n:Nat}{A B:Mt}{L R:Nat->Rat} (h:Nb n A L B R) {i c:Nat} (hi:i<n) (hc:c<n):RB (A i c) 61:=by
 have e:A i c=(L i*A i c) / L i:=by
  rw [W1];have:=W8 (L i) (h.L0 hi)
  grind
 rw [e];have l1:=h.s.l1 i hi;have l2:=h.hL i hi;have l3:=yb (show 18<=60 by omega)
 have w:=vX 60;exact zx (h.s.ai i c hi hc) (h.s.li i hi) (h.ab hi hc).1 (h.ab hi hc).2 (by grind) (by grind) (h.L0 hi) (by omega)
def Dk (A:Mt) (L:Nat->Rat) (k:Nat):Rat:=qZ k (λr c=>L r*A r c)
theorem Nb.D0 {n:Nat}{A B:Mt}{L R:Nat->Rat} (h:Nb n A L B R) (hp:Pd n A):∀ {k:Nat},k<=n->Dk A L k≠0/\∃ m,Gj n A k m
 | 0,_=>⟨by show (1:Rat)≠0; decide,_,JY n A⟩
 | k+1,hk=>by
  obtain ⟨d,m,hG⟩:=h.D0 hp (k:=k) (by omega)
  have hd:=hG.MN hp (by omega)
  refine ⟨?_,_,hG.step (by omega) hd⟩
  have e:=hG.qZ (k:=k) (by omega) (L:=L) (λi hi=>h.L0 hi)
  show Sim.qZ (k+1) (λr c=>L r*A r c)≠0;rw [e];intro h0;rcases W7.1 h0 with h1 | h1
  ·rcases W7.1 h1 with h2 | h2
   ·exact h.L0 (by omega) h2
   ·exact hd h2
  ·exact d h1
theorem Nb.Db {n:Nat}{A B:Mt}{L R:Nat->Rat} (h:Nb n A L B R) {k:Nat} (hk:k<=n):uy (Dk A L k)/\-wq 60<=Dk A L k/\Dk A L k<=wq 60:=by
 obtain ⟨a,b,c⟩:=h.s.qZ hk;have:=h.hP;refine ⟨a,?_,?_⟩ <;> unfold Dk <;> grind
theorem Nb.num {n:Nat}{A B m:Mt}{L R:Nat->Rat} (h:Nb n A L B R) (hp:Pd n A) {k:Nat} (hG:Gj n A k m) (hk:k<=n) {i p:Nat} (hi:i<n) (hpk:p<k):RB (m i (n+p)) 140:=by
 obtain ⟨N,n1,n2,n3,e⟩:=hG.num h.s hk hi hpk;obtain ⟨d1,d2,d3⟩:=h.Db hk;have d0:=(h.D0 hp hk).1;have hP:=h.hP;have p1:1<=pr n R:=Eb (λj hj=>h.s.R1 hj);have r1:=h.s.R1 hi;have r2:=h.R hi;have hNb:pr n R*R i<=wq 120:=by
  rw [<- vW 60 60];exact qL hP r2 (by grind) (by grind)
 have lp:=h.s.l1 p (by omega)
 have lp2:=h.hL p (by omega)
 have t:=BB (x:=N) (y:=L p) (a:=wq 120) (b:=wq 18) (by grind) (by grind) (by have:=vX 18; grind) lp2
 rw [vW] at t;have s0:(if k<=i then L i else 1)≠0:=by
  split
  ·exact h.L0 hi
  ·decide
 have s1:uy (if k<=i then L i else 1):=by
  split
  ·exact h.s.li i hi
  ·exact ⟨1,rfl⟩
 have s2:1<=(if k<=i then L i else 1)/\(if k<=i then L i else 1)<=wq 18:=by
  split
  ·exact ⟨h.s.l1 i hi,h.hL i hi⟩
  ·exact ⟨W5,vX 18⟩
 generalize (if k<=i then L i else 1)=s at e s0 s1 s2
 have u:=BB (x:=s) (y:=Dk A L k) (a:=wq 18) (b:=wq 60) (by have:=vX 18; grind) s2.2 d2 d3
 rw [vW] at u;have e2:m i (n+p)=(N*L p) / (s*Dk A L k):=by
  have e3:s*m i (n+p)*Dk A L k=N*L p:=e;rw [<- e3,W1];have h3:s*Dk A L k≠0:=λhh=>by
   rcases W7.1 hh with h1 | h1
   ·exact s0 h1
   ·exact d0 h1
  have:=W8 _ h3
  grind
 rw [e2];have w1:=yb (show 18+60<=139 by omega)
 have w2:=yb (show 120+18<=139 by omega)
 refine zx (sE n1 (h.s.li p (by omega))) (sE s1 d1) (by grind) (by grind) (by grind) (by grind) ?_ (by omega)
 intro hh;rcases W7.1 hh with h1 | h1
 ·exact s0 h1
 ·exact d0 h1
theorem Nb.rb {n:Nat}{A B:Mt}{L R:Nat->Rat} (h:Nb n A L B R) (hp:Pd n A) (hn:n<=24) (k:Nat) (m:Mt) (hk:k<=n) (hG:Gj n A k m) (i c:Nat) (hi:i<n) (hc:c<2*n):RB (m i c) 6000:=by
 have right:∀ p,p<n->RB (m i (n+p)) 140:=λp hpn=>by
  by_cases e:p<k
  ·exact h.num hp hG hk hi e
  ·rw [hG.right i p hi hpn (by omega)]
   exact (RB.dl i p).mono (by omega)
 by_cases hcn:c<n
 ·rw [hG.M8 hk hi hcn]
  have h1:RB (sm k (λj=>m i (n+j)*A j c)) (k*202+1):=RB.sm (a:=201) (by omega) (λj hj=>(right j (by omega)).mul (h.A (by omega) hcn) (by omega))
  have h2:RB (if k<=i then A i c else 0) 61:=by
   split
   ·exact h.A hi hcn
   ·exact RB.zero.mono (by omega)
  exact (h1.add h2 (by omega)).mono (by omega)
 ·have e:c=n+(c-n):=by omega
  rw [e];exact (right (c-n) (by omega)).mono (by omega)
theorem Io (l:List Int) (p:Int):Gd (lK l p) (λr=>(r = -1/\p ∉ l)\/∃ (k:Nat) (h:k<l.length),r=k/\l[k]=p):=by
 unfold lK;refine Gd.kL (λm i _=>i+m=l.length/\p ∉ l.take i) ?_ ?_ (l.length:Int).toNat 0 () ⟨by omega,by simp⟩
 ·intro m i _ nx ⟨hi,hno⟩ hnx
  unfold oE;refine Gd.iH (by omega) (Gd.ite (λh=>Gd.ret (.inr ⟨i,by omega,rfl,?_⟩)) (λh=>hnx () ⟨by omega,?_⟩))
  ·have:p=l[i]:=by simpa using h
   exact this.symm
  ·rw [QO (by omega),QC,QZ]
   rintro (h' | h')
   ·exact hno h'
   ·simp [h'] at h
 ·intro i _ ⟨hi,hno⟩
  rw [QD (by omega)] at hno
  exact Gd.ret (.inl ⟨rfl,hno⟩)
structure I9 (M:bA) (n N:Nat) (F:Nat->Nat) (l:List (Rat×Nat×Nat)) (t:Rat):Prop where
 hn:n<=23
 free:M.qX=(List.range n).map (λi=>(F i:Int))
 inj:∀ i j,i<n->j<n->F i=F j->i=j
 lt:∀ i,i<n->F i<N
 hN:N<=24
 ll:l.length<=24
 el:∀ e ∈ l,e.2.1<N/\e.2.2<N
 fr:M.pI=l.map (λe=>(e.2.1:Int))
 to:M.To=l.map (λe=>(e.2.2:Int))
 bl:M.B_.length=l.length
 b:∀ (k:Nat) (y:LR),M.B_[k]? = some y->∃ e,l[k]? = some e/\pA y/\RL y 2/\rv y=t / e.1
def LU:Option Nat->Int
 | none=>-1
 | some i=>(i:Int)
def eo (o:Option Nat) (r:Nat):Rat:=if o=some r then 1 else 0
theorem uw (i r:Nat):eo (some i) r=dl i r:=by
 unfold eo dl
 by_cases e:i=r
 ·subst e; rw [Qu rfl,Qu rfl]
 ·rw [Qs (λh=>e (Qp h)),Qs e]
theorem uv (r:Nat):eo none r=0:=Qs (by simp)
theorem Fo {M:bA}{n N:Nat}{F:Nat->Nat}{l:List (Rat×Nat×Nat)}{t:Rat} (h:I9 M n N F l t) (u:Nat):
  Gd (mg M (u:Int)) (λr=>∃ o:Option Nat,r=LU o/\(∀ i,o=some i->i<n/\F i=u)/\∀ r,r<n->eo o r=dl (F r) u):=by
 unfold mg;refine Gd.eQ (Io _ _) (λr hr=>Gd.ret ?_);rw [h.free] at hr;rcases hr with ⟨rfl,hno⟩ | ⟨k,hk,rfl,e⟩
 ·refine ⟨none,rfl,λi hi=>by simp at hi,λr hr=>?_⟩
  rw [uv,qx];intro e;exact hno (Ra.2 ⟨r,Rf.2 hr,by rw [e]⟩)
 ·have hkn:k<n:=by simpa using hk
  have e2:F k=u:=by simp at e; omega
  refine ⟨some k,rfl,λi hi=>by obtain rfl:=Qp hi; exact ⟨hkn,e2⟩,λr hr=>?_⟩
  rw [uw]
  by_cases e3:k=r
  ·subst e3; rw [ri,e2,ri]
  ·rw [qx e3,qx]
   intro e4;exact e3 (h.inj k r hkn hr (by omega))
theorem uF.Eu {rows:List (List LR)}{n w W:Nat}{m:Mt} (h:uF rows n w W m) {p q:Nat} (hp:p<n) (hq:q<w) {e:LR}{d:Rat} (he:pA e) (hW:RL e W) (hv:rv e=m p q+d):
  uF (rows.set p (((rows[p]?).getD []).set q e)) n w W (λr c=>m r c+d*(dl p r*dl q c)):=by
 refine (h.set hp hq he hW).congr (λr c _ _=>?_)
 by_cases e1:r=p/\c=q
 ·obtain ⟨rfl,rfl⟩:=e1
  rw [if_pos ⟨rfl,rfl⟩,ri,ri,hv]; grind
 ·rw [Qs e1]
  by_cases e2:p=r
  ·rw [qx (i:=q) (λe=>e1 ⟨e2.symm,e.symm⟩)]; grind
  ·rw [qx e2]; grind
abbrev I8:=List (List LR)->Option bA
theorem MJ {n W:Nat}{nx:I8}{b:LR}{oi oj:Option Nat}{rows:List (List LR)}{m:Mt}{Q:bA->Prop} (hM:uF rows n n W m) (hW:W<=1000) (hb:pA b) (hbl:RL b 2)
  (hi:∀ i,oi=some i->i<n) (hj:∀ j,oj=some j->j<n) (hne:∀ i,oi=some i->oj≠some i)
  (hnx:∀ rows',uF rows' n n (W+3) (λr c=>m r c-rv b*(eo oi r*eo oj c)-rv b*(eo oj r*eo oi c))->Gd (nx ([]::rows')) Q):
  Gd (jN (yw n) nx b (LU oi) (LU oj) ([]::rows)) Q:=by
 unfold jN gR;cases oi with
 | none=>
  refine Gd.ite (λh=>absurd h (by simp [LU])) (λ_=>hnx rows ((hM.mono (by omega)).congr (λr c _ _=>?_)))
  rw [uv,uv]; grind
 | some i=>
  cases oj with
  | none=>
   refine Gd.ite (λh=>absurd h (by simp [LU])) (λ_=>hnx rows ((hM.mono (by omega)).congr (λr c _ _=>?_)))
   rw [uv,uv]; grind
  | some j=>
   have hi:=hi i rfl;have hj:=hj j rfl;have hij:i≠j:=λe=>hne i rfl (by rw [e])
   show Gd (if ((decide (0<=(i:Int)) && decide (0<=(j:Int)))=true) then _ else _) Q
   refine Gd.ite (λ_=>?_) (λh=>absurd h (by simp))
   show Gd (idx (yw n) (i:Int) _) Q;refine pQ hi (pQ hj (pQ hi (s6 hM hi hj (λy1 a1 a2 a3=>Gd.eQ (ya a1 hb a2 hbl (by omega)) (λr1 b1=>?_)))))
   show Gd (idx (yw n) (j:Int) _) Q;refine pQ hj (s6 hM hj hi (λy2 c1 c2 c3=>Gd.eQ (ya c1 hb c2 hbl (by omega)) (λr2 d1=>?_)))
   show Gd (idx ((([]::rows:List (List LR))[i+1]?).getD []) (j:Int) _) Q;refine s6 hM hi hj (λ_ _ _ _=>?_);have h2:=(hM.mono (show W<=W+3 by omega)).Eu hi hj (d:=-rv b) b1.1 (b1.2.1.mono (by omega)) (by rw [b1.2.2,a3]; grind)
   show Gd (idx ((([]::(rows.set i (((rows[i]?).getD []).set j r1)):List (List LR))[j+1]?).getD []) (i:Int) _) Q;refine s6 h2 hj hi (λ_ _ _ _=>?_);have h3:=h2.Eu hj hi (d:=-rv b) d1.1 (d1.2.1.mono (by omega)) (by
    rw [d1.2.2,c3,qx hij]; grind)
   refine hnx _ (h3.congr (λr c _ _=>?_));rw [uw,uw,uw,uw]; grind
theorem MK {n W:Nat}{nx:I8}{b:LR}{oi oj:Option Nat}{rows:List (List LR)}{m:Mt}{Q:bA->Prop} (hM:uF rows n n W m) (hW:W<=900) (hb:pA b) (hbl:RL b 2)
  (hi:∀ i,oi=some i->i<n) (hj:∀ j,oj=some j->j<n) (hne:∀ i,oi=some i->oj≠some i)
  (hnx:∀ rows',uF rows' n n (W+6) (λr c=>m r c+rv b*(eo oj r*eo oj c)-rv b*(eo oi r*eo oj c)-rv b*(eo oj r*eo oi c))->Gd (nx ([]::rows')) Q):
  Gd (jO (yw n) nx b (LU oi) (LU oj) ([]::rows)) Q:=by
 unfold jO;cases oj with
 | none=>
  refine Gd.ite (λh=>absurd h (by simp [LU])) (λ_=>MJ (oj:=none) (hM.mono (show W<=W+3 by omega)) (by omega) hb hbl hi hj hne (λrows' h'=>hnx rows' (h'.congr (λr c _ _=>?_))))
  rw [uv,uv]; grind
 | some j=>
  have hj':=hj j rfl;show Gd (if (decide (0<=(j:Int))=true) then _ else _) Q
  refine Gd.ite (λ_=>?_) (λh=>absurd h (by simp))
  show Gd (idx (yw n) (j:Int) _) Q;refine pQ hj' (pQ hj' (s6 hM hj' hj' (λy1 a1 a2 a3=>Gd.eQ (wZ a1 hb a2 hbl (by omega)) (λr1 b1=>s6 hM hj' hj' (λ_ _ _ _=>?_)))))
  have h2:=(hM.mono (show W<=W+3 by omega)).Eu hj' hj' (d:=rv b) b1.1 (b1.2.1.mono (by omega)) (by rw [b1.2.2,a3])
  refine MJ (oj:=some j) h2 (by omega) hb hbl hi hj hne (λrows' h'=>hnx rows' (h'.congr (λr c _ _=>?_)))
  rw [uw,uw]
theorem Gi (l:List (Rat×(Nat->Rat))) (e:Rat×(Nat->Rat)) (r c:Nat):iK (l++[e]) r c=iK l r c+e.1*e.2 r*e.2 c:=by
 induction l with
 | nil=>show e.1*e.2 r*e.2 c+0=0+_; grind
 | cons a l ih=>show a.1*a.2 r*a.2 c+iK (l++[e]) r c=a.1*a.2 r*a.2 c+iK l r c+_; rw [ih]; grind
theorem DD {α:Type}{l:List α}{k:Nat}{e:α} (f:α->Int) (h:l[k]? = some e):(l.map f)[k]? = some (f e):=by rw [QS,h]; rfl
theorem Om {M:bA}{n N:Nat}{F:Nat->Nat}{l:List (Rat×Nat×Nat)}{t:Rat} (h:I9 M n N F l t) {k W:Nat}{e:Rat×Nat×Nat} (he:l[k]? = some e) {b:LR} (hb:pA b) (hbl:RL b 2) (hbv:rv b=t / e.1)
  {nx:I8}{rows:List (List LR)}{pre:List (Rat×Nat×Nat)}{Q:bA->Prop} (hW:W<=800) (hM:uF rows n n W (iK ((pre.map (yo t)).map (nF F))))
  (hnx:∀ rows',uF rows' n n (W+9) (iK (((pre++[e]).map (yo t)).map (nF F)))->Gd (nx ([]::rows')) Q):
  Gd (k_ M (yw n) k b ([]::rows) nx) Q:=by
 obtain ⟨q,u,v⟩:=e;unfold k_;rw [h.fr,h.to];have f1:=DD (λe:Rat×Nat×Nat=>(e.2.1:Int)) he;have f2:=DD (λe:Rat×Nat×Nat=>(e.2.2:Int)) he;have new:∀ r c,iK (((pre++[(q,u,v)]).map (yo t)).map (nF F)) r c=iK ((pre.map (yo t)).map (nF F)) r c+rv b*(dl (F r) u-dl (F r) v)*(dl (F c) u-dl (F c) v):=λr c=>by
  rw [RM,RM];show iK (_++[_]) r c=_;rw [Gi,hbv]; rfl
 refine Gd.ix (by omega) (by rw [Qn]; exact f1) ?_
 refine Gd.eQ (Fo h u) ?_;rintro _ ⟨oi,rfl,i1,i2⟩;refine Gd.ix (by omega) (by rw [Qn]; exact f2) ?_
 refine Gd.eQ (Fo h v) ?_;rintro _ ⟨oj,rfl,j1,j2⟩;refine Gd.ix (by omega) (by rw [Qn]; exact f1) (Gd.ix (by omega) (by rw [Qn]; exact f2) ?_)
 refine Gd.ite (λhuv=>?_) (λhuv=>?_)
 ·have e1:u=v:=by have:=Qr huv; simp only at this; omega
  subst e1;unfold gR;refine hnx rows ((hM.mono (by omega)).congr (λr c _ _=>?_))
  rw [new]; grind
 ·have e1:u≠v:=λe=>by subst e; simp at huv
  have hne:∀ i,oi=some i->oj≠some i:=λi hi hj=>by
   have:=(i1 i hi).2;have:=(j1 i hj).2;omega
  have fin:∀ rows',uF rows' n n (W+9) (λr c=>iK ((pre.map (yo t)).map (nF F)) r c+rv b*(eo oi r*eo oi c)+rv b*(eo oj r*eo oj c)-rv b*(eo oi r*eo oj c)-rv b*(eo oj r*eo oi c))->Gd (nx ([]::rows')) Q:=λrows' h'=>
   hnx rows' (h'.congr (λr c hr hc=>by rw [new,i2 r hr,i2 c hc,j2 r hr,j2 c hc]; grind))
  cases oi with
  | none=>
   refine Gd.ite (λh=>absurd h (by simp [LU])) (λ_=>MK (oi:=none) (hM.mono (show W<=W+3 by omega)) (by omega) hb hbl (λi hi=>(i1 i hi).1) (λj hj=>(j1 j hj).1) hne (λrows' h'=>fin rows' ((h'.mono (by omega)).congr (λr c _ _=>?_))))
   rw [uv,uv]; grind
  | some i=>
   have hi:=(i1 i rfl).1;show Gd (if (decide (0<=(i:Int))=true) then _ else _) Q
   refine Gd.ite (λ_=>?_) (λh=>absurd h (by simp))
   show Gd (idx (yw n) (i:Int) _) Q;refine pQ hi (pQ hi (s6 hM hi hi (λy1 a1 a2 a3=>Gd.eQ (wZ a1 hb a2 hbl (by omega)) (λr1 b1=>s6 hM hi hi (λ_ _ _ _=>?_)))))
   have h2:=(hM.mono (show W<=W+3 by omega)).Eu hi hi (d:=rv b) b1.1 (b1.2.1.mono (by omega)) (by rw [b1.2.2,a3])
   refine MK (oi:=some i) h2 (by omega) hb hbl (λi hi=>(i1 i hi).1) (λj hj=>(j1 j hj).1) hne (λrows' h'=>fin rows' ((h'.mono (by omega)).congr (λr c _ _=>?_)))
   rw [uw,uw]
structure My (rows:List (List LR)) (n:Nat) (A:Mt):Prop where
 ex:∃ m,Gj n A n m/\uF rows n n 6000 (λi c=>m i (n+c))
theorem Iq {M:bA}{n N:Nat}{F:Nat->Nat}{l:List (Rat×Nat×Nat)}{t:Rat} (h:I9 M n N F l t) {B:Mt}{L R:Nat->Rat} (hp:Pd n (iK ((l.map (yo t)).map (nF F)))) (hB:Nb n (iK ((l.map (yo t)).map (nF F))) L B R):
  Gd (nj M) (λM'=>∃ rows,M'={ M with rl:=rows }/\My rows n (iK ((l.map (yo t)).map (nF F)))):=by
 have hn:=h.hn;have hfl:M.qX.length=n:=by rw [h.free]; simp
 unfold nj;rw [hfl,Qn,RE];refine Gd.nd (by omega) (Gd.nd (by omega) ?_)
 rw [Qn];refine Gd.kL (λm i s=>i+m=n/\∃ pre:List (List LR),s=(FI n i,[]::pre)/\uF pre i n 2 (λ_ _=>0)) ?_ ?_ n 0 _ ⟨by omega,[],by rw [BH],⟨rfl,λi hi=>by omega⟩⟩
 ·rintro m i _ nx ⟨him,pre,rfl,hpre⟩ hnx
  have hi:i<n:=by omega
  unfold pZ;rw [hfl];refine Gd.eQ (zT (by omega)) ?_
  rintro _ ⟨z,rfl,hz⟩;refine Gd.ix (by omega) (by rw [Qn]; exact FU hi) (hnx _ ⟨by omega,pre++[List.replicate n z],?_,hpre.snoc (by simp) (λc hc=>⟨z,by rw [SZ,Qu hc],hz.1,hz.2.1,hz.2.2⟩)⟩)
  rw [Qn,Qy,hpre.len,A1 hi]; rfl
 ·rintro i _ ⟨hi,pre,rfl,hpre⟩
  obtain rfl:i=n:=by omega
  show Gd (dI (λk y s1523 n=>k_ M (FI i i) k y s1523 n) _ 0 M.B_ ([]::pre)) _;rw [BG];refine Gd.dI (λk ys s=>∃ (bs:List LR) (rows:List (List LR)),M.B_=bs++ys/\bs.length=k/\s=[]::rows/\uF rows i i (2+9*k) (iK (((l.take k).map (yo t)).map (nF F)))) ?_ ?_ M.B_ 0 _ ⟨[],pre,rfl,rfl,rfl,by rw [UX]; exact hpre⟩
  ·rintro k y ys _ nx ⟨bs,rows,hbs,hbk,rfl,hM⟩ hnx
   have hy:M.B_[k]? = some y:=by rw [hbs,QX (by omega),hbk,RG]; rfl
   obtain ⟨e,he,y1,y2,y3⟩:=h.b k y hy;have hkl:=(Qo.1 he).1;have hll:=h.ll;have e2:l.take (k+1)=l.take k++[e]:=by
    rw [QO hkl,(Qo.1 he).2]
   refine Om h he y1 y2 y3 (by omega) hM (λrows' h'=>hnx _ ⟨bs++[y],rows',by rw [hbs]; simp,by simp [hbk],rfl,?_⟩)
   rw [e2];exact h'.mono (by omega)
  ·rintro k _ ⟨bs,rows,hbs,hbk,rfl,hM⟩
   have hll:=h.ll;have hbl:=h.bl;rw [Q5] at hbs;have hkl:k=l.length:=by rw [<- hbl,hbs,hbk]
   rw [hkl,Sc] at hM;show Gd ((qG (rM (yw i) ([]::rows))).bind _) _;rw [CC hM.len];refine Gd.eQ (Gg (by omega) (by omega) (by omega) hp (hM.mono (by omega)) (hB.rb hp (by omega))) (λr hr=>Gd.ret ⟨r.1,rfl,⟨hr.2⟩⟩)
abbrev Net:=aD
theorem Gd.forAll {R α σ:Type}{Q:R->Prop}{body:Nat->α->σ->(σ->Option R)->Option R}{k:σ->Option R}{l:List α} (P:α->Prop) (J:σ->Prop)
  (hb:∀ i y s n,y ∈ l->J s->(P y->∀ s',J s'->Gd (n s') Q)->Gd (body i y s n) Q) (hk:(∀ x ∈ l,P x)->∀ s,J s->Gd (k s) Q) (s:σ) (hs:J s):Gd (Sim.dI body k 0 l s) Q:=by
 have key:∀ (ys pre:List α) (i:Nat) (s:σ),l=pre++ys->(∀ x ∈ pre,P x)->J s->Gd (Sim.dI body k i ys s) Q:=by
  intro ys
  induction ys with
  | nil=>intro pre i s hl hp hs; exact hk (by rw [hl,Q5]; exact hp) s hs
  | cons y ys ih=>
   intro pre i s hl hp hs;refine hb i y s _ (by rw [hl]; exact Rp _ (Qq ..)) hs (λhP s' hs'=>?_)
   exact ih (pre++[y]) (i+1) s' (by rw [hl]; simp) (λx hx=>by
    rcases QC.1 hx with hx | hx
    ·exact hp x hx
    ·simp at hx; subst hx; exact hP) hs'
 exact key l [] 0 s rfl (by simp) hs
theorem Fh (s:Qi) (h:s.size<=maxLen):Gd (bK s) (λ_=>True):=by
 unfold bK;refine Gd.nd h (Gd.dI (λ_ _ _=>True) (λi y ys s n _ hn=>?_) (λi s _=>Gd.ret Qk) _ _ _ Qk);unfold n_;exact Gd.ite (λ_=>Gd.ret Qk) (λ_=>hn _ Qk)
theorem De (l:List Qi) (p:Qi):Gd (bG l p) (λr=>(r = -1/\p ∉ l)\/∃ (k:Nat) (h:k<l.length),r=k/\l[k]=p):=by
 unfold bG;refine Gd.kL (λm i _=>i+m=l.length/\p ∉ l.take i) ?_ ?_ (l.length:Int).toNat 0 () ⟨by omega,by simp⟩
 ·intro m i _ nx ⟨hi,hno⟩ hnx
  unfold l_;refine Gd.iH (by omega) (Gd.ite (λh=>Gd.ret (.inr ⟨i,by omega,rfl,?_⟩)) (λh=>hnx () ⟨by omega,?_⟩))
  ·have:p=l[i]:=by simpa using h
   exact this.symm
  ·rw [QO (by omega),QC,QZ]
   rintro (h' | h')
   ·exact hno h'
   ·simp [h'] at h
 ·intro i _ ⟨hi,hno⟩
  rw [QD (by omega)] at hno
  exact Gd.ret (.inl ⟨rfl,hno⟩)
theorem yR {l:List Qi}{p:Qi} (h:p ∈ l):∃ k:Nat,bG l p=some (k:Int)/\∃ hk:k<l.length,l[k]=p:=by
 obtain ⟨r,hr,h2⟩:=De l p;rcases h2 with ⟨_,hno⟩ | ⟨k,hk,rfl,e⟩
 ·exact absurd h hno
 ·exact ⟨k,hr,hk,e⟩
theorem uD (l:List Qi) (p:Qi):Gd (bO l p) (λb=>b=true↔p ∈ l):=by
 unfold bO;refine Gd.eQ (De l p) (λr hr=>Gd.ret ?_);rcases hr with ⟨rfl,hno⟩ | ⟨k,hk,rfl,e⟩
 ·simp [hno]
 ·have:p ∈ l:=e▸QY _
  simp [this]
theorem uH (c:aW) (name:Qi) (nodes:List Qi) (h:name.size<=maxLen):
  Gd (cI c name nodes) (λr=>r.1=0->∀ x ∈ nodes,x ∈ c.nodes):=by
 unfold cI;refine Gd.eQ (Fh name h) (λa _=>Gd.ite (λ_=>Gd.ret (λh=>by simp at h)) (λ_=>Gd.ite (λ_=>Gd.ret (λh=>by simp at h)) (λ_=>?_)))
 refine Gd.forAll (λx=>x ∈ c.nodes) (λ_=>True) ?_ ?_ () Qk
 ·intro i y s n hy _ hn
  unfold iS;refine Gd.eQ (uD c.nodes y) (λb hb=>Gd.ite (λ_=>Gd.ret (λh=>by simp at h)) (λh=>hn (hb.1 (by simpa using h)) _ Qk))
 ·intro hall s _
  refine Gd.ite (λh=>?_) (λ_=>Gd.ret (λ_=>hall));have h2:nodes.length=2:=by
   have:((nodes.length:Nat):Int)=2:=by simpa using h
   omega
  have e1:(0:Int)=((0:Nat):Int):=rfl;have e2:(1:Int)=((1:Nat):Int):=rfl;rw [e1,e2];exact Gd.iH (by omega) (Gd.iH (by omega) (Gd.ite (λ_=>Gd.ret (λh=>by simp at h)) (λ_=>Gd.ret (λ_=>hall))))
structure pD (n:Net):Prop where
 nd:∀ x ∈ n.bF,x.size<=maxLen
 sw:∀ x ∈ n.aN,x.Name.size<=maxLen
 br:∀ x ∈ n.aI,x.Name.size<=maxLen
 gn:∀ x ∈ n.dB,x.Name.size<=maxLen
 ld:∀ x ∈ n.bC,x.Name.size<=maxLen
 st:∀ x ∈ n.bS,x.Name.size<=maxLen
structure pJ (n:Net):Prop where
 l1:n.bF.length<=24
 l2:n.aN.length<=32
 l3:n.aI.length<=24
 l4:n.dB.length<=10
 l5:n.bC.length<=12
 sw:∀ x ∈ n.aN,x.A ∈ n.bF/\x.B_ ∈ n.bF
 br:∀ x ∈ n.aI,x.pI ∈ n.bF/\x.To ∈ n.bF
 gn:∀ x ∈ n.dB,x.Node ∈ n.bF/\0<=x.jC/\x.jC<=x.qH/\x.qH<=100000
 ld:∀ x ∈ n.bC,x.Node ∈ n.bF/\0<=x.dA/\x.dA<=100000
theorem Lq (c:aW) (n:Net) (hz:pD n):
  Gd (gS c n) (λr=>r.1=0->(∀ x ∈ n.dB,x.Node ∈ c.nodes/\0<=x.jC/\x.jC<=x.qH/\x.qH<=100000)/\(∀ x ∈ n.bC,x.Node ∈ c.nodes/\0<=x.dA/\x.dA<=100000)):=by
 unfold gS;refine Gd.forAll (λx=>x.Node ∈ c.nodes/\0<=x.jC/\x.jC<=x.qH/\x.qH<=100000) (λ_=>True) ?_ ?_ _ Qk
 ·intro i y s nx hy _ hn
  unfold jU;refine Gd.eQ (uH _ _ _ (hz.gn y hy)) (λr hr=>Gd.ite (λh=>Gd.ret (λh2=>absurd h2 (by simpa using h))) (λh=>Gd.ite (λ_=>Gd.ret (λh2=>by simp at h2)) (λh2=>hn ?_ _ Qk)))
  have h0:r.1=0:=by simpa using h
  have:=hr h0 y.Node (by simp)
  simp [aY,bM] at h2;exact ⟨this,by omega,by omega,by omega⟩
 ·intro hg s _
  refine Gd.forAll (λx=>x.Node ∈ c.nodes/\0<=x.dA/\x.dA<=100000) (λ_=>True) ?_ ?_ _ Qk
  ·intro i y s nx hy _ hn
   unfold jV;refine Gd.eQ (uH _ _ _ (hz.ld y hy)) (λr hr=>Gd.ite (λh=>Gd.ret (λh2=>absurd h2 (by simpa using h))) (λh=>Gd.ite (λ_=>Gd.ret (λh2=>by simp at h2)) (λh2=>hn ?_ _ Qk)))
   have h0:r.1=0:=by simpa using h
   have:=hr h0 y.Node (by simp)
   simp [aY,bM] at h2;exact ⟨this,by omega,by omega⟩
  ·intro hl s _
   refine Gd.forAll (λ_=>True) (λ_=>True) ?_ ?_ _ Qk
   ·intro i y s nx hy _ hn
    unfold jW;refine Gd.eQ (uH _ _ _ (hz.st y hy)) (λr hr=>Gd.ite (λh=>Gd.ret (λh2=>absurd h2 (by simpa using h))) (λh=>Gd.ite (λ_=>Gd.ret (λh2=>by simp at h2)) (λ_=>hn Qk _ Qk)))
   ·intro _ s _
    exact Gd.ret λ_=>⟨hg,hl⟩
theorem JC (n:Net) (hz:pD n):Gd (cA n) (λe=>e=0->pJ n):=by
 unfold cA;refine Gd.ite (λ_=>Gd.ret (λh=>by simp at h)) (λhl=>?_)
 simp only [VC,Xc,Int.not_lt] at hl;refine Gd.forAll (λ_=>True) (λ_=>True) ?_ ?_ _ Qk
 ·intro i y s nx hy _ hn
  unfold np;exact Gd.eQ (uH _ _ _ (hz.nd y hy)) (λr hr=>Gd.ite (λh=>Gd.ret (λh2=>absurd h2 (by simpa using h))) (λh=>hn Qk _ Qk))
 intro _ s _;refine Gd.forAll (λx=>x.A ∈ n.bF/\x.B_ ∈ n.bF) (λ_=>True) ?_ ?_ _ Qk
 ·intro i y s nx hy _ hn
  unfold nq;refine Gd.eQ (uH _ _ _ (hz.sw y hy)) (λr hr=>Gd.ite (λh=>Gd.ret (λh2=>absurd h2 (by simpa using h))) (λh=>hn ?_ _ Qk))
  have h0:r.1=0:=by simpa using h
  exact ⟨hr h0 y.A (by simp),hr h0 y.B_ (by simp)⟩
 intro hsw s _;refine Gd.forAll (λx=>x.pI ∈ n.bF/\x.To ∈ n.bF) (λ_=>True) ?_ ?_ _ Qk
 ·intro i y s nx hy _ hn
  unfold nr;refine Gd.eQ (uH _ _ _ (hz.br y hy)) (λr hr=>Gd.ite (λh=>Gd.ret (λh2=>absurd h2 (by simpa using h))) (λh=>Gd.ite (λh=>Gd.ret (λh2=>absurd h2 (by simpa using h))) (λ_=>hn ?_ _ Qk)))
  have h0:r.1=0:=by simpa using h
  exact ⟨hr h0 y.pI (by simp),hr h0 y.To (by simp)⟩
 intro hbr s _;refine Gd.eQ (Lq _ n hz) (λr hr=>Gd.ret (λh=>?_));obtain ⟨hg,hl2⟩:=hr h;exact ⟨by omega,by omega,by omega,by omega,by omega,hsw,hbr,hg,hl2⟩
def Ez (N:Nat) (l:List cB):Prop:=∀ e ∈ l,0<=e.a0/\e.a0<N/\0<=e.a1/\e.a1<N
structure yY (N:Nat) (many:Int) (out:List Int):Prop where
 len:out.length=N
 K6:∀ v ∈ out,-1<=v/\v<many
def AY (N:Nat) (l:List Int):Prop:=∀ a ∈ l,0<=a/\a<(N:Int)
def sr (out:List Int):Nat:=out.countP (λv=>decide (v<0))
theorem yY.set {N:Nat}{many:Int}{out:List Int} (h:yY N many out) {v:Int} (hv:0<=v/\v<many) (i:Nat):yY N many (out.set i v):=
 ⟨by simp [h.len],λx hx=>by
  rcases V0 hx with hx | rfl
  ·exact h.K6 x hx
  ·omega⟩
theorem Fc {out:List Int}{i:Nat} (hi:i<out.length) (hn:out[i]<0) {v:Int} (hv:0<=v):sr (out.set i v)+1=sr out:=by
 unfold sr;rw [List.countP_set hi];have h1:decide (out[i]<0)=true:=Xd hn;have h2:decide (v<0)=false:=Xb (by omega)
 rw [h1,h2];have hpos:0<out.countP (λv=>decide (v<0)):=List.countP_pos_iff.2 ⟨_,QY hi,h1⟩;simp;omega
def yp (a b:List Int):Prop:=∀ (i:Nat) (v:Int),a[i]? = some v->0<=v->∃ w,b[i]? = some w/\0<=w
theorem yp.refl (a:List Int):yp a a:=λi v h h0=>⟨v,h,h0⟩
theorem yp.set {a b:List Int} (h:yp a b) (i:Nat) {v:Int} (hv:0<=v):yp a (b.set i v):=by
 intro j w hj hw;obtain ⟨u,hu,hu0⟩:=h j w hj hw
 by_cases e:i=j
 ·subst e
  exact ⟨v,by simp [(Qo.1 hu).1],hv⟩
 ·exact ⟨u,by rw [QM e]; exact hu,hu0⟩
theorem Kw (N:Nat) (hN:N<=24) (l:List cB) (hl:Ez N l) (hll:l.length<=64) (wo:Int):Gd (pC N l wo) (λr=>r.length=N/\∀ v ∈ r,0<=v/\v<N):=by
 unfold pC;refine Gd.nd ⟨rfl,by omega,by omega⟩ (Gd.nd (by omega) ?_)
 rw [xN];refine Gd.kL (λm i s=>i+m=N/\0<=s.2/\s.2<=(i:Int)/\yY N s.2 s.1/\∀ (j:Nat) (v:Int),j<i->s.1[j]? = some v->0<=v) ?_ ?_ (N:Int).toNat 0 (List.replicate N (-1),0) ⟨by omega,by simp,by simp,⟨by simp,by simp⟩,by simp⟩
 ·rintro m i ⟨out,many⟩ nx ⟨hi,h0,hmi,hp,hk⟩ hn
  simp only at h0 hmi hp hk;have hilt:i<out.length:=by rw [hp.len]; omega
  unfold qO;refine Gd.iH hilt (Gd.ite (λh=>?_) (λh=>?_))
  ·have hge:0<=out[i]:=by simpa using h
   unfold kI;refine hn _ ⟨by omega,h0,by show many<=((i+1:Nat):Int); omega,hp,λj v hj hv=>?_⟩
   by_cases e:j=i
   ·subst e
    rw [Ql hilt] at hv;cases hv; exact hge
   ·exact hk j v (by omega) hv
  ·have hneg:out[i]<0:=by simpa using h
   refine Gd.iH hilt ?_;rw [Qn];have hw:i64.wrap (many+1)=many+1:=bV ⟨by omega,by omega⟩
   have hp1:yY N (many+1) out:=⟨hp.len,λv hv=>by have:=hp.K6 v hv; omega⟩
   have hbase0:2*sr (out.set i many)+[(i:Int)].length<=2*N+1:=by
    have hc:sr (out.set i many)<=N:=by unfold sr; rw [<- hp.len,<- RH (as:=out) (i:=i) (a:=many)]; exact Td
    simp only [Rk]; omega
   refine Gd.iN (λ(s:List Int×List Int)=>yY N (many+1) s.1/\yp (out.set i many) s.1/\AY N s.2/\2*sr s.1+s.2.length<=2*N+1) (λs=>2*sr s.1+s.2.length) ?_ fY _ ⟨hp1.set ⟨h0,by omega⟩ i,yp.refl _,by intro a ha; simp at ha; omega,hbase0⟩ ?_
   ·rintro ⟨o,todo⟩ nx2 ⟨hq,hkp,htd,htot⟩ hn2
    simp only at hq hkp htd htot;unfold qP;refine Gd.ite (λhne=>?_) (λ_=>?_)
    ·have hne:0<todo.length:=by
      have:(0:Int)<((todo.length:Nat):Int):=by simpa using hne
      omega
     obtain ⟨at_,ts,rfl⟩:∃ a ts,todo=a::ts:=by
      cases todo with
      | nil=>simp at hne
      | cons a ts=>exact ⟨a,ts,rfl⟩
     refine Gd.ix (y:=at_) (by decide) rfl (Gd.nd ⟨by omega,by simp only [Qy]; omega⟩ ?_)
     have hat:=htd at_ (Qq ..);have hsl:r8 (at_::ts) (1:Int).toNat (at_::ts).length=ts:=by
      unfold r8;rw [show (1:Int).toNat=1 from rfl,Vq,RI,QD (by simp)]
     rw [hsl];simp only [Qy] at htot;have push:∀ (b:List Int) (td:List Int) (q:Int) (nn:(List Int×List Int)->Option (List Int)),0<=q->q<N->yY N (many+1) b->yp (out.set i many) b->AY N td->2*sr b+td.length<=2*sr o+ts.length ->
       (∀ s',(yY N (many+1) s'.1/\yp (out.set i many) s'.1/\AY N s'.2/\2*sr s'.1+s'.2.length<=2*sr o+ts.length)->Gd (nn s') (λr=>r.length=N/\∀ v ∈ r,0<=v/\v<N)) ->
       Gd (Sim.idx b q λy7689=>if decide (y7689<0) then (Sim.idx b q λy7694=>cZ ((td.length+([q]).length)*8<=140737488355328) (eK nn (b.set (q:Int).toNat many) (td++([q])))) else (eK nn b td)) (λr=>r.length=N/\∀ v ∈ r,0<=v/\v<N):=by
      intro b td q nn q0 qN hb hkb htd2 hms hnn;have hql:q.toNat<b.length:=by rw [hb.len]; omega
      have hget:b[q.toNat]? = some b[q.toNat]:=Ql hql;unfold eK;refine Gd.ix q0 hget (Gd.ite (λh=>Gd.ix q0 hget (Gd.nd ?_ (hnn _ ⟨hb.set ⟨h0,by omega⟩ _,hkb.set _ h0,?_,?_⟩))) (λh=>hnn _ ⟨hb,hkb,htd2,hms⟩))
      ·have h1:b[q.toNat]<0:=by simpa using h
       have hc:sr o<=N:=by unfold sr; rw [<- hq.len]; exact Td
       simp;omega
      ·intro a ha
       rcases QC.1 ha with ha | ha
       ·exact htd2 a ha
       ·simp at ha; omega
      ·have h1:b[q.toNat]<0:=by simpa using h
       have:=Fc hql h1 h0;simp;omega
     have hc:sr o<=N:=by unfold sr; rw [<- hq.len]; exact Td
     ·refine Gd.forAll (λ_=>True) (λ(s:List Int×List Int)=>yY N (many+1) s.1/\yp (out.set i many) s.1/\AY N s.2/\2*sr s.1+s.2.length<=2*sr o+ts.length) ?_ ?_ _ ⟨hq,hkp,(λa ha=>htd a (Qw _ ha):AY N ts),QI (2*sr o+ts.length)⟩
      ·rintro k e ⟨b,td⟩ nn he ⟨hb,hkb,htd2,hms⟩ hnn
       simp only at hb hkb htd2 hms;obtain ⟨e1,e2,e3,e4⟩:=hl e he;have hw1:i64.wrap (e.a0+e.a1)=e.a0+e.a1:=bV ⟨by omega,by omega⟩
       have hw2:i64.wrap (e.a0+e.a1-at_)=e.a0+e.a1-at_:=bV ⟨by omega,by omega⟩
       unfold qQ;rw [hw1,hw2];refine Gd.ite (λ_=>hnn Qk _ ⟨hb,hkb,htd2,hms⟩) (λ_=>Gd.ite (λh=>?_) (λ_=>Gd.ite (λ_=>hnn Qk _ ⟨hb,hkb,htd2,hms⟩) (λh=>?_)))
       ·have h:e.a0=at_:=by simpa using h
        exact push b td _ nn (by omega) (by omega) hb hkb htd2 hms (λs' hs'=>hnn Qk s' hs')
       ·have h:e.a1=at_:=by simpa using h
        exact push b td _ nn (by omega) (by omega) hb hkb htd2 hms (λs' hs'=>hnn Qk s' hs')
      ·rintro _ ⟨b,td⟩ ⟨hb,hkb,htd2,hms⟩
       simp only at hb hkb htd2 hms;exact hn2 _ ⟨hb,hkb,htd2,by show 2*sr b+td.length<=2*N+1; omega⟩ (by simp only [Qy]; omega)
    ·unfold kI
     rw [hw];refine hn _ ⟨by omega,by show (0:Int)<=many+1; omega,by show many+1<=((i+1:Nat):Int); omega,hq,λj v hj hv=>?_⟩
     have hjl:j<out.length:=by omega
     have hbase:∃ w,(out.set i many)[j]? = some w/\0<=w:=by
      by_cases e:i=j
      ·subst e; exact ⟨many,by simp [hilt],h0⟩
      ·exact ⟨out[j],by rw [QM e]; exact Ql hjl,hk j _ (by omega) (Ql hjl)⟩
     obtain ⟨w,hw1,hw0⟩:=hbase;obtain ⟨u,hu,hu0⟩:=hkp j w hw1 hw0;simp only at hv;rw [hu] at hv; cases hv; exact hu0
   ·refine Tu hbase0 ?_
    unfold fY; omega
 ·rintro i ⟨out,many⟩ ⟨hi,h0,hmi,hp,hk⟩
  simp only at h0 hmi hp hk;refine Gd.ret ⟨hp.len,λv hv=>?_⟩;obtain ⟨j,hj,hje⟩:=RC.1 hv;have hj:j<out.length:=hj;have h1:=hp.K6 v hv;have h2:=hk j v (by have:=hp.len; omega) (by rw [Ql hj]; exact Q6 some hje)
  omega
theorem C9 (N:Nat) (hN:N<=24) (l:List cB) (hl:Ez N l) (hll:l.length<=64):rS N l=some 0:=by
 rw [<- Gd.eq];unfold rS;refine Gd.ite (λh=>?_) (λ_=>Gd.forAll (Q:=λx=>x=0) (λ_=>True) (λ_=>True) ?_ (λ_ _ _=>Gd.ret rfl) _ Qk)
 ·simp at h; omega
 ·intro i e s n he _ hn
  obtain ⟨e1,e2,e3,e4⟩:=hl e he;unfold tw;exact Gd.ite (λh=>by simp at h; omega) (λ_=>Gd.ite (λh=>by simp at h; omega) (λ_=>Gd.ite (λh=>by simp at h; omega) (λ_=>Gd.ite (λh=>by simp at h; omega) (λ_=>hn Qk _ Qk))))
theorem JE (N:Nat) (hN:N<=24) (l:List cB) (hl:Ez N l) (hll:l.length<=64):Gd (jR N l) (λr=>r.1.length=N/\AY N r.1):=by
 unfold jR;refine Gd.bind_eq (C9 N hN l hl hll) (Gd.ite (λh=>by simp at h) (λ_=>Gd.eQ (Kw N hN l hl hll (-1)) (λr hr=>Gd.ret hr)))
theorem JW (n:Net) (hn:pJ n) (o:Bool):Gd (qA n o) (λr=>r.1.length<=32/\Ez n.bF.length r.1):=by
 unfold qA;refine Gd.dI (λi ys s=>i+ys.length=n.aN.length/\(∀ y ∈ ys,y ∈ n.aN)/\s.1.length<=i/\s.2.length<=i/\Ez n.bF.length s.1) ?_ ?_ _ _ _ ⟨by simp,λ_ h=>h,by simp,by simp,by intro e he; simp at he⟩
 ·rintro i y ys ⟨a,b⟩ nx ⟨hi,hm,ha,hb,he⟩ hnx
  simp only [Qy] at hi ha hb he;have h2:=hn.l2;have hys:∀ z ∈ ys,z ∈ n.aN:=λz hz=>hm z (Qw _ hz);unfold sq ot;refine Gd.ite (λ_=>?_) (λ_=>hnx _ ⟨by omega,hys,by simp only; omega,by simp only; omega,he⟩)
  obtain ⟨h1,h2'⟩:=hn.sw y (hm y (Qq ..));obtain ⟨p,hp,hpl,_⟩:=yR h1;obtain ⟨q,hq,hql,_⟩:=yR h2';refine Gd.bind_eq hp (Gd.bind_eq hq (Gd.nd (by simp; omega) (Gd.nd (by simp; omega) (hnx _ ⟨by omega,hys,by simp; omega,by simp; omega,?_⟩))))
  intro e hme;rcases QC.1 hme with hme | hme
  ·exact he e hme
  ·simp at hme; subst hme
   exact ⟨by simp only; omega,by simp only; omega,by simp only; omega,by simp only; omega⟩
 ·rintro i ⟨a,b⟩ ⟨hi,hm,ha,hb,he⟩
  have h2:=hn.l2;simp only [VY] at hi ha;exact Gd.ret ⟨by simp only; omega,he⟩
theorem JB (n:Net) (hn:pJ n):Gd (oL n) (λr=>r.length=n.bF.length/\AY n.bF.length r):=by
 unfold oL;refine Gd.eQ (JW n hn false) (λr hr=>?_);have h1:=hn.l1;exact Gd.eQ (JE n.bF.length hn.l1 r.1 hr.2 (by omega)) (λr hr=>Gd.ret hr)
structure PB (n:Net) (t:aZ):Prop where
 bl:t.qq.length=n.bF.length
 bi:AY t.bR.length t.qq
 ii:AY t.bR.length t.bR
 il:t.bR.length<=24
theorem LK {R:Type}{Q:R->Prop} (N:Nat) (hN:N<=24) (body:Nat->Int->Int->(Int->Option R)->Option R) (hb:∀ k y n nx,body k y n nx=nx (max n (i64.wrap (y+1)))) (K:Int->Option R) (l:List Int) (hl:AY N l)
  (hk:∀ m:Nat,m<=N->AY m l->Gd (K (m:Int)) Q):Gd (dI body K 0 l 0) Q:=by
 have key:∀ (ys pre:List Int) (i m:Nat),l=pre++ys->m<=N->AY m pre->Gd (dI body K i ys (m:Int)) Q:=by
  intro ys
  induction ys with
  | nil=>intro pre i m e hm hp; rw [Q5] at e; subst e; exact hk m hm hp
  | cons y ys ih=>
   intro pre i m e hm hp;have hy:=hl y (by rw [e]; exact Rp _ (Qq ..))
   show Gd (body i y (m:Int) (λs=>dI body K (i+1) ys s)) Q;rw [hb,bV ⟨by omega,by omega⟩]
   have hmx:max (m:Int) (y+1)=((max m (y+1).toNat:Nat):Int):=by omega
   rw [hmx];refine ih (pre++[y]) (i+1) _ (by rw [e]; simp) (by omega) (λa ha=>?_)
   rcases QC.1 ha with ha | ha
   ·have:=hp a ha; omega
   ·simp at ha; subst ha; omega
 have:=key l [] 0 0 rfl (by omega) (by intro a ha; simp at ha)
 exact this
abbrev BA:=Qi
abbrev Seen:=List (Qi×Bool)
theorem Kk (l:List (Qi×Bool)) (k k':Qi):(rL (vr l k true) k').getD false=((rL l k').getD false || decide (k=k')):=by
 have key:∀ (l:List (Qi×Bool)) (i:Nat),(∀ p,wH l k' i=some p->wH (l++[(k,true)]) k' i=some p)/\(wH l k' i=none->wH (l++[(k,true)]) k' i=if k=k' then some (i+l.length,true) else none):=by
  intro l
  induction l with
  | nil=>intro i; refine ⟨λp h=>by simp [wH] at h,λ_=>?_⟩; simp [wH]
  | cons q l ih=>
   obtain ⟨a,b⟩:=q;intro i;simp only [SL,wH]
   by_cases h:a=k'
   ·simp [h]
   ·simp only [h,R_]
    refine ⟨(ih (i+1)).1,λhn=>?_⟩;rw [(ih (i+1)).2 hn];simp; split
    ·simp; omega
    ·rfl
 have set_ne:∀ (l:List (Qi×Bool)) (i j:Nat) (v:Bool),wH l k i=some (j,v)->rL (l.set (j-i) (k,true)) k'=if k=k' then some true else rL l k':=by
  intro l;unfold rL;have:∀ (l:List (Qi×Bool)) (i j:Nat) (v:Bool) (q:Nat),wH l k i=some (j,v)->((wH (l.set (j-i) (k,true)) k' q).map (·.2))=if k=k' then some true else (wH l k' q).map (·.2):=by
   intro l
   induction l with
   | nil=>intro i j v q h; simp [wH] at h
   | cons p l ih=>
    obtain ⟨a,b⟩:=p;intro i j v q h;simp only [wH] at h
    split at h
    ·rename_i e
     simp only [QH,SU] at h;obtain ⟨rfl,rfl⟩:=h;subst e;rw [RG,List.set_cons_zero];simp only [wH]
     by_cases e:a=k' <;> simp [e]
    ·rename_i e
     obtain ⟨h1,h2,_⟩:=Gn h;rw [show j-i=(j-(i+1))+1 by omega,List.set_cons_succ]
     simp only [wH];have:=ih (i+1) j v (q+1) h
     by_cases e2:a=k'
     ·subst e2
      have hk:k≠a:=λx=>e x.symm;simp [hk]
     ·simp only [e2,R_]; exact this
  intro i j v h;exact this l i j v 0 h
 unfold vr;cases h:wH l k 0 with
 | none=>
  simp only;unfold rL;cases h2:wH l k' 0 with
  | none=>
   rw [(key l 0).2 h2]
   by_cases e:k=k' <;> simp [e]
  | some p=>
   rw [(key l 0).1 p h2]
   by_cases e:k=k'
   ·subst e; rw [h] at h2; cases h2
   ·simp [e]
 | some p=>
  obtain ⟨j,v⟩:=p;simp only;have:=set_ne l 0 j v h;rw [Tv] at this;rw [this]
  by_cases e:k=k' <;> simp [e]
def pV (P:List BA) (s:Seen):Prop:=∀ k:BA,(rL s k).getD false=true↔k ∈ P
theorem pV.nil:pV [] ([]:Seen):=λk=>by simp [rL,wH]
theorem pV.put {P:List BA}{s:Seen} (h:pV P s) (k:BA):pV (P++[k]) (vr s k true):=λk'=>by
 rw [Kk,RZ,h k',QC,QZ,Q9];exact or_congr Iff.rfl ⟨λe=>e.symm,λe=>e.symm⟩
structure N6 (ns P:List BA) (name:BA) (nodes:List BA):Prop where
 nm:bK name=some true
 nw:name ∉ P
 at_:∀ x ∈ nodes,x ∈ ns
 two:∀ a b,nodes=[a,b]->a≠b
theorem uG {c:aW}{P:List BA} (hs:pV P c.seen) {name:BA} (nodes:List BA) (h:name.size<=maxLen):
  Gd (cI c name nodes) (λr=>r.1=0->N6 c.nodes P name nodes/\pV (P++[name]) r.2.seen):=by
 unfold cI;obtain ⟨b,hb,_⟩:=Fh name h;refine Gd.bind_eq hb (Gd.ite (λ_=>Gd.ret (λh=>by simp at h)) (λhbt=>Gd.ite (λ_=>Gd.ret (λh=>by simp at h)) (λhsn=>?_)))
 have hbt:b=true:=by simpa using hbt
 subst hbt;have hnw:name ∉ P:=λhm=>by rw [(hs name).2 hm] at hsn; cases hsn
 refine Gd.forAll (λx=>x ∈ c.nodes) (λ_=>True) ?_ ?_ () Qk
 ·intro i y s n hy _ hn
  unfold iS;refine Gd.eQ (uD c.nodes y) (λb hb=>Gd.ite (λ_=>Gd.ret (λh=>by simp at h)) (λh=>hn (hb.1 (by simpa using h)) _ Qk))
 ·intro hall s _
  refine Gd.ite (λh=>?_) (λh2=>Gd.ret (λ_=>⟨⟨hb,hnw,hall,λa b e=>?_⟩,hs.put name⟩))
  ·have h2:nodes.length=2:=by
    have:((nodes.length:Nat):Int)=2:=by simpa using h
    omega
   obtain ⟨a,b,rfl⟩:∃ a b,nodes=[a,b]:=by
    match nodes,h2 with
    | [a,b],_=>exact ⟨a,b,rfl⟩
   refine Gd.ix (y:=a) (by decide) rfl (Gd.ix (y:=b) (by decide) rfl (Gd.ite (λ_=>Gd.ret (λh=>by simp at h)) (λhne=>Gd.ret (λ_=>⟨⟨hb,hnw,hall,λp q e=>?_⟩,hs.put name⟩))))
   have hne:a≠b:=by simpa using hne
   simp at e;rw [<- e.1,<- e.2]; exact hne
  ·subst e
   simp at h2
theorem wb {c:aW}{P:List BA} (hs:pV P c.seen) {name:BA}{nodes:List BA} (h:N6 c.nodes P name nodes):
  cI c name nodes=some (0,⟨vr c.seen name true,c.nodes⟩):=by
 rw [<- Gd.eq];unfold cI;refine Gd.bind_eq h.nm (Gd.ite (λh=>by simp at h) (λ_=>Gd.ite (λhsn=>absurd ((hs name).1 hsn) h.nw) (λ_=>?_)))
 refine Gd.forAll (λ_=>True) (λ_=>True) ?_ ?_ () Qk
 ·intro i y s n hy _ hn
  unfold iS;refine Gd.eQ (uD c.nodes y) (λb hb=>Gd.ite (λhn2=>?_) (λ_=>hn Qk _ Qk));have:=hb.2 (h.at_ y hy);simp [this] at hn2
 ·intro _ s _
  refine Gd.ite (λh2=>?_) (λ_=>Gd.ret rfl);have h2:nodes.length=2:=by
   have:((nodes.length:Nat):Int)=2:=by simpa using h2
   omega
  obtain ⟨a,b,rfl⟩:∃ a b,nodes=[a,b]:=by
   match nodes,h2 with
   | [a,b],_=>exact ⟨a,b,rfl⟩
  have hne:=h.two a b rfl;exact Gd.ix (y:=a) (by decide) rfl (Gd.ix (y:=b) (by decide) rfl (Gd.ite (λe=>absurd (by simpa using e) hne) (λ_=>Gd.ret rfl)))
def names (n:Net):List BA:=n.bF++n.aN.map (·.Name)++n.aI.map (·.Name)++n.dB.map (·.Name)++n.bC.map (·.Name)++n.bS.map (·.Name)
theorem uL {R α:Type}{Q:R->Prop}{body:Nat->α->Seen->(Seen->Option R)->Option R}{k:Seen->Option R}{l:List α} (nm:α->BA) (P:List BA)
  (hb:∀ (i:Nat) (y:α) (s:Seen) (n:Seen->Option R) (pre:List α),(∃ post,l=pre++y::post)->pV (P++pre.map nm) s->Gd (n (vr s (nm y) true)) Q->Gd (body i y s n) Q) (hk:∀ s,pV (P++l.map nm) s->Gd (k s) Q) (s:Seen) (hs:pV P s):Gd (dI body k 0 l s) Q:=by
 refine Gd.seen (λpre s=>pV (P++pre.map nm) s) ?_ hk s (by simpa using hs)
 intro i y s n pre hpre hs hn;refine hb i y s n pre hpre hs (hn _ ?_);have:=hs.put (nm y);rw [RM,<- QR]; exact this
theorem th {R α:Type}{Q:R->Prop}{body:Nat->α->Seen->(Seen->Option R)->Option R}{k:Seen->Option R}{l:List α} (nm:α->BA) (P:List BA) (C:α->Prop)
  (hb:∀ (i:Nat) (y:α) (s:Seen) (n:Seen->Option R) (pre:List α),y ∈ l->pV (P++pre.map nm) s->(nm y ∉ P++pre.map nm->C y->∀ s',pV (P++pre.map nm++[nm y]) s'->Gd (n s') Q)->Gd (body i y s n) Q)
  (hk:∀ s,pV (P++l.map nm) s->(∀ x ∈ l,C x)->(P.Nodup->(P++l.map nm).Nodup)->Gd (k s) Q) (s:Seen) (hs:pV P s):Gd (dI body k 0 l s) Q:=by
 refine Gd.seen (λpre s=>pV (P++pre.map nm) s/\(∀ x ∈ pre,C x)/\(P.Nodup->(P++pre.map nm).Nodup)) ?_ (λs h=>hk s h.1 h.2.1 h.2.2) s ⟨by simpa using hs,by simp,λh=>by simpa using h⟩
 rintro i y s n pre hpre ⟨h1,h2,h3⟩ hn;refine hb i y s n pre (vU hpre).2.1 h1 (λhnew hC s' hs'=>hn s' ⟨by rw [RM,<- QR]; exact hs',λx hx=>?_,λhP=>?_⟩)
 ·rcases QC.1 hx with hx | hx
  ·exact h2 x hx
  ·simp at hx; subst hx; exact hC
 ·rw [RM,<- QR,Rg]
  refine ⟨h3 hP,by simp,λa ha b hb=>?_⟩
  simp at hb; subst hb
  intro e; subst e; exact hnew ha
def EZ (g:bD):Bool:=!(((!(aY g.jC)) || (bM g.qH g.jC 100000)) || (!(aY g.AL)))
def Dn (s:bW):Bool:=!(((!(aY s.rB)) || (!(aY s.Discharge))) || (!(aY s.sB)))
structure pz (n:Net):Prop where
 l1:n.bF.length<=24
 l2:n.aN.length<=32
 l3:n.aI.length<=24
 l4:n.dB.length<=10
 l5:n.bC.length<=12
 l6:n.bS.length<=4
 nd:(names n).Nodup
 vn:∀ x ∈ n.bF,bK x=some true
 vs:∀ x ∈ n.aN,bK x.Name=some true/\x.A ∈ n.bF/\x.B_ ∈ n.bF/\x.A≠x.B_
 vb:∀ x ∈ n.aI,bK x.Name=some true/\x.pI ∈ n.bF/\x.To ∈ n.bF/\x.pI≠x.To/\jI x=0
 vg:∀ x ∈ n.dB,bK x.Name=some true/\x.Node ∈ n.bF/\EZ x=true
 vl:∀ x ∈ n.bC,bK x.Name=some true/\x.Node ∈ n.bF/\aY x.dA=true
 vt:∀ x ∈ n.bS,bK x.Name=some true/\x.Node ∈ n.bF/\Dn x=true
theorem Vv (n:Net) (hz:pD n):Gd (cA n) (λe=>e=0->pz n):=by
 unfold cA;refine Gd.ite (λ_=>Gd.ret (λh=>by simp at h)) (λhl=>?_)
 simp only [VC,Xc,Int.not_lt] at hl;refine th (id:BA->BA) [] (λx=>bK x=some true) ?_ ?_ _ pV.nil
 ·intro i y s nx pre hy hs hn
  unfold np;exact Gd.eQ (uG (c:=⟨s,n.bF⟩) hs [] (hz.nd y hy)) (λr hr=>Gd.ite (λh=>Gd.ret (λh2=>absurd h2 (by simpa using h))) (λh=>by
   obtain ⟨h1,h2⟩:=hr (by simpa using h)
   exact hn h1.nw h1.nm _ h2))
 intro s hs hvn hnd1;simp only [List.map_id,R2] at hs hnd1;refine th (λx:aV=>x.Name) _ (λx=>bK x.Name=some true/\x.A ∈ n.bF/\x.B_ ∈ n.bF/\x.A≠x.B_) ?_ ?_ _ hs
 ·intro i y s nx pre hy hs hn
  unfold nq;exact Gd.eQ (uG (c:=⟨s,n.bF⟩) hs [y.A,y.B_] (hz.sw y hy)) (λr hr=>Gd.ite (λh=>Gd.ret (λh2=>absurd h2 (by simpa using h))) (λh=>by
   obtain ⟨h1,h2⟩:=hr (by simpa using h)
   exact hn h1.nw ⟨h1.nm,h1.at_ _ (by simp),h1.at_ _ (by simp),h1.two _ _ rfl⟩ _ h2))
 intro s hs hvs hnd2;refine th (λx:aP=>x.Name) _ (λx=>bK x.Name=some true/\x.pI ∈ n.bF/\x.To ∈ n.bF/\x.pI≠x.To/\jI x=0) ?_ ?_ _ hs
 ·intro i y s nx pre hy hs hn
  unfold nr;exact Gd.eQ (uG (c:=⟨s,n.bF⟩) hs [y.pI,y.To] (hz.br y hy)) (λr hr=>Gd.ite (λh=>Gd.ret (λh2=>absurd h2 (by simpa using h))) (λh=>Gd.ite (λh3=>Gd.ret (λh2=>absurd h2 (by simpa using h3))) (λh3=>by
   obtain ⟨h1,h2⟩:=hr (by simpa using h)
   exact hn h1.nw ⟨h1.nm,h1.at_ _ (by simp),h1.at_ _ (by simp),h1.two _ _ rfl,by simpa using h3⟩ _ h2)))
 intro s hs hvb hnd3;refine Gd.eQ (P:=λr=>r.1=0->(∀ x ∈ n.dB,bK x.Name=some true/\x.Node ∈ n.bF/\EZ x=true)/\(∀ x ∈ n.bC,bK x.Name=some true/\x.Node ∈ n.bF/\aY x.dA=true) /\
  (∀ x ∈ n.bS,bK x.Name=some true/\x.Node ∈ n.bF/\Dn x=true)/\(names n).Nodup) ?_ (λr hr=>Gd.ret (λh=>by
   obtain ⟨a,b,c,d⟩:=hr h;exact ⟨by omega,by omega,by omega,by omega,by omega,by omega,d,hvn,hvs,hvb,a,b,c⟩))
 unfold gS;refine th (λx:bD=>x.Name) _ (λx=>bK x.Name=some true/\x.Node ∈ n.bF/\EZ x=true) ?_ ?_ _ hs
 ·intro i y s nx pre hy hs hn
  unfold jU;exact Gd.eQ (uG (c:=⟨s,n.bF⟩) hs [y.Node] (hz.gn y hy)) (λr hr=>Gd.ite (λh=>Gd.ret (λh2=>absurd h2 (by simpa using h))) (λh=>Gd.ite (λ_=>Gd.ret (λh2=>by simp at h2)) (λh3=>by
   obtain ⟨h1,h2⟩:=hr (by simpa using h)
   exact hn h1.nw ⟨h1.nm,h1.at_ _ (by simp),by unfold EZ; rw [h3]; rfl⟩ _ h2)))
 intro s hs hvg hnd4;refine th (λx:aG=>x.Name) _ (λx=>bK x.Name=some true/\x.Node ∈ n.bF/\aY x.dA=true) ?_ ?_ _ hs
 ·intro i y s nx pre hy hs hn
  unfold jV;exact Gd.eQ (uG (c:=⟨s,n.bF⟩) hs [y.Node] (hz.ld y hy)) (λr hr=>Gd.ite (λh=>Gd.ret (λh2=>absurd h2 (by simpa using h))) (λh=>Gd.ite (λ_=>Gd.ret (λh2=>by simp at h2)) (λh3=>by
   obtain ⟨h1,h2⟩:=hr (by simpa using h)
   exact hn h1.nw ⟨h1.nm,h1.at_ _ (by simp),by simpa using h3⟩ _ h2)))
 intro s hs hvl hnd5;refine th (λx:bW=>x.Name) _ (λx=>bK x.Name=some true/\x.Node ∈ n.bF/\Dn x=true) ?_ ?_ _ hs
 ·intro i y s nx pre hy hs hn
  unfold jW;exact Gd.eQ (uG (c:=⟨s,n.bF⟩) hs [y.Node] (hz.st y hy)) (λr hr=>Gd.ite (λh=>Gd.ret (λh2=>absurd h2 (by simpa using h))) (λh=>Gd.ite (λ_=>Gd.ret (λh2=>by simp at h2)) (λh3=>by
   obtain ⟨h1,h2⟩:=hr (by simpa using h)
   exact hn h1.nw ⟨h1.nm,h1.at_ _ (by simp),by unfold Dn; rw [h3]; rfl⟩ _ h2)))
 intro s hs hvt hnd6;exact Gd.ret λ_=>⟨hvg,hvl,hvt,hnd6 (hnd5 (hnd4 (hnd3 (hnd2 (hnd1 List.nodup_nil)))))⟩
theorem Iy {A B C:List BA}{x:BA} (h:(A++(B++x::C)).Nodup):x ∉ A++B:=by
 rw [<- QR,Rg] at h;exact λhm=>h.2.2 x hm x (Qq ..) rfl
theorem fresh {P:List BA}{α:Type}{nm:α->BA}{l pre:List α}{y:α} (h:(P++l.map nm).Nodup) (hp:∃ post,l=pre++y::post):nm y ∉ P++pre.map nm:=by
 obtain ⟨post,rfl⟩:=hp;rw [RM,SR] at h;exact Iy h
theorem FY (n:Net) (h:pz n):cA n=some 0:=by
 have hnd:=h.nd;unfold names at hnd;have n5:=(Rg.1 hnd).1;have n4:=(Rg.1 n5).1;have n3:=(Rg.1 n4).1;have n2:=(Rg.1 n3).1;have n1:=(Rg.1 n2).1;have g1:=h.l1; have g2:=h.l2; have g3:=h.l3; have g4:=h.l4; have g5:=h.l5; have g6:=h.l6
 rw [<- Gd.eq];unfold cA;refine Gd.ite (λhl=>?_) (λ_=>?_)
 ·simp only [RZ,Q9] at hl
  omega
 refine uL (id:BA->BA) [] ?_ ?_ _ pV.nil
 ·intro i y s nx pre hpre hs hn
  have hy:=(vU hpre).2.1;have hf:=fresh (P:=[]) (nm:=id) (by simpa using n1) hpre
  unfold np;exact Gd.bind_eq (wb (c:=⟨s,n.bF⟩) hs ⟨h.vn y hy,hf,by simp,by simp⟩) (Gd.ite (λh=>by simp at h) (λ_=>hn))
 intro s hs;simp only [List.map_id,R2] at hs;refine uL (λx:aV=>x.Name) _ ?_ ?_ _ hs
 ·intro i y s nx pre hpre hs hn
  obtain ⟨a,b,c,d⟩:=h.vs y (vU hpre).2.1;unfold nq;exact Gd.bind_eq (wb (c:=⟨s,n.bF⟩) hs ⟨a,fresh n2 hpre,by simp [b,c],λp q e=>by simp at e; rw [<- e.1,<- e.2]; exact d⟩) (Gd.ite (λh=>by simp at h) (λ_=>hn))
 intro s hs;refine uL (λx:aP=>x.Name) _ ?_ ?_ _ hs
 ·intro i y s nx pre hpre hs hn
  obtain ⟨a,b,c,d,e⟩:=h.vb y (vU hpre).2.1;unfold nr;exact Gd.bind_eq (wb (c:=⟨s,n.bF⟩) hs ⟨a,fresh n3 hpre,by simp [b,c],λp q e=>by simp at e; rw [<- e.1,<- e.2]; exact d⟩) (Gd.ite (λh=>by simp at h) (λ_=>Gd.ite (λh=>by simp [e] at h) (λ_=>hn)))
 intro s hs;refine Gd.eQ (P:=λr=>r.1=0) ?_ (λr hr=>Gd.ret hr);unfold gS;refine uL (λx:bD=>x.Name) _ ?_ ?_ _ hs
 ·intro i y s nx pre hpre hs hn
  obtain ⟨a,b,c⟩:=h.vg y (vU hpre).2.1;unfold EZ at c;unfold jU;exact Gd.bind_eq (wb (c:=⟨s,n.bF⟩) hs ⟨a,fresh n4 hpre,by simp [b],by simp⟩) (Gd.ite (λh=>by simp at h) (λ_=>Gd.ite (λh=>by rw [h] at c; cases c) (λ_=>hn)))
 intro s hs;refine uL (λx:aG=>x.Name) _ ?_ ?_ _ hs
 ·intro i y s nx pre hpre hs hn
  obtain ⟨a,b,c⟩:=h.vl y (vU hpre).2.1;unfold jV;exact Gd.bind_eq (wb (c:=⟨s,n.bF⟩) hs ⟨a,fresh n5 hpre,by simp [b],by simp⟩) (Gd.ite (λh=>by simp at h) (λ_=>Gd.ite (λh=>by simp [c] at h) (λ_=>hn)))
 intro s hs;refine uL (λx:bW=>x.Name) _ ?_ ?_ _ hs
 ·intro i y s nx pre hpre hs hn
  obtain ⟨a,b,c⟩:=h.vt y (vU hpre).2.1;unfold Dn at c;unfold jW;exact Gd.bind_eq (wb (c:=⟨s,n.bF⟩) hs ⟨a,fresh hnd hpre,by simp [b],by simp⟩) (Gd.ite (λh=>by simp at h) (λ_=>Gd.ite (λh=>by rw [h] at c; cases c) (λ_=>hn)))
 intro s hs;exact Gd.ret rfl
def Lo (n:Net) (q:Nat):Net:={ n with aI:=n.aI.take q++n.aI.drop (q+1) }
theorem G7 {α:Type} (l:List α) (q:Nat):(l.take q++l.drop (q+1)).Sublist l:=by
 have h1:(l.drop (q+1)).Sublist (l.drop q):=by rw [<- Sa]; exact List.drop_sublist _ _
 have:=(SD (l.take q)).append h1
 rwa [RP] at this
theorem pz.cut {n:Net} (h:pz n) (q:Nat):pz (Lo n q):=by
 have hs:=G7 n.aI q;have hnm:(names (Lo n q)).Sublist (names n):=by
  unfold names Lo;exact ((((SD _).append (hs.map _)).append (SD _)).append (SD _)).append (SD _)
 exact ⟨h.l1,h.l2,Ro hs.length_le h.l3,h.l4,h.l5,h.l6,hnm.nodup h.nd,h.vn,h.vs,λx hx=>h.vb x (hs.subset hx),h.vg,h.vl,h.vt⟩
theorem pz.ok {n:Net} (h:pz n) (hz:pD n):pJ n:=by
 obtain ⟨e,he,hok⟩:=JC n hz;rw [FY n h] at he;exact hok (Qp he).symm
theorem pD.cut {n:Net} (h:pD n) (q:Nat):pD (Lo n q):=
 ⟨h.nd,h.sw,λx hx=>h.br x ((G7 n.aI q).subset hx),h.gn,h.ld,h.st⟩
abbrev Ed:=cB
def lb (o:List Int) (u:Int):Int:=if 0<=u then (o[u.toNat]?).getD (-1) else -1
theorem Ke {o:List Int}{u:Int} (h:0<=lb o u):0<=u/\u<o.length:=by
 unfold lb at h
 split at h
 ·rename_i h0
  refine ⟨h0,?_⟩
  by_cases e:u.toNat<o.length
  ·omega
  ·rw [Rj (by omega)] at h; simp at h
 ·omega
theorem B4 {o:List Int}{k:Nat} (h:k<o.length):lb o (k:Int)=o[k]:=by
 unfold lb; rw [Qu (by omega),Qn,Ql h]; rfl
theorem Kd {o:List Int}{u:Int} (h0:0<=u) (h:u.toNat<o.length):lb o u=o[u.toNat]:=by
 unfold lb; rw [Qu h0,Ql h]; rfl
theorem xD {o:List Int}{q:Int} (h0:0<=q) (h:q.toNat<o.length) (m u:Int):lb (o.set q.toNat m) u=if u=q then m else lb o u:=by
 unfold lb
 by_cases e:u=q
 ·subst e
  rw [Qu h0,Qu rfl,QQ h]; rfl
 ·rw [Qs e]
  by_cases hu:0<=u
  ·rw [Qu hu,Qu hu,QM (by omega)]
  ·rw [Qs hu,Qs hu]
def K5 (l:List Ed) (u v:Int):Prop:=∃ e ∈ l,(e.a0=u/\e.a1=v)\/(e.a1=u/\e.a0=v)
theorem K5.symm {l:List Ed}{u v:Int} (h:K5 l u v):K5 l v u:=by
 obtain ⟨e,he,h | h⟩:=h
 ·exact ⟨e,he,.inr ⟨h.2,h.1⟩⟩
 ·exact ⟨e,he,.inl ⟨h.2,h.1⟩⟩
inductive xq (l:List Ed) (u:Int):Int->Prop
 | refl:xq l u u
 | snoc {v w:Int}:xq l u v->K5 l v w->xq l u w
theorem xq.trans {l:List Ed}{u v w:Int} (h1:xq l u v) (h2:xq l v w):xq l u w:=by
 induction h2 with
 | refl=>exact h1
 | snoc _ h ih=>exact .snoc ih h
theorem xq.symm {l:List Ed}{u v:Int} (h:xq l u v):xq l v u:=by
 induction h with
 | refl=>exact .refl
 | snoc _ h ih=>exact (xq.snoc .refl h.symm).trans ih
structure OX (N:Nat) (l:List Ed) (many:Int) (out:List Int):Prop where
 pt:yY N many out
 cls:∀ u v,K5 l u v->0<=lb out u->lb out v=lb out u
 PD:∀ u v,0<=lb out u->lb out u=lb out v->xq l u v
 Pe:∀ c,0<=c->c<many->∃ u,lb out u=c
theorem yY.lt {N:Nat}{many:Int}{out:List Int} (h:yY N many out) (hm:0<=many) (u:Int):-1<=lb out u/\lb out u<many:=by
 by_cases h0:0<=lb out u
 ·obtain ⟨a,b⟩:=Ke h0
  have:u.toNat<out.length:=by omega
  rw [Kd a this];exact h.K6 _ (QY _)
 ·refine ⟨?_,by omega⟩
  unfold lb
  split
  ·by_cases e:u.toNat<out.length
   ·rw [Ql e]
    exact (h.K6 _ (QY e)).1
   ·rw [Rj (by omega)]; simp
  ·omega
structure CH (N:Nat) (l:List Ed) (m:Int) (i:Int) (out o:List Int):Prop where
 pt:yY N (m+1) o
 vi:∀ u,0<=lb out u->lb o u=lb out u
 new:∀ u,lb out u<0->0<=lb o u->lb o u=m/\xq l i u
 st:lb o i=m
theorem CH.put {N:Nat}{l:List Ed}{m i:Int}{out o:List Int} (h:CH N l m i out o) (hc:OX N l m out) (h0:0<=m) {a q:Int} (ha:lb o a=m) (hadj:K5 l a q) (q0:0<=q) (qN:q<N) (hq:lb o q<0):CH N l m i out (o.set q.toNat m):=by
 have hql:q.toNat<o.length:=by rw [h.pt.len]; omega
 have ca:xq l i a:=by
  by_cases e:0<=lb out a
  ·have h1:=h.vi a e
   have h2:=(hc.pt.lt h0 a).2;omega
  ·exact (h.new a (by omega) (by omega)).2
 refine ⟨h.pt.set ⟨h0,by omega⟩ _,λu hu=>?_,λu hu hn=>?_,?_⟩
 ·rw [xD q0 hql]
  have h1:=h.vi u hu;rw [Qs (λe=>by subst e; omega)]
  exact h1
 ·rw [xD q0 hql] at hn ⊢
  by_cases e:u=q
  ·subst e
   rw [Qu rfl];exact ⟨rfl,ca.snoc hadj⟩
  ·rw [Qs e] at hn ⊢
   exact h.new u hu hn
 ·rw [xD q0 hql]
  split
  ·rfl
  ·exact h.st
theorem CH.mono {N:Nat}{m:Int}{o:List Int} (hl:o.length=N) (h0:0<=m) {q:Int} (q0:0<=q) (qN:q<N) {u:Int} (hu:0<=lb o u):0<=lb (o.set q.toNat m) u:=by
 rw [xD q0 (by omega)]
 split
 ·exact h0
 ·exact hu
theorem CH.done {N:Nat}{l:List Ed}{m i:Int}{out o:List Int} (h:CH N l m i out o) (hc:OX N l m out) (h0:0<=m) (hp:∀ u,lb o u=m->∀ v,K5 l u v->0<=lb o v):OX N l (m+1) o:=by
 refine ⟨h.pt,λu v huv hu=>?_,λu v hu huv=>?_,λc c0 c1=>?_⟩
 ·by_cases e:0<=lb out u
  ·have h1:=h.vi u e
   have h2:=hc.cls u v huv e;have h3:=h.vi v (by omega)
   omega
  ·obtain ⟨h1,_⟩:=h.new u (by omega) hu
   have h2:=hp u h1 v huv
   by_cases e2:0<=lb out v
   ·have:=hc.cls v u huv.symm e2
    omega
   ·have:=(h.new v (by omega) h2).1
    omega
 ·by_cases e:0<=lb out u
  ·have h1:=h.vi u e
   have h2:=(hc.pt.lt h0 u).2
   by_cases e2:0<=lb out v
   ·exact hc.PD u v e (by have:=h.vi v e2; omega)
   ·have:=(h.new v (by omega) (by omega)).1
    omega
  ·obtain ⟨h1,h2⟩:=h.new u (by omega) hu
   by_cases e2:0<=lb out v
   ·have h3:=h.vi v e2
    have h4:=(hc.pt.lt h0 v).2;omega
   ·exact h2.symm.trans (h.new v (by omega) (by omega)).2
 ·by_cases e:c<m
  ·obtain ⟨u,hu⟩:=hc.Pe c c0 e
   exact ⟨u,by rw [h.vi u (by omega)]; exact hu⟩
  ·exact ⟨i,by rw [h.st]; omega⟩
structure HK (N:Nat) (l:List Ed) (r:List Int) (many:Nat):Prop where
 len:r.length=N
 all:∀ u:Int,0<=u->u<N->0<=lb r u/\lb r u<many
 mN:many<=N
 iff:∀ u v:Int,0<=u->u<N->0<=v->v<N->(lb r u=lb r v↔xq l u v)
 Pe:∀ c:Int,0<=c->c<many->∃ u:Int,0<=u/\u<N/\lb r u=c
theorem Gw (N:Nat) (hN:N<=24) (l:List Ed) (hl:Ez N l) (hll:l.length<=64):Gd (pC N l (-1)) (λr=>∃ many:Nat,HK N l r many):=by
 unfold pC;refine Gd.nd ⟨rfl,by omega,by omega⟩ (Gd.nd (by omega) ?_)
 rw [xN];have hrep:∀ u,lb (List.replicate N (-1)) u = -1:=λu=>by
  unfold lb
  split
  ·by_cases e:u.toNat<N
   ·rw [Ql (by simpa using e)]; simp
   ·rw [Rj (by simpa using e)]; rfl
  ·rfl
 refine Gd.kL (λm i (s:List Int×Int)=>i+m=N/\0<=s.2/\s.2<=(i:Int)/\OX N l s.2 s.1/\∀ j:Nat,j<i->0<=lb s.1 (j:Int)) ?_ ?_ (N:Int).toNat 0 (List.replicate N (-1),0)
  ⟨by omega,by simp,by simp,⟨⟨by simp,by simp⟩,λu v _ h=>by rw [hrep] at h; omega,λu v h _=>by rw [hrep] at h; omega,λc h1 h2=>by omega⟩,by simp⟩
 ·rintro m i ⟨out,many⟩ nx ⟨hi,h0,hmi,hc,hk⟩ hn
  simp only at h0 hmi hc hk;have hilt:i<out.length:=by rw [hc.pt.len]; omega
  have hwm:i64.wrap (many+1)=many+1:=bV ⟨by omega,by omega⟩
  unfold qO;refine Gd.iH hilt (Gd.ite (λh=>?_) (λh=>?_))
  ·have hge:0<=out[i]:=by simpa using h
   unfold kI;refine hn _ ⟨by omega,h0,by show many<=((i+1:Nat):Int); omega,hc,λj hj=>?_⟩
   by_cases e:j=i
   ·subst e; simp only; rw [B4 hilt]; exact hge
   ·exact hk j (by omega)
  ·have hneg:out[i]<0:=by simpa using h
   refine Gd.iH hilt ?_;rw [Qn];have hnegl:lb out (i:Int)<0:=by rw [B4 hilt]; exact hneg
   have hset:∀ u,lb (out.set i many) u=if u=(i:Int) then many else lb out u:=λu=>by
    have:=xD (o:=out) (q:=(i:Int)) (by omega) (by simpa using hilt) many u
    rwa [Qn] at this
   have hp1:yY N (many+1) out:=⟨hc.pt.len,λv hv=>by have:=hc.pt.K6 v hv; omega⟩
   have hbase:2*sr (out.set i many)+[(i:Int)].length<=2*N+1:=by
    have hcn:sr (out.set i many)<=N:=by unfold sr; rw [<- hc.pt.len,<- RH (as:=out) (i:=i) (a:=many)]; exact Td
    simp only [Rk]; omega
   have hf0:CH N l many (i:Int) out (out.set i many):=by
    refine ⟨hp1.set ⟨h0,by omega⟩ i,λu hu=>?_,λu hu hn2=>?_,by rw [hset,Qu rfl]⟩
    ·rw [hset,Qs (λe=>by subst e; omega)]
    ·rw [hset] at hn2 ⊢
     by_cases e:u=(i:Int)
     ·subst e; rw [Qu rfl]; exact ⟨rfl,.refl⟩
     ·rw [Qs e] at hn2; omega
   refine Gd.iN (λ(s:List Int×List Int)=>CH N l many (i:Int) out s.1/\(∀ a ∈ s.2,lb s.1 a=many)/\(∀ u,lb s.1 u=many->u ∉ s.2->∀ v,K5 l u v->0<=lb s.1 v)/\2*sr s.1+s.2.length<=2*N+1)
    (λs=>2*sr s.1+s.2.length) ?_ fY _ ⟨hf0,λa ha=>?_,λu hu hnu=>?_,hbase⟩ ?_
   ·rintro ⟨o,todo⟩ nx2 ⟨hf,htd,hpr,htot⟩ hn2
    simp only at hf htd hpr htot;have hol:=hf.pt.len;unfold qP;refine Gd.ite (λhne=>?_) (λhze=>?_)
    ·obtain ⟨at_,ts,rfl⟩:∃ a ts,todo=a::ts:=by
      cases todo with
      | nil=>simp at hne
      | cons a ts=>exact ⟨a,ts,rfl⟩
     simp only [Qy] at htot;refine Gd.ix (y:=at_) (by decide) rfl (Gd.nd ⟨by omega,by simp only [Qy]; omega⟩ ?_)
     have hat:=htd at_ (Qq ..);obtain ⟨at0,atN⟩:=Ke (by omega:0<=lb o at_)
     have hsl:r8 (at_::ts) (1:Int).toNat (at_::ts).length=ts:=by
      unfold r8;rw [show (1:Int).toNat=1 from rfl,Vq,RI,QD (by simp)]
     rw [hsl]
     let J:List Ed->List Int×List Int->Prop:=λpre s=>CH N l many (i:Int) out s.1/\(∀ a ∈ s.2,lb s.1 a=many)/\lb s.1 at_=many/\(∀ u,lb s.1 u=many->u ∉ s.2->u≠at_->∀ v,K5 l u v->0<=lb s.1 v) /\
      (∀ e ∈ pre,(e.a0=at_->0<=lb s.1 e.a1)/\(e.a1=at_->0<=lb s.1 e.a0))/\2*sr s.1+s.2.length<=2*sr o+ts.length
     have push:∀ (pre:List Ed) (e:Ed) (b td:List Int) (q:Int) (nn:List Int×List Int->Option (List Int)),e ∈ l->J pre (b,td)->K5 l at_ q->0<=q->q<N->((e.a0=at_/\e.a1=q)\/(e.a1=at_/\e.a0=q)) ->
       (∀ s',J (pre++[e]) s'->Gd (nn s') (λr=>∃ many:Nat,HK N l r many)) ->
       Gd (Sim.idx b q λy7689=>if decide (y7689<0) then (Sim.idx b q λy7694=>cZ ((td.length+([q]).length)*8<=140737488355328) (eK nn (b.set (q:Int).toNat many) (td++([q])))) else (eK nn b td)) (λr=>∃ many:Nat,HK N l r many):=by
      intro pre e b td q nn hel ⟨j1,j2,j3,j4,j5,j6⟩ hadj q0 qN hends hnn;simp only at j1 j2 j3 j4 j5 j6;have hbl:=j1.pt.len;have hql:q.toNat<b.length:=by omega
      have hget:b[q.toNat]? = some b[q.toNat]:=Ql hql;have hlq:lb b q=b[q.toNat]:=Kd q0 hql;have hno:sr o<=N:=by unfold sr; rw [<- hol]; exact Td
      unfold eK;refine Gd.ix q0 hget (Gd.ite (λh=>Gd.ix q0 hget (Gd.nd ?_ (hnn _ ?_))) (λh=>hnn _ ⟨j1,j2,j3,j4,λd hd=>?_,j6⟩))
      ·simp; omega
      ·have h1:b[q.toNat]<0:=by simpa using h
       have hlt:lb b q<0:=by omega
       have up:∀ {u:Int},0<=lb b u->0<=lb (b.set q.toNat many) u:=λ{u} hu=>CH.mono hbl h0 q0 qN hu;have hqs:lb (b.set q.toNat many) q=many:=by rw [xD q0 hql,Qu rfl]
       have same:∀ {u:Int},lb b u=many->lb (b.set q.toNat many) u=many:=λ{u} hu=>by
        rw [xD q0 hql]; split
        ·rfl
        ·exact hu
       refine ⟨j1.put hc h0 j3 hadj q0 qN hlt,λa ha=>?_,same j3,λu hu hnu hua v hv=>?_,λd hd=>?_,?_⟩
       ·rcases QC.1 ha with ha | ha
        ·exact same (j2 a ha)
        ·simp at ha; subst ha; exact hqs
       ·simp only at hu hnu
        by_cases e2:u=q
        ·subst e2
         exact absurd (Rp _ (List.mem_singleton_self _)) hnu
        ·rw [xD q0 hql,Qs e2] at hu
         exact up (j4 u hu (λhm=>hnu (Qm _ hm)) hua v hv)
       ·rcases QC.1 hd with hd | hd
        ·obtain ⟨x1,x2⟩:=j5 d hd
         exact ⟨λhh=>up (x1 hh),λhh=>up (x2 hh)⟩
        ·simp at hd; subst hd
         have hat2:0<=lb (b.set q.toNat many) at_:=up (by omega)
         have hq2:0<=lb (b.set q.toNat many) q:=by omega
         rcases hends with ⟨x1,x2⟩ | ⟨x1,x2⟩
         ·exact ⟨λ_=>by rw [x2]; exact hq2,λ_=>by rw [x1]; exact hat2⟩
         ·exact ⟨λ_=>by rw [x1]; exact hat2,λ_=>by rw [x2]; exact hq2⟩
       ·have:=Fc hql h1 h0
        simp only [QE,Rk];omega
      ·have h1:0<=b[q.toNat]:=by simpa using h
       rcases QC.1 hd with hd | hd
       ·exact j5 d hd
       ·simp at hd; subst hd
        rcases hends with ⟨x1,x2⟩ | ⟨x1,x2⟩
        ·exact ⟨λ_=>by rw [x2]; simp only; omega,λ_=>by rw [x1]; simp only; omega⟩
        ·exact ⟨λ_=>by rw [x1]; simp only; omega,λ_=>by rw [x2]; simp only; omega⟩
     refine Gd.seen J ?_ ?_ _ ⟨hf,λa ha=>htd a (Qw _ ha),hat,λu hu hnu hua v hv=>hpr u hu (λhm=>(Q8.1 hm).elim hua hnu) v hv,by simp,QI (2*sr o+ts.length)⟩
     ·rintro k e ⟨b,td⟩ nn pre hpre hJ hnn
      obtain ⟨_,hel,_⟩:=vU hpre;obtain ⟨e1,e2,e3,e4⟩:=hl e hel;have hw1:i64.wrap (e.a0+e.a1)=e.a0+e.a1:=bV ⟨by omega,by omega⟩
      have hw2:i64.wrap (e.a0+e.a1-at_)=e.a0+e.a1-at_:=bV ⟨by omega,by omega⟩
      unfold qQ;rw [hw1,hw2];refine Gd.ite (λh=>by simp at h) (λ_=>Gd.ite (λh=>?_) (λh=>Gd.ite (λh2=>?_) (λh2=>?_)))
      ·have h:e.a0=at_:=by simpa using h
       have hq:e.a0+e.a1-at_=e.a1:=by omega
       rw [hq];exact push pre e b td _ nn hel hJ ⟨e,hel,.inl ⟨h,rfl⟩⟩ e3 e4 (.inl ⟨h,rfl⟩) hnn
      ·have h1:e.a0≠at_:=by simpa using h
       have h2:e.a1≠at_:=by simpa using h2
       obtain ⟨j1,j2,j3,j4,j5,j6⟩:=hJ;refine hnn _ ⟨j1,j2,j3,j4,λd hd=>?_,j6⟩;rcases QC.1 hd with hd | hd
       ·exact j5 d hd
       ·simp at hd; subst hd
        exact ⟨λhh=>absurd hh h1,λhh=>absurd hh h2⟩
      ·have h2:e.a1=at_:=by simpa using h2
       have hq:e.a0+e.a1-at_=e.a0:=by omega
       rw [hq];exact push pre e b td _ nn hel hJ ⟨e,hel,.inr ⟨h2,rfl⟩⟩ e1 e2 (.inr ⟨h2,rfl⟩) hnn
     ·rintro ⟨b,td⟩ ⟨j1,j2,j3,j4,j5,j6⟩
      simp only at j1 j2 j3 j4 j5 j6;refine hn2 _ ⟨j1,j2,λu hu hnu v hv=>?_,by show 2*sr b+td.length<=2*N+1; omega⟩ (by simp only [Qy]; omega)
      by_cases e:u=at_
      ·subst e
       obtain ⟨d,hd,hh | hh⟩:=hv
       ·have:=(j5 d hd).1 hh.1
        rw [hh.2] at this; exact this
       ·have:=(j5 d hd).2 hh.1
        rw [hh.2] at this; exact this
      ·exact j4 u hu hnu e v hv
    ·have htn:todo=[]:=by
      cases todo with
      | nil=>rfl
      | cons a ts=>simp at hze
     subst htn;unfold kI;rw [hwm];refine hn _ ⟨by omega,by show (0:Int)<=many+1; omega,by show many+1<=((i+1:Nat):Int); omega,hf.done hc h0 (λu hu v hv=>hpr u hu (by simp) v hv),λj hj=>?_⟩
     by_cases e:j=i
     ·subst e; show 0<=lb o (j:Int); rw [hf.st]; exact h0
     ·have h1:=hk j (by omega)
      show 0<=lb o (j:Int);rw [hf.vi _ h1]; exact h1
   ·simp only [QZ] at ha
    subst ha;exact hf0.st
   ·exfalso
    rw [hset] at hu
    by_cases e:u=(i:Int)
    ·subst e; simp at hnu
    ·rw [Qs e] at hu
     have:=(hc.pt.lt h0 u).2;omega
   ·refine Tu hbase ?_
    unfold fY; omega
 ·rintro i ⟨out,many⟩ ⟨hi,h0,hmi,hc,hk⟩
  simp only at h0 hmi hc hk;have hge:∀ u:Int,0<=u->u<N->0<=lb out u:=λu u0 uN=>by
   have:=hk u.toNat (by omega)
   rwa [show ((u.toNat:Nat):Int)=u by omega] at this
  refine Gd.ret ⟨many.toNat,hc.pt.len,λu u0 uN=>⟨hge u u0 uN,by have h1:=hge u u0 uN; have h2:=(hc.pt.lt h0 u).2; show lb out u<((many.toNat:Nat):Int); omega⟩,by omega,λu v u0 uN v0 vN=>⟨λe=>hc.PD u v (hge u u0 uN) e,λe=>?_⟩,λc c0 c1=>?_⟩
  ·clear vN v0
   induction e with
   | refl=>rfl
   | snoc _ h ih=>
    rename_i p q _
    have ih:lb out u=lb out p:=ih;have hp:0<=lb out p:=by have:=hge u u0 uN; omega
    show lb out u=lb out q;rw [ih];exact (hc.cls p q h hp).symm
  ·obtain ⟨u,hu⟩:=hc.Pe c c0 (by omega)
   obtain ⟨a,b⟩:=Ke (by omega:0<=lb out u)
   exact ⟨u,a,by have:=hc.pt.len; omega,hu⟩
theorem F0 (N:Nat) (hN:N<=24) (l:List Ed) (hl:Ez N l) (hll:l.length<=64):Gd (jR N l) (λr=>r.2=0/\∃ many:Nat,HK N l r.1 many):=by
 unfold jR;refine Gd.bind_eq (C9 N hN l hl hll) (Gd.ite (λh=>by simp at h) (λ_=>Gd.eQ (Gw N hN l hl hll) (λr hr=>Gd.ret ⟨rfl,hr⟩)))
theorem LJ (N:Nat) (hN:N<=24) (l:List Int) (hl:AY N l):∃ m:Nat,m<=N/\AY m l/\(∀ c:Nat,AY c l->m<=c) /\
  ∀ {R:Type} (body:Nat->Int->Int->(Int->Option R)->Option R) (hb:∀ k y n nx,body k y n nx=nx (max n (i64.wrap (y+1)))) (K:Int->Option R),dI body K 0 l 0=K (m:Int):=by
 have key:∀ (ys pre:List Int) (m:Nat),l=pre++ys->m<=N->AY m pre->(∀ c:Nat,AY c pre->m<=c)->∃ m2:Nat,m2<=N/\AY m2 l/\(∀ c:Nat,AY c l->m2<=c) /\
   ∀ {R:Type} (body:Nat->Int->Int->(Int->Option R)->Option R) (hb:∀ k y n nx,body k y n nx=nx (max n (i64.wrap (y+1)))) (K:Int->Option R) (i:Nat),dI body K i ys (m:Int)=K (m2:Int):=by
  intro ys
  induction ys with
  | nil=>
   intro pre m e hm hp hmin;rw [Q5] at e; subst e
   exact ⟨m,hm,hp,hmin,λ_ _ _ _=>rfl⟩
  | cons y ys ih=>
   intro pre m e hm hp hmin;have hy:=hl y (by rw [e]; exact Rp _ (Qq ..))
   have hw:i64.wrap (y+1)=y+1:=bV ⟨by omega,by omega⟩
   have hmx:max (m:Int) (y+1)=((max m (y+1).toNat:Nat):Int):=by omega
   obtain ⟨m2,h1,h2,h3,h4⟩:=ih (pre++[y]) (max m (y+1).toNat) (by rw [e]; simp) (by omega) (λa ha=>by
    rcases QC.1 ha with ha | ha
    ·have:=hp a ha; omega
    ·simp at ha; subst ha; omega) (λc hc=>by
     have c1:=hmin c (λa ha=>hc a (Qm _ ha));have c2:=hc y (Rp _ (List.mem_singleton_self _));omega)
   refine ⟨m2,h1,h2,h3,λ{R} body hb K i=>?_⟩;show body i y (m:Int) (λs=>dI body K (i+1) ys s)=_;rw [hb,hw,hmx];exact h4 body hb K (i+1)
 obtain ⟨m2,h1,h2,h3,h4⟩:=key l [] 0 rfl (by omega) (by intro a ha; simp at ha) (λc _=>by omega)
 exact ⟨m2,h1,h2,h3,λ{R} body hb K=>h4 body hb K 0⟩
def pos (n:Net) (s:BA):Nat:=((bG n.bF s).getD 0).toNat
theorem UT {n:Net}{s:BA} (h:s ∈ n.bF):bG n.bF s=some (pos n s:Int)/\pos n s<n.bF.length:=by
 obtain ⟨k,hk,hl,_⟩:=yR h;unfold pos;rw [hk];exact ⟨rfl,hl⟩
def Jt (n:Net) (bus:List Int) (b:aP):Ed:=⟨bus.getD (pos n b.pI) 0,bus.getD (pos n b.To) 0⟩
theorem Ju {n:Net} (hn:pJ n) {bus:List Int}{m:Nat} (hbl:bus.length=n.bF.length) (hm:AY m bus):Ez m (n.aI.map (Jt n bus)):=λe he=>by
 obtain ⟨b,hb,rfl⟩:=Ra.1 he;obtain ⟨h1,h2⟩:=hn.br b hb;have p1:=(UT h1).2;have p2:=(UT h2).2;have q:∀ k,k<bus.length->0<=bus.getD k 0/\bus.getD k 0<m:=λk hk=>by
  rw [QW,Ql hk];exact hm _ (QY hk)
 exact ⟨(q _ (by omega)).1,(q _ (by omega)).2,(q _ (by omega)).1,(q _ (by omega)).2⟩
theorem Ls {n:Net} (hn:pJ n) {bus:List Int} (hbus:oL n=some bus) (hbl:bus.length=n.bF.length) {m:Nat} (hm24:m<=24) (hm:AY m bus)
  (hmost:∀ {R:Type} (body:Nat->Int->Int->(Int->Option R)->Option R) (hb:∀ k y n nx,body k y n nx=nx (max n (i64.wrap (y+1)))) (K:Int->Option R),dI body K 0 bus 0=K (m:Int)):
  Gd (dZ n) (λt=>t.qq=bus/\∃ c:Nat,HK m (n.aI.map (Jt n bus)) t.bR c):=by
 have l3:=hn.l3;unfold dZ;refine Gd.bind_eq hbus ?_;rw [hmost _ (λk y n nx=>by unfold sS; rfl)]
 refine Gd.seen (λpre out=>out=pre.map (Jt n bus)) ?_ ?_ _ rfl
 ·rintro i y out nn pre hpre rfl hnx
  obtain ⟨hpl,hyl,_⟩:=vU hpre;obtain ⟨h1,h2⟩:=hn.br y hyl;obtain ⟨p1,p2⟩:=UT h1;obtain ⟨q1,q2⟩:=UT h2;have g:∀ k (hk:k<bus.length),bus[k]=bus.getD k 0:=λk hk=>by
   rw [QW,Ql hk]; rfl
  unfold sT;refine Gd.bind_eq p1 (Gd.iH (by omega) (Gd.bind_eq q1 (Gd.iH (by omega) (Gd.nd ?_ (hnx _ ?_)))))
  ·simp only [Sj,Rk]; omega
  ·rw [RM,g _ (by omega),g _ (by omega)]; rfl
 ·rintro out rfl
  exact Gd.eQ (F0 m hm24 _ (Ju hn hbl hm) (by simp; omega)) (λr ⟨_,hr⟩=>Gd.ret ⟨rfl,hr⟩)
section
variable {ν:Type}
def Ka (l:List (Int×ν)) (k:Int):Option ν:=(l.find? (λp=>p.1=k)).map (·.2)
theorem Gp (l:List (Int×ν)) (k:Int):rL l k=Ka l k:=by
 unfold rL Ka;have:∀ (l:List (Int×ν)) (i:Nat),(wH l k i).map (·.2)=(l.find? (λp=>p.1=k)).map (·.2):=by
  intro l
  induction l with
  | nil=>intro i; rfl
  | cons p l ih=>
   obtain ⟨a,v⟩:=p;intro i;simp only [wH,List.find?_cons]
   by_cases e:a=k
   ·simp [e]
   ·simp only [e,R_,Vm]; exact ih (i+1)
 exact this l 0
theorem Kj {l:List (Int×ν)}{k:Int}:∀ {i j:Nat}{v:ν},wH l k i=some (j,v)->∃ q,j=i+q/\l[q]? = some (k,v):=by
 induction l with
 | nil=>intro i j v h; simp [wH] at h
 | cons p l ih=>
  obtain ⟨a,u⟩:=p;intro i j v h;simp only [wH] at h
  split at h
  ·rename_i e
   simp only [QH,SU] at h;obtain ⟨rfl,rfl⟩:=h;exact ⟨0,rfl,by rw [e]; rfl⟩
  ·obtain ⟨q,rfl,h2⟩:=ih h
   exact ⟨q+1,by omega,h2⟩
theorem Ki {l:List (Int×ν)}{k:Int}:∀ {i:Nat},wH l k i=none->∀ p ∈ l,p.1≠k:=by
 induction l with
 | nil=>intro i _ p hp; cases hp
 | cons p l ih=>
  obtain ⟨a,u⟩:=p;intro i h;simp only [wH] at h
  split at h
  ·cases h
  ·rename_i e
   intro q hq;rcases Q8.1 hq with rfl | hq
   ·exact e
   ·exact ih h q hq
def Eo (l:List (Int×ν)):Prop:=(l.map (·.1)).Nodup
theorem Eo.find {l:List (Int×ν)} (h:Eo l) {k:Int}{v:ν}:rL l k=some v↔(k,v) ∈ l:=by
 rw [Gp];unfold Ka Eo at *
 induction l with
 | nil=>simp
 | cons p l ih=>
  obtain ⟨a,u⟩:=p;simp only [SR,TR] at h;rw [List.find?_cons]
  by_cases e:a=k
  ·subst e
   simp only [decide_true,RR,QH,Q8,SU,true_and];constructor
   ·intro h1; exact .inl h1.symm
   ·rintro (h1 | h1)
    ·exact h1.symm
    ·exact absurd (Ra.2 ⟨_,h1,rfl⟩) h.1
  ·simp only [e,Vm,Q8,SU]
   rw [ih h.2];constructor
   ·exact λh1=>.inr h1
   ·rintro (⟨h1,_⟩ | h1)
    ·exact absurd h1.symm e
    ·exact h1
theorem Eo.put {l:List (Int×ν)} (h:Eo l) (k:Int) (v:ν):Eo (vr l k v)/\∀ p,p ∈ vr l k v↔p=(k,v)\/(p ∈ l/\p.1≠k):=by
 unfold vr;cases hm:wH l k 0 with
 | none=>
  have hno:=Ki hm;refine ⟨?_,λp=>?_⟩
  ·show ((l++[(k,v)]).map (·.1)).Nodup
   rw [RM,Rg];refine ⟨h,by simp,?_⟩
   intro a ha b hb;obtain ⟨p,hp,rfl⟩:=Ra.1 ha;simp at hb;subst hb;exact hno p hp
  ·simp only [QC,QZ]
   constructor
   ·rintro (h1 | h1)
    ·exact .inr ⟨h1,hno p h1⟩
    ·exact .inl h1
   ·rintro (h1 | ⟨h1,_⟩)
    ·exact .inr h1
    ·exact .inl h1
 | some q=>
  obtain ⟨j,u⟩:=q;obtain ⟨i,rfl,hi⟩:=Kj hm;obtain ⟨hil,hie⟩:=Qo.1 hi;simp only [QL];have hmap:(l.set i (k,v)).map (·.1)=l.map (·.1):=by
   rw [List.map_set];apply Cw;rw [QS,hi]; rfl
  refine ⟨by unfold Eo; rw [hmap]; exact h,λp=>?_⟩
  have huniq:∀ (a:Nat) (x:Int×ν),l[a]? = some x->x.1=k->a=i:=λa x ha hx=>by
   obtain ⟨hal,hae⟩:=Qo.1 ha;unfold Eo at h;rw [List.nodup_iff_pairwise_ne,TF] at h;rcases TD a i with hlt | heq | hgt
   ·exact (h a i (by simpa using hal) (by simpa using hil) hlt (by rw [SA,SA,hae,hie,hx])).elim
   ·exact heq
   ·exact (h i a (by simpa using hil) (by simpa using hal) hgt (by rw [SA,SA,hae,hie,hx])).elim
  constructor
  ·intro hp
   obtain ⟨a,ha,hae⟩:=RC.1 hp;rw [VT] at hae
   split at hae
   ·exact .inl hae.symm
   ·rename_i hne
    have hal:a<l.length:=by simpa using ha
    refine .inr ⟨by rw [<- hae]; exact QY hal,λhk=>?_⟩
    exact hne (huniq a p (by rw [Ql hal,hae]) hk).symm
  ·rintro (rfl | ⟨hp,hk⟩)
   ·exact RC.2 ⟨i,by simpa using hil,by simp⟩
   ·obtain ⟨a,ha,hae⟩:=RC.1 hp
    have hne:i≠a:=λe=>by
     subst e;rw [hie] at hae;exact hk (by rw [<- hae])
    exact RC.2 ⟨a,by simpa using ha,by rw [List.getElem_set_ne hne]; exact hae⟩
theorem Eo.Ha {l:List (Int×ν)} (h:Eo l) (k k':Int) (v:ν):rL (vr l k v) k'=if k'=k then some v else rL l k':=by
 obtain ⟨h1,h2⟩:=h.put k v
 split
 ·rename_i e
  rw [h1.find,h2]; exact .inl (by rw [e])
 ·rename_i e
  cases hg:rL l k' with
  | some u=>
   rw [h1.find,h2];exact .inr ⟨h.find.1 hg,e⟩
  | none=>
   cases hg2:rL (vr l k v) k' with
   | none=>rfl
   | some u=>
    rcases (h2 _).1 (h1.find.1 hg2) with h3 | ⟨h3,_⟩
    ·exact absurd (Prod.mk.inj h3).1 e
    ·rw [h.find.2 h3] at hg; cases hg
theorem Eo.nil:Eo ([]:List (Int×ν)):=by unfold Eo; simp
end
structure uR (n:Net) (t:aZ):Prop where
 bl:t.qq.length=n.bF.length
 I_:t.bR.length<=24
 bi:AY t.bR.length t.qq
 comp:∃ c:Nat,HK t.bR.length (n.aI.map (Jt n t.qq)) t.bR c
theorem Mf {n:Net} (hn:pJ n):∃ t,dZ n=some t/\uR n t:=by
 have g1:=hn.l1;obtain ⟨bus,hbus,hbl,hbin⟩:=JB n hn;obtain ⟨m,hm1,hmin,_,hmost⟩:=LJ n.bF.length hn.l1 bus hbin;obtain ⟨t,ht,htb,c,hc⟩:=Ls hn hbus hbl (by omega) hmin hmost
 have hl:=hc.len;refine ⟨t,ht,⟨by rw [htb]; exact hbl,by omega,by rw [htb,hl]; exact hmin,c,?_⟩⟩
 rw [htb,hl];exact hc
def fr (isl:List Int):List Nat:=(List.range isl.length).filter (λi=>(List.range i).any (λj=>decide (isl[j]? = isl[i]?)))
theorem Ga {isl:List Int}{i:Nat}:i ∈ fr isl↔i<isl.length/\∃ j:Nat,j<i/\isl[j]? = isl[i]? := by
 unfold fr;simp
theorem J0 (isl:List Int):(fr isl).Nodup:=List.Pairwise.filter _ List.nodup_range
theorem DS {isl:List Int} (h:isl.length<=24):(fr isl).length<=23:=by
 have h1:(fr isl).length<=((List.range isl.length).filter (λi=>decide (0<i))).length:=by
  unfold fr;rw [<- List.countP_eq_length_filter,<- List.countP_eq_length_filter];refine List.countP_mono_left (λi _ hi=>?_);simp at hi;obtain ⟨j,hj,_⟩:=hi;simp; omega
 have h2:∀ m,((List.range m).filter (λi=>decide (0<i))).length<=m-1:=by
  intro m
  induction m with
  | zero=>simp
  | succ m ih=>
   rw [TS,Te,QE];cases m with
   | zero=>simp
   | succ m=>simp at ih ⊢; omega
 have:=h2 isl.length;omega
def CG (isl:List Int) (i:Nat):Nat:=(fr isl).getD i 0
theorem DQ {isl:List Int}{i:Nat} (h:i<(fr isl).length):(fr isl)[i]? = some (CG isl i):=by
 unfold CG;rw [QW,Ql h]; rfl
theorem DR {isl:List Int}{i:Nat} (h:i<(fr isl).length):CG isl i ∈ fr isl:=Qz (DQ h)
theorem zi {isl:List Int}{i j:Nat} (hi:i<(fr isl).length) (hj:j<(fr isl).length) (e:CG isl i=CG isl j):i=j:=by
 have a:=DQ hi;have b:=DQ hj;rw [e] at a;have nd:=J0 isl;obtain ⟨_,ha⟩:=Qo.1 a;obtain ⟨_,hb⟩:=Qo.1 b;exact (List.getElem_inj nd).1 (ha.trans hb.symm)
theorem Oj (isl:List Int):(fr isl).map (λx:Nat=>(x:Int))=(List.range (fr isl).length).map (λi=>(CG isl i:Int)):=by
 apply R8;intro i;rw [QS,QS]
 by_cases h:i<(fr isl).length
 ·rw [DQ h,Sq h]; rfl
 ·rw [Rj (by omega),Rj (by simp; omega)]; rfl
def G5 (n:Net) (bus:List Int) (b:aP):Rat×Nat×Nat:=(((b.X*b.AZ:Int):Rat),(Jt n bus b).a0.toNat,(Jt n bus b).a1.toNat)
def AF (n:Net) (bus:List Int):List (Rat×Nat×Nat):=n.aI.map (G5 n bus)
structure O4 (b:aP):Prop where
 x:1<=b.X/\b.X<=10000
 t:500<=b.AZ/\b.AZ<=1500
 s:-1000<=b.Shift/\b.Shift<=1000
 l:0<=b.sC/\b.sC<=100000
theorem HV {n:Net} (h:pz n) {b:aP} (hb:b ∈ n.aI):O4 b:=by
 obtain ⟨_,_,_,_,h5⟩:=h.vb b hb;unfold jI at h5
 split at h5
 ·omega
 ·rename_i h6
  simp [bM] at h6;exact ⟨by omega,by omega,by omega,by omega⟩
theorem O4.q {b:aP} (h:O4 b):500<=b.X*b.AZ/\b.X*b.AZ<=15000000:=by
 have h1:=h.x; have h2:=h.t
 have a:1*500<=b.X*b.AZ:=Int.mul_le_mul h1.1 h2.1 (by omega) (by omega)
 have c:b.X*b.AZ<=10000*1500:=Int.mul_le_mul h1.2 h2.2 (by omega) (by omega)
 omega
structure OY (N:Nat) (l:List (Rat×Nat×Nat)):Prop where
 ll:l.length<=24
 el:∀ e ∈ l,e.2.1<N/\e.2.2<N
 q:∀ e ∈ l,∃ z:Int,e.1=(z:Rat)/\500<=z/\z<=15000000
theorem BP {n:Net} (h:pz n) (hn:pJ n) {t:aZ} (ht:uR n t):OY t.bR.length (AF n t.qq):=by
 refine ⟨by unfold AF; rw [Sj]; exact h.l3,λe he=>?_,λe he=>?_⟩
 ·obtain ⟨b,hb,rfl⟩:=Ra.1 he
  have:=Ju hn ht.bl ht.bi (Jt n t.qq b) (Ra.2 ⟨b,hb,rfl⟩);show (Jt n t.qq b).a0.toNat<_/\(Jt n t.qq b).a1.toNat<_;omega
 ·obtain ⟨b,hb,rfl⟩:=Ra.1 he
  exact ⟨_,rfl,(HV h hb).q.1,(HV h hb).q.2⟩
theorem zw {N:Nat}{l:List (Rat×Nat×Nat)} (h:OY N l) {e:Rat×Nat×Nat} (he:e ∈ l):uy e.1/\500<=e.1/\e.1<=15000000:=by
 obtain ⟨z,hz,h1,h2⟩:=h.q e he;have a:=W2.2 h1;have b:=W2.2 h2;rw [<- hz] at a b;exact ⟨⟨z,hz⟩,a,b⟩
abbrev tq:Rat:=((1000000:Int):Rat)
abbrev Lz (F:Nat->Nat) (l:List (Rat×Nat×Nat)):Mt:=iK ((l.map (yo tq)).map (nF F))
theorem KV:0<tq:=by
 have:((0:Int):Rat)<((1000000:Int):Rat):=Rat.intCast_lt_intCast.2 (by decide)
 simpa using this
theorem Ky {a:Nat}{c:Rat} (h0:0<=c) (h:c<=(((2 ^ a:Nat):Int):Rat)):∀ k:Nat,0<=pr k (λ_=>c)/\pr k (λ_=>c)<=(((2 ^ (a*k):Nat):Int):Rat)
 | 0=>by
  refine ⟨by show (0:Rat)<=1; decide,?_⟩
  show (1:Rat)<=_;rw [We,Wq];exact W5
 | k+1=>by
  obtain ⟨h1,h2⟩:=Ky h0 h k;refine ⟨W9 h1 h0,?_⟩;show pr k (λ_=>c)*c<=_;have e:a*(k+1)=a*k+a:=Nat.mul_succ a k;rw [e,Wg,Rd,W3];exact qL h2 h h1 h0
theorem NJ {a b:Nat} (h:a<=32*b):(((2 ^ a:Nat):Int):Rat)<=wq b:=by
 unfold wq;rw [Br];have:2 ^ a<=2 ^ (32*b):=Wj (by decide) h
 exact W2.2 (by omega)
theorem MO {a c:Nat}{x:Rat} (h0:0<=x) (h:x<=(((2 ^ a:Nat):Int):Rat)) (k:Nat) (hk:a*k<=32*c):pr k (λ_=>x)<=wq c:=
 W6 (Ky h0 h k).2 (NJ hk)
theorem G3 {N:Nat}{l:List (Rat×Nat×Nat)} (h:OY N l):1<=v_ l/\v_ l<=wq 18:=by
 have h1:=h.ll;refine ⟨BD (λe he=>by have:=zw h he; grind),?_⟩
 refine Rat.le_trans (G2 (q:=15000000) (λe he=>by have:=zw h he; constructor <;> grind)) (MO (a:=24) (by decide) ?_ l.length (by omega))
 have:((15000000:Int):Rat)<=(((2 ^ 24:Nat):Int):Rat):=W2.2 (by decide)
 exact this
theorem Fu {u:Nat}:∀ {l:List (Rat×Nat×Nat)},(∀ e ∈ l,1<=e.1)->uk u l<=v_ l
 | [],_=>W5
 | e::l,h=>by
  have ih:=Fu (u:=u) (l:=l) (λe he=>h e (List.mem_cons_of_mem _ he));have h1:=h e (List.mem_cons_self ..);have h2:=zA (u:=u) (l:=l) (λe he=>h e (List.mem_cons_of_mem _ he));unfold uk v_;refine qL ?_ ih ?_ (by grind)
  ·split <;> grind
  ·split <;> grind
theorem HI {N:Nat}:∀ {l:List (Rat×Nat×Nat)},(∀ e ∈ l,500<=e.1)->0<=CD (l.map (yo tq))/\CD (l.map (yo tq))<=2000*(((l.length:Nat):Int):Rat)
 | [],_=>⟨W5,by
  show (0:Rat)<=2000*((((0:Nat):Int)):Rat);simp⟩
 | e::l,h=>by
  obtain ⟨a,b⟩:=HI (N:=N) (l:=l) (λe he=>h e (List.mem_cons_of_mem _ he));have h1:=h e (List.mem_cons_self ..);have e1:CD ((e::l).map (yo tq))=tq / e.1+CD (l.map (yo tq)):=rfl;have p:0<e.1⁻¹:=Rat.inv_pos.2 (by grind)
  have i1:=Rat.mul_inv_cancel e.1 (by grind)
  have i2:=Rat.mul_le_mul_of_nonneg_right h1 (Rat.le_of_lt p);have t1:tq=1000000:=rfl;have e2:(((e::l).length:Nat):Int)=(((l.length:Nat):Int))+1:=by simp
  rw [e1,Rat.div_def,t1,e2,Rat.intCast_add,Rat.intCast_one];constructor <;> grind
theorem Gr {N n:Nat}{F:Nat->Nat}{l:List (Rat×Nat×Nat)} (h:OY N l) (hn:n<=23) (hF:∀ i j,i<n->j<n->F i=F j->i=j):
  Nb n (Lz F l) (λi=>uk (F i) l) (λi c=>uk (F i) l*iK ((l.map (yo tq)).map (pF F)) i c+dl i c) (λi=>uk (F i) l*(4*CD (l.map (yo tq)))+1):=by
 have h1:=h.ll;have hq1:∀ e ∈ l,1<=e.1:=λe he=>by have:=zw h he; grind
 have ws:=HI (N:=N) (λe he=>(zw h he).2.1);have hlc:(((l.length:Nat):Int):Rat)<=24:=W2.2 (show ((l.length:Nat):Int)<=24 by omega)
 refine ⟨LN hF ⟨_,rfl⟩ KV (λe he=>⟨(zw h he).1,hq1 e he⟩),?_,λi _=>Rat.le_trans (Fu hq1) (G3 h).2⟩;have a:=Oy (n:=n) (F:=F) (l:=l) (s:=4*CD (l.map (yo tq))) (w:=192000) hF hq1 (by grind) (by grind)
 have b:=G3 h;have c:pr n (λ_=>(192000:Rat)+1)<=wq 13:=MO (a:=18) (by grind) (by
  have:((192001:Int):Rat)<=(((2 ^ 18:Nat):Int):Rat):=W2.2 (by decide)
  have e:(192000:Rat)+1=((192001:Int):Rat):=by grind
  rw [e]; exact this) n (by omega)
 have d:v_ l*v_ l<=wq 36:=by
  rw [<- vW 18 18];exact qL b.2 b.2 (by grind) (by grind)
 have c0:0<=pr n (λ_=>(192000:Rat)+1):=mV (λ_ _=>by grind)
 have f:v_ l*v_ l*pr n (λ_=>(192000:Rat)+1)<=wq 49:=by
  rw [<- vW 36 13];exact qL d c (Rat.mul_nonneg (by grind) (by grind)) c0
 exact W6 a (W6 f (yb (by omega)))
theorem JZ (isl:List Int):∀ i:Nat,∃ r,r<=i/\isl[r]? = isl[i]? /\ ∀ j,j<r->isl[j]? ≠ isl[i]? := by
 intro i
 induction i using Nat.strongRecOn with
 | ind i ih=>
  by_cases h:∃ j,j<i/\isl[j]? = isl[i]?
  ·obtain ⟨j,hj,e⟩:=h
   obtain ⟨r,h1,h2,h3⟩:=ih j hj;exact ⟨r,by omega,h2.trans e,λq hq hh=>h3 q hq (hh.trans e.symm)⟩
  ·exact ⟨i,QI _,rfl,λj hj e=>h ⟨j,hj,e⟩⟩
theorem Lm {n:Net}{t:aZ}{u v:Int} (h:xq (n.aI.map (Jt n t.qq)) u v):Lk ((AF n t.qq).map (yo tq)) u.toNat v.toNat:=by
 induction h with
 | refl=>exact .refl
 | snoc _ ha ih=>
  obtain ⟨e,he,hh⟩:=ha;obtain ⟨b,hb,rfl⟩:=Ra.1 he;have hm:yo tq (G5 n t.qq b) ∈ (AF n t.qq).map (yo tq):=Ra.2 ⟨_,Ra.2 ⟨b,hb,rfl⟩,rfl⟩;rcases hh with ⟨rfl,rfl⟩ | ⟨rfl,rfl⟩
  ·exact .step ih (.inl hm)
  ·exact .step ih (.inr hm)
theorem Gt {n:Net} (h:pz n) (hn:pJ n) {t:aZ} (ht:uR n t):Pd (fr t.bR).length (Lz (CG t.bR) (AF n t.qq)):=by
 have hE:=BP h hn ht;obtain ⟨c,hc⟩:=ht.comp;refine Oz (λe he=>?_) (λi j hi hj e=>zi hi hj e) (λi hi=>?_)
 ·obtain ⟨d,hd,rfl⟩:=Ra.1 he
  have:=zw hE hd;show 0<tq / d.1;rw [Rat.div_def];exact Rat.mul_pos KV (Rat.inv_pos.2 (by grind))
 ·have hm:=Ga.1 (DR hi)
  obtain ⟨r,h1,h2,h3⟩:=JZ t.bR (CG t.bR i);refine ⟨r,λj hj e=>?_,?_⟩
  ·have hm2:=Ga.1 (DR hj)
   rw [e] at hm2;obtain ⟨_,q,hq,hqe⟩:=hm2;exact h3 q hq (hqe.trans h2)
  ·have hl:∀ (a:Nat),a<t.bR.length->lb t.bR (a:Int)=t.bR[a]! := λa ha=>by
    rw [B4 ha]; simp [ha]
   have hcon:xq (n.aI.map (Jt n t.qq)) ((CG t.bR i:Nat):Int) ((r:Nat):Int):=by
    refine (hc.iff _ _ (by omega) (by omega) (by omega) (by omega)).1 ?_
    have hr:r<t.bR.length:=by omega
    rw [B4 hm.1,B4 hr];rw [Ql hr,Ql hm.1] at h2;exact (Qp h2).symm
   have:=Lm hcon;simpa using this
structure Md (n:Net) (t:aZ) (M:bA):Prop where
 top:M.vJ=t
 md:I9 M (fr t.bR).length t.bR.length (CG t.bR) (AF n t.qq) tq
 DH:M.C.length=n.aI.length
 c:∀ (k:Nat) (y:LR),M.C[k]? = some y->∃ b,n.aI[k]? = some b/\pA y/\RL y 4/\rv y=(tq / ((b.X*b.AZ:Int):Rat))*(((0-b.Shift:Int):Rat) / ((1000:Int):Rat))
 inv:My M.rl (fr t.bR).length (Lz (CG t.bR) (AF n t.qq))
theorem HG {α β:Type}{P:α->β->Prop}{l:List α}{m:List β} (hl:l.length=m.length) (h:∀ (k:Nat) (y:α),l[k]? = some y->∃ b,m[k]? = some b/\P y b) {x:α}{b:β} (hx:P x b):∀ (k:Nat) (y:α),(l++[x])[k]? = some y->∃ b',(m++[b])[k]? = some b'/\P y b':=by
 intro k y hk
 by_cases e:k<l.length
 ·rw [RA e] at hk
  obtain ⟨b',h1,h2⟩:=h k y hk;exact ⟨b',by rw [RA (by omega)]; exact h1,h2⟩
 ·have hk2:=(Qo.1 hk).1
  rw [QE,Rk] at hk2;obtain rfl:k=l.length:=by omega
  rw [QX (QI _),RG] at hk;obtain rfl:=Qp hk;exact ⟨b,by rw [hl,QX (QI _),RG]; rfl,hx⟩
theorem FV {n:Net} (hn:pJ n) {t:aZ} (ht:uR n t) {k:Nat} (hk:k<n.bF.length):∃ v:Nat,t.qq[k]? = some (v:Int)/\v=(t.qq.getD k 0).toNat:=by
 have hkl:k<t.qq.length:=by rw [ht.bl]; exact hk
 have h1:=ht.bi _ (QY hkl);refine ⟨(t.qq[k]).toNat,?_,?_⟩
 ·rw [Ql hkl]; congr 1; omega
 ·rw [QW,Ql hkl]; rfl
theorem E_ {n:Net} (h:pz n) (hn:pJ n) {t:aZ} (hg:dZ n=some t) (ht:uR n t):Gd (uM n) (λo=>∃ M,o=some M/\Md n t M):=by
 have hE:=BP h hn ht;have hll:=h.l3;have hN:=ht.I_;unfold uM;refine Gd.bind_eq hg ?_;refine Gd.dI (λk ys s=>∃ pre,n.aI=pre++ys/\pre.length=k/\s.1=pre.map (λb=>((G5 n t.qq b).2.1:Int))/\s.2.1=pre.map (λb=>((G5 n t.qq b).2.2:Int))/\s.2.2.1.length=pre.length/\s.2.2.2.length=pre.length /\
  (∀ (k:Nat) (y:LR),s.2.2.1[k]? = some y->∃ b,pre[k]? = some b/\(pA y/\RL y 2/\rv y=tq / ((b.X*b.AZ:Int):Rat))) /\
  (∀ (k:Nat) (y:LR),s.2.2.2[k]? = some y->∃ b,pre[k]? = some b/\(pA y/\RL y 4/\rv y=(tq / ((b.X*b.AZ:Int):Rat))*(((0-b.Shift:Int):Rat) / ((1000:Int):Rat))))) ?_ ?_ n.aI 0 _
  ⟨[],rfl,rfl,rfl,rfl,rfl,rfl,λk y hy=>by simp at hy,λk y hy=>by simp at hy⟩
 ·rintro k b ys ⟨l1,l2,l3,l4⟩ nx ⟨pre,hp,hpk,e1,e2,e3,e4,hB,hC⟩ hnx
  simp only at e1 e2 e3 e4 hB hC;subst e1 e2;have hb:b ∈ n.aI:=by rw [hp]; simp
  have hkl:pre.length<24:=by
   have:n.aI.length=pre.length+(ys.length+1):=by rw [hp]; simp
   omega
  obtain ⟨_,m1,m2,_⟩:=h.vb b hb;obtain ⟨p1,p2⟩:=UT m1;obtain ⟨q1,q2⟩:=UT m2;obtain ⟨u,u1,u2⟩:=FV hn ht p2;obtain ⟨v,v1,v2⟩:=FV hn ht q2;have V:=HV h hb;have hq:=V.q;have hx:=V.x; have htp:=V.t; have hs:=V.s
  unfold wO;have w1:i64.wrap (b.X*b.AZ)=b.X*b.AZ:=bV ⟨by omega,by omega⟩
  have w2:i64.wrap (0-b.Shift)=0-b.Shift:=bV ⟨by omega,by omega⟩
  rw [w1,w2];refine Gd.bind_eq p1 (Gd.ix (by omega) (by rw [Qn]; exact u1) (Gd.nd (by simp; omega) (Gd.bind_eq q1 (Gd.ix (by omega) (by rw [Qn]; exact v1) (Gd.nd (by simp; omega) ?_)))))
  refine Gd.eQ (G_ (by omega) (by omega) (by omega)) (λs hs'=>Gd.nd (by simp; omega) (Gd.eQ (G_ (by omega) (by omega) (by omega)) (λf hf=>Gd.eQ (zy hs'.1 hf.1 hs'.2.1 hf.2.1 (by omega)) (λc hc=>Gd.nd (by simp; omega) ?_))))
  refine hnx _ ⟨pre++[b],by rw [hp]; simp,by simp [hpk],?_,?_,by simp [e3],by simp [e4],?_,?_⟩
  ·simp only [RM,SR,UA]
   rw [u2]; rfl
  ·simp only [RM,SR,UA]
   rw [v2]; rfl
  ·exact HG e3 hB ⟨hs'.1,hs'.2.1,hs'.2.2⟩
  ·exact HG e4 hC ⟨hc.1,hc.2.1,by rw [hc.2.2,hs'.2.2,hf.2.2]⟩
 ·rintro k ⟨l1,l2,l3,l4⟩ ⟨pre,hp,hpk,e1,e2,e3,e4,hB,hC⟩
  simp only at e1 e2 e3 e4 hB hC;rw [Q5] at hp;subst hp;subst e1 e2;refine Gd.dI (λi ys s=>∃ pre,t.bR=pre++ys/\pre.length=i/\Eo s.1/\(∀ k:Int,(rL s.1 k).getD false=true↔k ∈ pre) /\
   s.2=((List.range i).filter (λi=>(List.range i).any (λj=>decide (t.bR[j]? = t.bR[i]?)))).map (λx:Nat=>(x:Int))) ?_ ?_ t.bR 0 _
   ⟨[],rfl,rfl,Eo.nil,λk=>by simp [rL,wH],rfl⟩
  ·rintro i y ys ⟨seen,free⟩ nx ⟨pre,hp,hpi,hk,hs,e⟩ hnx
   simp only at hk hs e;subst e;have hi:t.bR[i]? = some y:=by rw [hp,QX (by omega),hpi,RG]; rfl
   have hil:=(Qo.1 hi).1;have hmem:y ∈ pre↔(List.range i).any (λj=>decide (t.bR[j]? = t.bR[i]?))=true:=by
    rw [List.any_eq_true];constructor
    ·intro hy
     obtain ⟨j,hj,he⟩:=RC.1 hy;refine ⟨j,Rf.2 (by omega),?_⟩
     rw [hi,hp,RA hj,Ql hj,he]; simp
    ·rintro ⟨j,hj,he⟩
     have hj:=Rf.1 hj;have he:=Qr he;rw [hi,hp,RA (by omega)] at he
     exact Qz he
   have hfl:((List.range i).filter (λi=>(List.range i).any (λj=>decide (t.bR[j]? = t.bR[i]?)))).length<=i:=by
    have:=VX (λi=>(List.range i).any (λj=>decide (t.bR[j]? = t.bR[i]?))) (List.range i);simpa using this
   have hput:Eo (vr seen y true)/\∀ k:Int,(rL (vr seen y true) k).getD false=true↔k ∈ pre++[y]:=by
    refine ⟨(hk.put y true).1,λk=>?_⟩;rw [hk.Ha,QC,QZ]
    split
    ·rename_i e; simp [e]
    ·rename_i e; rw [hs k]; simp [e]
   unfold wP;refine Gd.ite (λhc=>?_) (λhc=>?_)
   ·have hc2:=hmem.1 ((hs y).1 hc)
    unfold rm;refine Gd.nd (by simp only [Sj,Rk]; omega) (hnx _ ⟨pre++[y],by rw [hp]; simp,by simp [hpi],hput.1,hput.2,?_⟩)
    simp only;rw [TS,Te,RM,VS,Qu hc2]
    rfl
   ·have hc2:¬ (List.range i).any (λj=>decide (t.bR[j]? = t.bR[i]?))=true:=λhh=>by
     have:=(hs y).2 (hmem.2 hh);rw [this] at hc; cases hc
    unfold rm;refine hnx _ ⟨pre++[y],by rw [hp]; simp,by simp [hpi],hput.1,hput.2,?_⟩
    simp only;rw [TS,Te,RM,VS,Qs hc2];simp
  ·rintro i ⟨seen,free⟩ ⟨pre,hp,hpi,hk,hs,e⟩
   simp only at e;rw [Q5] at hp;subst e;have hi:i=t.bR.length:=by rw [<- hpi,<- hp]
   subst hi;have hmd:I9 (bA.mk t (n.aI.map (λb=>((G5 n t.qq b).2.1:Int))) (n.aI.map (λb=>((G5 n t.qq b).2.2:Int))) l3 l4 ((fr t.bR).map (λx:Nat=>(x:Int))) []) (fr t.bR).length t.bR.length (CG t.bR) (AF n t.qq) tq:=by
    refine ⟨DS hN,Oj _,λi j hi hj e=>zi hi hj e,λi hi=>(Ga.1 (DR hi)).1,hN,hE.ll,hE.el,?_,?_,by show l3.length=_; rw [e3]; simp [AF],λk y hy=>?_⟩
    ·simp [AF]
    ·simp [AF]
    ·obtain ⟨b,hb,y1,y2,y3⟩:=hB k y hy
     exact ⟨G5 n t.qq b,by unfold AF; rw [QS,hb]; rfl,y1,y2,y3⟩
   have hinv:=Iq hmd (Gt h hn ht) (Gr hE (DS hN) (λi j hi hj e=>zi hi hj e));refine Gd.eQ hinv ?_;rintro _ ⟨rows,rfl,hI⟩;refine Gd.ret ⟨_,rfl,⟨rfl,?_,e4,hC,hI⟩⟩;exact ⟨hmd.hn,hmd.free,hmd.inj,hmd.lt,hmd.hN,hmd.ll,hmd.el,hmd.fr,hmd.to,hmd.bl,hmd.b⟩
def NL (l:List LR) (N:Nat) (P:Nat->LR->Prop):Prop:=l.length=N/\∀ (b:Nat) (y:LR),l[b]? = some y->P b y
theorem NL.mono {l:List LR}{N:Nat}{P P':Nat->LR->Prop} (h:NL l N P) (k:∀ b y,b<N->P b y->P' b y):NL l N P':=
 ⟨h.1,λb y hb=>k b y (by rw [<- h.1]; exact (Qo.1 hb).1) (h.2 b y hb)⟩
theorem NL.set {l:List LR}{N:Nat}{P:Nat->LR->Prop} (h:NL l N P) {b:Nat}{y:LR} (hy:P b y):NL (l.set b y) N P:=by
 refine ⟨by rw [RH]; exact h.1,λb' y' hb=>?_⟩
 by_cases e:b=b'
 ·subst e
  have hl:b<l.length:=by
   have:=(Qo.1 hb).1
   rwa [RH] at this
  rw [QQ hl] at hb;obtain rfl:=Qp hb;exact hy
 ·rw [QM e] at hb
  exact h.2 b' y' hb
theorem NL.snoc {l:List LR}{N:Nat}{P:Nat->LR->Prop} (h:NL l N P) {y:LR} (hy:P N y):NL (l++[y]) (N+1) P:=by
 refine ⟨by simp [h.1],λb y' hb=>?_⟩
 by_cases e:b<l.length
 ·rw [RA e] at hb
  exact h.2 b y' hb
 ·have hk2:=(Qo.1 hb).1
  rw [QE,Rk] at hk2;obtain rfl:b=l.length:=by omega
  rw [QX (QI _),RG] at hb;obtain rfl:=Qp hb;rw [h.1]; exact hy
theorem NL.get {R:Type}{Q:R->Prop}{l:List LR}{N:Nat}{P:Nat->LR->Prop} (h:NL l N P) {b:Nat} (hb:b<N) {f:LR->Option R} (hk:∀ y,P b y->Gd (f y) Q):Gd (idx l (b:Int) f) Q:=by
 have hl:b<l.length:=by rw [h.1]; exact hb
 exact Gd.iH hl (hk _ (h.2 b _ (Ql hl)))
theorem Mc {n:Net}{t:aZ}{M:bA} (hM:Md n t M) (ht:uR n t) (hn:pJ n) {p:List Int} (hp:p.length=n.bF.length) (hb:∀ z ∈ p,-100000<=z/\z<=100000):
  Gd (oN M p) (λr=>NL r t.bR.length (λ_ y=>pA y/\RL y 2/\∃ z:Int,rv y=(z:Rat)/\-2400000<=z/\z<=2400000)):=by
 have h24:=hn.l1;have hN:=ht.I_;unfold oN c_;rw [hM.top];refine Gd.nd (by omega) ?_
 rw [Qn];refine Gd.dI (λi ys s=>∃ pre,p=pre++ys/\pre.length=i/\s.length=t.bR.length/\∀ z ∈ s,-100000*(i:Int)<=z/\z<=100000*(i:Int)) ?_ ?_ p 0 _ ⟨[],rfl,rfl,by simp,λz hz=>by
  have:=VR hz;omega⟩
 ·rintro i y ys s nx ⟨pre,hpp,hpi,hsl,hs⟩ hnx
  have hi:i<n.bF.length:=by rw [<- hp,hpp]; simp; omega
  have hy:=hb y (by rw [hpp]; simp)
  obtain ⟨v,v1,v2⟩:=FV hn ht hi;have hv:v<t.bR.length:=by
   have:=ht.bi _ (Qz v1);omega
  have hvs:v<s.length:=by omega
  unfold q7;rw [hM.top];refine Gd.ix (by omega) (by rw [Qn]; exact v1) (Gd.iH hvs (Gd.iH hvs ?_))
  have hz:=hs _ (QY hvs);have hw:i64.wrap (s[v]+y)=s[v]+y:=bV ⟨by omega,by omega⟩
  rw [hw,Qn];refine hnx _ ⟨pre++[y],by rw [hpp]; simp,by simp [hpi],by rw [RH]; exact hsl,λz hz'=>?_⟩
  rcases V0 hz' with h1 | h1
  ·have:=hs z h1; omega
  ·subst h1; omega
 ·rintro i s ⟨pre,hpp,hpi,hsl,hs⟩
  rw [Q5] at hpp;have hil:i<=24:=by rw [<- hpi,<- hpp,hp]; exact h24
  refine Gd.dI (λk ys r=>∃ pre,s=pre++ys/\pre.length=k/\NL r k (λ_ y=>pA y/\RL y 2/\∃ z:Int,rv y=(z:Rat)/\-2400000<=z/\z<=2400000)) ?_ ?_ s 0 _ ⟨[],rfl,rfl,rfl,λb y hb=>by simp at hb⟩
  ·rintro k y ys r nx ⟨pre,hps,hpk,hr⟩ hnx
   have hy:=hs y (by rw [hps]; simp)
   have hkl:s.length=pre.length+(ys.length+1):=by rw [hps]; simp
   have hrl:=hr.1;unfold q8;refine Gd.eQ (vm (by omega)) (λw hw=>Gd.nd (by simp; omega) (hnx _ ⟨pre++[y],by rw [hps]; simp,by simp [hpk],hr.snoc ⟨hw.1,hw.2.1,y,hw.2.2,by omega,by omega⟩⟩))
  ·rintro k r ⟨pre,hps,hpk,hr⟩
   rw [Q5] at hps;have hkn:k=t.bR.length:=by rw [<- hpk,<- hps,hsl]
   subst hkn;exact Gd.ret hr
theorem M_ {a b:List LR}{n W:Nat}{A B:Nat->Rat} (hn:n<=24) (hW:W<=6000) (ha:NL a n (λj y=>pA y/\RL y W/\rv y=A j)) (hb:NL b n (λj y=>pA y/\RL y W/\rv y=B j)):
  Gd (tT a b) (λr=>pA r/\rv r=sm n (λj=>A j*B j)):=by
 unfold tT;refine Gd.eQ (vm (n:=0) (by omega)) (λz hz=>?_)
 rw [ha.1,Qn];refine Gd.kL (λm k s=>k+m=n/\∃ r:LR,s=(r.N.minus,r.N.words,r.D.minus,r.D.words)/\pA r/\RL r (2+(2*W+1)*k)/\rv r=sm k (λj=>A j*B j)) ?_ ?_ n 0 _ ⟨by omega,z,rfl,hz.1,hz.2.1,by rw [hz.2.2]; rfl⟩
 ·rintro m k _ nx ⟨hk,r,rfl,hr,hrl,hv⟩ hnx
  have hkn:k<n:=by omega
  have hbig:(2*W+1)*k<=(2*W+1)*23:=Wd _ (by omega)
  have hsucc:(2*W+1)*(k+1)=(2*W+1)*k+(2*W+1):=Nat.mul_succ _ _;unfold uY;refine ha.get hkn (λy hy=>?_);have skip:A k*B k=0->Gd (mF nx r.N.minus r.N.words r.D.minus r.D.words) (λr=>pA r/\rv r=sm n (λj=>A j*B j)):=λh0=>by
   unfold mF;refine hnx _ ⟨by omega,r,rfl,hr,hrl.mono (by omega),?_⟩
   rw [hv];show _=sm k (λj=>A j*B j)+A k*B k;rw [h0]; grind
  rw [xQ hy.1,hy.2.2];refine Gd.ite (λh=>skip (by rw [of_decide_eq_true h]; grind)) (λ_=>hb.get hkn (λu hu=>?_))
  rw [xQ hu.1,hu.2.2];refine Gd.ite (λ_=>ha.get hkn (λy2 hy2=>hb.get hkn (λu2 hu2=>?_))) (λh=>skip (by
   have h1:decide (B k=0)=true:=by simpa using h
   rw [of_decide_eq_true h1]; grind))
  refine Gd.eQ (zy hy2.1 hu2.1 hy2.2.1 hu2.2.1 (by omega)) (λc hc=>Gd.eQ (wZ (a:=⟨⟨r.N.minus,r.N.words⟩,⟨r.D.minus,r.D.words⟩⟩) hr hc.1 hrl hc.2.1 (by omega)) (λd hd=>?_))
  unfold mF;refine hnx _ ⟨by omega,d,rfl,hd.1,hd.2.1.mono (by omega),?_⟩
  rw [hd.2.2,hc.2.2,hy2.2.2,hu2.2.2];show rv r+_=sm k (λj=>A j*B j)+A k*B k;rw [hv]
 ·rintro k _ ⟨hk,r,rfl,hr,hrl,hv⟩
  obtain rfl:k=n:=by omega
  exact Gd.ret ⟨hr,hv⟩
theorem Li {q s:Int} (hq:500<=q) (hs:-1000<=s/\s<=1000):-2000<=(tq / (q:Rat))*((s:Rat) / ((1000:Int):Rat))/\(tq / (q:Rat))*((s:Rat) / ((1000:Int):Rat))<=2000/\(tq / (q:Rat))*((s:Rat) / ((1000:Int):Rat))=(((1000*s:Int):Rat)) / (q:Rat):=by
 have h1:((500:Int):Rat)<=(q:Rat):=W2.2 hq;have h2:((-1000:Int):Rat)<=(s:Rat):=W2.2 hs.1;have h3:(s:Rat)<=((1000:Int):Rat):=W2.2 hs.2;have e1:((500:Int):Rat)=500:=rfl;have e2:((-1000:Int):Rat) = -1000:=by rw [W4]; rfl
 have e3:((1000:Int):Rat)=1000:=rfl;have e4:tq=1000000:=rfl;rw [e1] at h1; rw [e2] at h2; rw [e3] at h3 ⊢
 have p:0<((q:Rat))⁻¹:=Rat.inv_pos.2 (by grind)
 have i1:=Rat.mul_inv_cancel (q:Rat) (by grind)
 have i2:=Rat.mul_le_mul_of_nonneg_right h1 (Rat.le_of_lt p);have i3:(q:Rat)⁻¹<=1 / 500:=by grind
 have e5:(tq / (q:Rat))*((s:Rat) / 1000)=(1000*(s:Rat))*(q:Rat)⁻¹:=by rw [e4,Rat.div_def,Rat.div_def]; grind
 have m:=BB (x:=1000*(s:Rat)) (y:=(q:Rat)⁻¹) (a:=1000000) (b:=1 / 500) (by grind) (by grind) (by grind) i3
 refine ⟨by rw [e5]; grind,by rw [e5]; grind,?_⟩
 rw [e5,W3,e3,W1]
def Lg (l:List (Rat×Nat×Nat)) (W:Nat) (C:Rat) (b:Nat) (y:LR):Prop:=pA y/\RL y W/\uy (uk b l*rv y)/\-C<=rv y/\rv y<=C
theorem Lg.mono {l:List (Rat×Nat×Nat)}{W W':Nat}{C C':Rat}{b:Nat}{y:LR} (h:Lg l W C b y) (hW:W<=W') (hC:C<=C'):Lg l W' C' b y:=
 ⟨h.1,h.2.1.mono hW,h.2.2.1,by have:=h.2.2.2.1; grind,by have:=h.2.2.2.2; grind⟩
theorem Hb {a:Rat} (h:uy a):uy (-a):=by
 obtain ⟨z,rfl⟩:=h;exact ⟨-z,by rw [W4]⟩
theorem Lg.sub {l:List (Rat×Nat×Nat)}{W:Nat}{C:Rat}{b:Nat}{y c:LR} (h:Lg l W C b y) (hc:Lg l 4 2000 b c) (hW:W<=1000):Gd (jZ y c) (Lg l (W+5) (C+2000) b):=by
 obtain ⟨a1,a2,a3,a4,a5⟩:=h;obtain ⟨c1,c2,c3,c4,c5⟩:=hc;refine (ya a1 c1 a2 c2 (by omega)).mono (λr hr=>⟨hr.1,hr.2.1.mono (by omega),?_,?_,?_⟩)
 ·rw [hr.2.2]
  have e:uk b l*(rv y-rv c)=uk b l*rv y+-(uk b l*rv c):=by grind
  rw [e]; exact zj a3 (Hb c3)
 ·rw [hr.2.2]; grind
 ·rw [hr.2.2]; grind
theorem Lg.add {l:List (Rat×Nat×Nat)}{W:Nat}{C:Rat}{b:Nat}{y c:LR} (h:Lg l W C b y) (hc:Lg l 4 2000 b c) (hW:W<=1000):Gd (iQ y c) (Lg l (W+5) (C+2000) b):=by
 obtain ⟨a1,a2,a3,a4,a5⟩:=h;obtain ⟨c1,c2,c3,c4,c5⟩:=hc;refine (wZ a1 c1 a2 c2 (by omega)).mono (λr hr=>⟨hr.1,hr.2.1.mono (by omega),?_,?_,?_⟩)
 ·rw [hr.2.2]
  have e:uk b l*(rv y+rv c)=uk b l*rv y+uk b l*rv c:=by grind
  rw [e]; exact zj a3 c3
 ·rw [hr.2.2]; grind
 ·rw [hr.2.2]; grind
theorem Kh {n:Net}{t:aZ}{M:bA} (hM:Md n t M) {k:Nat}{b:aP} (hb:n.aI[k]? = some b):
  M.pI[k]? = some ((G5 n t.qq b).2.1:Int)/\M.To[k]? = some ((G5 n t.qq b).2.2:Int)/\(AF n t.qq)[k]? = some (G5 n t.qq b):=by
 have e:(AF n t.qq)[k]? = some (G5 n t.qq b):=by unfold AF; rw [QS,hb]; rfl
 refine ⟨?_,?_,e⟩
 ·rw [hM.md.fr]; exact DD (λe:Rat×Nat×Nat=>(e.2.1:Int)) e
 ·rw [hM.md.to]; exact DD (λe:Rat×Nat×Nat=>(e.2.2:Int)) e
theorem Pa {n:Net}{t:aZ}{M:bA} (h:pz n) (hn:pJ n) (hM:Md n t M) (ht:uR n t) {k:Nat}{c:LR} (hc:M.C[k]? = some c):
  ∃ b,n.aI[k]? = some b/\Lg (AF n t.qq) 4 2000 (G5 n t.qq b).2.1 c/\Lg (AF n t.qq) 4 2000 (G5 n t.qq b).2.2 c:=by
 obtain ⟨b,hb,c1,c2,c3⟩:=hM.c k c hc;have V:=HV h (Qz hb);have hE:=BP h hn ht;obtain ⟨_,_,e⟩:=Kh hM hb;have hm:=Qz e;have hs:=V.s;obtain ⟨d1,d2,d3⟩:=Li (q:=b.X*b.AZ) (s:=0-b.Shift) V.q.1 (by omega)
 rw [<- c3] at d1 d2 d3;have I:=λ(u:Nat) hu=>Eg (u:=u) (l:=AF n t.qq) (λe he=>⟨(zw hE he).1,by have:=(zw hE he).2.1; grind⟩) _ hm hu (((1000*(0-b.Shift):Int)):Rat) ⟨_,rfl⟩
 refine ⟨b,hb,⟨c1,c2,?_,d1,d2⟩,⟨c1,c2,?_,d1,d2⟩⟩
 ·rw [d3]; exact I _ (.inl rfl)
 ·rw [d3]; exact I _ (.inr rfl)
theorem Ac (k:Nat):(((k+1:Nat):Int):Rat)=((k:Int):Rat)+1:=by rw [VI,Rat.intCast_add]; rfl
theorem LD {n:Net}{t:aZ}{M:bA} (h:pz n) (hn:pJ n) (hM:Md n t M) (ht:uR n t) {p:List LR}
  (hp:NL p t.bR.length (λ_ y=>pA y/\RL y 2/\∃ z:Int,rv y=(z:Rat)/\-2400000<=z/\z<=2400000)) {Q:List LR->Prop}{K:List LR->Option (List LR)} (hK:∀ s,NL s t.bR.length (Lg (AF n t.qq) 300 2500000)->Gd (K s) Q):
  Gd (dI (λk y s n=>nI M k y s n) K 0 M.C p) Q:=by
 have hE:=BP h hn ht;have hcl:=hM.DH;have h24:=h.l3;refine Gd.dI (λk ys s=>∃ pre,M.C=pre++ys/\pre.length=k/\NL s t.bR.length (Lg (AF n t.qq) (2+10*k) (2400000+4000*((k:Int):Rat)))) ?_ ?_ M.C 0 p ⟨[],rfl,rfl,hp.mono (λb y hb hy=>?_)⟩
 ·rintro k c ys s nx ⟨pre,hpc,hpk,hs⟩ hnx
  have hck:M.C[k]? = some c:=by rw [hpc,QX (by omega),hpk,RG]; rfl
  obtain ⟨b,hb,g1,g2⟩:=Pa h hn hM ht hck;obtain ⟨f1,f2,f3⟩:=Kh hM hb;have hlt:=hE.el _ (Qz f3);have hk24:k<24:=by have:=(Qo.1 hck).1; omega
  generalize G5 n t.qq b=e at g1 g2 f1 f2 f3 hlt;unfold nI;refine Gd.ix (by omega) (by rw [Qn]; exact f1) (Gd.ix (by omega) (by rw [Qn]; exact f1) (hs.get hlt.1 (λy hy=>Gd.eQ (hy.sub g1 (by omega)) (λr hr=>hs.get hlt.1 (λ_ _=>?_)))))
  have c0:(2400000+4000*((k:Int):Rat))<=(2400000+4000*((k:Int):Rat))+2000:=by grind
  have hs2:=(hs.mono (P':=Lg (AF n t.qq) (2+10*k+5) (2400000+4000*((k:Int):Rat)+2000)) (λb y _ hy=>hy.mono (by omega) c0)).set (b:=e.2.1) hr
  refine Gd.ix (by omega) (by rw [Qn]; exact f2) (Gd.ix (by omega) (by rw [Qn]; exact f2) ?_)
  rw [Qn,Qn];refine hs2.get hlt.2 (λy2 hy2=>Gd.eQ (hy2.add g2 (by omega)) (λr2 hr2=>hs2.get hlt.2 (λ_ _=>?_)))
  have c1:(2400000+4000*((k:Int):Rat))+2000<=2400000+4000*(((k+1:Nat):Int):Rat):=by rw [Ac]; grind
  have c2:(2400000+4000*((k:Int):Rat))+2000+2000<=2400000+4000*(((k+1:Nat):Int):Rat):=by rw [Ac]; grind
  exact hnx _ ⟨pre++[c],by rw [hpc]; simp,by simp [hpk],(hs2.mono (λb y _ hy=>hy.mono (by omega) c1)).set (hr2.mono (by omega) c2)⟩
 ·rintro k s ⟨pre,hpc,hpk,hs⟩
  rw [Q5] at hpc;have hk24:k<=24:=by rw [<- hpk,<- hpc]; omega
  have hc:((k:Int):Rat)<=((24:Int):Rat):=W2.2 (by omega)
  have e24:((24:Int):Rat)=24:=rfl;rw [e24] at hc;exact hK s (hs.mono (λb y _ hy=>hy.mono (by omega) (by grind)))
 ·obtain ⟨y1,y2,z,y3,y4,y5⟩:=hy
  have e0:(((0:Nat):Int):Rat)=0:=rfl;have a:=W2.2 y4;have b:=W2.2 y5;have e1:((2400000:Int):Rat)=2400000:=rfl;rw [W4,e1] at a;rw [e1] at b;refine ⟨y1,y2,?_,?_,?_⟩
  ·rw [y3]
   exact sE (A7 (λe he=>(zw hE he).1)) ⟨z,rfl⟩
  ·rw [y3,e0]; grind
  ·rw [y3,e0]; grind
def An (D:Rat) (y:LR):Prop:=pA y/\∃ T,uy T/\-wq 140<=T/\T<=wq 140/\rv y=T / D
structure Dv (D:Rat):Prop where
 i:uy D
 z:D≠0
 a:-wq 60<=D
 b:D<=wq 60
theorem J7:uy 0:=⟨0,rfl⟩
theorem An.rb {D:Rat} (hD:Dv D) {y:LR} (h:An D y):RB (rv y) 141:=by
 obtain ⟨_,T,t1,t2,t3,e⟩:=h;rw [e];have:=yb (show 60<=140 by omega)
 have h1:=hD.a;have h2:=hD.b;exact zx t1 hD.i t2 t3 (by grind) (by grind) hD.z (by omega)
theorem An.zero {D:Rat}{y:LR} (hy:pA y) (h0:rv y=0):An D y:=⟨hy,0,J7,by have:=vX 140; grind,by have:=vX 140; grind,by rw [h0,Rat.div_def]; grind⟩
theorem MR {f:Nat->Rat}{b:Rat} (hb:0<=b):∀ {n:Nat},(∀ i,i<n->-b<=f i/\f i<=b)->-(((n:Int):Rat)*b)<=sm n f/\sm n f<=((n:Int):Rat)*b
 | 0,_=>by
  show -((((0:Nat):Int):Rat)*b)<=0/\0<=((((0:Nat):Int):Rat)*b);have e:((((0:Nat):Int)):Rat)=0:=rfl;rw [e]; grind
 | n+1,h=>by
  have h1:=MR hb (n:=n) (λi hi=>h i (by omega))
  have h2:=h n (by omega)
  rw [Ac];show _<=sm n f+f n/\sm n f+f n<=_
  grind
theorem Jq {n:Nat}{A B m:Mt}{L R:Nat->Rat} (h:Nb n A L B R) (hp:Pd n A) (hn:n<=23) (hG:Gj n A n m) {i:Nat} (hi:i<n) {x:Nat->Rat} (hx:∀ p,p<n->uy (L p*x p)/\-2500000<=x p/\x p<=2500000) {y:LR} (hy:pA y)
  (e:rv y=sm n (λp=>m i (n+p)*x p)):An (Dk A L n) y:=by
 have d0:=(h.D0 hp (QI n)).1;have key:∀ p,p<n->∃ T,uy T/\-wq 139<=T/\T<=wq 139/\m i (n+p)*x p=T*(Dk A L n)⁻¹:=λp hpn=>by
  obtain ⟨N,n1,n2,n3,e1⟩:=hG.num h.s (QI n) hi hpn;rw [Qs (by omega)] at e1
  have e1':m i (n+p)*Dk A L n=N*L p:=by
   have e2:1*m i (n+p)*Dk A L n=N*L p:=e1
   grind
  obtain ⟨x1,x2,x3⟩:=hx p hpn;have hP:=h.hP;have p1:1<=pr n R:=Eb (λj hj=>h.s.R1 hj);have r1:=h.s.R1 hi;have r2:=h.R hi;have hNb:pr n R*R i<=wq 120:=by
   rw [<- vW 60 60];exact qL hP r2 (by grind) (by grind)
  have l1:=h.s.l1 p hpn;have l2:=h.hL p hpn;have w1:(2500000:Rat)<=wq 1:=by
   have:((2500000:Int):Rat)<=(((WB ^ 1:Nat):Int):Rat):=W2.2 (by decide)
   exact this
  have q1:=BB (x:=L p) (y:=x p) (a:=wq 18) (b:=wq 1) (by have:=vX 18; grind) l2 (by grind) (by grind)
  rw [vW] at q1;have q2:=BB (x:=N) (y:=L p*x p) (a:=wq 120) (b:=wq (18+1)) (by grind) (by grind) q1.1 q1.2
  rw [vW] at q2;refine ⟨N*(L p*x p),sE n1 x1,q2.1,q2.2,?_⟩;have i1:=Rat.mul_inv_cancel _ d0;have e3:m i (n+p)=N*L p*(Dk A L n)⁻¹:=by rw [<- e1']; grind
  rw [e3]; grind
 have:∃ T:Nat->Rat,∀ p,p<n->uy (T p)/\-wq 139<=T p/\T p<=wq 139/\m i (n+p)*x p=(Dk A L n)⁻¹*T p:=by
  refine ⟨λp=>m i (n+p)*x p*Dk A L n,λp hpn=>?_⟩;obtain ⟨T,t1,t2,t3,t4⟩:=key p hpn;have i1:=Rat.mul_inv_cancel _ d0;have e2:m i (n+p)*x p*Dk A L n=T:=by rw [t4]; grind
  simp only;rw [e2];exact ⟨t1,t2,t3,by rw [t4]; grind⟩
 obtain ⟨T,hT⟩:=this;have hs:sm n (λp=>m i (n+p)*x p)=(Dk A L n)⁻¹*sm n T:=by
  rw [<- rN];exact px (λp hp=>(hT p hp).2.2.2)
 have hb:=MR (f:=T) (b:=wq 139) (by have:=vX 139; grind) (n:=n) (λp hp=>⟨(hT p hp).2.1,(hT p hp).2.2.1⟩)
 have hn2:((n:Int):Rat)*wq 139<=wq 140:=by
  have e1:wq 1*wq 139=wq 140:=vW 1 139;rw [<- e1];have h1:((n:Int):Rat)<=wq 1:=W2.2 (show (n:Int)<=((WB ^ 1:Nat):Int) by
   have:((WB ^ 1:Nat):Int)=4294967296:=by decide
   rw [this]; omega)
  exact Rat.mul_le_mul_of_nonneg_right h1 (by have:=vX 139; grind)
 refine ⟨hy,sm n T,Gh (λp hp=>(hT p hp).1),by grind,by grind,?_⟩
 rw [e,hs,Rat.div_def]; grind
theorem An.mk' {D:Rat} (hD:Dv D) {y z:LR} (h:An D y) (k:An D z):RB (rv y-rv z) 142:=by
 obtain ⟨_,T,t1,t2,t3,e⟩:=h;obtain ⟨_,U,u1,u2,u3,f⟩:=k;have e1:rv y-rv z=(T+-U) / D:=by rw [e,f,Rat.div_def,Rat.div_def,Rat.div_def]; grind
 have w:wq 140+wq 140<=wq 141:=by
  have e2:wq 1*wq 140=wq 141:=vW 1 140;rw [<- e2];have h1:((2:Int):Rat)<=wq 1:=W2.2 (by decide)
  have h2:((2:Int):Rat)=2:=rfl;rw [h2] at h1;have:=Rat.mul_le_mul_of_nonneg_right h1 (show 0<=wq 140 by have:=vX 140; grind)
  grind
 rw [e1];have w2:=yb (show 60<=141 by omega)
 have d1:=hD.a;have d2:=hD.b;exact zx (zj t1 (Hb u1)) hD.i (by grind) (by grind) (by grind) (by grind) hD.z (by omega)
def Og (n:Net) (t:aZ):Rat:=Dk (Lz (CG t.bR) (AF n t.qq)) (λi=>uk (CG t.bR i) (AF n t.qq)) (fr t.bR).length
theorem JH {n:Net} (h:pz n) (hn:pJ n) {t:aZ} (ht:uR n t):Dv (Og n t):=by
 have hE:=BP h hn ht;have hNb:=Gr hE (DS ht.I_) (λi j hi hj e=>zi hi hj e);have hp:=Gt h hn ht;obtain ⟨a,b,c⟩:=hNb.Db (QI _);exact ⟨a,(hNb.D0 hp (QI _)).1,b,c⟩
theorem HT {n:Net}{t:aZ}{M:bA} (h:pz n) (hn:pJ n) (hM:Md n t M) (ht:uR n t) {s:List LR} (hs:NL s t.bR.length (Lg (AF n t.qq) 300 2500000)):
  Gd (ni M s) (λr=>NL r t.bR.length (λ_ y=>An (Og n t) y)):=by
 have hE:=BP h hn ht;have hnf:=DS ht.I_;have hNb:=Gr hE hnf (λi j hi hj e=>zi hi hj e);have hp:=Gt h hn ht;have hfl:M.qX.length=(fr t.bR).length:=by rw [hM.md.free]; simp
 have hfr:∀ k (y:Int),M.qX[k]? = some y->k<(fr t.bR).length/\y=(CG t.bR k:Int):=λk y hk=>by
  have hk1:=(Qo.1 hk).1;rw [hM.md.free,QS,Sq (by omega)] at hk
  exact ⟨by omega,(Qp hk).symm⟩
 obtain ⟨m,hG,hR⟩:=hM.inv.ex;unfold ni;rw [hfl,Qn];refine Gd.nd (by omega) ?_
 refine Gd.dI (λk ys r=>∃ pre,M.qX=pre++ys/\pre.length=k/\r.length=(fr t.bR).length/\∀ j,j<k->r[j]? = s[CG t.bR j]?) ?_ ?_ M.qX 0 _ ⟨[],rfl,rfl,by simp,λj hj=>by omega⟩
 ·rintro k y ys r nx ⟨pre,hpf,hpk,hrl,hr⟩ hnx
  obtain ⟨hk,rfl⟩:=hfr k y (by rw [hpf,QX (by omega),hpk,RG]; rfl)
  have hlt:=hM.md.lt k hk;unfold pX;refine Gd.iH (by rw [hs.1]; exact hlt) (Gd.iH (by omega) ?_)
  rw [Qn];refine hnx _ ⟨pre++[(CG t.bR k:Int)],by rw [hpf]; simp,by simp [hpk],by rw [RH]; exact hrl,λj hj=>?_⟩
  by_cases e:k=j
  ·subst e
   rw [QQ (by omega),Ql]
  ·rw [QM e]; exact hr j (by omega)
 ·rintro k r ⟨pre,hpf,hpk,hrl,hr⟩
  rw [Q5] at hpf;have hk:k=(fr t.bR).length:=by rw [<- hpk,<- hpf,hfl]
  subst hk;unfold c_;rw [hM.top];refine Gd.eQ (zT (by have:=ht.I_; omega)) ?_
  rintro _ ⟨z,rfl,z1,z2,z3⟩;have hx:∀ j,j<(fr t.bR).length->∃ y,r[j]? = some y/\Lg (AF n t.qq) 300 2500000 (CG t.bR j) y:=λj hj=>by
   have hlt:=hM.md.lt j hj;have hl:CG t.bR j<s.length:=by rw [hs.1]; exact hlt
   have hsj:=Ql hl;exact ⟨s[CG t.bR j],by rw [hr j hj,hsj],hs.2 _ _ hsj⟩
  have hb:NL r (fr t.bR).length (λj y=>pA y/\RL y 6000/\rv y=((r[j]?).map rv).getD 0):=⟨hrl,λj y hj=>by
   have hj1:=(Qo.1 hj).1;obtain ⟨y2,e,g⟩:=hx j (by omega)
   rw [hj] at e;obtain rfl:=Qp e;exact ⟨g.1,g.2.1.mono (by omega),by rw [hj]; rfl⟩⟩
  have hxx:∀ p,p<(fr t.bR).length->uy (uk (CG t.bR p) (AF n t.qq)*((r[p]?).map rv).getD 0)/\-2500000<=((r[p]?).map rv).getD 0/\((r[p]?).map rv).getD 0<=2500000:=λp hp=>by
   obtain ⟨y2,e,g⟩:=hx p hp;rw [e];exact ⟨g.2.2.1,g.2.2.2.1,g.2.2.2.2⟩
  refine Gd.dI (λk ys o=>∃ pre,M.qX=pre++ys/\pre.length=k/\NL o t.bR.length (λ_ y=>An (Og n t) y)) ?_ ?_ M.qX 0 _ ⟨[],rfl,rfl,⟨by simp,λb y hb=>by
   have:=VR (Qz hb);subst this;exact An.zero z1 z3⟩⟩
  ·rintro k y ys o nx ⟨pre,hpf,hpk,ho⟩ hnx
   obtain ⟨hk,rfl⟩:=hfr k y (by rw [hpf,QX (by omega),hpk,RG]; rfl)
   have hlt:=hM.md.lt k hk;obtain ⟨row,w1,w2,w3⟩:=hR.row k hk;have ha:NL row (fr t.bR).length (λj y=>pA y/\RL y 6000/\rv y=m k ((fr t.bR).length+j)):=⟨w2,λj y hj=>by
    have hj1:=(Qo.1 hj).1;obtain ⟨y2,e,g⟩:=w3 j (by omega)
    rw [hj] at e;obtain rfl:=Qp e;exact g⟩
   unfold pY;refine Gd.ix (by omega) (by rw [Qn]; exact w1) (Gd.eQ (M_ (by omega) (by omega) ha hb) (λd hd=>ho.get hlt (λ_ _=>?_)))
   rw [Qn];exact hnx _ ⟨pre++[(CG t.bR k:Int)],by rw [hpf]; simp,by simp [hpk],ho.set (Jq hNb hp hnf hG hk hxx hd.1 hd.2)⟩
  ·rintro k o ⟨_,_,_,ho⟩
   exact Gd.ret ho
theorem HJ {n:Net}{t:aZ}{M:bA} (h:pz n) (hn:pJ n) (hM:Md n t M) (ht:uR n t) {p:List LR}
  (hp:NL p t.bR.length (λ_ y=>pA y/\RL y 2/\∃ z:Int,rv y=(z:Rat)/\-2400000<=z/\z<=2400000)):Gd (nh M p) (λr=>NL r t.bR.length (λ_ y=>An (Og n t) y)):=by
 have h1:=ht.I_;have h2:=hp.1;unfold nh;exact Gd.nd (by omega) (LD h hn hM ht hp (λs hs=>Gd.eQ (HT h hn hM ht hs) (λr hr=>Gd.ret hr)))
theorem I6 {n:Net}{t:aZ}{M:bA} (h:pz n) (hn:pJ n) (hM:Md n t M) (ht:uR n t) {a:List LR} (ha:NL a t.bR.length (λ_ y=>An (Og n t) y)):
  Gd (nZ M a) (λr=>NL r n.aI.length (λ_ y=>pA y/\fits (rv y))):=by
 have hE:=BP h hn ht;have hD:=JH h hn ht;have hcl:=hM.DH;have h24:=h.l3;unfold nZ;refine Gd.dI (λk ys r=>∃ pre,M.C=pre++ys/\pre.length=k/\NL r k (λ_ y=>pA y/\fits (rv y))) ?_ ?_ M.C 0 _ ⟨[],rfl,rfl,rfl,λb y hb=>by simp at hb⟩
 ·rintro k c ys r nx ⟨pre,hpc,hpk,hr⟩ hnx
  have hck:M.C[k]? = some c:=by rw [hpc,QX (by omega),hpk,RG]; rfl
  have hk24:k<24:=by have:=(Qo.1 hck).1; omega
  obtain ⟨b,hb,c1,c2,c3⟩:=hM.c k c hck;obtain ⟨f1,f2,f3⟩:=Kh hM hb;have hlt:=hE.el _ (Qz f3);have hbl:k<M.B_.length:=by rw [hM.md.bl]; exact (Qo.1 f3).1
  obtain ⟨e,e1,b1,b2,b3⟩:=hM.md.b k M.B_[k] (Ql hbl);rw [f3] at e1;obtain rfl:=Qp e1;obtain ⟨q,q1,q2,q3⟩:=hE.q _ (Qz f3);have hBR:RB (rv M.B_[k]) 1:=by
   rw [b3,q1];exact RB.Pf (by decide) (by omega) (by omega)
  have hrl:=hr.1;unfold qJ;refine Gd.ix (by omega) (by rw [Qn]; exact Ql hbl) (Gd.ix (by omega) (by rw [Qn]; exact f1) (ha.get hlt.1 (λy hy=>Gd.ix (by omega) (by rw [Qn]; exact f2) (ha.get hlt.2 (λz hz=>?_)))))
  refine Gd.eQ (ya hy.1 hz.1 (hy.1.rb (hy.rb hD)) (hz.1.rb (hz.rb hD)) (by omega)) (λd hd=>?_)
  have hdR:RB (rv d) 142:=by rw [hd.2.2]; exact hy.mk' hD hz
  refine Gd.eQ (zy b1 hd.1 (b1.rb hBR) (hd.1.rb hdR) (by omega)) (λf hf=>?_)
  refine Gd.eQ (wZ hf.1 c1 hf.2.1 c2 (by omega)) (λg hg=>Gd.nd (by simp; omega) (hnx _ ⟨pre++[c],by rw [hpc]; simp,by simp [hpk],hr.snoc ⟨hg.1,?_⟩⟩))
  exact RB.fits ⟨g,hg.1,hg.2.1,rfl⟩ (by omega)
 ·rintro k r ⟨pre,hpc,hpk,hr⟩
  rw [Q5] at hpc;have hk:k=n.aI.length:=by rw [<- hpk,<- hpc,hcl]
  subst hk;exact Gd.ret hr
theorem FB {l:List LR} (hl:l.length<=1000) (h:∀ y ∈ l,pA y/\fits (rv y)):Gd (nU l) (λr=>r=(l.map (λy=>ctext (rv y)),0)):=by
 unfold nU;refine Gd.eQ (P:=λr=>r=(l.map (λy=>ctext (rv y)),true)) ?_ (λr hr=>by subst hr; exact Gd.ite (λh=>by simp at h) (λ_=>Gd.ret rfl))
 unfold tI;refine Gd.nd (by omega) ?_
 rw [Qn];refine Gd.dI (λk ys s=>∃ pre,l=pre++ys/\pre.length=k/\s=pre.map (λy=>ctext (rv y))++List.replicate ys.length (⟨#[]⟩:Qi)) ?_ ?_ l 0 _ ⟨[],rfl,rfl,by simp⟩
 ·rintro k y ys _ nx ⟨pre,hp,hpk,rfl⟩ hnx
  obtain ⟨y1,y2⟩:=h y (by rw [hp]; simp)
  unfold tz;refine Gd.eQ (KH y1) (λr hr=>?_);have h2:=hr.1.2 y2;refine Gd.ite (λhh=>by rw [h2] at hh; simp at hh) (λ_=>?_)
  refine Gd.ix (y:=⟨#[]⟩) (by omega) ?_ (hnx _ ⟨pre++[y],by rw [hp]; simp,by simp [hpk],?_⟩)
  ·rw [Qn,QX (by simp [hpk]),Sj,hpk,RG,Qy,S4]; rfl
  ·rw [Qn,V2 _ _ (by simp [hpk]),Sj,hpk,RG,Qy,S4,List.set_cons_zero,hr.2 h2]
   simp
 ·rintro k _ ⟨pre,hp,hpk,rfl⟩
  rw [Q5] at hp;subst hp;exact Gd.ret (by simp)
structure MY (n:Net) (t:aZ) (s:cG):Prop where
 al:s.eP.length=t.bR.length
 fl:s.gK.length=n.aI.length
 a:∀ x ∈ s.eP,∃ q,fits q/\x=ctext q
 f:∀ x ∈ s.gK,∃ q,fits q/\x=ctext q
theorem NL.all {l:List LR}{N:Nat}{P:LR->Prop} (h:NL l N (λ_ y=>P y)):∀ y ∈ l,P y:=λy hy=>by
 obtain ⟨i,hi,rfl⟩:=RC.1 hy;exact h.2 i _ (Ql hi)
theorem KN {n:Net}{p:List Int} (h:pz n) (hn:pJ n) {t:aZ} (hg:dZ n=some t) (ht:uR n t) (hp:p.length=n.bF.length) (hb:∀ z ∈ p,-100000<=z/\z<=100000) (hc:nH n p=some 0):
  Gd (nJ n p) (λr=>r.2=0/\MY n t r.1):=by
 have hN:=ht.I_;have h24:=h.l3;unfold nJ;refine Gd.bind_eq hc (Gd.ite (λh=>by simp at h) (λ_=>?_))
 refine Gd.eQ (E_ h hn hg ht) ?_;rintro _ ⟨M,rfl,hM⟩;simp only [Am];refine Gd.eQ (Mc hM ht hn hp hb) (λsm hsm=>Gd.eQ (HJ h hn hM ht hsm) (λa ha=>?_));have hD:=JH h hn ht;have hl1:=ha.1;refine Gd.eQ (FB (by omega) (λy hy=>⟨(ha.all y hy).1,(An.rb hD (ha.all y hy)).fits (by omega)⟩)) ?_
 rintro _ rfl;refine Gd.eQ (I6 h hn hM ht ha) (λf hf=>?_);have hl2:=hf.1;refine Gd.eQ (FB (by omega) (λy hy=>hf.all y hy)) ?_
 rintro _ rfl;refine Gd.ite (λh=>by simp at h) (λ_=>Gd.ret ⟨rfl,by simp [hl1],by simp [hl2],λx hx=>?_,λx hx=>?_⟩)
 ·obtain ⟨y,hy,rfl⟩:=Ra.1 hx
  exact ⟨_,(An.rb hD (ha.all y hy)).fits (by omega),rfl⟩
 ·obtain ⟨y,hy,rfl⟩:=Ra.1 hx
  exact ⟨_,(hf.all y hy).2,rfl⟩
def acc {α:Type} (f:α->Int) (p:α->Nat) (k:Nat):List α->Int
 | []=>0
 | x::xs=>(if p x=k then f x else 0)+acc f p k xs
theorem DC {α:Type}{f:α->Int}{p:α->Nat}{k:Nat}:∀ {l:List α},(∀ x ∈ l,0<=f x)->0<=acc f p k l
 | [],_=>S6 _
 | x::xs,h=>by
  have h1:=h x (Qq ..);have h2:=DC (f:=f) (p:=p) (k:=k) (l:=xs) λy hy=>h y (Qw _ hy);unfold acc
  split <;> omega
theorem FP {α:Type}{f:α->Int}{p:α->Nat}{k:Nat}{B:Int} (hB:0<=B):∀ {l:List α},(∀ x ∈ l,f x<=B)->acc f p k l<=B*l.length
 | [],_=>by simp [acc]
 | x::xs,h=>by
  have h1:=h x (Qq ..);have h2:=FP (f:=f) (p:=p) (k:=k) (B:=B) hB (l:=xs) λy hy=>h y (Qw _ hy);unfold acc;rw [Qy,VI,VF]
  split <;> omega
theorem G1 {α:Type}{f:α->Int}{p:α->Nat}{k:Nat}:∀ (a b:List α),acc f p k (a++b)=acc f p k a+acc f p k b
 | [],b=>by show acc f p k b=0+acc f p k b; omega
 | x::xs,b=>by
  have:=G1 (f:=f) (p:=p) (k:=k) xs b;show (if p x=k then f x else 0)+acc f p k (xs++b)=(if p x=k then f x else 0)+acc f p k xs+acc f p k b
  omega
theorem y9 {α:Type}{f:α->Int}{p:α->Nat}{k:Nat} (a:List α) (x:α):acc f p k (a++[x])=acc f p k a+(if p x=k then f x else 0):=by
 rw [G1];show _+((if p x=k then f x else 0)+0)=_
 omega
def tC (pl:Nat->Nat) (k:Nat):Nat->List Int->Int
 | _,[]=>0
 | i,x::xs=>(if pl i=k then x else 0)+tC pl k (i+1) xs
theorem Fa (pl:Nat->Nat) (k:Nat):∀ (a b:List Int) (i:Nat),tC pl k i (a++b)=tC pl k i a+tC pl k (i+a.length) b
 | [],b,i=>by show tC pl k i b=0+tC pl k (i+0) b; rw [RV]; omega
 | x::xs,b,i=>by
  have:=Fa pl k xs b (i+1);have e:i+(x::xs).length=i+1+xs.length:=by simp; omega
  rw [e];show (if pl i=k then x else 0)+tC pl k (i+1) (xs++b)=(if pl i=k then x else 0)+tC pl k (i+1) xs+_
  omega
theorem Cb (pl:Nat->Nat) (k:Nat) (y:Int):∀ (l:List Int) (i j:Nat) (h:j<l.length),tC pl k i (l.set j y)=tC pl k i l+(if pl (i+j)=k then y-l[j] else 0)
 | [],_,_,h=>by simp at h
 | x::xs,i,0,_=>by
  rw [List.set_cons_zero,RV,List.getElem_cons_zero];show (if pl i=k then y else 0)+tC pl k (i+1) xs=(if pl i=k then x else 0)+tC pl k (i+1) xs+_
  split <;> omega
 | x::xs,i,j+1,h=>by
  have h':j<xs.length:=by simpa using h
  have:=Cb pl k y xs (i+1) j h';have e:i+1+j=i+(j+1):=by omega
  rw [e] at this;rw [List.set_cons_succ,List.getElem_cons_succ];show (if pl i=k then x else 0)+tC pl k (i+1) (xs.set j y)=(if pl i=k then x else 0)+tC pl k (i+1) xs+_
  rw [this]; omega
theorem Fb (pl:Nat->Nat) (k:Nat):∀ (m i:Nat),tC pl k i (List.replicate m 0)=0
 | 0,_=>rfl
 | m+1,i=>by
  show (if pl i=k then (0:Int) else 0)+tC pl k (i+1) (List.replicate m 0)=0
  rw [Fb pl k m (i+1)]; split <;> rfl
theorem Hl (pl:Nat->Nat) (k:Nat) {B:Int} (hB:0<=B):∀ (l:List Int) (i:Nat),(∀ z ∈ l,-B<=z/\z<=B)->-(B*l.length)<=tC pl k i l/\tC pl k i l<=B*l.length
 | [],_,_=>by simp [tC]
 | x::xs,i,h=>by
  have h1:=h x (Qq ..);have h2:=Hl pl k hB xs (i+1) (λz hz=>h z (Qw _ hz));show -(B*(x::xs).length)<=(if pl i=k then x else 0)+tC pl k (i+1) xs/\(if pl i=k then x else 0)+tC pl k (i+1) xs<=B*(x::xs).length
  rw [Qy,VI,VF]
  split <;> omega
def D_ (t:aZ) (i:Nat):Nat:=((t.bR[((t.qq[i]?).getD 0).toNat]?).getD 0).toNat
theorem Gx {n:Net}{t:aZ} (ht:uR n t) {i:Nat} (hi:i<n.bF.length):∃ v:Nat,t.qq[i]? = some (v:Int)/\v<t.bR.length/\t.bR[v]? = some (D_ t i:Int)/\D_ t i<t.bR.length:=by
 have hil:i<t.qq.length:=by rw [ht.bl]; exact hi
 have h1:=ht.bi _ (QY hil);obtain ⟨c,hc⟩:=ht.comp;have hv:(t.qq[i]).toNat<t.bR.length:=by omega
 have e1:t.qq[i]? = some (((t.qq[i]).toNat:Nat):Int):=by rw [Ql hil]; congr 1; omega
 have h2:=hc.all ((t.qq[i]).toNat:Int) (by omega) (by omega)
 rw [B4 hv] at h2;have hm:=hc.mN;refine ⟨(t.qq[i]).toNat,e1,hv,?_,?_⟩
 ·unfold D_
  rw [e1,Sp,Qn,Ql hv,Sp]
  congr 1; omega
 ·unfold D_
  rw [e1,Sp,Qn,Ql hv,Sp];omega
def yn (n:Net) (t:aZ) (s:BA):Nat:=D_ t (pos n s)
theorem Co {n:Net}{t:aZ} (ht:uR n t) {s:BA} (hs:s ∈ n.bF):mX n t s=some (yn n t s:Int)/\yn n t s<t.bR.length:=by
 obtain ⟨p1,p2⟩:=UT hs;obtain ⟨v,v1,v2,v3,v4⟩:=Gx ht p2;refine ⟨?_,v4⟩;rw [<- Gd.eq];unfold mX;exact Gd.bind_eq p1 (Gd.ix (by omega) (by rw [Qn]; exact v1) (Gd.ix (by omega) (by rw [Qn]; exact v3) (Gd.ret rfl)))
theorem Iz {n:Net}{t:aZ} (hg:dZ n=some t) (ht:uR n t):∃ N:Nat,mh n=some (N:Int)/\N<=24/\∀ s ∈ n.bF,yn n t s<N:=by
 obtain ⟨c,hc⟩:=ht.comp;have hm:=hc.mN;have hII:AY t.bR.length t.bR:=λa ha=>by
  obtain ⟨k,hk,rfl⟩:=RC.1 ha;have:=hc.all (k:Int) (by omega) (by omega)
  rw [B4 hk] at this;omega
 have h:Gd (mh n) (λr=>∃ N:Nat,r=N/\N<=24/\AY N t.bR):=by
  unfold mh;refine Gd.bind_eq hg (LK t.bR.length ht.I_ _ (λk y n nx=>by unfold rD; rfl) _ t.bR hII (λm hm hbm=>Gd.ret ⟨m,rfl,by have:=ht.I_; omega,hbm⟩))
 obtain ⟨r,hr,N,rfl,h1,h2⟩:=h;refine ⟨N,hr,h1,λs hs=>?_⟩;obtain ⟨v,_,_,v3,_⟩:=Gx ht (UT hs).2;have:=h2 _ (Qz v3);show D_ t (pos n s)<N;omega
abbrev Ic (n:Net) (t:aZ) (k:Nat):Int:=acc aG.dA (λl:aG=>yn n t l.Node) k n.bC
theorem JI {n:Net} (hn:pJ n) (t:aZ) (k:Nat):0<=Ic n t k/\Ic n t k<=1200000:=by
 have h1:=DC (f:=aG.dA) (p:=λl:aG=>yn n t l.Node) (k:=k) (l:=n.bC) (λl hl=>(hn.ld l hl).2.1);have h2:=FP (f:=aG.dA) (p:=λl:aG=>yn n t l.Node) (k:=k) (B:=100000) (by omega) (l:=n.bC) (λl hl=>(hn.ld l hl).2.2)
 have:=hn.l5;have h3:Ic n t k<=100000*(n.bC.length:Int):=h2;exact ⟨h1,by omega⟩
theorem J8 {n:Net}{t:aZ} (hn:pJ n) (hg:dZ n=some t) (ht:uR n t) {N:Nat} (hN:mh n=some (N:Int)) (h24:N<=24) (hpl:∀ s ∈ n.bF,yn n t s<N):
  Gd (ra n) (λr=>r.length=N/\∀ k (hk:k<r.length),r[k].dA=Ic n t k):=by
 have h4:=hn.l4;have h5:=hn.l5;unfold ra;refine Gd.bind_eq hg (Gd.bind_eq hN (Gd.nd ⟨by omega,by omega⟩ ?_))
 rw [Qn];refine Gd.dI (λi ys s=>(∀ y ∈ ys,y ∈ n.dB)/\s.length=N/\∀ k (hk:k<s.length),s[k].dA=0) ?_ ?_ _ _ _ ⟨λ_ h=>h,by simp,?_⟩
 ·rintro i y ys s nx ⟨hm,hl,hk⟩ hnx
  have hy:=hm y (Qq ..);obtain ⟨hp,_⟩:=Co ht (hn.gn y hy).1;have hlt:yn n t y.Node<s.length:=by have:=hpl _ (hn.gn y hy).1; omega
  unfold sG;refine Gd.bind_eq hp (Gd.iH hlt ?_);rw [Qn,List.set_set];refine hnx _ ⟨λz hz=>hm z (Qw _ hz),by simp [hl],λk hkl=>?_⟩
  rw [RH] at hkl;rw [VT]
  split
  ·exact hk _ hlt
  ·exact hk k hkl
 ·rintro i s ⟨_,hl,hk⟩
  refine Gd.dI (λi ys s=>∃ pre,n.bC=pre++ys/\s.length=N/\∀ k (hk:k<s.length),s[k].dA=acc aG.dA (λl:aG=>yn n t l.Node) k pre) ?_ ?_ _ _ _ ⟨[],rfl,hl,hk⟩
  ·rintro i y ys s nx ⟨pre,hp,hl,hk⟩ hnx
   have hy:y ∈ n.bC:=by rw [hp]; simp
   obtain ⟨hpp,_⟩:=Co ht (hn.ld y hy).1;have hlt:yn n t y.Node<s.length:=by have:=hpl _ (hn.ld y hy).1; omega
   have hyd:=hn.ld y hy;have hb1:=DC (f:=aG.dA) (p:=λl:aG=>yn n t l.Node) (k:=yn n t y.Node) (l:=pre) (λl hl=>(hn.ld l (by rw [hp]; simp [hl])).2.1)
   have hb2:=FP (f:=aG.dA) (p:=λl:aG=>yn n t l.Node) (k:=yn n t y.Node) (B:=100000) (by omega) (l:=pre) (λl hl=>(hn.ld l (by rw [hp]; simp [hl])).2.2)
   have hpre:pre.length<=12:=by
    have:n.bC.length=pre.length+(ys.length+1):=by rw [hp]; simp
    omega
   have hkk:=hk _ hlt;have hw1:i64.wrap (s[yn n t y.Node].dA+y.dA)=s[yn n t y.Node].dA+y.dA:=bV ⟨by omega,by omega⟩
   unfold sH;refine Gd.bind_eq hpp (Gd.iH hlt (Gd.iH hlt ?_));rw [hw1,Qn];refine hnx _ ⟨pre++[y],by rw [hp]; simp,by simp [hl],λk hkl=>?_⟩
   rw [RH] at hkl;rw [VT,y9]
   by_cases e:yn n t y.Node=k
   ·subst e
    rw [Qu rfl,Qu rfl,hkk]
   ·rw [Qs e,Qs e,hk k hkl]; omega
  ·rintro i s ⟨pre,hp,hl,hk⟩
   rw [Q5] at hp;subst hp;exact Gd.ret ⟨hl,hk⟩
 ·intro k hk
  have e:(List.replicate N ({ jC:=0,qH:=0,dA:=0 }:bP))[k]={ jC:=0,qH:=0,dA:=0 }:=List.getElem_replicate _;rw [e]
theorem Lv (l:List Int):Gd (dP l) (λb=>b=true↔∃ v ∈ l,0<v):=by
 unfold dP eV;refine Gd.eQ (P:=λr=>0<=r↔∃ v ∈ l,0<v) ?_ (λr hr=>Gd.ret (by simpa using hr))
 refine Gd.kL (λm i _=>i+m=l.length/\∀ v ∈ l.take i,v<=0) ?_ ?_ (l.length:Int).toNat 0 () ⟨by omega,by simp⟩
 ·intro m i _ nx ⟨hi,hno⟩ hnx
  unfold gA oO;refine Gd.iH (by omega) (Gd.ite (λh=>Gd.ret ⟨λ_=>⟨l[i],QY _,by simpa using h⟩,λ_=>by omega⟩) (λh=>hnx () ⟨by omega,?_⟩))
  rw [QO (by omega)]
  intro v hv;rcases QC.1 hv with hv | hv
  ·exact hno v hv
  ·simp at hv; subst hv; simpa using h
 ·intro i _ ⟨hi,hno⟩
  rw [QD (by omega)] at hno
  exact Gd.ret ⟨λh=>by omega,λ⟨v,hv,h⟩=>by have:=hno v hv; omega⟩
abbrev EY (n:Net) (t:aZ) (k:Nat) (l:List (bD×Int)):Int:=acc (λz:bD×Int=>z.2) (λz:bD×Int=>yn n t z.1.Node) k l
structure O9 (n:Net) (t:aZ) (p:List Int):Prop where
 len:p.length=n.dB.length
 each:∀ z ∈ n.dB.zip p,0<=z.2/\z.2<=100000/\(z.2=0\/z.1.jC<=z.2/\z.2<=z.1.qH)
 O_:∀ k,EY n t k (n.dB.zip p)=Ic n t k
theorem Ir {n:Net}{t:aZ} (hn:pJ n) (hg:dZ n=some t) (ht:uR n t) (hc:cA n=some 0):
  Gd (mW n) (λx=>(x.2=14/\x.1=[])\/(x.2=0/\O9 n t x.1)):=by
 obtain ⟨N,hN,h24,hpl⟩:=Iz hg ht;have h4:=hn.l4;have h5:=hn.l5;obtain ⟨r,hr,hlen,hk⟩:=J8 hn hg ht hN h24 hpl;unfold mW;refine Gd.bind_eq hc (Gd.ite (λh=>by simp at h) (λ_=>Gd.bind_eq hg (Gd.bind_eq hr ?_)))
 refine Gd.dI (λi ys s=>i+ys.length=r.length/\ys=r.drop i/\s=(r.take i).map bP.dA) ?_ ?_ _ _ _ ⟨by simp,by simp,by simp⟩
 ·rintro i y ys s nx ⟨hi,hys,rfl⟩ hnx
  simp only [Qy] at hi;have hlt:i<r.length:=by omega
  rw [QV hlt] at hys;obtain ⟨rfl,rfl⟩:=VO hys;unfold sf;refine Gd.nd (by simp; omega) (hnx _ ⟨by omega,rfl,?_⟩)
  rw [QO hlt,RM]; rfl
 rintro i s ⟨hi,_,rfl⟩;rw [QD (by simp at hi; omega)]
 refine Gd.dI (λi ys (s:List Int×List Int)=>∃ pre,n.dB=pre++ys/\pre.length=i/\s.1.length=N/\s.2.length=pre.length/\(∀ v ∈ s.1,0<=v)/\(∀ z ∈ pre.zip s.2,0<=z.2/\z.2<=100000/\(z.2=0\/z.1.jC<=z.2/\z.2<=z.1.qH)) /\
   (∀ k (hk:k<s.1.length),s.1[k]+EY n t k (pre.zip s.2)=Ic n t k)) ?_ ?_ _ _ _
  ⟨[],rfl,rfl,by simp [hlen],rfl,?_,by simp,?_⟩
 ·rintro i y ys ⟨rest,out⟩ nx ⟨pre,hp,hpi,hl1,hl2,h0,he,hb⟩ hnx
  simp only at hl1 hl2 h0 he hb;have hy:y ∈ n.dB:=by rw [hp]; simp
  obtain ⟨hpp,_⟩:=Co ht (hn.gn y hy).1;have hlp:yn n t y.Node<rest.length:=by have:=hpl _ (hn.gn y hy).1; omega
  have hgy:=hn.gn y hy;have hr0:=h0 rest[yn n t y.Node] (QY _);have hb0:=hb _ hlp;have hd:=JI hn t (yn n t y.Node);have hge:0<=EY n t (yn n t y.Node) (pre.zip out):=DC (λz hz=>(he z hz).1);have hpl10:pre.length<10:=by
   have:n.dB.length=pre.length+(ys.length+1):=by rw [hp]; simp
   omega
  have step:∀ p:Int,0<=p->p<=rest[yn n t y.Node]->p<=y.qH->(p=0\/y.jC<=p/\p<=y.qH) ->
    Gd (mi rest out nx (yn n t y.Node:Int) rest[yn n t y.Node] p) (λx=>(x.2=14/\x.1=[])\/(x.2=0/\O9 n t x.1)):=by
   intro p p0 pr pm pe;have hw:i64.wrap (rest[yn n t y.Node]-p)=rest[yn n t y.Node]-p:=bV ⟨by omega,by omega⟩
   have hz:(pre++[y]).zip (out++[p])=pre.zip out++[(y,p)]:=by rw [List.zip_append hl2.symm]; rfl
   unfold mi;rw [hw,Qn];refine Gd.nd (by simp; omega) (hnx _ ⟨pre++[y],by rw [hp]; simp,by simp [hpi],by simp [hl1],by simp [hl2],?_,?_,?_⟩)
   ·intro v hv
    rcases V0 hv with hv | rfl
    ·exact h0 v hv
    ·omega
   ·simp only
    rw [hz];intro z hzz;rcases QC.1 hzz with h1 | h1
    ·exact he z h1
    ·rw [QZ] at h1
     subst h1;exact ⟨p0,by simp only; omega,pe⟩
   ·intro k hkl
    simp only [RH] at hkl;simp only;rw [hz];unfold EY;rw [y9,VT];have hbk:=hb k hkl;unfold EY at hbk
    by_cases e:yn n t y.Node=k
    ·subst e
     rw [Qu rfl,Qu rfl];simp only; omega
    ·rw [Qs e,Qs e]; omega
  unfold sh;refine Gd.bind_eq hpp (Gd.iH hlp (Gd.ite (λhle=>?_) (λ_=>step 0 (by omega) (by omega) (by omega) (.inl rfl))))
  have hle:y.jC<=rest[yn n t y.Node]:=by simpa using hle
  exact step (min y.qH rest[yn n t y.Node]) (by omega) (by omega) (by omega) (.inr ⟨by omega,by omega⟩)
 ·rintro i ⟨rest,out⟩ ⟨pre,hp,hpi,hl1,hl2,h0,he,hb⟩
  simp only at hl1 hl2 h0 he hb;rw [Q5] at hp;subst hp;refine Gd.eQ (Lv rest) (λb hb2=>Gd.ite (λ_=>Gd.ret (.inl ⟨rfl,rfl⟩)) (λh=>Gd.ret (.inr ⟨rfl,hl2,he,λk=>?_⟩)));have hno:∀ v ∈ rest,v=0:=λv hv=>by
   have h1:=h0 v hv
   by_cases e:0<v
   ·have:=hb2.2 ⟨v,hv,e⟩
    rw [this] at h; cases h
   ·omega
  by_cases hkN:k<rest.length
  ·have:=hb k hkN
   rw [hno _ (QY _)] at this;show EY n t k (n.dB.zip out)=_;omega
  ·have none:∀ {α:Type} (f:α->Int) (p:α->Nat) (l:List α),(∀ x ∈ l,p x<N)->acc f p k l=0:=by
    intro α f p l
    induction l with
    | nil=>intro _; rfl
    | cons x l ih=>
     intro hx;have h1:=hx x (Qq ..);have h2:=ih (λx h=>hx x (Qw _ h));show (if p x=k then f x else 0)+acc f p k l=0
     rw [Qs (by omega),h2]; rfl
   rw [show Ic n t k=0 from none _ _ _ (λl hl=>hpl _ (hn.ld l hl).1)];exact none _ _ _ (λz hz=>hpl _ (hn.gn _ (List.of_mem_zip hz).1).1)
 ·intro v hv
  obtain ⟨s,hs,rfl⟩:=Ra.1 hv;obtain ⟨k,hk2,rfl⟩:=RC.1 hs;rw [hk k hk2]; exact (JI hn t k).1
 ·intro k hkl
  simp only [Sj] at hkl;simp only [SA];rw [hk k hkl];show Ic n t k+0=_;omega
theorem FG {α β:Type}{y:α}{v:β}:∀ {pre:List α}{p:List β},p[pre.length]? = some v->(pre++[y]).zip p=pre.zip p++[(y,v)]
 | [],[],h=>by simp at h
 | [],b::p,h=>by
  have:b=v:=by simpa using h
  subst this;simp
 | a::pre,[],h=>by simp at h
 | a::pre,b::p,h=>by
  have h2:p[pre.length]? = some v:=by simpa using h
  have:=FG (y:=y) h2;simp [this]
structure I7 (n:Net) (t:aZ) (p:List Int):Prop where
 len:p.length=n.bF.length
 K6:∀ z ∈ p,-100000<=z/\z<=100000
 O_:∀ k,tC (D_ t) k 0 p=0
theorem F_ {n:Net}{t:aZ} (h:pz n) (hn:pJ n) (hg:dZ n=some t) (ht:uR n t) (hc:cA n=some 0) {p:List Int} (hp:O9 n t p):
  Gd (rR n p (List.replicate n.bS.length 0)) (λx=>(x.2=4/\x.1=[])\/(x.2=0/\I7 n t x.1)):=by
 have l1:=hn.l1;have l4:=hn.l4;have l5:=hn.l5;have l6:=h.l6;unfold rR;refine Gd.bind_eq hc (Gd.ite (λh=>by simp at h) (λ_=>?_))
 refine Gd.ite (λh=>absurd h (by simp [hp.len])) (λ_=>Gd.nd (by omega) ?_)
 rw [Qn];refine Gd.dI (λi ys s=>∃ pre,n.dB=pre++ys/\pre.length=i/\s.length=n.bF.length/\(∀ k,tC (D_ t) k 0 s=EY n t k (pre.zip p))/\∀ z ∈ s,-(100000*(i:Int))<=z/\z<=100000*(i:Int)) ?_ ?_ n.dB 0 _
  ⟨[],rfl,rfl,by simp,λk=>Fb _ _ _ _,λz hz=>by have:=VR hz; omega⟩
 ·rintro i y ys s nx ⟨pre,hpp,hpi,hsl,hb,hs⟩ hnx
  have hy:y ∈ n.dB:=by rw [hpp]; simp
  obtain ⟨q1,q2⟩:=UT (hn.gn y hy).1;have hil:i<n.dB.length:=by rw [hpp]; simp; omega
  have hip:i<p.length:=by rw [hp.len]; exact hil
  have hpi2:=Ql hip;have hzip:=FG (y:=y) (pre:=pre) (p:=p) (v:=p[i]) (by rw [hpi]; exact hpi2)
  have hmem:(y,p[i]) ∈ n.dB.zip p:=by
   refine RC.2 ⟨i,by simp [hp.len]; omega,?_⟩
   rw [List.getElem_zip]
   congr 1
   have:n.dB[i]? = some y:=by rw [hpp,QX (by omega),hpi,RG]; rfl
   rw [Ql hil] at this;exact Qp this
  have he:=hp.each _ hmem;simp only at he;have hps:pos n y.Node<s.length:=by omega
  have hz:=hs _ (QY hps);have fin:Gd (nx (s.set ((pos n y.Node:Int)).toNat (i64.wrap (s[pos n y.Node]+p[i])))) (λx=>(x.2=4/\x.1=[])\/(x.2=0/\I7 n t x.1)):=by
   have hw:i64.wrap (s[pos n y.Node]+p[i])=s[pos n y.Node]+p[i]:=bV ⟨by omega,by omega⟩
   rw [hw,Qn];refine hnx _ ⟨pre++[y],by rw [hpp]; simp,by simp [hpi],by simp [hsl],λk=>?_,λz hz2=>?_⟩
   ·rw [Cb _ _ _ _ _ _ hps,hb k,hzip]
    unfold EY;rw [y9,QL];show _+(if yn n t y.Node=k then _ else _)=_
    split <;> omega
   ·rcases V0 hz2 with h1 | h1
    ·have:=hs z h1; omega
    ·subst h1; omega
  unfold tj;refine Gd.iH hip (Gd.ite (λh0=>?_) (λh0=>?_))
  ·exact Gd.bind_eq q1 (Gd.iH hps (Gd.iH hip (Gd.iH hps fin)))
  ·have h0:p[i]≠0:=QB h0
   refine Gd.iH hip (Gd.ite (λh1=>?_) (λ_=>Gd.iH hip (Gd.ite (λh1=>?_) (λ_=>Gd.bind_eq q1 (Gd.iH hps (Gd.iH hip (Gd.iH hps fin)))))))
   ·have:=Qr h1; omega
   ·have:=Qr h1; omega
 ·rintro i s ⟨pre,hpp,hpi,hsl,hb,hs⟩
  rw [Q5] at hpp;subst hpp;have hb2:∀ k,tC (D_ t) k 0 s=Ic n t k:=λk=>(hb k).trans (hp.O_ k);have hs2:∀ z ∈ s,-1000000<=z/\z<=1000000:=λz hz=>by have:=hs z hz; omega
  clear hb hs;refine Gd.dI (λi ys s'=>∃ pre,n.bS=pre++ys/\pre.length=i/\s'=s) ?_ ?_ n.bS 0 _ ⟨[],rfl,rfl,rfl⟩
  ·rintro i y ys s nx ⟨pre,hpp,hpi,rfl⟩ hnx
   have hy:y ∈ n.bS:=by rw [hpp]; simp
   obtain ⟨_,v2,v3⟩:=h.vt y hy;obtain ⟨q1,q2⟩:=UT v2;have hil:i<n.bS.length:=by rw [hpp]; simp; omega
   have hst:(List.replicate n.bS.length (0:Int))[i]? = some 0:=by rw [SZ,Qu hil]
   have hps:pos n y.Node<s.length:=by omega
   have hz:=hs2 _ (QY hps);have hch:0<=y.rB/\y.rB<=100000/\0<=y.Discharge/\y.Discharge<=100000:=by
    simp [Dn,aY,bM] at v3;omega
   have hw:i64.wrap (0-y.rB)=0-y.rB:=bV ⟨by omega,by omega⟩
   have hw2:i64.wrap (s[pos n y.Node]+0)=s[pos n y.Node]:=by rw [bV ⟨by omega,by omega⟩]; omega
   unfold tk;rw [hw];refine Gd.ix (by omega) (by rw [Qn]; exact hst) (Gd.ite (λh1=>?_) (λ_=>Gd.ix (by omega) (by rw [Qn]; exact hst) (Gd.ite (λh1=>?_) (λ_=>Gd.bind_eq q1 (Gd.iH hps (Gd.ix (by omega) (by rw [Qn]; exact hst) (Gd.iH hps ?_)))))))
   ·have:=Qr h1; omega
   ·have:=Qr h1; omega
   ·rw [hw2,Qn]
    exact hnx _ ⟨pre++[y],by rw [hpp]; simp,by simp [hpi],Cw (Ql hps)⟩
  ·rintro i _ ⟨_,_,_,rfl⟩
   refine Gd.dI (λi ys s'=>∃ pre,n.bC=pre++ys/\pre.length=i/\s'.length=n.bF.length/\(∀ k,tC (D_ t) k 0 s'=Ic n t k-acc aG.dA (λl:aG=>yn n t l.Node) k pre)/\∀ z ∈ s',-(1000000+100000*(i:Int))<=z/\z<=1000000) ?_ ?_ n.bC 0 _
    ⟨[],rfl,rfl,hsl,λk=>by rw [hb2 k]; show _=Ic n t k-0; omega,λz hz=>by have:=hs2 z hz; omega⟩
   ·rintro i y ys s' nx ⟨pre,hpp,hpi,hsl',hb',hs'⟩ hnx
    have hy:y ∈ n.bC:=by rw [hpp]; simp
    obtain ⟨q1,q2⟩:=UT (hn.ld y hy).1;have hd:=(hn.ld y hy).2;have hil:i<n.bC.length:=by rw [hpp]; simp; omega
    have hps:pos n y.Node<s'.length:=by omega
    have hz:=hs' _ (QY hps);have hw:i64.wrap (s'[pos n y.Node]-y.dA)=s'[pos n y.Node]-y.dA:=bV ⟨by omega,by omega⟩
    unfold tl;refine Gd.bind_eq q1 (Gd.iH hps (Gd.iH hps ?_));rw [hw,Qn];refine hnx _ ⟨pre++[y],by rw [hpp]; simp,by simp [hpi],by simp [hsl'],λk=>?_,λz hz2=>?_⟩
    ·rw [Cb _ _ _ _ _ _ hps,hb' k,y9,QL]
     show _+(if yn n t y.Node=k then _ else _)=_
     split <;> omega
    ·rcases V0 hz2 with h1 | h1
     ·have:=hs' z h1; omega
     ·subst h1; omega
   ·rintro i s' ⟨pre,hpp,hpi,hsl',hb',hs'⟩
    rw [Q5] at hpp;subst hpp;refine Gd.dI (λi ys _=>∃ pre,s'=pre++ys/\∀ z ∈ pre,-100000<=z/\z<=100000) ?_ ?_ s' 0 _ ⟨[],rfl,λz hz=>by simp at hz⟩
    ·rintro i y ys _ nx ⟨pre,hpp,hr⟩ hnx
     unfold tn;refine Gd.ite (λ_=>Gd.ret (.inl ⟨rfl,rfl⟩)) (λh1=>hnx () ⟨pre++[y],by rw [hpp]; simp,λz hz=>?_⟩)
     simp only [VC,Xc] at h1;rcases QC.1 hz with h2 | h2
     ·exact hr z h2
     ·rw [QZ] at h2
      subst h2; omega
    ·rintro i _ ⟨pre,hpp,hr⟩
     rw [Q5] at hpp;subst hpp;exact Gd.ret (.inr ⟨rfl,hsl',hr,λk=>by rw [hb' k]; show Ic n t k-Ic n t k=0; omega⟩)
theorem Ip {n:Net}{t:aZ} (h:pz n) (hn:pJ n) (hg:dZ n=some t) (ht:uR n t) (hc:cA n=some 0):
  Gd (fS n) (λx=>(x.2≠0/\x.1=[])\/(x.2=0/\I7 n t x.1)):=by
 have l6:=h.l6;unfold fS;refine Gd.eQ (Ir hn hg ht hc) (λx hx=>?_);rcases hx with ⟨e,_⟩ | ⟨e,hb⟩
 ·rw [e]
  exact Gd.ite (λ_=>Gd.ret (.inl ⟨by simp,rfl⟩)) (λh=>by simp at h)
 ·rw [e]
  refine Gd.ite (λh=>by simp at h) (λ_=>Gd.nd (by omega) ?_)
  rw [Qn];refine Gd.eQ (F_ h hn hg ht hc hb) (λy hy=>Gd.ret ?_);rcases hy with ⟨e1,e2⟩ | hy
  ·exact .inl ⟨by simp only; omega,e2⟩
  ·exact .inr hy
theorem Ij {n:Net}{t:aZ} (hg:dZ n=some t) (ht:uR n t) (hn:pJ n) (hc:cA n=some 0) {p:List Int} (hp:I7 n t p):nH n p=some 0:=by
 have l1:=hn.l1;rw [<- Gd.eq];unfold nH;refine Gd.bind_eq hc (Gd.ite (λh=>by simp at h) (λ_=>Gd.ite (λh=>absurd h (by simp [hp.len])) (λ_=>Gd.bind_eq hg ?_)))
 refine Gd.dI (λi ys (l:List (Int×Int))=>∃ pre,p=pre++ys/\pre.length=i/\Eo l/\(∀ z ∈ l,∃ k:Nat,z.1=(k:Int))/\∀ k:Nat,(rL l (k:Int)).getD 0=tC (D_ t) k 0 pre) ?_ ?_ p 0 _ ⟨[],rfl,rfl,Eo.nil,λz hz=>by simp at hz,λk=>by simp [rL,wH,tC]⟩
 ·rintro i y ys l nx ⟨pre,hpp,hpi,hk,hkey,hs⟩ hnx
  have hy:=hp.K6 y (by rw [hpp]; simp)
  have hpl:p.length=pre.length+(ys.length+1):=by rw [hpp]; simp
  have hpn:=hp.len;obtain ⟨v,v1,v2,v3,v4⟩:=Gx ht (show i<n.bF.length by omega)
  have hbd:=Hl (D_ t) (D_ t i) (B:=100000) (by omega) pre 0 (λz hz=>hp.K6 z (by rw [hpp]; simp [hz]))
  have hw:i64.wrap ((rL l (D_ t i:Int)).getD 0+y)=(rL l (D_ t i:Int)).getD 0+y:=by
   rw [hs (D_ t i)];exact bV ⟨by omega,by omega⟩
  unfold t_;refine Gd.ite (λh=>?_) (λ_=>Gd.ix (by omega) (by rw [Qn]; exact v1) (Gd.ix (by omega) (by rw [Qn]; exact v3) ?_))
  ·exfalso
   simp only [RZ,Q9] at h;omega
  ·rw [hw]
   refine hnx _ ⟨pre++[y],by rw [hpp]; simp,by simp [hpi],(hk.put _ _).1,λz hz=>?_,λk=>?_⟩
   ·rcases ((hk.put _ _).2 z).1 hz with h1 | h1
    ·exact ⟨D_ t i,by rw [h1]⟩
    ·exact hkey z h1.1
   ·rw [hk.Ha,Fa]
    show _=_+((if D_ t (0+pre.length)=k then y else 0)+0)
    rw [QL,hpi]
    by_cases e:D_ t i=k
    ·subst e
     rw [Qu rfl,Qu rfl,Sp,hs]; omega
    ·rw [Qs (by omega),Qs e,hs]; omega
 ·rintro i l ⟨pre,hpp,hpi,hk,hkey,hs⟩
  rw [Q5] at hpp;subst hpp;have:(l.any λp=>!decide (p.2=0))=false:=by
   rw [List.any_eq_false];intro z hz;obtain ⟨k,hk2⟩:=hkey z hz;have h1:rL l (k:Int)=some z.2:=hk.find.2 (by rw [<- hk2]; exact hz)
   have h2:=hs k;rw [h1,Sp,hp.O_ k] at h2;simp [h2]
  rw [this];exact Gd.ret rfl
theorem KX (l:List Qi):fE l l=some true:=by
 rw [<- Gd.eq];unfold fE;refine Gd.ite (λh=>by simp at h) (λ_=>?_)
 refine Gd.kL (Q:=λx=>x=true) (λm i (_:Unit)=>i+m=l.length) ?_ (λ_ _ _=>Gd.ret rfl) ((l.length:Int)).toNat 0 () (by omega)
 intro m i _ nx hi hnx;unfold lz;exact Gd.iH (by omega) (Gd.iH (by omega) (Gd.ite (λh=>by simp at h) (λ_=>hnx () (by omega))))
theorem ER {s:Qi} (h:∃ q,fits q/\s=ctext q):s.size<=maxLen:=by
 obtain ⟨q,hq,rfl⟩:=h;have:=F2 hq;unfold maxLen; omega
theorem IU {n:Net}{p:List Int} (h:pz n) (hn:pJ n) {t:aZ} (hg:dZ n=some t) (ht:uR n t) (hc:nH n p=some 0) {s:cG} (hs:MY n t s) (hr:nJ n p=some (s,0)):pB n p s=some 0:=by
 have hN:=ht.I_;have h24:=h.l3;rw [<- Gd.eq];unfold pB;refine Gd.bind_eq hc (Gd.ite (λh=>by simp at h) (λ_=>?_))
 refine Gd.eQ (E_ h hn hg ht) ?_;rintro _ ⟨M,rfl,hM⟩;simp only [Am];unfold c_;rw [hM.top,hs.al,hs.fl];refine Gd.ite (λ_=>Gd.ite (λh=>by simp at h) (λ_=>?_)) (λh=>by simp at h)
 refine Gd.seen (l:=[s.eP,s.gK]) (λ_ _=>True) ?_ ?_ () Qk
 ·rintro i y _ nx pre hpre _ hnx
  have hy:=(vU hpre).2.1;unfold tr;have hcv:lG y=some 0:=by
   rw [<- Gd.eq];have hlen:y.length<=24/\∀ x ∈ y,∃ q,fits q/\x=ctext q:=by
    rcases Q8.1 hy with rfl | hy
    ·exact ⟨by rw [hs.al]; exact hN,hs.a⟩
    ·rw [QZ] at hy
     subst hy;exact ⟨by rw [hs.fl]; exact h24,hs.f⟩
   unfold lG;refine Gd.ite (λh=>absurd (Qr h) (by omega)) (λ_=>Gd.eQ (AD (λx hx=>ER (hlen.2 x hx))) (λc hc=>Gd.ret (hc.2 hlen.2)))
  exact Gd.bind_eq hcv (Gd.ite (λh=>by simp at h) (λ_=>hnx () Qk))
 ·rintro _ _
  refine Gd.bind_eq hr (Gd.ite (λ_=>?_) (λh=>by simp at h))
  exact Gd.bind_eq (KX _) (Gd.ite (λ_=>Gd.bind_eq (KX _) (Gd.ite (λh=>by simp at h) (λ_=>Gd.ret rfl))) (λh=>by simp at h))
theorem wM (n:Net) (hz:pD n):(∃ e,e≠0/\fS n=some ([],e)) \/
  (∃ t p s,pz n/\pJ n/\dZ n=some t/\uR n t/\I7 n t p/\fS n=some (p,0)/\nH n p=some 0/\nJ n p=some (s,0)/\MY n t s/\pB n p s=some 0):=by
 obtain ⟨e,he,hok⟩:=Vv n hz
 by_cases h0:e=0
 ·subst h0
  have hV:=hok rfl;have hn:=hV.ok hz;obtain ⟨t,hg,ht⟩:=Mf hn;obtain ⟨⟨p,x⟩,hi,hx⟩:=Ip hV hn hg ht he;rcases hx with ⟨hne,hp⟩ | ⟨hx,hb⟩
  ·left
   simp only at hne hp;subst hp;exact ⟨x,hne,hi⟩
  ·right
   simp only at hx hb;subst hx;have hc:=Ij hg ht hn he hb;obtain ⟨⟨s,y⟩,hs,hy,hst⟩:=KN hV hn hg ht hb.len hb.K6 hc;simp only at hy hst;subst hy;exact ⟨t,p,s,hV,hn,hg,ht,hb,hi,hc,hs,hst,IU hV hn hg ht hc hst hs⟩
 ·left
  refine ⟨e,h0,?_⟩;have hsh:mW n=some ([],e):=by
   rw [<- Gd.eq];unfold mW;exact Gd.bind_eq he (Gd.ite (λ_=>Gd.ret rfl) (λh=>absurd (by simpa using h) h0))
  rw [<- Gd.eq];unfold fS;exact Gd.bind_eq hsh (Gd.ite (λ_=>Gd.ret rfl) (λh=>absurd (by simpa using h) h0))
instance Pl (p:Qi) (l:List Qi):Decidable (p ∈ l):=@List.instDecidableMemOfLawfulBEq _ instBEqOfDecidableEq inferInstance p l
theorem rU (l:List Qi) (p:Qi):bO l p=some (decide (p ∈ l)):=by
 obtain ⟨b,e,h⟩:=uD l p;rw [e]
 congr 1
 cases b <;> simp_all
theorem BL {α:Type} (p:α->Option Bool) (kp:α->Bool) (hp:∀ x,p x=some (!kp x)) (z:α) (A:List α) (hA:A.length<=100000):
  Gd ((kL (λk (_:Unit) n=>idx A (k:Int) λy=>(p y).bind λr=>if r then (some (k:Int)) else (n ())) (λ_=>some (-1)) ((A.length:Int)).toNat 0 ()).bind λr=>
   if decide (r=(-1)) then (some A) else (iN (λ(s:List α×Int×Int) n=>if decide (s.2.2<(s.1.length:Int)) then (idx s.1 s.2.2 λy=>(p y).bind λr=>if !r then (idx s.1 s.2.1 λ_=>n (s.1.set (s.2.1).toNat y,i64.wrap (s.2.1+1),i64.wrap (s.2.2+1))) else (n (s.1,s.2.1,i64.wrap (s.2.2+1))))
    else (cZ (0<=s.2.1/\s.2.1<=(s.1.length:Int)) (cZ (0<=s.2.1/\s.2.1<=((s.1.take (s.2.1).toNat++List.replicate (s.1.length-(s.2.1).toNat) z).length:Int)) (some (r8 (s.1.take (s.2.1).toNat++List.replicate (s.1.length-(s.2.1).toNat) z) 0 (s.2.1).toNat))))) fY (A,r,i64.wrap (r+1)))) (λr=>r=A.filter kp):=by
 refine Gd.eQ (P:=λr=>(r = -1/\∀ x ∈ A,kp x=true)\/∃ (i:Nat) (h:i<A.length),r=i/\kp A[i]=false/\∀ x ∈ A.take i,kp x=true) ?_ (λr hr=>?_)
 ·refine Gd.kL (λm i _=>i+m=A.length/\∀ x ∈ A.take i,kp x=true) ?_ ?_ (A.length:Int).toNat 0 () ⟨by omega,by simp⟩
  ·intro m i _ nx ⟨hi,hno⟩ hnx
   have hlt:i<A.length:=by omega
   refine Gd.iH hlt ?_;rw [hp];refine Gd.ite (λh=>Gd.ret (.inr ⟨i,hlt,rfl,by simpa using h,hno⟩)) (λh=>hnx () ⟨by omega,?_⟩)
   rw [QO hlt];intro x hx;rcases QC.1 hx with hx | hx
   ·exact hno x hx
   ·simp at hx; subst hx; simpa using h
  ·intro i _ ⟨hi,hno⟩
   rw [QD (by omega)] at hno
   exact Gd.ret (.inl ⟨rfl,hno⟩)
 ·rcases hr with ⟨rfl,hall⟩ | ⟨i,hi,rfl,hki,hpre⟩
  ·exact Gd.ite (λ_=>Gd.ret (Vr.2 hall).symm) (λh=>by simp at h)
  ·refine Gd.ite (λh=>by simp at h) (λ_=>?_)
   have hw0:i64.wrap ((i:Int)+1)=((i+1:Nat):Int):=by rw [bV ⟨by omega,by omega⟩]; omega
   rw [hw0];have hinit:A.take i=(A.take (i+1)).filter kp:=by
    rw [QO hi,Te,Vr.2 hpre];simp [VS,hki]
   refine Gd.iN (λ(s:List α×Int×Int)=>∃ p q:Nat,s.2.1=p/\s.2.2=q/\p<q/\q<=A.length/\s.1.length=A.length/\s.1.take p=(A.take q).filter kp/\s.1.drop q=A.drop q) (λs=>A.length-s.2.2.toNat) ?_ fY _ ⟨i,i+1,rfl,rfl,by omega,by omega,rfl,hinit,rfl⟩ (by unfold fY; omega)
   rintro ⟨l,n1,n2⟩ nx ⟨p,q,h1,h2,hpq,hqA,hl,htk,hdr⟩ hn;simp only at h1 h2 hl htk hdr;subst h1; subst h2
   have hwq:i64.wrap ((q:Int)+1)=((q+1:Nat):Int):=by rw [bV ⟨by omega,by omega⟩]; omega
   have hwp:i64.wrap ((p:Int)+1)=((p+1:Nat):Int):=by rw [bV ⟨by omega,by omega⟩]; omega
   rw [hwq];refine Gd.ite (λh=>?_) (λh=>?_)
   ·have hq:q<l.length:=by
     have:(q:Int)<((l.length:Nat):Int):=by simpa using h
     omega
    have hqa:q<A.length:=by omega
    have hv:l[q]=A[q]:=by
     have e1:=QV hq;have e2:=QV hqa;rw [hdr,e2] at e1;exact (VO e1).1.symm
    have hd2:l.drop (q+1)=A.drop (q+1):=by
     have:=Q6 (List.drop 1) hdr;simpa [Sa] using this
    have htk2:(A.take (q+1)).filter kp=(A.take q).filter kp++(if kp A[q] then [A[q]] else []):=by
     rw [QO hqa,Te]
     congr 1
     simp only [VS,List.filter_nil]
    refine Gd.iH hq ?_;rw [hp,hv];refine Gd.ite (λhk=>Gd.iH (show p<l.length by omega) ?_) (λhk=>?_)
    ·have hk:kp A[q]=true:=by simpa using hk
     rw [hwp,Qn];refine hn _ ⟨p+1,q+1,rfl,rfl,by omega,by omega,by simpa using hl,?_,?_⟩ (by simp only [Qn]; omega)
     ·simp only
      have hp:p<(l.set p A[q]).length:=by simp; omega
      rw [QO hp,List.getElem_set_self,htk2,Qu hk,Tn (QI p),htk]
     ·simp only
      rw [S3 (by omega),hd2]
    ·have hk:kp A[q]=false:=by simpa using hk
     refine hn _ ⟨p,q+1,rfl,rfl,by omega,by omega,hl,?_,hd2⟩ (by simp only [Qn]; omega)
     simp only;rw [htk2,Qs (by simp [hk]),Q5,htk]
   ·have hq:l.length<=q:=by
     have:((l.length:Nat):Int)<=(q:Int):=by simpa using h
     omega
    have hqe:q=A.length:=by omega
    refine Gd.nd ⟨VJ p,show (p:Int)<=((l.length:Nat):Int) by omega⟩ (Gd.nd ⟨VJ p,?_⟩ (Gd.ret ?_))
    ·simp only [Qn,QE,QN,RE]; omega
    ·unfold r8
     rw [RI,Tv,Qn,List.take_append_of_le_length (by simp; omega),UW,Nat.min_self,htk,hqe,Sc]
def E3 (W:List BA) (x:aG):Bool:=decide (x.Name ∈ W)
theorem del_eq (W:List BA) (x:aG):mo x W=some (!E3 W x):=by
 unfold mo;rw [rU]; rfl
theorem F3 (W:List BA) (A:List aG) (hA:A.length<=1000):Gd (dW A W) (λr=>r=A.filter (E3 W)):=
 BL (λy=>mo y W) (E3 W) (del_eq W) (aG.mk ⟨#[]⟩ ⟨#[]⟩ 0) A (by omega)
theorem IN {l:List Qi}{k:Nat}:r8 l 0 k=l.take k:=by unfold r8; simp
theorem IW {n:Net} (hz:pD n) (on:List Qi):Gd (eF n on) (λe=>e=0->cA n=some 0):=by
 obtain ⟨e,he,_⟩:=Vv n hz;unfold eF;refine Gd.bind_eq he (Gd.ite (λh=>Gd.ret (λh0=>by subst h0; simp at h)) (λh=>?_))
 have h0:e=0:=by simpa using h
 subst h0;refine Gd.dI (Q:=λe=>e=0->cA n=some 0) (λi (ys:List Qi) (_:Unit)=>i+ys.length=on.length) ?_ (λ_ _ _=>Gd.ret (λ_=>he)) on 0 () (by simp)
 intro i y ys _ nx hi hnx;simp only [Qy] at hi;unfold qd;refine Gd.eQ (P:=λ_=>True) ?_ (λb _=>Gd.ite (λ_=>Gd.ret (λh=>by simp at h)) (λ_=>?_))
 ·unfold cL cP
  refine Gd.eQ (P:=λ_=>True) ?_ (λ_ _=>Gd.ret Qk);refine Gd.kL (Q:=λ_=>True) (λm i (_:Unit)=>i+m=n.bC.length) ?_ (λ_ _ _=>Gd.ret Qk) ((n.bC.length:Int)).toNat 0 () (by omega)
  intro m i _ nx hi hnx;unfold dM;exact Gd.iH (by omega) (Gd.ite (λ_=>Gd.ret Qk) (λ_=>hnx () (by omega)))
 ·refine Gd.nd (by omega) ?_
  rw [rU];exact Gd.ite (λ_=>Gd.ret (λh=>by simp at h)) (λ_=>hnx () (by omega))
def qW (n:Net) (on:List Qi):Net:=aD.mk n.bF n.aN n.aI n.dB (n.bC.filter (E3 on)) n.bS
theorem HH {n:Net} (h:pz n) (on:List Qi):pN n on=some (qW n on):=by
 have:=h.l1; have:=h.l2; have:=h.l3; have:=h.l4; have:=h.l5; have:=h.l6
 rw [<- Gd.eq];unfold pN kz;refine Gd.eQ (P:=λr=>r=n) (Gd.nd (by omega) (Gd.nd (by omega) (Gd.nd (by omega) (Gd.nd (by omega) (Gd.nd (by omega) (Gd.nd (by omega) (Gd.ret rfl))))))) (λr hr=>?_)
 subst hr;refine Gd.eQ (F3 on r.bC (by omega)) (λl hl=>Gd.ret ?_)
 rw [hl]; rfl
theorem pD.qW {n:Net} (h:pD n) (on:List Qi):pD (qW n on):=
 ⟨h.nd,h.sw,h.br,h.gn,λx hx=>h.ld x (Rn.1 hx).1,h.st⟩
theorem Ld {n:Net}{on:List Qi}{e:Int} (h:eF n on=some e) (h0:e≠0):lI n on=some (aD.mk [] [] [] [] [] [],e):=by
 rw [<- Gd.eq];unfold lI;exact Gd.bind_eq h (Gd.ite (λ_=>Gd.ret rfl) (λk=>absurd (by simpa using k) h0))
theorem A0 {n:Net} (hV:pz n) {on:List Qi} (h:eF n on=some 0):lI n on=some (qW n on,0):=by
 rw [<- Gd.eq];unfold lI;exact Gd.bind_eq h (Gd.ite (λk=>by simp at k) (λ_=>Gd.bind_eq (HH hV on) (Gd.ret rfl)))
def Af (z:aP×Rat):Prop:=(z.1.sC:Rat)<NF z.2
open Classical in
noncomputable def yu (z:aP×Rat):List Qi:=if Af z then [z.1.Name] else []
theorem Ao {z:aP×Rat} (h:Af z):yu z=[z.1.Name]:=Qu h
theorem Cn {z:aP×Rat} (h:¬ Af z):yu z=[]:=Qs h
theorem Hy:∀ {l:List Qi},(∀ x ∈ l,∃ q,fits q/\x=ctext q)->∃ qs:List Rat,l=qs.map ctext/\∀ q ∈ qs,fits q
 | [],_=>⟨[],rfl,λq h=>by cases h⟩
 | x::l,h=>by
  obtain ⟨q,hq,rfl⟩:=h x (Qq ..);obtain ⟨qs,rfl,hf⟩:=Hy (l:=l) (λy hy=>h y (Qw _ hy));refine ⟨q::qs,rfl,λp hp=>?_⟩;rcases Q8.1 hp with rfl | hp
  ·exact hq
  ·exact hf p hp
theorem K4 {bs:List aP}{qs:List Rat}{i:Nat} (h:i<bs.length) (h':i<qs.length):
  ((bs.zip qs).take (i+1)).flatMap yu=((bs.zip qs).take i).flatMap yu++yu (bs[i],qs[i]):=by
 have hz:i<(bs.zip qs).length:=by simp; omega
 rw [QO hz,TN,List.getElem_zip];simp
theorem D7 {n:Net} (hV:pz n) {qs:List Rat} (hl:qs.length=n.aI.length) (hf:∀ q ∈ qs,fits q):
  ob n (qs.map ctext)=some ((n.aI.zip qs).flatMap yu):=by
 have h3:=hV.l3;rw [<- Gd.eq];unfold ob;refine Gd.dI (λi (ys:List aP) (w:List Qi)=>i+ys.length=n.aI.length/\n.aI.drop i=ys/\w.length<=i/\w=((n.aI.zip qs).take i).flatMap yu) ?_ ?_ n.aI 0 [] ⟨by simp,rfl,by simp,by simp⟩
 ·rintro i y ys w nx ⟨hi,hd,hw,hv⟩ hnx
  simp only [Qy] at hi;have hib:i<n.aI.length:=by omega
  have hiq:i<qs.length:=by omega
  have hy:n.aI[i]=y:=by
   have e:=QV hib;rw [hd] at e; exact (VO e).1.symm
  have hd':n.aI.drop (i+1)=ys:=by
   have:=Q6 (List.drop 1) hd;simpa [Sa] using this
  have hL:=(HV hV (QY hib)).l;have hst:=K4 hib hiq;rw [<- hv] at hst;unfold sO pf;refine Gd.iH (by simpa using hiq) ?_
  rw [SA];refine Gd.eQ (Fm (hf _ (QY hiq))) (λa ha=>Gd.eQ (Hz ha.1 ha.2.1 (by omega)) (λb hb=>?_))
  rw [<- hy];refine Gd.eQ (vm ⟨by omega,by omega⟩) (λc hc=>Gd.eQ (Ec hb.1 hc.1 hb.2.1 hc.2.1 (by omega)) (λd hd2=>?_))
  rw [hb.2.2,hc.2.2,ha.2.2] at hd2;have hov:0<d↔Af (n.aI[i],qs[i]):=hd2.1;clear hd2;refine Gd.ite (λh=>Gd.nd ?_ (hnx _ ⟨by omega,hd',?_,?_⟩)) (λh=>hnx _ ⟨by omega,hd',by omega,?_⟩)
  ·simp only [Qy,VY]; omega
  ·simp; omega
  ·rw [hst,Ao (hov.1 (Qr h))]
  ·rw [hst,Cn (λk=>QB h (hov.2 k)),Q5]
 ·rintro i w ⟨hi,_,_,hv⟩
  rw [QD (by simp at hi ⊢; omega)] at hv
  exact Gd.ret hv
theorem Gv {c:Net} (hz:pD c):∃ e,lY c=some e:=by
 suffices h:Gd (lY c) (λ_=>True) by
  obtain ⟨e,he,_⟩:=h;exact ⟨e,he⟩
 unfold lY;refine Gd.eQ (P:=λ_=>True) ?_ (λr _=>Gd.ite (λ_=>Gd.ret Qk) (λ_=>Gd.ret Qk));unfold gM;rcases wM c hz with ⟨x,hx,hi⟩ | ⟨t,p,s,hV,hn,hg,ht,hb,hi,hfc,hs,hst,hv⟩
 ·exact Gd.bind_eq hi (Gd.ite (λ_=>Gd.ret Qk) (λk=>absurd (by simpa using k) hx))
 ·obtain ⟨qs,hq,hqf⟩:=Hy hst.f
  have hql:qs.length=c.aI.length:=by
   have:=hst.fl;rw [hq,Sj] at this;exact this
  have ho:=D7 hV (qs:=qs) hql hqf;rw [<- hq] at ho;exact Gd.bind_eq hi (Gd.ite (λk=>by simp at k) (λ_=>Gd.bind_eq hs (Gd.ite (λk=>by simp at k) (λ_=>Gd.bind_eq ho (Gd.ret Qk)))))
def Cj (n:Net) (l:List Qi):Prop:=lY (qW n l)=some 0
def nm (n:Net):List Qi:=n.bC.map (·.Name)
theorem Fg {n:Net} (h:pz n):(nm n).Nodup:=by
 have:=h.nd;unfold names at this;exact (Rg.1 (Rg.1 this).1).2.1
theorem xL (n:Net):(nm n).length=n.bC.length:=by simp [nm]
theorem KK (l:List Qi):r8 l 0 ((l.length:Int)).toNat=l:=by simp [r8]
structure Found (n:Net) (l out:List Qi):Prop where
 ext:out.take l.length=l
 len:out.length=n.bC.length
 ok:∀ k,l.length<=k->k<=out.length->Cj n (out.take k)
 set:l.Nodup->(∀ x ∈ l,x ∈ nm n)->out.Nodup/\∀ x ∈ out,x ∈ nm n

theorem Je {n:Net}{on:List Qi}{e:Int} (h:eF n on=some e) (h0:e≠0):eB n on=some (cG.mk [] [],[],e):=by
 rw [<- Gd.eq];unfold eB;exact Gd.bind_eq (Ld h h0) (Gd.ite (λ_=>Gd.ret rfl) (λk=>absurd (by simpa using k) h0))
theorem HN {n:Net} (hV:pz n) {on:List Qi} (h:eF n on=some 0) {e:Int} (h0:e≠0) (hi:fS (qW n on)=some ([],e)):
  eB n on=some (cG.mk [] [],[],e):=by
 rw [<- Gd.eq];unfold eB gM;exact Gd.bind_eq (A0 hV h) (Gd.ite (λk=>by simp at k) (λ_=>Gd.eQ (P:=λr=>r=(cG.mk [] [],[],e)) (Gd.bind_eq hi (Gd.ite (λ_=>Gd.ret rfl) (λk=>absurd (by simpa using k) h0))) (λr hr=>by subst hr; exact Gd.ret rfl)))
theorem Jf {n:Net} (hV:pz n) {on:List Qi} (h:eF n on=some 0) {p:List Int}{s:cG}{ov:List Qi}
  (hi:fS (qW n on)=some (p,0)) (hs:nJ (qW n on) p=some (s,0)) (ho:ob (qW n on) s.gK=some ov):
  eB n on=some (s,ov,0):=by
 rw [<- Gd.eq];unfold eB gM;exact Gd.bind_eq (A0 hV h) (Gd.ite (λk=>by simp at k) (λ_=>Gd.eQ (P:=λr=>r=(s,ov,0)) (Gd.bind_eq hi (Gd.ite (λk=>by simp at k) (λ_=>Gd.bind_eq hs (Gd.ite (λk=>by simp at k) (λ_=>Gd.bind_eq ho (Gd.ret rfl)))))) (λr hr=>by subst hr; exact Gd.ret rfl)))
theorem seq_eq (l:List Qi):fT l l=some true:=by
 rw [<- Gd.eq];unfold fT;refine Gd.ite (λh=>by simp at h) (λ_=>?_)
 refine Gd.kL (Q:=λx=>x=true) (λm i (_:Unit)=>i+m=l.length) ?_ (λ_ _ _=>Gd.ret rfl) ((l.length:Int)).toNat 0 () (by omega)
 intro m i _ nx hi hnx;unfold l9;exact Gd.iH (by omega) (Gd.iH (by omega) (Gd.ite (λh=>by simp at h) (λ_=>hnx () (by omega))))
theorem IX {n:Net} (hc:cA n=some 0) (l:List Qi) (hl:l.length<=1000) (hnd:l.Nodup) (hs:∀ x ∈ l,x ∈ nm n):eF n l=some 0:=by
 rw [<- Gd.eq];unfold eF;refine Gd.bind_eq hc (Gd.ite (λh=>by simp at h) (λ_=>?_))
 refine Gd.dI (Q:=λe=>e=0) (λi (ys:List Qi) (_:Unit)=>i+ys.length=l.length/\l.drop i=ys) ?_ (λ_ _ _=>Gd.ret rfl) l 0 () ⟨by simp,rfl⟩
 rintro i y ys _ nx ⟨hi,hd⟩ hnx;simp only [Qy] at hi;have hil:i<l.length:=by omega
 have hy:l[i]=y:=by
  have e:=QV hil;rw [hd] at e; exact (VO e).1.symm
 have hd':l.drop (i+1)=ys:=by
  have:=Q6 (List.drop 1) hd;simpa [Sa] using this
 have hmem:y ∈ nm n:=hs y (hy▸QY hil);obtain ⟨q,hq,hqy⟩:=RC.1 hmem;rw [xL] at hq;have hqy:n.bC[q].Name=y:=by simpa [nm] using hqy
 unfold qd;refine Gd.eQ (P:=λb=>b=true) ?_ (λb hb=>?_)
 ·unfold cL cP
  refine Gd.eQ (P:=λr=>(0:Int)<=r) ?_ (λr hr=>Gd.ret (by simpa using hr))
  refine Gd.kL (Q:=λr=>(0:Int)<=r) (λm i (_:Unit)=>i+m=n.bC.length/\i<=q) ?_ (λi _ h=>by omega) ((n.bC.length:Int)).toNat 0 () ⟨by omega,by omega⟩
  rintro m i _ nx ⟨hi,hiq⟩ hnx;unfold dM;refine Gd.iH (by omega) (Gd.ite (λ_=>Gd.ret (by omega)) (λh=>hnx () ⟨by omega,?_⟩))
  refine Nat.lt_of_le_of_ne hiq (λe=>?_);subst e;simp [pd,hqy] at h
 ·subst hb
  refine Gd.ite (λh=>by simp at h) (λ_=>Gd.nd (by omega) ?_)
  rw [rU,IN,Qn];refine Gd.ite (λh=>?_) (λ_=>hnx () ⟨by omega,hd'⟩)
  exfalso;have h:=Qr h;obtain ⟨p,hp,hp2⟩:=List.mem_take_iff_getElem.1 h;rw [<- hy] at hp2;have:p=i:=(List.getElem_inj hnd).1 hp2;omega
def wB (off:List BA) (x:BA):Bool:=!decide (x ∈ off)
theorem LP (off:List BA) (x:BA):jX x off=some (!wB off x):=by
 unfold jX wB;rw [rU,Bool.not_not]; rfl
theorem IH (off A:List BA) (hA:A.length<=1000):Gd (dX A off) (λr=>r=A.filter (wB off)):=
 BL (λy=>jX y off) (wB off) (LP off) ⟨#[]⟩ A (by omega)
def CL (n:Net) (names off:List BA):Prop:=Cj n (names.filter (wB off))
theorem HR {n:Net} (hz:pD n) (hV:pz n) (names off:List BA) (hl:names.length<=1000):Gd (oa off names n) (λb=>b=true↔CL n names off):=by
 unfold oa;refine Gd.nd (by omega) (Gd.eQ (IH off names hl) (λr hr=>?_))
 subst hr;obtain ⟨e,he⟩:=Gv (hz.qW (names.filter (wB off)));refine Gd.bind_eq (HH hV _) (Gd.bind_eq he (Gd.ret ?_));unfold CL Cj;rw [he];constructor
 ·intro h; rw [Qr h]
 ·intro h; exact Xd (Qp h)
theorem KP {y:BA}{s L:List BA}{m:Nat} (h:s.Sublist (y::L)) (hl:s.length=m+1):s.Sublist L\/∃ s',s=y::s'/\s'.Sublist L/\s'.length=m:=by
 cases h with
 | cons _ h=>exact .inl h
 | cons_cons _ h=>exact .inr ⟨_,rfl,h,by simpa using hl⟩
theorem BI {n:Net} (hz:pD n) (hV:pz n) (names:List BA) (hl:names.length<=12):∀ (m:Nat) (off:List BA) (i:Nat),off.length+m<=1000->i<=names.length->∀ f,m<f ->
  Gd (dO f names off (i:Int) (m:Int) names n) (λr=>
   (r.2=true->∃ s,r.1=off++s/\s.Sublist (names.drop i)/\s.length=m/\CL n names r.1) /\
   (r.2=false->∀ s,s.Sublist (names.drop i)->s.length=m->¬ CL n names (off++s)))
 | m,off,i,ho,hi,0,hf=>by omega
 | m,off,i,ho,hi,f+1,hf=>by
  show Gd (eJ (dO f) names off i m names n) _;unfold eJ;refine Gd.ite (λh=>?_) (λh=>?_)
  ·have hm:m=0:=by have:=Qr h; omega
   subst hm;refine Gd.eQ (HR hz hV names off (by omega)) (λb hb=>Gd.ret ⟨λh=>⟨[],by simp,by simp,rfl,hb.1 h⟩,λh s hs h0 ha=>?_⟩)
   have hs0:=QU h0;subst hs0;rw [Q5] at ha;have:=hb.2 ha;simp only at h;rw [h] at this; cases this
  ·obtain ⟨k,rfl⟩:∃ k,m=k+1:=⟨m-1,by have:=QB h; omega⟩
   have hwm:i64.wrap (((k+1:Nat):Int)-1)=(k:Int):=by rw [bV ⟨by omega,by omega⟩]; omega
   refine Gd.iN (λ(s:Int)=>∃ j:Nat,s=j/\i<=j/\j<=names.length/\∀ s,s.Sublist (names.drop i)->s.length=k+1->¬ CL n names (off++s)\/s.Sublist (names.drop j)) (λs=>names.length-s.toNat) ?_ fY _ ⟨i,rfl,QI _,hi,λs hs _=>.inr hs⟩ (by unfold fY; omega)
   rintro _ nx ⟨j,rfl,hij,hj,hI⟩ hn;unfold jY;refine Gd.ite (λh=>?_) (λh=>Gd.ret ⟨λh=>by simp at h,λ_ s hs hs1 ha=>?_⟩)
   ·have hjl:j<names.length:=by have:=Qr h; omega
    have hwj:i64.wrap ((j:Int)+1)=((j+1:Nat):Int):=by rw [bV ⟨by omega,by omega⟩]; omega
    have hd:=QV hjl;rw [hwj,hwm];refine Gd.nd (by omega) (Gd.iH hjl ?_)
    rw [KK];refine Gd.nd (by simp only [Qy,VY]; omega) ?_
    refine Gd.eQ (BI hz hV names hl k (off++[names[j]]) (j+1) (by simp; omega) hjl f (by omega)) (λr hr=>Gd.ite (λh=>Gd.ret ⟨λ_=>?_,λh=>by simp at h⟩) (λh=>hn _ ⟨j+1,rfl,by omega,hjl,λs hs hs1=>?_⟩ (by simp only [Qn]; omega)))
    ·obtain ⟨s,h1,h2,h3,h4⟩:=hr.1 h
     refine ⟨names[j]::s,by simp [h1],?_,by simp [h3],h4⟩
     refine (h2.cons_cons _).trans ?_;rw [<- hd];obtain ⟨d,rfl⟩:∃ d,j=i+d:=⟨j-i,by omega⟩
     rw [<- Sa];exact List.drop_sublist _ _
    ·rcases hI s hs hs1 with h' | h'
     ·exact .inl h'
     ·rw [hd] at h'
      rcases KP h' hs1 with h' | ⟨s',rfl,h2,h3⟩
      ·exact .inr h'
      ·have:=hr.2 h s' h2 h3
       rw [QR] at this;exact .inl this
   ·have hjl:j=names.length:=by have:=QB h; omega
    rcases hI s hs hs1 with h' | h'
    ·exact h' ha
    ·rw [hjl,Tp] at h'
     rw [List.sublist_nil.1 h'] at hs1;simp at hs1
theorem HM {n:Net} (hz:pD n) (hV:pz n) (on:List BA) (hc:eF n on=some 0) (hl:on.length<=5) (names:List BA) (hnm:names=(nm n).filter (λx=>decide (x ∈ on))):
  Gd (mn n on) (λr=>(r.2=0/\r.1.Sublist names/\CL n names r.1/\∀ s,s.Sublist names->s.length<r.1.length->¬ CL n names s) \/
   (r=([],8)/\∀ s,s.Sublist names->¬ CL n names s)):=by
 have hnl:=xL n;have h5:=hV.l5;have hnll:names.length<=12:=by
  rw [hnm]; exact Ro (VX _ _) (by omega)
 unfold mn;refine Gd.bind_eq hc (Gd.ite (λh=>by simp at h) (λ_=>Gd.ite (λh=>?_) (λ_=>?_)))
 ·have:=Qr h
  omega
 refine Gd.dI (λi (ys:List aG) (w:List BA)=>i+ys.length=n.bC.length/\n.bC.drop i=ys/\w=((nm n).take i).filter (λx=>decide (x ∈ on))/\w.length<=i) ?_ ?_ n.bC 0 [] ⟨by simp,rfl,by simp,by simp⟩
 ·rintro i y ys w nx ⟨hi,hd,hw,hwl⟩ hnx
  simp only [Qy] at hi;have hil:i<n.bC.length:=by omega
  have hy:n.bC[i]=y:=by
   have e:=QV hil;rw [hd] at e; exact (VO e).1.symm
  have hd':n.bC.drop (i+1)=ys:=by
   have:=Q6 (List.drop 1) hd;simpa [Sa] using this
  have uJ:i<(nm n).length:=by omega
  have hny:(nm n)[i]=y.Name:=by simp [nm,hy]
  have hst:((nm n).take (i+1)).filter (λx=>decide (x ∈ on))=w++(if decide (y.Name ∈ on) then [y.Name] else []):=by
   rw [QO uJ,Te,<- hw,hny]
   congr 1
   simp only [VS,List.filter_nil]
  unfold rJ nt;rw [rU];refine Gd.ite (λh=>Gd.nd (by simp only [Qy,VY]; omega) (hnx _ ⟨by omega,hd',?_,by simp; omega⟩)) (λh=>hnx _ ⟨by omega,hd',?_,by omega⟩)
  ·rw [hst,Qu h]
  ·rw [hst,Qs (by rw [h]; simp),Q5]
 ·rintro i w ⟨hi,_,hw,_⟩
  rw [QD (by simp at hi; omega),<- hnm] at hw
  subst hw;refine Gd.iN (λ(s:Int)=>∃ k:Nat,s=k/\k<=w.length+1/\∀ s,s.Sublist w->s.length<k->¬ CL n w s) (λs=>w.length+1-s.toNat) ?_ fY _ ⟨0,rfl,by omega,λs _ h=>by omega⟩ (by unfold fY; simp; omega)
  rintro _ nx ⟨k,rfl,hk,hI⟩ hn;unfold rK;refine Gd.ite (λh=>?_) (λh=>Gd.ret (.inr ⟨rfl,λs hs=>hI s hs ?_⟩))
  ·have hkw:k<=w.length:=by have:=Qr h; omega
   have hwk:i64.wrap ((k:Int)+1)=((k+1:Nat):Int):=by rw [bV ⟨by omega,by omega⟩]; omega
   unfold kW;rw [hwk];refine Gd.eQ (BI hz hV w hnll k [] 0 (by simp; omega) (Nat.zero_le _) fY (by unfold fY; omega)) (λr hr=>Gd.ite (λh=>Gd.ret (.inl ?_)) (λh=>hn _ ⟨k+1,rfl,by omega,λs hs hs1=>?_⟩ (by simp only [Qn]; omega)))
   ·obtain ⟨s,h1,h2,h3,h4⟩:=hr.1 h
    rw [R2] at h1;rw [RI,<- h1] at h2;exact ⟨rfl,h2,h4,λs' hs hl'=>hI s' hs (by rw [h1] at hl'; omega)⟩
   ·by_cases e:s.length=k
    ·have:=hr.2 h s (by rw [RI]; exact hs) e
     rwa [R2] at this
    ·exact hI s hs (by omega)
  ·have:=hs.length_le
   have:=QB h;omega
theorem GL {c:Net} (hz:pD c):∃ r,gM c=some r:=by
 suffices h:Gd (gM c) (λ_=>True) by
  obtain ⟨e,he,_⟩:=h;exact ⟨e,he⟩
 unfold gM;rcases wM c hz with ⟨x,hx,hi⟩ | ⟨t,p,s,hV,hn,hg,ht,hb,hi,hfc,hs,hst,hv⟩
 ·exact Gd.bind_eq hi (Gd.ite (λ_=>Gd.ret Qk) (λk=>absurd (by simpa using k) hx))
 ·obtain ⟨qs,hq,hqf⟩:=Hy hst.f
  have hql:qs.length=c.aI.length:=by
   have:=hst.fl;rw [hq,Sj] at this;exact this
  have ho:=D7 hV (qs:=qs) hql hqf;rw [<- hq] at ho;exact Gd.bind_eq hi (Gd.ite (λk=>by simp at k) (λ_=>Gd.bind_eq hs (Gd.ite (λk=>by simp at k) (λ_=>Gd.bind_eq ho (Gd.ret Qk)))))
theorem Jd {n:Net} (hV:pz n) {l:List BA} (h:eF n l=some 0) {r:cG×List Qi×Int} (hs:gM (qW n l)=some r):eB n l=some r:=by
 rw [<- Gd.eq];unfold eB;exact Gd.bind_eq (A0 hV h) (Gd.ite (λk=>by simp at k) (λ_=>Gd.bind_eq hs (Gd.ret rfl)))
theorem IA {n:Net}{l:List BA}{r:cG×List Qi×Int} (hs:gM (qW n l)=some r):Cj n l↔r.2.2=0/\r.2.1=[]:=by
 unfold Cj lY;rw [hs];show (if _ then _ else _)=_↔_
 by_cases h0:r.2.2=0
 ·by_cases h1:r.2.1=[]
  ·simp [h0,h1]
  ·have:0<r.2.1.length:=VZ.2 h1
   simp [h0,h1]
 ·simp [h0]
abbrev Node:=bB
abbrev Dt:=aT
abbrev Sw:=aR
theorem vK {α:Type}{l:List α}{i:Nat} (h:i<l.length):∃ x,l[i]? = some x:=⟨_,Ql h⟩
theorem Dc {α:Type}{l:List α}{i:Nat}{x:α} (h:l[i]? = some x):i<l.length:=(Qo.1 h).1
theorem drop_cons {α:Type}{l:List α}{k:Nat}{y:α}{ys:List α} (h:y::ys=l.drop k):l[k]? = some y/\ys=l.drop (k+1):=by
 constructor
 ·have:=Q6 (·[0]?) h
  simpa [Q7] using this.symm
 ·have:=Q6 (List.drop 1) h
  simpa using this
theorem x9 (s:Qi) (h:s.size<=maxLen):Gd (bK s) (λ_=>True):=by
 unfold bK;refine Gd.nd h (Gd.dI (λ_ _ _=>True) (λi y ys s n _ hn=>?_) (λi s _=>Gd.ret Qk) _ _ _ Qk);unfold n_;exact Gd.ite (λ_=>Gd.ret Qk) (λ_=>hn _ Qk)
structure At (l:List Sw) (name:Qi) (r:Int):Prop where
 no:r<0->∀ x ∈ l,x.Name≠name
 yes:0<=r->∃ x,l[r.toNat]? = some x/\x.Name=name
theorem BX (l:List Sw) (name:Qi):Gd (lD l name) (At l name):=by
 unfold lD;refine Gd.eQ (P:=At l name) ?_ (λa h=>Gd.ret h);unfold cC;refine Gd.kL (λm i _=>i+m=l.length/\∀ x ∈ l.take i,x.Name≠name) ?_ ?_ (l.length:Int).toNat 0 () ⟨by omega,by simp⟩
 ·intro m i _ nx ⟨hi,hno⟩ hnx
  unfold cS;refine Gd.iH (by omega) ?_
  refine Gd.ite (λh=>Gd.ret ⟨λh=>by omega,λ_=>⟨l[i]'(by omega),by rw [show ((i:Int)).toNat=i by omega]; exact Ql _,by simpa [lN] using h⟩⟩) (λh=>hnx () ⟨by omega,?_⟩)
  intro x hx;rw [QO (by omega),QC,QZ] at hx
  rcases hx with hx | rfl
  ·exact hno x hx
  ·simpa [lN] using h
 ·intro i _ ⟨hi,hno⟩
  refine Gd.ret ⟨λ_=>?_,λh=>by omega⟩
  rw [QD (by omega)] at hno
  exact hno
def GV (l:List Sw):Prop:=l.length<=32/\(∀ x ∈ l,bK x.Name=some true)/\(l.map (·.Name)).Nodup
theorem IQ (l:List Sw) (hl:∀ x ∈ l,x.Name.size<=maxLen):Gd (lf l) (λe=>e=0↔GV l):=by
 unfold lf;refine Gd.ite (λh=>Gd.ret ?_) (λh=>?_)
 ·simp only [Q9] at h
  exact ⟨λh=>by omega,λh'=>by have:=h'.1; omega⟩
 ·simp only [Xc] at h
  refine Gd.dI (λk ys _=>ys=l.drop k/\k<=l.length/\(∀ x ∈ l.take k,bK x.Name=some true)/\((l.take k).map (·.Name)).Nodup) ?_ ?_ l 0 () ⟨by simp,by omega,by simp,by simp⟩
  ·rintro k y ys _ nx ⟨hys,hk,hn,hd⟩ hnx
   obtain ⟨hy,hys'⟩:=drop_cons hys;have hky:=Dc hy;have hym:=Qz hy;obtain ⟨b,hb,_⟩:=x9 y.Name (hl y hym);have htake:l.take (k+1)=l.take k++[y]:=by rw [V3,hy]; rfl
   unfold n8;refine Gd.bind_eq hb (Gd.ite (λh=>Gd.ret ?_) (λh=>?_))
   ·refine ⟨λh=>by omega,λh'=>?_⟩
    have:=h'.2.1 y hym;rw [hb] at this; cases this; simp at h
   ·have hbt:b=true:=by simpa using h
    subst hbt;refine Gd.nd (by omega) ?_
    refine Gd.eQ (BX _ _) (λr hr=>Gd.ite (λh=>Gd.ret ?_) (λh=>?_))
    ·refine ⟨λh=>by omega,λh'=>?_⟩
     simp only [Q9] at h;obtain ⟨x,hx,hxn⟩:=hr.yes h;simp only [r8,RI,Tv,Qn] at hx;have hnd:=h'.2.2;rw [Rc] at hx
     split at hx
     case isFalse=>cases hx
     rename_i hlt
     rw [<- RP k l,RM,Rg] at hnd;refine absurd hxn (hnd.2.2 _ (Ra.2 ⟨x,?_,rfl⟩) _ (Ra.2 ⟨y,?_,rfl⟩))
     ·exact Qz (i:=r.toNat) (by rw [Rc,Qu hlt]; exact hx)
     ·rw [<- hys]; exact Qq ..
    ·simp only [Xc] at h
     have hno:=hr.no (by omega)
     simp only [r8,RI,Tv,Qn] at hno;refine hnx () ⟨hys',by omega,?_,?_⟩
     ·rw [htake]
      intro x hx;rw [QC,QZ] at hx;rcases hx with hx | rfl
      ·exact hn x hx
      ·exact hb
     ·rw [htake,RM,Rg]
      refine ⟨hd,by simp,?_⟩
      rintro a ha b hb2 rfl;simp only [SR,UA,QZ] at hb2;obtain ⟨x,hx,rfl⟩:=Ra.1 ha;exact hno x hx hb2
  ·rintro k _ ⟨hys,hk,hn,hd⟩
   have:l.length<=k:=by
    have:=Q6 List.length hys;simp at this; omega
   rw [QD this] at hn hd;exact Gd.ret ⟨λ_=>⟨by omega,hn,hd⟩,λ_=>rfl⟩
def FL (k:Nat) (y:Node):Prop:=(y.Kind=4->0<=y.A/\y.A<k)/\((y.Kind=5\/y.Kind=6)->0<=y.A/\y.A<k/\0<=y.B_/\y.B_<k)
structure Bf (c:List Node):Prop where
 pos:0<c.length
 len:c.length<=40
 ok:∀ j y,c[j]? = some y->FL j y
structure CI (c:List Node) (k:Nat) (l:List Int):Prop where
 len:l.length=c.length
 st:∀ (j:Nat) (v:Int),j<k->l[j]? = some v->0<=v/\v<=j
 ok:∀ j y,j<k->c[j]? = some y->FL j y
theorem CI.next {c:List Node}{k:Nat}{l:List Int}{y:Node}{v:Int} (h:CI c k l) (hy:c[k]? = some y) (hn:FL k y) (h0:0<=v) (h1:v<=k):CI c (k+1) (l.set k v):=by
 refine ⟨by simp [h.len],?_,?_⟩
 ·intro j w hj hw
  rw [T5] at hw
  split at hw
  ·rename_i e
   split at hw
   ·cases hw; omega
   ·cases hw
  ·exact h.st j w (by omega) hw
 ·intro j z hj hz
  by_cases e:j=k
  ·subst e; rw [hy] at hz; cases hz; exact hn
  ·exact h.ok j z (by omega) hz
theorem JF:kF=eI:=rfl
theorem Jr {c:List Node}{k:Nat}{l:List Int}{y:Node}{Q:Int->Prop}{nx:List Int->Option Int} (h:CI c k l) (hc:c.length<=40) (hy:c[k]? = some y) (hQ:Q 3) (hnx:∀ l',CI c (k+1) l'->Gd (nx l') Q)
  (b:Bool) (h4:y.Kind≠4) (hb:b=false->y.Kind≠5/\y.Kind≠6):Gd (eI l nx y k b) Q:=by
 have hk:=Dc hy;have hw:i64.wrap ((k:Int)-1)=(k:Int)-1:=bV (by omega)
 have hkn:((k:Int)).toNat=k:=by omega
 unfold eI dY;rw [hw,hkn];refine Gd.ite (λ_=>?_) (λh0=>?_)
 ·refine Gd.ite (λ_=>Gd.ret hQ) (λh1=>?_)
  simp only [Xc] at h1;refine Gd.ite (λh2=>?_) (λ_=>Gd.ret hQ);simp only [Q9] at h2;obtain ⟨p,hp⟩:=vK (l:=l) (i:=k-1) (by rw [h.len]; omega)
  have hp':(l.set k (k:Int))[((k:Int)-1).toNat]? = some p:=by
   rw [show ((k:Int)-1).toNat=k-1 by omega,T5,Qs (by omega)]; exact hp
  have hpb:=h.st (k-1) p (by omega) hp
  refine Gd.ix (by omega) hp' (Gd.ite (λ_=>Gd.ret hQ) (λh3=>?_))
  simp only [Xc] at h3;refine Gd.ix (by omega) hp' ?_
  rw [bV (n:=p-1) (by omega)]
  refine Gd.ite (λ_=>Gd.ret hQ) (λh4=>?_);have h4:y.A=p-1:=by simpa using h4
  obtain ⟨q,hq⟩:=vK (l:=l) (i:=y.A.toNat) (by rw [h.len]; omega)
  have hq':(l.set k (k:Int))[y.A.toNat]? = some q:=by
   rw [T5,Qs (by omega)]; exact hq
  have hqb:=h.st y.A.toNat q (by omega) hq
  refine Gd.ix (by omega) hq' (Gd.iH (by simp [h.len]; omega) ?_)
  rw [List.set_set];exact hnx _ (h.next hy ⟨λe=>by omega,λ_=>⟨by omega,by omega,by omega,by omega⟩⟩ hqb.1 (by omega))
 ·refine Gd.ite (λ_=>Gd.ret hQ) (λh1=>?_)
  have:=hb h0;exact hnx _ (h.next hy ⟨λe=>absurd e h4,λe=>by omega⟩ (by omega) (by omega))
theorem wK (c:List Node) (hc:∀ x ∈ c,x.Name.size<=maxLen):Gd (kN c) (λe=>e=0->Bf c):=by
 unfold kN;refine Gd.ite (λ_=>Gd.ret (by omega)) (λh40=>?_)
 simp only [Xc] at h40;refine Gd.ite (λ_=>Gd.ret (by omega)) (λh1=>?_)
 simp only [Xc] at h1;refine Gd.nd (by omega) ?_
 refine Gd.dI (λk ys l=>ys=c.drop k/\CI c k l) ?_ ?_ c 0 _ ⟨by simp,by simp,λj v hj=>by omega,λj y hj=>by omega⟩
 ·rintro k y ys l nx ⟨hys,hI⟩ hnx
  obtain ⟨hy,hys'⟩:=drop_cons hys;have hk:=Dc hy;have hnx':∀ l',CI c (k+1) l'->Gd (nx l') (λe=>e=0->Bf c):=λl' h=>hnx l' ⟨hys',h⟩;have hkn:((k:Int)).toNat=k:=by omega
  have hw:i64.wrap ((k:Int)-1)=(k:Int)-1:=bV (by omega)
  have rest:Gd (idx l (k:Int) λy926=>if decide (y.Kind=4) then (if ((decide ((k:Int)=0)) || (!decide (y.A=(i64.wrap ((k:Int)-1))))) || (!decide (y.B_=0)) then (some 3) else (idx (l.set (((k:Int):Int).toNat) ((k:Int))) y.A λy939=>idx (l.set (((k:Int):Int).toNat) ((k:Int))) (k:Int) λy943=>dY nx ((l.set (((k:Int):Int).toNat) ((k:Int))).set (((k:Int):Int).toNat) y939))) else (if decide (y.Kind=5) then (eI l nx y k (decide (y.Kind=5))) else (eI l nx y k (decide (y.Kind=6)))))
    (λe=>e=0->Bf c):=by
   rw [hw,hkn];refine Gd.iH (by rw [hI.len]; exact hk) ?_
   refine Gd.ite (λh4=>?_) (λh4=>?_)
   ·refine Gd.ite (λ_=>Gd.ret (by omega)) (λh5=>?_)
    simp only [VC,Xc,VB,Q9] at h5;obtain ⟨q,hq⟩:=vK (l:=l) (i:=y.A.toNat) (by rw [hI.len]; omega)
    have hq':(l.set k (k:Int))[y.A.toNat]? = some q:=by
     rw [T5,Qs (by omega)]; exact hq
    have hqb:=hI.st y.A.toNat q (by omega) hq
    refine Gd.ix (by omega) hq' (Gd.iH (by simp [hI.len]; omega) ?_)
    rw [List.set_set];simp only [Q9] at h4;exact hnx' _ (hI.next hy ⟨λe=>by omega,λe=>by omega⟩ hqb.1 (by omega))
   ·simp only [Xc] at h4
    refine Gd.ite (λh5=>?_) (λh5=>?_)
    ·exact Jr hI (by omega) hy (by omega) hnx' _ h4 (λh=>by simp only [Xc] at h; simp only [Q9] at h5; exact absurd h5 h)
    ·exact Jr hI (by omega) hy (by omega) hnx' _ h4 (λh=>by simp only [Xc] at h h5; exact ⟨h5,h⟩)
  unfold oC;rw [JF];refine Gd.ite (λ_=>Gd.ret (by omega)) (λ_=>?_)
  refine Gd.ite (λ_=>?_) (λ_=>?_)
  ·refine Gd.eQ (x9 _ (hc y (Qz hy))) (λb _=>Gd.ite (λ_=>Gd.ret (by omega)) (λ_=>rest))
  ·exact Gd.ite (λ_=>Gd.ret (by omega)) (λ_=>rest)
 ·rintro k l ⟨hys,hI⟩
  have hk:c.length<=k:=by
   have:=Q6 List.length hys;simp at this; omega
  have hw:i64.wrap ((c.length:Int)-1)=(c.length:Int)-1:=bV (by omega)
  rw [hw];obtain ⟨q,hq⟩:=vK (l:=l) (i:=((c.length:Int)-1).toNat) (by rw [hI.len]; omega)
  refine Gd.ix (by omega) hq (Gd.ite (λ_=>Gd.ret (by omega)) (λ_=>Gd.ret λ_=>⟨by omega,by omega,λj y hj=>hI.ok j y (by have:=Dc hj; omega) hj⟩))
def Jb (r:Dt):Prop:=bK r.Switch=some true/\kN r.vY=some 0
def Bo (r:Dt):Prop:=r.Switch.size<=maxLen/\∀ x ∈ r.vY,x.Name.size<=maxLen
def yZ (l:List Dt):Prop:=l.length<=24/\∀ r ∈ l,Jb r
theorem C_ (l:List Dt) (hl:∀ r ∈ l,Bo r):Gd (mP l) (λe=>e=0↔yZ l):=by
 unfold mP;refine Gd.ite (λh=>Gd.ret ?_) (λh=>?_)
 ·simp only [Q9] at h
  exact ⟨λh=>by omega,λh'=>by have:=h'.1; omega⟩
 ·simp only [Xc] at h
  refine Gd.dI (λk ys _=>(∀ r ∈ ys,r ∈ l)/\∀ r ∈ l,r ∈ ys\/Jb r) ?_ ?_ l 0 () ⟨λr h=>h,λr h=>.inl h⟩
  ·rintro k y ys _ nx ⟨h1,h2⟩ hnx
   have hy:=h1 y (Qq ..);unfold q9;obtain ⟨b,hb,_⟩:=x9 y.Switch (hl y hy).1;obtain ⟨e,he,_⟩:=wK y.vY (hl y hy).2;refine Gd.bind_eq hb (Gd.ite (λh=>Gd.ret ?_) (λh=>Gd.bind_eq he (Gd.ite (λh=>Gd.ret ?_) (λh'=>hnx () ⟨λr hr=>h1 r (Qw _ hr),λr hr=>?_⟩))))
   ·refine ⟨λh=>by omega,λh'=>?_⟩
    have:=(h'.2 y hy).1;rw [hb] at this; cases this; simp at h
   ·have h:e≠0:=by simpa using h
    refine ⟨λh'=>absurd h' h,λh'=>?_⟩;have:=(h'.2 y hy).2;rw [he] at this; cases this; simp at h
   ·have hbt:b=true:=by simpa using h
    have het:e=0:=by simpa using h'
    subst hbt; subst het
    rcases h2 r hr with h | h
    ·rcases Q8.1 h with rfl | h
     ·exact .inr ⟨hb,he⟩
     ·exact .inl h
    ·exact .inr h
  ·rintro k _ ⟨h1,h2⟩
   exact Gd.ret ⟨λ_=>⟨by omega,λr hr=>(h2 r hr).resolve_left (by simp)⟩,λ_=>rfl⟩
theorem J6 {c:List Node} (hc:Bf c) (st:List Sw):Gd (mQ c st) (λ_=>True):=by
 have hl:=hc.len;have hp:=hc.pos;unfold mQ;refine Gd.nd (by omega) ?_
 refine Gd.dI (λk ys (l:List Bool)=>ys=c.drop k/\l.length=c.length) ?_ ?_ c 0 _ ⟨by simp,by simp⟩
 ·rintro k y ys l nx ⟨hys,hlen⟩ hnx
  obtain ⟨hy,hys'⟩:=drop_cons hys;have hk:=Dc hy;have hn:=hc.ok k y hy;have hnx':∀ l':List Bool,l'.length=c.length->Gd (nx l') (λ_=>True):=λl' h=>hnx l' ⟨hys',h⟩;have hset:∀ b:Bool,Gd (idx l (k:Int) λ_=>dJ nx (l.set ((k:Int)).toNat b)) (λ_=>True):=λb=>
   Gd.iH (by omega) (hnx' _ (by simp [hlen]))
  unfold q_;refine Gd.eQ (BX st y.Name) (λr hr=>?_);refine Gd.ite (λ_=>hset true) (λ_=>?_);refine Gd.ite (λ_=>Gd.ite (λh=>?_) (λ_=>hset false)) (λ_=>?_)
  ·obtain ⟨x,hx,_⟩:=hr.yes (by simpa using h)
   exact Gd.ix (by simpa using h) hx (hset _)
  refine Gd.ite (λ_=>Gd.ite (λh=>?_) (λ_=>hset false)) (λ_=>?_)
  ·obtain ⟨x,hx,_⟩:=hr.yes (by simpa using h)
   exact Gd.ix (by simpa using h) hx (hset _)
  refine Gd.ite (λh=>?_) (λ_=>?_)
  ·have hA:=hn.1 (by simpa using h)
   obtain ⟨x,hx⟩:=vK (l:=l) (i:=y.A.toNat) (by omega)
   exact Gd.ix hA.1 hx (hset _)
  refine Gd.ite (λh=>?_) (λ_=>?_)
  ·have hA:=hn.2 (.inl (by simpa using h))
   obtain ⟨x,hx⟩:=vK (l:=l) (i:=y.A.toNat) (by omega)
   obtain ⟨z,hz⟩:=vK (l:=l) (i:=y.B_.toNat) (by omega)
   exact Gd.ix hA.1 hx (Gd.ite (λ_=>Gd.ix hA.2.2.1 hz (hset _)) (λ_=>hset _))
  refine Gd.ite (λh=>?_) (λ_=>hnx' _ hlen)
  ·have hA:=hn.2 (.inr (by simpa using h))
   obtain ⟨x,hx⟩:=vK (l:=l) (i:=y.A.toNat) (by omega)
   obtain ⟨z,hz⟩:=vK (l:=l) (i:=y.B_.toNat) (by omega)
   exact Gd.ix hA.1 hx (Gd.ite (λ_=>hset _) (λ_=>Gd.ix hA.2.2.1 hz (hset _)))
 ·rintro k l ⟨hys,hlen⟩
  rw [bV (n:=(c.length:Int)-1) (by omega)]
  obtain ⟨q,hq⟩:=vK (l:=l) (i:=((c.length:Int)-1).toNat) (by omega)
  exact Gd.ix (by omega) hq (Gd.ret Qk)
def xx (st:List Sw) (closing:Bool) (name:Qi) (r:Dt):Prop:=r.Close=closing->r.Switch=name->mQ r.vY st=some true
theorem F9 {l:List Dt} (hl:yZ l) (hz:∀ r ∈ l,Bo r) {st:List Sw} (hs:GV st) (hsz:∀ x ∈ st,x.Name.size<=maxLen) (closing:Bool) {name:Qi} (hn:∃ x ∈ st,x.Name=name):
  Gd (nk l st closing name) (λr=>r.2=0/\(r.1=[]↔∀ r ∈ l,xx st closing name r)):=by
 unfold nk;obtain ⟨e,he,heq⟩:=C_ l hz;obtain ⟨f,hf,hfq⟩:=IQ st hsz;have e0:=heq.2 hl;have f0:=hfq.2 hs;subst e0; subst f0
 refine Gd.bind_eq he (Gd.ite (λh=>by simp at h) (λ_=>Gd.bind_eq hf (Gd.ite (λh=>by simp at h) (λ_=>?_))))
 refine Gd.eQ (BX st name) (λi hi=>Gd.ite (λh=>?_) (λ_=>?_))
 ·obtain ⟨x,hx,hxn⟩:=hn
  exact absurd hxn (hi.no (by simpa using h) x hx)
 have h24:=hl.1;refine Gd.dI (λk ys (out:List Int)=>ys=l.drop k/\out.length<=k/\(out=[]↔∀ r ∈ l.take k,xx st closing name r)) ?_ ?_ l 0 [] ⟨by simp,by simp,by simp⟩
 ·rintro k y ys out nx ⟨hys,hlen,hq⟩ hnx
  obtain ⟨hy,hys'⟩:=drop_cons hys;have hk:=Dc hy;have htake:l.take (k+1)=l.take k++[y]:=by rw [V3,hy]; rfl
  have hall:(∀ r ∈ l.take (k+1),xx st closing name r)↔(∀ r ∈ l.take k,xx st closing name r)/\xx st closing name y:=by
   rw [htake];constructor
   ·intro h; exact ⟨λr hr=>h r (Qm _ hr),h y (by simp)⟩
   ·rintro ⟨h1,h2⟩ r hr
    rcases QC.1 hr with hr | hr
    ·exact h1 r hr
    ·rw [QZ] at hr; subst hr; exact h2
  have hsame:xx st closing name y->Gd (nx out) (λr=>r.2=0/\(r.1=[]↔∀ r ∈ l,xx st closing name r)):=λha=>
   hnx out ⟨hys',by omega,by rw [hall,hq]; exact ⟨λh=>⟨h,ha⟩,λh=>h.1⟩⟩
  have hcond:Bf y.vY:=by
   obtain ⟨e,he,hq⟩:=wK y.vY (hz y (Qz hy)).2;have:=(hl.2 y (Qz hy)).2;rw [he] at this; cases this; exact hq rfl
  obtain ⟨b,hb,_⟩:=J6 hcond st;unfold p_ iI;refine Gd.ite (λh1=>Gd.ite (λh2=>Gd.bind_eq hb (Gd.ite (λh3=>?_) (λh3=>hsame ?_))) (λh2=>hsame ?_)) (λh1=>hsame ?_)
  ·refine Gd.nd (by simp; omega) (hnx _ ⟨hys',by simp; omega,?_⟩)
   constructor
   ·intro h; simp at h
   ·intro h
    have:=(hall.1 h).2 (by simpa using h1) (by simpa using h2)
    rw [hb] at this; cases this; simp at h3
  ·intro _ _; rw [hb]; simpa using h3
  ·intro _ h; exact absurd h (by simpa using h2)
  ·intro h _; exact absurd h (by simpa using h1)
 ·rintro k out ⟨hys,hlen,hq⟩
  have hk:l.length<=k:=by
   have:=Q6 List.length hys;simp at this; omega
  rw [QD hk] at hq;exact Gd.ret ⟨rfl,hq⟩
theorem D9 {l:List Dt} (hl:yZ l) (hz:∀ r ∈ l,Bo r) {st:List Sw} (hs:GV st) (hsz:∀ x ∈ st,x.Name.size<=maxLen) (closing:Bool) {name:Qi} (hn:∃ x ∈ st,x.Name=name):
  Gd (mc l st closing name) (λr=>r.2=0/\(r.1=true↔∀ r ∈ l,xx st closing name r)):=by
 unfold mc;refine Gd.eQ (F9 hl hz hs hsz closing hn) (λr hr=>Gd.ret ⟨hr.1,?_⟩);rw [hr.1,<- hr.2];cases r.1 <;> simp <;> omega
structure MB (n:Net) (on:List BA) (s:cG) (ov:List BA):Prop where
 N0:eF n on=some 0
 cn:cA n=some 0
 v:pz n
 al:s.eP.length<=100000
 fl:s.gK.length=n.aI.length
 ff:∀ x ∈ s.gK,∃ q,fits q/\x=ctext q
 oe:ob n s.gK=some ov
 ol:ov.length<=24
 om:∀ x ∈ ov,∃ b ∈ n.aI,b.Name=x
 P2:∃ p,fS (qW n on)=some (p,0)/\pB (qW n on) p s=some 0
theorem IB {l:List (aP×Rat)}:∀ {x:BA},x ∈ l.flatMap yu->∃ z ∈ l,z.1.Name=x:=by
 intro x hx;obtain ⟨z,hz,hx⟩:=So.1 hx;refine ⟨z,hz,?_⟩
 by_cases h:Af z
 ·rw [Ao h] at hx
  simp at hx;exact hx.symm
 ·rw [Cn h] at hx
  simp at hx
theorem Df:∀ (l:List (aP×Rat)),(l.flatMap yu).length<=l.length
 | []=>by simp
 | z::l=>by
  have:=Df l;have:(yu z).length<=1:=by
   by_cases h:Af z
   ·rw [Ao h]; simp
   ·rw [Cn h]; simp
  simp only [RF,QE,Qy];omega
theorem Bp {n:Net} (hz:pD n) (on:List BA):Gd (eB n on) (λr=>(r.2.2≠0->r=(cG.mk [] [],[],r.2.2))/\(r.2.2=0->MB n on r.1 r.2.1)):=by
 obtain ⟨e,he,hok⟩:=IW hz on
 by_cases h0:e=0
 ·subst h0
  have hcn:=hok rfl;have hV:pz n:=by
   obtain ⟨f,hf,hs⟩:=Vv n hz;rw [hcn] at hf;exact hs (Qp hf).symm
  rcases wM (qW n on) (hz.qW on) with ⟨x,hx,hi⟩ | ⟨t,p,s,hV',hn,hg,ht,hb,hi,hfc,hs,hst,hv⟩
  ·rw [HN hV he hx hi]
   exact Gd.ret ⟨λ_=>rfl,λh=>absurd h hx⟩
  ·obtain ⟨qs,hq,hqf⟩:=Hy hst.f
   have hql:qs.length=(qW n on).aI.length:=by
    have:=hst.fl;rw [hq,Sj] at this;exact this
   have ho:=D7 hV' (qs:=qs) hql hqf;rw [<- hq] at ho;rw [Jf hV he hi hs ho];refine Gd.ret ⟨λh=>absurd rfl h,λ_=>⟨he,hcn,hV,?_,hst.fl,hst.f,ho,?_,?_,p,hi,hv⟩⟩
   ·have:=hst.al
    have:=ht.I_;show s.eP.length<=100000;omega
   ·refine Ro (Df _) ?_
    rw [List.length_zip];exact Ro (Nat.min_le_left _ _) hV.l3
   ·intro x hx
    obtain ⟨z,hz,he⟩:=IB hx;exact ⟨z.1,(List.of_mem_zip hz).1,he⟩
 ·rw [Je he h0]
  exact Gd.ret ⟨λ_=>rfl,λh=>absurd h h0⟩
def N8 {α:Type} (p:α->Bool) (l:List α) (r:Int):Prop:=(r = -1/\∀ x ∈ l,p x=false)\/∃ i,∃ h:i<l.length,r=(i:Int)/\p l[i]=true/\∀ x ∈ l.take i,p x=false
theorem He {α:Type} (p:α->Bool) (l:List α):
  Gd (kL (λk (_:Unit) n=>idx l (k:Int) λy=>if p y then (some (k:Int)) else (n ())) (λ_=>some (-1)) ((l.length:Int):Int).toNat 0 ()) (N8 p l):=by
 refine Gd.kL (λm i _=>i+m=l.length/\∀ x ∈ l.take i,p x=false) ?_ ?_ (l.length:Int).toNat 0 () ⟨by omega,by simp⟩
 ·intro m i _ nx ⟨hi,hno⟩ hnx
  have hlt:i<l.length:=by omega
  refine Gd.iH hlt (Gd.ite (λh=>Gd.ret (.inr ⟨i,hlt,rfl,h,hno⟩)) (λh=>hnx () ⟨by omega,?_⟩))
  rw [QO hlt];intro x hx;rcases QC.1 hx with hx | hx
  ·exact hno x hx
  ·rw [QZ.1 hx]; exact h
 ·intro i _ ⟨hi,hno⟩
  refine Gd.ret (.inl ⟨rfl,?_⟩);have:l.take i=l:=QD (by omega)
  rw [this] at hno;exact hno
theorem Np (l:List aG) (e:aE):Gd (dN l e) (N8 (λx=>decide (x.Name=e.Name)) l):=He _ l
theorem No (l:List bD) (e:aE):Gd (dT l e) (N8 (λx=>decide (x.Name=e.Name)) l):=He _ l
theorem Nr (l:List aV) (e:aE):Gd (cV l e) (N8 (λx=>decide (x.Name=e.Name)) l):=He _ l
theorem Nq (l:List aG) (x:BA):Gd (dF l x) (N8 (λy=>decide (y.Name=x)) l):=He _ l
theorem As (n:Net) (hl:n.bC.length<=12):ql n=some (nm n):=by
 rw [<- Gd.eq];unfold ql;refine Gd.dI (λi (ys:List aG) (w:List BA)=>i+ys.length=n.bC.length/\n.bC.drop i=ys/\w=(n.bC.take i).map (·.Name)) ?_ ?_ n.bC 0 [] ⟨by simp,rfl,by simp⟩
 ·rintro i y ys w nx ⟨hi,hd,hw⟩ hnx
  simp only [Qy] at hi;unfold ue;have hlt:i<n.bC.length:=by omega
  have hy:n.bC[i]=y:=by
   rw [QV hlt] at hd;exact (VO hd).1
  refine Gd.nd ?_ (hnx _ ⟨by omega,?_,?_⟩)
  ·rw [hw]; simp; omega
  ·rw [QV hlt] at hd
   exact (VO hd).2
  ·rw [hw,QO hlt,hy]; simp
 ·rintro i w ⟨hi,hd,hw⟩
  refine Gd.ret ?_;rw [hw,QD (by simp at hi; omega)]
  rfl
abbrev Ev:=aE
def zW (e:Ev):Prop:=e.Kind.size<=maxLen/\e.Name.size<=maxLen
theorem Ly (s:BA) (h:s.size<=maxLen):Gd (gQ s) (λ_=>True):=by
 unfold gQ;refine Gd.nd h (Gd.dI (λ_ _ _=>True) (λi y ys s nx _ hn=>?_) (λ_ _ _=>Gd.ret Qk) _ _ _ Qk);unfold qM;exact Gd.ite (λ_=>Gd.ret Qk) (λ_=>hn _ Qk)
theorem HS {e:Ev} (h:zW e):Gd (dG e) (λr=>r=0->0<=e.Time/\e.Time<=200000):=by
 unfold dG;refine Gd.ite (λ_=>Gd.ret (λh=>by simp at h)) (λht=>Gd.eQ (Ly e.Kind h.1) (λb _=>Gd.ite (λ_=>?_) (λ_=>Gd.ret (λh=>by simp at h))))
 refine Gd.eQ (x9 e.Name h.2) (λb _=>Gd.ite (λ_=>Gd.ret (λh=>by simp at h)) (λ_=>Gd.ite (λ_=>Gd.ret (λh=>by simp at h)) (λ_=>Gd.ret (λ_=>?_))))
 simp at ht;omega
theorem BC {t v:Int}{k s:BA} (ht:0<=t/\t<=200000) (hk:gQ k=some true) (hs:bK s=some true) (hv:-1000000<=v/\v<=1000000):
  dG (aE.mk t k s v)=some 0:=by
 rw [<- Gd.eq];unfold dG;refine Gd.ite (λk=>?_) (λ_=>Gd.bind_eq hk (Gd.ite (λ_=>Gd.bind_eq hs (Gd.ite (λk=>by simp at k) (λ_=>Gd.ite (λk=>?_) (λ_=>Gd.ret rfl)))) (λk=>by simp at k)))
 ·simp at k; omega
 ·simp at k; omega
theorem IK:gQ (⟨#[115,104,101,100]⟩)=some true:=by kernel_rfl
theorem Gz:gQ (⟨#[112,114,111,111,102]⟩)=some true:=by kernel_rfl
theorem append_eq {l:List Ev}{e:Ev} (hl:l.length<300) (ht:∀ x ∈ l,x.Time<=e.Time) (hc:dG e=some 0):
  ∃ k,fB (bI.mk l) e=some (k,0,bI.mk (l++[e])):=by
 suffices h:Gd (fB (bI.mk l) e) (λr=>∃ k,r=(k,0,bI.mk (l++[e]))) by
  obtain ⟨r,hr,k,rfl⟩:=h;exact ⟨k,hr⟩
 unfold fB;refine Gd.bind_eq hc (Gd.ite (λk=>by simp at k) (λ_=>Gd.ite (λhp=>?_) (λ_=>?_)))
 ·have h0:0<l.length:=by simpa using hp
  have hw:i64.wrap ((l.length:Int)-1)=((l.length-1:Nat):Int):=by
   rw [bV ⟨by omega,by omega⟩]; omega
  rw [hw];refine Gd.iH (by simp; omega) (Gd.ite (λk=>?_) (λ_=>?_))
  ·have:=ht _ (QY (by omega:l.length-1<l.length))
   simp at k;omega
  ·refine Gd.ite (λk=>?_) (λ_=>Gd.nd ?_ (Gd.ret ⟨_,rfl⟩))
   ·simp at k; omega
   ·simp; omega
 ·refine Gd.ite (λk=>?_) (λ_=>Gd.nd ?_ (Gd.ret ⟨_,rfl⟩))
  ·simp at k; omega
  ·simp; omega
theorem Jz {n:Net} (h:pz n) {b:aP} (hb:b ∈ n.aI):0<=b.vZ/\b.vZ<=200000:=by
 obtain ⟨_,_,_,_,h5⟩:=h.vb b hb;unfold jI at h5
 split at h5
 ·omega
 ·rename_i h6
  simp [bM] at h6;omega
theorem copy_eq {n:Net} (h:pz n):kz n=some n:=by
 have:=h.l1; have:=h.l2; have:=h.l3; have:=h.l4; have:=h.l5; have:=h.l6
 rw [<- Gd.eq];unfold kz;exact Gd.nd (by omega) (Gd.nd (by omega) (Gd.nd (by omega) (Gd.nd (by omega) (Gd.nd (by omega) (Gd.nd (by omega) (Gd.ret rfl))))))
structure w8 (n:Net) (w:bT):Prop where
 b:w.lC=n.aI
 f:w.mw.length=n.aI.length
 a:w.su.length=n.aI.length
 o:w.over.length=n.aI.length
theorem FD {n:Net}{w:bT} (h:w8 n w) (hl:n.aI.length<=24):Gd (kG w) (λr=>r.length<=24):=by
 unfold kG;rw [h.b];refine Gd.dI (λi (ys:List aP) (s:List BA)=>i+ys.length=n.aI.length/\s.length<=i) ?_ ?_ n.aI 0 [] ⟨by simp,by simp⟩
 ·rintro i y ys s nx ⟨hi,hs⟩ hnx
  simp only [Qy] at hi;unfold qb lH;refine Gd.iH (by rw [h.o]; omega) (Gd.ite (λ_=>Gd.nd ?_ (hnx _ ⟨by omega,?_⟩)) (λ_=>hnx _ ⟨by omega,by omega⟩))
  ·simp only [Qy,VY]; omega
  ·simp; omega
 ·rintro i s ⟨hi,hs⟩
  exact Gd.ret (by simp at hi; omega)
theorem K0 {n:Net}{w:bT} (h:w8 n w) (hV:pz n) {fl:List BA} (hl:fl.length=n.aI.length) (hf:∀ x ∈ fl,∃ q,fits q/\x=ctext q) (d:Int):
  Gd (lT w fl d) (λr=>w8 n r.2.2):=by
 have h3:=hV.l3;unfold lT;refine Gd.eQ (P:=λ_=>True) ?_ (λr _=>Gd.ite (λ_=>Gd.ret h) (λ_=>Gd.ite (λ_=>Gd.ret h) (λ_=>Gd.ite (λ_=>Gd.ret h) (λ_=>?_))))
 ·unfold lG
  exact Gd.ite (λ_=>Gd.ret Qk) (λ_=>Gd.eQ (AD (λs hs=>ER (hf s hs))) (λ_ _=>Gd.ret Qk))
 ·rw [h.b]
  refine Gd.dI (λi (ys:List aP) (s:List aA×List Int×List Bool)=>i+ys.length=n.aI.length/\(∀ y ∈ ys,y ∈ n.aI)/\s.1.length=n.aI.length/\s.2.1.length=n.aI.length/\s.2.2.length=n.aI.length) ?_ ?_ n.aI 0 (w.mw,w.su,w.over) ⟨by simp,λ_ h=>h,h.f,h.a,h.o⟩
  ·rintro i y ys ⟨s1,s2,s3⟩ nx ⟨hi,hd,h1,h2,h3⟩ hnx
   simp only [Qy] at hi;simp only at h1 h2 h3;have hy:=HV hV (hd y (Qq ..));have hL:=hy.l;have hS:=Jz hV (hd y (Qq ..));have hd':∀ z ∈ ys,z ∈ n.aI:=λz hz=>hd z (Qw _ hz);have hif:i<fl.length:=by omega
   obtain ⟨q,hq,hqe⟩:=hf _ (QY hif);unfold qc iJ;refine Gd.iH hif ?_;rw [hqe];refine Gd.eQ (Fm hq) (λa ha=>Gd.eQ (Hz ha.1 ha.2.1 (by omega)) (λb hb=>Gd.iH (by rw [h1]; omega) ?_))
   refine Gd.eQ (vm ⟨by omega,by omega⟩) (λc hc=>Gd.eQ (Ec hb.1 hc.1 hb.2.1 hc.2.1 (by omega)) (λe _=>?_))
   refine Gd.ite (λ_=>Gd.iH (by rw [h2]; omega) (Gd.iH (by rw [h3]; omega) (hnx _ ⟨by omega,hd',by simpa using h1,by simpa using h2,by simpa using h3⟩))) (λ_=>?_)
   refine Gd.iH (by rw [h2]; omega) (Gd.iH (by rw [h2]; omega) (Gd.iH (by simp; omega) (Gd.ite (λ_=>Gd.iH (by rw [h3]; omega) (hnx _ ⟨by omega,hd',by simpa using h1,by simpa using h2,by simpa using h3⟩)) (λ_=>?_))))
   refine Gd.eQ (vm ⟨by omega,by omega⟩) (λc2 hc2=>Gd.eQ (Ec hb.1 hc2.1 hb.2.1 hc2.2.1 (by omega)) (λe2 _=>?_))
   exact Gd.ite (λ_=>Gd.iH (by rw [h3]; omega) (hnx _ ⟨by omega,hd',by simpa using h1,by simpa using h2,by simpa using h3⟩)) (λ_=>hnx _ ⟨by omega,hd',by simpa using h1,by simpa using h2,by simpa using h3⟩)
  ·rintro i ⟨s1,s2,s3⟩ ⟨hi,hd,h1,h2,h3⟩
   have hw:w8 n (bT.mk n.aI s1 s2 s3 (i64.wrap (w.time+d))):=⟨rfl,h1,h2,h3⟩;exact Gd.eQ (FD hw hV.l3) (λr _=>Gd.ret hw)
theorem L6 {n:Net} (hc:cA n=some 0) (hV:pz n):∃ w,qa n=some (some w,0)/\w8 n w:=by
 suffices h:Gd (qa n) (λr=>∃ w,r=(some w,0)/\w8 n w) by
  obtain ⟨r,hr,w,rfl,hw⟩:=h;exact ⟨w,hr,hw⟩
 have:=hV.l3;unfold qa;refine Gd.bind_eq hc (Gd.ite (λk=>by simp at k) (λ_=>Gd.bind_eq (copy_eq hV) ?_))
 refine Gd.eQ (zT (by omega)) (λr hr=>Gd.nd (by omega) (Gd.nd (by omega) (Gd.ret ⟨_,rfl,?_⟩)))
 obtain ⟨z,rfl,_⟩:=hr;exact ⟨rfl,by simp,by simp,by simp⟩
abbrev Rm:=aO
abbrev BE:BA:=⟨#[111,112,101,110]⟩
abbrev yF:BA:=⟨#[99,108,111,115,101]⟩
abbrev CZ:BA:=⟨#[98,97,99,107]⟩
abbrev xy:BA:=⟨#[115,104,101,100]⟩
abbrev wJ:BA:=⟨#[112,114,111,111,102]⟩
structure MC (held:List BA) (n:Net) (e:Ev) (l:List aV):Prop where
 k:e.Kind=BE\/e.Kind=yF
 h:e.Name ∉ held
 s:∃ i,∃ h:i<n.aN.length,n.aN[i].Name=e.Name/\∃ b,l=n.aN.set i (aV.mk n.aN[i].Name n.aN[i].A n.aN[i].B_ n.aN[i].um b)
structure OZ (held:List BA) (n:Net) (on:List BA) (e:Ev) (c:cU):Prop where
 sz:pD c.n
 br:c.n.aI=n.aI
 ln:nm c.n=nm n
 sw:c.n.aN=n.aN\/MC held n e c.n.aN
 on:e.Kind≠CZ/\c.on=on\/e.Kind=CZ/\e.Name ∈ nm n/\e.Name ∉ on/\c.on=on++[e.Name]
 ks:e.Kind≠xy/\e.Kind≠wJ
 hn:e.Kind=BE\/e.Kind=yF->e.Name ∉ held
structure FM (l:List Dt):Prop where
 ok:yZ l
 sz:∀ r ∈ l,Bo r
theorem KS {n:Net} (h:pz n):(n.aN.map (·.Name)).Nodup:=by
 have:=h.nd;unfold names at this;simp only [Rg,QR] at this;exact this.2.1.1
theorem Gu {r:Rm}{n:Net} (hz:pD n) (hV:pz n) (hr:FM r.rules) {on:List BA}{e:Ev} (he:zW e) (hk:e.Kind=BE\/e.Kind=yF):
  Gd (nB r (cU.mk n on) e) (λc=>c.1=0->OZ r.held n on e c.2):=by
 have h2:=hV.l2;unfold nB;refine Gd.eQ (Nr _ e) (λi hi=>Gd.ite (λ_=>Gd.ret (λh=>by simp at h)) (λh0=>Gd.ite (λ_=>Gd.ret (λh=>by simp at h)) (λ_=>?_)))
 rcases hi with ⟨rfl,_⟩ | ⟨i,hlt,rfl,hp,_⟩
 ·simp at h0
 have hp:n.aN[i].Name=e.Name:=by simpa using hp
 refine Gd.iH hlt (Gd.ite (λ_=>Gd.ret (λh=>by simp at h)) (λ_=>?_))
 rw [rU];refine Gd.ite (λ_=>Gd.ret (λh=>by simp at h)) (λhh=>?_)
 have hh:e.Name ∉ r.held:=by simpa using hh
 refine Gd.dI (λj (ys:List aV) (s:List aR)=>j+ys.length=n.aN.length/\n.aN.drop j=ys/\s=(n.aN.take j).map (λy=>aR.mk y.Name (!y.Open))) ?_ ?_ n.aN 0 [] ⟨by simp,rfl,by simp⟩
 ·rintro j y ys s nx ⟨hj,hd,hs⟩ hnx
  simp only [Qy] at hj;unfold qh;have hjl:j<n.aN.length:=by omega
  have hy:n.aN[j]=y:=by
   rw [QV hjl] at hd;exact (VO hd).1
  refine Gd.nd ?_ (hnx _ ⟨by omega,?_,?_⟩)
  ·rw [hs]; simp; omega
  ·rw [QV hjl] at hd
   exact (VO hd).2
  ·rw [hs,QO hjl,hy]; simp
 ·rintro j s ⟨hj,hd,hs⟩
  rw [QD (by simp at hj; omega)] at hs
  have hso:GV s:=by
   refine ⟨by rw [hs]; simpa using h2,?_,?_⟩
   ·intro x hx
    rw [hs] at hx;obtain ⟨y,hy,rfl⟩:=Ra.1 hx;exact (hV.vs y hy).1
   ·rw [hs,List.map_map]
    exact KS hV
  have hsz:∀ x ∈ s,x.Name.size<=maxLen:=by
   intro x hx;rw [hs] at hx;obtain ⟨y,hy,rfl⟩:=Ra.1 hx;exact hz.sw y hy
  have uJ:∃ x ∈ s,x.Name=e.Name:=by
   refine ⟨aR.mk n.aN[i].Name (!n.aN[i].Open),?_,hp⟩;rw [hs];exact Ra.2 ⟨n.aN[i],QY hlt,rfl⟩
  refine Gd.eQ (D9 hr.ok hr.sz hso hsz _ uJ) (λb _=>Gd.ite (λ_=>Gd.ret (λh=>by simp at h)) (λ_=>Gd.iH hlt (Gd.ret (λ_=>?_))))
  refine ⟨⟨hz.nd,?_,hz.br,hz.gn,hz.ld,hz.st⟩,rfl,rfl,.inr ⟨hk,hh,i,hlt,hp,_,rfl⟩,.inl ⟨?_,rfl⟩,?_,λ_=>hh⟩
  ·intro x hx
   rcases V0 hx with hx | rfl
   ·exact hz.sw x hx
   ·show (n.aN[i]).Name.size<=maxLen
    exact hz.sw _ (QY hlt)
  ·rcases hk with h | h <;> rw [h] <;> decide
  ·rcases hk with h | h <;> rw [h] <;> decide
theorem Ny (n:Net) (i:Nat) (h:i<n.bC.length) (v:Int):(n.bC.set i (aG.mk n.bC[i].Name n.bC[i].Node v)).map (·.Name)=nm n:=by
 unfold nm;rw [List.map_set];show (n.bC.map (·.Name)).set i (n.bC[i].Name)=_;have:(n.bC.map (·.Name))[i]'(by simpa using h)=n.bC[i].Name:=by simp
 rw [<- this];exact Vd (by simpa using h)
theorem Ig {r:Rm}{n:Net} (hz:pD n) (hV:pz n) (hr:FM r.rules) {on:List BA} (ho:on.length<=1000) {e:Ev} (he:zW e):
  Gd (og r (cU.mk n on) e) (λc=>c.1=0->OZ r.held n on e c.2):=by
 unfold og;refine Gd.eQ (Np _ e) (λi hi=>Gd.eQ (No _ e) (λj hj=>?_));have main:∀ c:Bool,(c=true->e.Kind=BE\/e.Kind=yF)->(e.Kind=BE\/e.Kind=yF->c=true)->Gd (kO r (cU.mk n on) e i j c) (λc=>c.1=0->OZ r.held n on e c.2):=by
  intro c hc hc2;unfold kO jA;refine Gd.ite (λh=>Gd.eQ (Gu hz hV hr he (hc h)) (λa ha=>Gd.ret ha)) (λhno=>?_);have hnn:e.Kind=BE\/e.Kind=yF->e.Name ∉ r.held:=λh=>by rw [hc2 h] at hno; cases hno
  refine Gd.ite (λhk=>?_) (λhk1=>Gd.ite (λhk=>?_) (λhk2=>Gd.ite (λhk=>?_) (λhk3=>Gd.ite (λhk=>?_) (λ_=>Gd.ret (λh=>by simp at h)))))
  ·refine Gd.ite (λ_=>Gd.ret (λh=>by simp at h)) (λh0=>Gd.ite (λ_=>Gd.ret (λh=>by simp at h)) (λ_=>?_))
   have hk:=Qr hk;rcases hi with ⟨rfl,_⟩ | ⟨i,hlt,rfl,hp,_⟩
   ·simp at h0
   refine Gd.iH hlt (Gd.ret (λ_=>⟨⟨hz.nd,hz.sw,hz.br,hz.gn,?_,hz.st⟩,rfl,Ny n i hlt _,.inl rfl,.inl ⟨by rw [hk]; decide,rfl⟩,by rw [hk]; decide,hnn⟩))
   intro x hx;rcases V0 hx with hx | rfl
   ·exact hz.ld x hx
   ·show (n.bC[i]).Name.size<=maxLen
    exact hz.ld _ (QY hlt)
  ·refine Gd.ite (λ_=>Gd.ret (λh=>by simp at h)) (λh0=>?_)
   have hk:=Qr hk;rcases hj with ⟨rfl,_⟩ | ⟨j,hlt,rfl,hp,_⟩
   ·simp at h0
   refine Gd.iH hlt (Gd.ite (λ_=>Gd.ret (λh=>by simp at h)) (λ_=>Gd.iH hlt (Gd.ret (λ_=>⟨⟨hz.nd,hz.sw,hz.br,?_,hz.ld,hz.st⟩,rfl,rfl,.inl rfl,.inl ⟨by rw [hk]; decide,rfl⟩,by rw [hk]; decide,hnn⟩))))
   intro x hx;rcases V0 hx with hx | rfl
   ·exact hz.gn x hx
   ·show (n.dB[j]).Name.size<=maxLen
    exact hz.gn _ (QY hlt)
  ·refine Gd.ite (λ_=>Gd.ret (λh=>by simp at h)) (λh0=>?_)
   have hk:=Qr hk;rcases hi with ⟨rfl,_⟩ | ⟨i,hlt,rfl,hp,_⟩
   ·simp at h0
   have hp:n.bC[i].Name=e.Name:=by simpa using hp
   rw [rU];refine Gd.ite (λ_=>Gd.ret (λh=>by simp at h)) (λhh=>Gd.iH hlt (Gd.ite (λ_=>Gd.ret (λh=>by simp at h)) (λ_=>Gd.nd ?_ (Gd.ret (λ_=>?_)))))
   ·simp; omega
   ·have hh:e.Name ∉ on:=by simpa using hh
    exact ⟨hz,rfl,rfl,.inl rfl,.inr ⟨hk,Ra.2 ⟨_,QY hlt,hp⟩,hh,rfl⟩,by rw [hk]; decide,hnn⟩
  ·have hk:=Qr hk
   exact Gd.ite (λ_=>Gd.ret (λh=>by simp at h)) (λ_=>Gd.ret (λ_=>⟨hz,rfl,rfl,.inl rfl,.inl ⟨by rw [hk]; decide,rfl⟩,by rw [hk]; decide,hnn⟩))
 refine Gd.ite (λh=>main _ (λ_=>.inl (Qr h)) (λ_=>h)) (λh=>main _ (λh=>.inr (Qr h)) (λk=>?_));rcases k with k | k
 ·exact absurd k (QB h)
 ·exact Xd k
end Go.Sim
