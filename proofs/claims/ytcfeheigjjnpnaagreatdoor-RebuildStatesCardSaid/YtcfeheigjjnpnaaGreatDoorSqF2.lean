/-
  The proof, part F2.
-/
import Derived.Test.YtcfeheigjjnpnaaGreatDoorSqF1
set_option linter.unusedVariables false
set_option linter.unusedSimpArgs false
set_option linter.unusedSectionVars false
set_option linter.unnecessarySimpa false
namespace Go.Sim
abbrev My := @Int.natCast_nonneg
abbrev MB := @List.Sublist.refl
abbrev ME := @List.eq_of_mem_replicate
abbrev MF := @List.filter_cons
abbrev MG := @List.getElem_set
abbrev MO := @List.set_append_right
abbrev Nj := @Rat.intCast_le_intCast
end Go.Sim
namespace Go.Sim
open Go
open _root_.Go.IntKind (i64 u64 u32 u8)
abbrev xK:=(List Nat×List (List LR))×List Int
theorem sE {j w:Nat} (hj:j≤w) (hw:w≤1000):i64.wrap ((j:Int)+1)=((j+1:Nat):Int):=by
 rw [bT ⟨by omega,by omega⟩]; omega
theorem Gw {n w W k i:Nat}{l:List Int}{sg:List Nat}{p:Int}{k1 k2:Nat}{nxO:List (List LR)→Option xK}{f:LR}{rows:List (List LR)}{m:Mt}{F:Rat}{Q:xK→Prop}
  (hSG:(sg.set ((l.length:Int):Int).toNat k1).set (p:Int).toNat k2=sR n) (hl:l.length=k) (hk:k<n) (hi:i<n) (hw:w≤1000) (hkw:k≤w) (hW:W≤100000) (hik:i≠k)
  (hf:kI f) (hfl:RL f W) (fv:rv f=F) (hM:pJ rows n w W m) (hb:∀ c,k≤c→c<w→RB (m i c-F*m k c) W)
  (hnx:∀ rows',pJ rows' n w W (fun i' c=>if i'=i∧k≤c then m i c-F*m k c else m i' c)→Gd (nxO ([]::rows')) Q):
  Gd (gO (fun s n'=>k4 l sg p k1 k2 nxO i f s.1 s.2 n') fX ((k:Int),[]::rows)) Q:=by
 refine Gd.gO (fun s=>∃ (j:Nat) (rows':List (List LR)),s=((j:Int),[]::rows')∧k≤j∧j≤w∧pJ rows' n w W (fun i' c=>if i'=i∧k≤c∧c<j then m i c-F*m k c else m i' c)) (fun s=>((w:Int)-s.1).toNat) ?_ fX _
  ⟨k,rows,rfl,HH _,hkw,hM.congr (fun i' c _ _=>by rw [Hh (by omega)])⟩ (by simp only [fX]; omega)
 rintro _ nx ⟨j,rows',rfl,hkj,hjw,hM'⟩ hnext;show Gd (k4 l sg p k1 k2 nxO i f (j:Int) ([]::rows') nx) Q;unfold k4;simp only [hSG];refine lD hi ?_;rw [hM'.Dl hi]
 by_cases hj:j<w
 ·refine Gd.ite (fun _=>?_) (fun h=>absurd (Nw.1 h) (by simp; omega))
  rw [hl];refine lD hk (ou hM' hk hj (fun y hy hyl hyv=>?_));rw [Hh (by omega)] at hyv
  refine Gd.ite (fun hs=>?_) (fun hs=>?_)
  ·refine lD hi (lD hi (ou hM' hi hj (fun yi gi gil giv=>lD hk (ou hM' hk hj (fun yr gr grl grv=>?_)))))
   rw [Hh (by omega)] at giv grv
   refine Gd.eA (tV hf gr hfl grl (by omega)) (fun mm hmm=>Gd.eA (sC gi hmm.1 gil hmm.2.1 (by omega)) (fun r hr=>ou hM' hi hj (fun _ _ _ _=>?_)))
   have hv:rv r=m i j-F*m k j:=by rw [hr.2.2,hmm.2.2,giv,grv,fv]
   have hrl:RL r W:=hr.1.rb (by rw [hv]; exact hb j hkj hj)
   unfold jJ;rw [sE hjw hw];have h2:=hM'.set hi hj hr.1 hrl;refine hnext _ ⟨j+1,_,rfl,by omega,by omega,h2.congr (fun i' c _ _=>?_)⟩ (by simp only; omega)
   by_cases e:i'=i∧c=j
   ·obtain ⟨rfl,rfl⟩:=e
    rw [Hi ⟨rfl,rfl⟩,Hi (by omega),hv]
   ·rw [Hh e]
    by_cases e2:i'=i∧k≤c∧c<j
    ·rw [Hi e2,Hi (by omega)]
    ·rw [Hh e2,Hh (by omega)]
  ·have h0:m k j=0:=by
    have:=sq hy;rw [hyv] at this;have hs2:decide (cJ y=0)=true:=by simpa using hs
    rw [this] at hs2;exact Hj hs2
   unfold jJ;rw [sE hjw hw];refine hnext _ ⟨j+1,rows',rfl,by omega,by omega,hM'.congr (fun i' c _ _=>?_)⟩ (by simp only; omega)
   by_cases e:i'=i∧c=j
   ·obtain ⟨rfl,rfl⟩:=e
    rw [if_neg (by omega),if_pos (by omega),h0]; grind
   ·by_cases e2:i'=i∧k≤c∧c<j
    ·rw [Hi e2,Hi (by omega)]
    ·rw [Hh e2,Hh (by omega)]
 ·refine Gd.ite (fun h=>absurd (Hj h) (by omega)) (fun _=>?_)
  unfold gJ;refine hnx rows' (hM'.congr (fun i' c _ hc=>?_))
  by_cases e:i'=i∧k≤c
  ·rw [Hi e,Hi (by omega)]
  ·rw [Hh e,Hh (by omega)]
theorem Gv {n w W k:Nat}{l:List Int}{sg:List Nat}{p:Int}{k1 k2:Nat}{K:List (List LR)→Option xK}{rows:List (List LR)}{m:Mt}{Q:xK→Prop}
  (hSG:(sg.set ((l.length:Int):Int).toNat k1).set (p:Int).toNat k2=sR n) (hl:l.length=k) (hk:k<n) (hw:w≤1000) (hkw:k<w) (hW:W≤100000)
  (hM:pJ rows n w W m) (hz:∀ c,c<k→m k c=0) (hb:∀ i c,i<n→i≠k→k≤c→c<w→RB (m i c-m i k*m k c) W)
  (hK:∀ rows',pJ rows' n w W (fun i c=>if i=k then m k c else m i c-m i k*m k c)→Gd (K ([]::rows')) Q):
  Gd (jU (fun kk s n'=>mr l (k:Int) sg p k1 k2 kk s n') K n 0 ([]::rows)) Q:=by
 refine Gd.jU (fun M i s=>i+M=n∧∃ rows':List (List LR),s=[]::rows'∧pJ rows' n w W (fun i' c=>if i'<i∧i'≠k then m i' c-m i' k*m k c else m i' c)) ?_ ?_ n 0 _
  ⟨by omega,rows,rfl,hM.congr (fun i' c _ _=>by rw [Hh (by omega)])⟩
 ·rintro M i _ nx ⟨hiM,rows',rfl,hM'⟩ hnx
  have hi:i<n:=by omega
  unfold mr;simp only [hSG];rw [hl];refine Gd.ite (fun h=>?_) (fun h=>?_)
  ·have e:i=k:=by have:=Hj h; omega
   subst e;unfold gJ;refine hnx _ ⟨by omega,rows',rfl,hM'.congr (fun i' c _ _=>?_)⟩
   by_cases e:i'<i∧i'≠i
   ·rw [Hi e,Hi (by omega)]
   ·rw [Hh e,Hh (by omega)]
  ·have hik:i≠k:=fun e=>by rw [e] at h; simp at h
   refine lD hi (ou hM' hi hkw (fun y hy hyl hyv=>?_));rw [Hh (by omega)] at hyv
   refine Gd.ite (fun hs=>?_) (fun hs=>?_)
   ·have h0:m i k=0:=by
     have:=sq hy;rw [hyv] at this;rw [this] at hs;exact Hj hs
    unfold gJ;refine hnx _ ⟨by omega,rows',rfl,hM'.congr (fun i' c _ _=>?_)⟩
    by_cases e:i'=i
    ·subst e
     rw [if_neg (by omega),if_pos ⟨by omega,hik⟩,h0]; grind
    ·by_cases e2:i'<i∧i'≠k
     ·rw [Hi e2,Hi (by omega)]
     ·rw [Hh e2,Hh (by omega)]
   ·refine lD hi (ou hM' hi hkw (fun f hf hfl hfv=>?_))
    rw [Hh (by omega)] at hfv
    refine Gw (m:=fun i' c=>if i'<i∧i'≠k then m i' c-m i' k*m k c else m i' c) hSG hl hk hi hw (by omega) hW hik hf hfl hfv hM' (fun c h1 h2=>?_) (fun rows'' hM''=>?_)
    ·rw [Hh (by omega),Hh (by omega)]
     exact hb i c hi hik h1 h2
    ·refine hnx _ ⟨by omega,rows'',rfl,hM''.congr (fun i' c _ _=>?_)⟩
     by_cases e:i'=i
     ·subst e
      rw [Hi (show i'<i'+1∧i'≠k from ⟨by omega,hik⟩),Hh (show ¬ (i'<i'∧i'≠k) by omega),Hh (show ¬ (k<i'∧k≠k) by omega)]
      by_cases e3:k≤c
      ·rw [Hi ⟨rfl,e3⟩]
      ·rw [if_neg (by omega),hz c (by omega)]; grind
     ·rw [Hh (show ¬ (i'=i∧k≤c) from fun hh=>e hh.1)]
      by_cases e2:i'<i∧i'≠k
      ·rw [Hi e2,Hi (by omega)]
      ·rw [Hh e2,Hh (by omega)]
 ·rintro i _ ⟨hi,rows',rfl,hM'⟩
  refine hK rows' (hM'.congr (fun i' c hi' _=>?_))
  by_cases e:i'=k
  ·subst e; rw [Hh (by omega),Hi rfl]
  ·rw [Hi ⟨by omega,e⟩,Hh e]
def Cw (k:Nat) (m:Mt):Mt:=fun i c=>if i=k∧k≤c then m k c / m k k else m i c
theorem w9 {k i:Nat} (h:i≠k) (m:Mt) (c:Nat):Cw k m i c=m i c:=Hh (fun hh=>h hh.1)
theorem zz {k c:Nat} (h:k≤c) (m:Mt):Cw k m k c=m k c / m k k:=Hi ⟨rfl,h⟩
theorem zA {k c:Nat} (h:c<k) (m:Mt):Cw k m k c=m k c:=Hh (fun hh=>by omega)
theorem Gu {n w W k:Nat}{l:List Int}{sg:List Nat}{p:Int}{k1 k2:Nat}{nx:(List Int×Int×List Nat×List (List LR))→Option xK}{d:LR}{rows:List (List LR)}{m:Mt}{Q:xK→Prop}
  (hSG:(sg.set ((l.length:Int):Int).toNat k1).set (p:Int).toNat k2=sR n) (hl:l.length=k) (hk:k<n) (hn:n≤1000) (hw:w≤1000) (hkw:k<w) (hW:W≤100000)
  (hd:kI d) (hdl:RL d W) (hdv:rv d=m k k) (hd0:m k k≠0) (hM:pJ rows n w W m) (hz:∀ c,c<k→m k c=0) (hb:∀ i c,i<n→c<w→RB (pW k m i c) W)
  (hnx:∀ rows',pJ rows' n w W (pW k m)→Gd (nx (l++[(k:Int)],((k+1:Nat):Int),sR n,[]::rows')) Q):
  Gd (gO (fun s n'=>k0 l (k:Int) sg nx p k1 k2 d s.1 s.2 n') fX ((k:Int),[]::rows)) Q:=by
 refine Gd.gO (fun s=>∃ (j:Nat) (rows':List (List LR)),s=((j:Int),[]::rows')∧k≤j∧j≤w∧pJ rows' n w W (fun i' c=>if i'=k∧k≤c∧c<j then m k c / m k k else m i' c)) (fun s=>((w:Int)-s.1).toNat) ?_ fX _
  ⟨k,rows,rfl,HH _,by omega,hM.congr (fun i' c _ _=>by rw [Hh (by omega)])⟩ (by simp only [fX]; omega)
 rintro _ nxL ⟨j,rows',rfl,hkj,hjw,hM'⟩ hnext;show Gd (k0 l (k:Int) sg nx p k1 k2 d (j:Int) ([]::rows') nxL) Q;have hdiv:m k k / m k k=1:=by rw [Ni]; exact Nq _ hd0
 unfold k0;simp only [hSG];rw [hl];refine lD hk ?_;rw [hM'.Dl hk]
 by_cases hj:j<w
 ·refine Gd.ite (fun _=>?_) (fun h=>absurd (Nw.1 h) (by simp; omega))
  refine lD hk (lD hk (ou hM' hk hj (fun y hy hyl hyv=>?_)));rw [Hh (by omega)] at hyv
  refine Gd.eA (Ey hy hd (by rw [hdv]; exact hd0) hyl hdl (by omega)) (fun r hr=>ou hM' hk hj (fun _ _ _ _=>?_))
  have hv:rv r=m k j / m k k:=by rw [hr.2.2,hyv,hdv]
  have hrl:RL r W:=hr.1.rb (by
   rw [hv];have:=hb k j hk hj;unfold pW at this;rw [Hi rfl] at this;exact this)
  rw [sE hjw hw];refine hnext _ ⟨j+1,_,rfl,by omega,by omega,(hM'.set hk hj hr.1 hrl).congr (fun i' c _ _=>?_)⟩ (by simp only; omega)
  by_cases e:i'=k∧c=j
  ·obtain ⟨rfl,rfl⟩:=e
   rw [Hi ⟨rfl,rfl⟩,Hi (by omega),hv]
  ·rw [Hh e]
   by_cases e2:i'=k∧k≤c∧c<j
   ·rw [Hi e2,Hi (by omega)]
   ·rw [Hh e2,Hh (by omega)]
 ·refine Gd.ite (fun h=>absurd (Hj h) (by omega)) (fun _=>?_)
  rw [rB,G9];refine Gd.nd (by omega) ?_
  refine Gv (m:=Cw k m) hSG hl hk hw hkw hW (hM'.congr (fun i' c _ hc=>?_)) (fun c hc=>(zA hc m).trans (hz c hc)) (fun i c hi hik h1 h2=>?_) (fun rows'' hM''=>?_)
  ·unfold Cw
   by_cases e:i'=k∧k≤c
   ·rw [Hi e,Hi (by omega)]
   ·rw [Hh e,Hh (by omega)]
  ·rw [w9 hik,w9 hik,zz h1]
   have:=hb i c hi h2;unfold pW at this;rw [Hh hik] at this;exact this
  ·refine Gd.nd (by rw [show ([(k:Int)]:List Int).length=1 from rfl]; omega) ?_
   unfold kZ;rw [sE (show k≤w by omega) hw]
   refine hnx rows'' (hM''.congr (fun i c _ _=>?_));unfold pW
   by_cases e:i=k
   ·subst e
    rw [Hi rfl,Hi rfl]
    by_cases e2:i≤c
    ·rw [zz e2]
    ·rw [zA (by omega),hz c (by omega),Rat.div_def]; grind
   ·rw [Hh e,Hh e,w9 e,w9 e]
    by_cases e2:k≤c
    ·rw [zz e2]
    ·rw [zA (by omega),hz c (by omega),Rat.div_def]; grind
theorem Bv {n w W k:Nat}{cols:Int}{l:List Int}{nx:(List Int×Int×List Nat×List (List LR))→Option xK}{rows:List (List LR)}{m:Mt}{Q:xK→Prop}
  (hl:l.length=k) (hk:k<n) (hc:(k:Int)<cols) (hn:n≤1000) (hw:w≤1000) (hkw:k<w) (hW:W≤100000)
  (hd0:m k k≠0) (hM:pJ rows n w W m) (hz:∀ c,c<k→m k c=0) (hb:∀ i c,i<n→c<w→RB (pW k m i c) W)
  (hnx:∀ rows',pJ rows' n w W (pW k m)→Gd (nx (l++[(k:Int)],((k+1:Nat):Int),sR n,[]::rows')) Q):
  Gd (jI cols l (k:Int) (sR n) ([]::rows) nx) Q:=by
 unfold jI;rw [hl,rB];refine Gd.ite (fun _=>?_) (fun h=>absurd h (by simp; omega))
 refine Gd.gO (fun s=>s=(k:Int)) (fun _=>0) ?_ fX _ rfl (by simp only [fX]; omega)
 rintro _ nx2 rfl _;unfold nY;rw [rB];refine Gd.ite (fun _=>?_) (fun h=>absurd (Nw.1 h) (by simp; omega))
 refine lD hk (ou hM hk hkw (fun y hy hyl hyv=>?_));rw [sq hy,hyv];refine Gd.ite (fun h=>absurd (Hj h) hd0) (fun _=>?_);unfold k5;rw [rB,hl];refine Gd.ite (fun h=>absurd (Hj h) (by omega)) (fun _=>?_)
 refine lD hk (lD hk (lD hk ?_));rw [yQ hk,G9,uQ hk];refine lD hk (lD hk (ou hM hk hkw (fun d hd hdl hdv=>?_)));exact Gu (by rw [hl]; exact yQ hk) hl hk hn hw hkw hW hd hdl hdv hd0 hM hz hb hnx
def yZ (n i:Nat):List Nat:=(List.range i).map (·+1)++List.replicate (n-i) 0
theorem ve (n:Nat):yZ n 0=List.replicate n 0:=by simp [yZ]
theorem vd (n:Nat):yZ n n=sR n:=by simp [yZ,sR]
theorem zi {n i:Nat} (hi:i<n):(yZ n i)[i]? = some 0:=by
 unfold yZ;rw [HU (by simp),JZ,Hi (by simp; omega)]
theorem uL {n i:Nat} (hi:i<n):(yZ n i).set i (i+1)=yZ n (i+1):=by
 unfold yZ;rw [MO _ _ (by simp)]
 have e:n-i=(n-(i+1))+1:=by omega
 rw [e,J7,KZ];simp
theorem DS {n i:Nat} (hi:i<n):(yZ n (i+1))[i]? = some (i+1):=by
 rw [← uL hi,HP (by simp [yZ]; omega)]
theorem wa {n:Nat}{rows:List (List LR)} (h:rows.length=n):m_ (sR n) ([]::rows)=rows:=by
 apply Jm;intro i;unfold m_;rw [HR]
 by_cases hi:i<n
 ·rw [xz hi,I6,AB,G7 (by omega)]; rfl
 ·rw [Ir (by rw [rB]; omega),Ir (by omega)]; rfl
theorem DX {rows:List (List LR)}{n:Nat} (hl:rows.length=n) (hn:n≤1000) (hr:∀ y ∈ rows,y.length≤1000):Gd (qa rows) (fun r=>r=(sR n,[]::rows)):=by
 unfold qa;rw [hl];refine Gd.nd (by omega) ?_
 rw [G9];refine Gd.dW (fun i l s=>∃ pre,rows=pre++l∧pre.length=i∧s=(yZ n i,[]::pre)) ?_ ?_ rows 0 _ ⟨[],rfl,rfl,by rw [ve]⟩
 ·rintro i y ys _ nx ⟨pre,hp,hpl,rfl⟩ hnx
  have hi:i<n:=by rw [← hl,hp,HN,Hw]; omega
  have hy:=hr y (by rw [hp]; simp)
  unfold qG;refine Gd.nd (by simp; omega) (Gd.ix (by omega) (by rw [G9]; exact zi hi) (hnx _ ⟨pre++[y],by rw [hp]; simp,by simp [hpl],?_⟩))
  rw [G9,Hw,hpl,uL hi];simp
 ·rintro i _ ⟨pre,hp,hpl,rfl⟩
  rw [H9] at hp;subst hp;refine Gd.ret ?_;rw [← hpl,hl,vd]
theorem pJ.short {rows:List (List LR)}{n w W:Nat}{m:Mt} (h:pJ rows n w W m) (hw:w≤1000):∀ y ∈ rows,y.length≤1000:=by
 intro y hy;obtain ⟨i,hi,he⟩:=IS.1 hy;obtain ⟨l,h1,h2,_⟩:=h.row i (by rw [← h.len]; exact hi)
 rw [G7 hi] at h1;have:=G3 h1;rw [← he,this]; omega
theorem Bw {rows:List (List LR)}{n W:Nat}{A m0:Mt} (hn:n≤400) (hW:W≤100000) (hp:Pd n A) (h0:Gj n A 0 m0) (hM:pJ rows n (2*n) W m0)
  (hB:∀ k m,k≤n→Gj n A k m→∀ i c,i<n→c<2*n→RB (m i c) W):
  Gd (mL rows (n:Int)) (fun r=>∃ rows' m,r.1=(sR n,[]::rows')∧r.2.length=n∧Gj n A n m∧pJ rows' n (2*n) W m):=by
 unfold mL;refine Gd.eA (DX hM.len (by omega) (hM.short (by omega))) (fun r hr=>?_)
 subst hr;refine Gd.gO (fun s=>∃ (k:Nat) (l:List Int) (rows':List (List LR)) (m:Mt),s=(l,(k:Int),sR n,[]::rows')∧l.length=k∧k≤n∧Gj n A k m∧pJ rows' n (2*n) W m) (fun s=>((n:Int)-s.2.1).toNat) ?_ fX _
  ⟨0,[],rows,m0,rfl,rfl,by omega,h0,hM⟩ (by simp only [fX]; omega)
 rintro _ nx ⟨k,l,rows',m,rfl,hl,hk,hG,hM'⟩ hnext;show Gd (jI (n:Int) l (k:Int) (sR n) ([]::rows') nx) _
 by_cases h:k<n
 ·have hd:=hG.pivot hp h
  refine Bv hl h (by omega) (by omega) (by omega) (by omega) hW hd hM' (fun c hc=>?_) (fun i c hi hc=>hB (k+1) _ (by omega) (hG.step h hd) i c hi hc) (fun rows'' hM''=>?_)
  ·rw [hG.left k c h (by omega) hc,lU (by omega)]
  ·exact hnext _ ⟨k+1,_,rows'',_,rfl,by simp [hl],by omega,hG.step h hd,hM''⟩ (by simp only; omega)
 ·obtain rfl:k=n:=by omega
  unfold jI;refine Gd.ite (fun h=>absurd h (by simp)) (fun _=>Gd.ret ⟨rows',m,rfl,hl,hG,hM'⟩)
theorem wc {n:Nat} (hn:n≤1000):Gd (lg (n:Int)) (fun r=>∃ z,r=List.replicate n z∧kI z∧RL z 2∧rv z=0):=by
 unfold lg;refine Gd.eA (ss (n:=0) (by omega)) (fun z hz=>Gd.nd (by simp; omega) (Gd.ret ⟨z,sk _ _,hz.1,hz.2.1,by rw [hz.2.2]; rfl⟩))
theorem pJ.snoc {rows:List (List LR)}{n w W:Nat}{m:Mt} (h:pJ rows n w W m) {l:List LR} (h2:l.length=w) (h3:∀ c,c<w→∃ y,l[c]? = some y∧kI y∧RL y W∧rv y=m n c):pJ (rows++[l]) (n+1) w W m:=by
 refine ⟨by simp [h.len],fun i hi=>?_⟩
 by_cases e:i<n
 ·obtain ⟨l',a,b,c⟩:=h.row i e
  exact ⟨l',by rw [IL (by rw [h.len]; exact e)]; exact a,b,c⟩
 ·obtain rfl:i=n:=by omega
  exact ⟨l,by rw [HU (by rw [h.len]; omega),h.len,IN]; rfl,h2,h3⟩
def w_ (n:Nat) (A:Mt):Mt:=fun i c=>if c<n then A i c else dl i (c-n)
theorem Cz (n:Nat) (A:Mt):Gj n A 0 (w_ n A):=by
 have e:∀ i j,w_ n A i (n+j)=dl i j:=fun i j=>by unfold w_; rw [Hh (by omega)]; congr 1; omega
 refine ⟨fun i c hi hc=>?_,fun i j _ _ _=>e i j,fun i c _ _ h=>by omega⟩
 have h1:sm n (fun j=>w_ n A i (n+j)*A j c)=w_ n A i (n+i)*A i c:=vY (p:=i) hi (fun j hj hne=>by rw [e,lU (fun x=>hne x.symm)]; grind)
 rw [h1,e,mH];unfold w_;rw [if_pos hc]; grind
theorem D4 {n k W:Nat}{y:List LR}{z one:LR}{A:Mt} (hk:k<n) (hy:y.length=n) (hyc:∀ c,c<n→∃ v,y[c]? = some v∧kI v∧RL v W∧rv v=A k c) (hz:kI z∧RL z 2∧rv z=0) (ho:kI one∧RL one 2∧rv one=1) (hW:2≤W):
  ((([]++y)++List.replicate n z).set (n+k) one).length=2*n∧∀ c,c<2*n→∃ v,((([]++y)++List.replicate n z).set (n+k) one)[c]? = some v∧kI v∧RL v W∧rv v=w_ n A k c:=by
 refine ⟨by simp [hy]; omega,fun c hc=>?_⟩
 rw [Jv];unfold w_
 by_cases h1:c<n
 ·obtain ⟨v,a,b,d,e⟩:=hyc c h1
  refine ⟨v,?_,b,d,by rw [Hi h1]; exact e⟩
  rw [HJ (by omega),IL (by omega)]; exact a
 ·by_cases h2:c=n+k
  ·subst h2
   refine ⟨one,by rw [HP (by simp [hy]; omega)],ho.1,ho.2.1.mono hW,?_⟩
   rw [Hh h1,ho.2.2,JG,mH]
  ·refine ⟨z,?_,hz.1,hz.2.1.mono hW,?_⟩
   ·rw [HJ (by omega),HU (by omega),JZ,Hi (by omega)]
   ·rw [Hh h1,hz.2.2,lU (by omega)]
theorem zG {rows:List (List LR)}{n W:Nat}{A:Mt} (hn:n≤400) (hW:W≤100000) (hW2:2≤W) (hp:Pd n A) (hM:pJ rows n n W A)
  (hB:∀ k m,k≤n→Gj n A k m→∀ i c,i<n→c<2*n→RB (m i c) W):
  Gd (mb rows) (fun r=>r.2=true∧∃ m,Gj n A n m∧pJ r.1 n n W (fun i c=>m i (n+c))):=by
 unfold mb;rw [hM.len];refine Gd.nd (by omega) ?_
 rw [G9];refine Gd.jU (fun M i s=>i+M=n∧∃ pre:List (List LR),s=(yZ n i,[]::pre)∧pJ pre i (2*n) W (w_ n A)) ?_ ?_ n 0 _ ⟨by omega,[],by rw [ve],⟨rfl,fun i hi=>by omega⟩⟩
 ·rintro M i _ nx ⟨hiM,pre,rfl,hpre⟩ hnx
  have hi:i<n:=by omega
  obtain ⟨y,y1,y2,y3⟩:=hM.row i hi;unfold oP;rw [hM.len];refine Gd.ix (y:=y) (by omega) (by rw [G9]; exact y1) (Gd.nd (by simp; omega) (Gd.eA (wc (by omega)) ?_))
  rintro _ ⟨z,rfl,hz⟩;refine Gd.nd (by simp; omega) (Gd.ix (by omega) (by rw [G9]; exact zi hi) ?_)
  have hlen:([]::pre:List (List LR)).length=i+1:=by simp [hpre.len]
  rw [hlen,G9,uL hi];refine Gd.ix (by omega) (by rw [G9]; exact DS hi) (Gd.eA (ss (n:=1) (by omega)) (fun one ho=>?_))
  have ho2:kI one∧RL one 2∧rv one=1:=⟨ho.1,ho.2.1,by rw [ho.2.2]; rfl⟩
  have hrow:=D4 hi y2 y3 hz ho2 hW2;have hat:((([]::pre++[([]++y)++List.replicate n z]:List (List LR))[i+1]?).getD [])=([]++y)++List.replicate n z:=by
   rw [JQ,List.getElem?_cons_succ,HU (by rw [hpre.len]; omega),hpre.len,IN]; rfl
  rw [hat];have hwr:i64.wrap ((n:Int)+(i:Int))=((n+i:Nat):Int):=by rw [bT ⟨by omega,by omega⟩]; omega
  rw [hwr];refine Gd.ix (y:=z) (by omega) ?_ (hnx _ ⟨by omega,pre++[(([]++y)++List.replicate n z).set (n+i) one],?_,hpre.snoc hrow.1 hrow.2⟩)
  ·rw [G9,Jv,HU (by omega),JZ,Hi (by omega)]
  ·rw [G9,JQ,List.set_cons_succ,MO _ _ (by rw [hpre.len]; omega),hpre.len,IN]
   rfl
 ·rintro i _ ⟨hi,pre,rfl,hpre⟩
  obtain rfl:i=n:=by omega
  show Gd ((mL (m_ (yZ i i) ([]::pre)) (i:Int)).bind _) _;rw [vd,wa hpre.len];refine Gd.eA (Bw hn hW hp (Cz i A) hpre hB) ?_;rintro ⟨⟨sg,ls⟩,pv⟩ ⟨rows',m,he,hpl,hG,hM'⟩;obtain ⟨rfl,rfl⟩:=Prod.mk.inj he;simp only at hpl ⊢;rw [hpl];refine Gd.ite (fun h=>absurd (Hj h) (by omega)) (fun _=>?_)
  rw [rB];refine Gd.nd (by omega) ?_
  rw [G9];refine Gd.jU (fun M k s=>k+M=i∧∃ rs:List (List LR),s=(sR i,[]::rs)∧rs.length=i∧∀ q,q<i→rs[q]? = if q<k then (rows'[q]?).map (·.drop i) else rows'[q]?) ?_ ?_ i 0 _
   ⟨by omega,rows',rfl,hM'.len,fun q _=>by rw [Hh (by omega)]⟩
  ·rintro M k _ nx ⟨hkM,rs,rfl,hrl,hrs⟩ hnx
   have hk:k<i:=by omega
   obtain ⟨l,l1,l2,l3⟩:=hM'.row k hk;have hat:rs[k]? = some l:=by rw [hrs k hk,Hh (by omega),l1]
   unfold oQ;rw [hM.len];refine lD hk ?_;rw [AB,hat,Jz];refine Gd.nd (by omega) (lD hk (Gd.nd ?_ ?_))
   ·rw [G9]
    refine Ef (fun j hj=>?_);have hjn:j<i:=by
     have:=(G4.1 hj).1
     rwa [rB] at this
    rw [xz hjn] at hj;have:=G3 hj;omega
   ·rw [G9,G9,uQ hk,Fv]
    refine hnx _ ⟨by omega,_,rfl,by rw [Hx]; exact hrl,fun q hq=>?_⟩
    by_cases e:k=q
    ·subst e
     rw [HP (by omega),Hi (by omega),l1]; rfl
    ·rw [HJ e,hrs q hq]
     by_cases e2:q<k
     ·rw [Hi e2,Hi (by omega)]
     ·rw [Hh e2,Hh (by omega)]
  ·rintro k _ ⟨hk,rs,rfl,hrl,hrs⟩
   refine Gd.ret ⟨rfl,m,hG,?_⟩;show pJ (m_ (sR i) ([]::rs)) i i W _;rw [wa hrl];refine ⟨hrl,fun q hq=>?_⟩;obtain ⟨l,l1,l2,l3⟩:=hM'.row q hq;refine ⟨l.drop i,by rw [hrs q hq,Hi (by omega),l1]; rfl,by rw [Jg]; omega,fun c hc=>?_⟩
   obtain ⟨v,a,b,d,e⟩:=l3 (i+c) (by omega)
   exact ⟨v,by rw [Ia]; exact a,b,d,e⟩
def wq (k:Nat):Rat:=(((WB ^ k:Nat):Int):Rat)
theorem qO (a b:Nat):wq a*wq b=wq (a+b):=by unfold wq; rw [M5,Ij,Nk]
theorem qP (a:Nat):1≤wq a:=by
 unfold wq;have h:(1:Nat)≤WB ^ a:=Nat.one_le_pow _ _ (by decide)
 have h2:(1:Int)≤((WB ^ a:Nat):Int):=by omega
 have:=Nj.2 h2
 rwa [Rat.intCast_one] at this
theorem sD {a b:Nat} (h:a≤b):wq a≤wq b:=by
 unfold wq;have h:WB ^ a≤WB ^ b:=M7 (by decide) h
 exact Nj.2 (by omega)
theorem u_ {x y a b:Rat} (h1:-a≤x) (h2:x≤a) (h3:-b≤y) (h4:y≤b):-(a*b)≤x*y∧x*y≤a*b:=by
 have e1:=Rat.mul_nonneg (show 0≤a-x by grind) (show 0≤b+y by grind)
 have e2:=Rat.mul_nonneg (show 0≤a+x by grind) (show 0≤b-y by grind)
 have e3:=Rat.mul_nonneg (show 0≤a-x by grind) (show 0≤b-y by grind)
 have e4:=Rat.mul_nonneg (show 0≤a+x by grind) (show 0≤b+y by grind)
 constructor <;> grind
theorem C0 {z:Int}{k:Nat} (h1:-wq k≤(z:Rat)) (h2:(z:Rat)≤wq k):z.natAbs<WB ^ (k+1):=by
 unfold wq at h1 h2;rw [← Nl] at h1;have a1:=Nj.1 h1;have a2:=Nj.1 h2;have a3:WB ^ k<WB ^ (k+1):=Nat.pow_lt_pow_right (by decide) (by omega)
 omega
theorem tT {p q:Rat}{k:Nat} (hp:pF p) (hq:pF q) (p1:-wq k≤p) (p2:p≤wq k) (q1:-wq k≤q) (q2:q≤wq k) (q0:q≠0) (hk:k≤186):RB (p / q) (k+1):=by
 obtain ⟨a,rfl⟩:=hp;obtain ⟨b,rfl⟩:=hq;exact RB.ratio (C0 p1 p2) (C0 q1 q2) (fun e=>q0 (by rw [e]; rfl)) (by omega)
theorem RB.zero:RB 0 1:=by
 have:=RB.small (m:=0) (by decide)
 simpa using this
theorem RB.one:RB 1 1:=by
 have:=RB.small (m:=1) (by decide)
 simpa using this
theorem RB.dl (i j:Nat):RB (dl i j) 1:=by
 rcases rD i j with h | h <;> rw [h]
 ·exact RB.zero
 ·exact RB.one
theorem RB.sm {f:Nat→Rat}{a:Nat}:∀ {n:Nat},n*(a+1)+1≤700000→(∀ j,j<n→RB (f j) a)→RB (sm n f) (n*(a+1)+1)
 | 0,_,_=>RB.zero.mono (by omega)
 | n+1,hn,h=>by
  have e:(n+1)*(a+1)=n*(a+1)+(a+1):=Nat.succ_mul _ _;have h1:=RB.sm (n:=n) (by omega) (fun j hj=>h j (by omega))
  exact (h1.add (h n (by omega)) (by omega)).mono (by omega)
structure Nb (n:Nat) (A:Mt) (L:Nat→Rat) (B:Mt) (R:Nat→Rat):Prop where
 s:BQ n A L B R
 hP:pr n R≤wq 60
 hL:∀ i,i<n→L i≤wq 18
theorem Nb.R {n:Nat}{A B:Mt}{L R:Nat→Rat} (h:Nb n A L B R) {i:Nat} (hi:i<n):R i≤wq 60:=by
 have key:∀ {m:Nat},(∀ j,j<m→1≤R j)→i<m→R i≤pr m R:=by
  intro m
  induction m with
  | zero=>intro _ h; omega
  | succ m ih=>
   intro h1 hi;have p1:1≤pr m R:=xu (fun j hj=>h1 j (by omega))
   show R i≤pr m R*R m
   by_cases e:i=m
   ·subst e
    have:=Rat.mul_le_mul_of_nonneg_right p1 (show 0≤R i by have:=h1 i hi; grind)
    grind
   ·have a:=ih (fun j hj=>h1 j (by omega)) (by omega)
    have:=Rat.mul_le_mul_of_nonneg_left (h1 m (by omega)) (show 0≤pr m R by grind)
    grind
 exact No (key (fun j hj=>h.s.R1 hj) hi) h.hP
theorem Nb.L0 {n:Nat}{A B:Mt}{L R:Nat→Rat} (h:Nb n A L B R) {i:Nat} (hi:i<n):L i≠0:=fun e=>by
 have:=h.s.l1 i hi; rw [e] at this; exact absurd this (by decide)
theorem Nb.ab {n:Nat}{A B:Mt}{L R:Nat→Rat} (h:Nb n A L B R) {i c:Nat} (hi:i<n) (hc:c<n):-wq 60≤L i*A i c∧L i*A i c≤wq 60:=by
 have h1:=h.s.ab i c hi hc;have h2:=E7 (f:=B i) (h.s.b0 i) hc;have h3:=h.s.rs i hi;have h4:=h.R hi;constructor <;> grind
theorem Nb.A {n:Nat}{A B:Mt}{L R:Nat→Rat} (h:Nb n A L B R) {i c:Nat} (hi:i<n) (hc:c<n):RB (A i c) 61:=by
 have e:A i c=(L i*A i c) / L i:=by
  rw [Ni];have:=Nq (L i) (h.L0 hi)
  grind
 rw [e];have l1:=h.s.l1 i hi;have l2:=h.hL i hi;have l3:=sD (show 18≤60 by omega)
 have w:=qP 60;exact tT (h.s.ai i c hi hc) (h.s.li i hi) (h.ab hi hc).1 (h.ab hi hc).2 (by grind) (by grind) (h.L0 hi) (by omega)
def Dk (A:Mt) (L:Nat→Rat) (k:Nat):Rat:=mz k (fun r c=>L r*A r c)
theorem Nb.D0 {n:Nat}{A B:Mt}{L R:Nat→Rat} (h:Nb n A L B R) (hp:Pd n A):∀ {k:Nat},k≤n→Dk A L k≠0∧∃ m,Gj n A k m
 | 0,_=>⟨by show (1:Rat)≠0; decide,_,Cz n A⟩
 | k+1,hk=>by
  obtain ⟨d,m,hG⟩:=h.D0 hp (k:=k) (by omega)
  have hd:=hG.pivot hp (by omega)
  refine ⟨?_,_,hG.step (by omega) hd⟩
  have e:=hG.mz (k:=k) (by omega) (L:=L) (fun i hi=>h.L0 hi)
  show Sim.mz (k+1) (fun r c=>L r*A r c)≠0;rw [e];intro h0;rcases Np.1 h0 with h1 | h1
  ·rcases Np.1 h1 with h2 | h2
   ·exact h.L0 (by omega) h2
   ·exact hd h2
  ·exact d h1
theorem Nb.Db {n:Nat}{A B:Mt}{L R:Nat→Rat} (h:Nb n A L B R) {k:Nat} (hk:k≤n):pF (Dk A L k)∧-wq 60≤Dk A L k∧Dk A L k≤wq 60:=by
 obtain ⟨a,b,c⟩:=h.s.mz hk;have:=h.hP;refine ⟨a,?_,?_⟩ <;> unfold Dk <;> grind
theorem Nb.num {n:Nat}{A B m:Mt}{L R:Nat→Rat} (h:Nb n A L B R) (hp:Pd n A) {k:Nat} (hG:Gj n A k m) (hk:k≤n) {i p:Nat} (hi:i<n) (hpk:p<k):RB (m i (n+p)) 140:=by
 obtain ⟨N,n1,n2,n3,e⟩:=hG.num h.s hk hi hpk;obtain ⟨d1,d2,d3⟩:=h.Db hk;have d0:=(h.D0 hp hk).1;have hP:=h.hP;have p1:1≤pr n R:=xu (fun j hj=>h.s.R1 hj);have r1:=h.s.R1 hi;have r2:=h.R hi;have hNb:pr n R*R i≤wq 120:=by
  rw [← qO 60 60];exact mg hP r2 (by grind) (by grind)
 have lp:=h.s.l1 p (by omega)
 have lp2:=h.hL p (by omega)
 have t:=u_ (x:=N) (y:=L p) (a:=wq 120) (b:=wq 18) (by grind) (by grind) (by have:=qP 18; grind) lp2
 rw [qO] at t;have s0:(if k≤i then L i else 1)≠0:=by
  split
  ·exact h.L0 hi
  ·decide
 have s1:pF (if k≤i then L i else 1):=by
  split
  ·exact h.s.li i hi
  ·exact ⟨1,rfl⟩
 have s2:1≤(if k≤i then L i else 1)∧(if k≤i then L i else 1)≤wq 18:=by
  split
  ·exact ⟨h.s.l1 i hi,h.hL i hi⟩
  ·exact ⟨Nn,qP 18⟩
 generalize (if k≤i then L i else 1)=s at e s0 s1 s2
 have u:=u_ (x:=s) (y:=Dk A L k) (a:=wq 18) (b:=wq 60) (by have:=qP 18; grind) s2.2 d2 d3
 rw [qO] at u;have e2:m i (n+p)=(N*L p) / (s*Dk A L k):=by
  have e3:s*m i (n+p)*Dk A L k=N*L p:=e;rw [← e3,Ni];have h3:s*Dk A L k≠0:=fun hh=>by
   rcases Np.1 hh with h1 | h1
   ·exact s0 h1
   ·exact d0 h1
  have:=Nq _ h3
  grind
 rw [e2];have w1:=sD (show 18+60≤139 by omega)
 have w2:=sD (show 120+18≤139 by omega)
 refine tT (nR n1 (h.s.li p (by omega))) (nR s1 d1) (by grind) (by grind) (by grind) (by grind) ?_ (by omega)
 intro hh;rcases Np.1 hh with h1 | h1
 ·exact s0 h1
 ·exact d0 h1
theorem Nb.rb {n:Nat}{A B:Mt}{L R:Nat→Rat} (h:Nb n A L B R) (hp:Pd n A) (hn:n≤24) (k:Nat) (m:Mt) (hk:k≤n) (hG:Gj n A k m) (i c:Nat) (hi:i<n) (hc:c<2*n):RB (m i c) 6000:=by
 have right:∀ p,p<n→RB (m i (n+p)) 140:=fun p hpn=>by
  by_cases e:p<k
  ·exact h.num hp hG hk hi e
  ·rw [hG.right i p hi hpn (by omega)]
   exact (RB.dl i p).mono (by omega)
 by_cases hcn:c<n
 ·rw [hG.Fg hk hi hcn]
  have h1:RB (sm k (fun j=>m i (n+j)*A j c)) (k*202+1):=RB.sm (a:=201) (by omega) (fun j hj=>(right j (by omega)).mul (h.A (by omega) hcn) (by omega))
  have h2:RB (if k≤i then A i c else 0) 61:=by
   split
   ·exact h.A hi hcn
   ·exact RB.zero.mono (by omega)
  exact (h1.add h2 (by omega)).mono (by omega)
 ·have e:c=n+(c-n):=by omega
  rw [e];exact (right (c-n) (by omega)).mono (by omega)
theorem Bh (l:List Int) (p:Int):Gd (iH l p) (fun r=>(r = -1∧p ∉ l)∨∃ (k:Nat) (h:k<l.length),r=k∧l[k]=p):=by
 unfold iH;refine Gd.jU (fun m i _=>i+m=l.length∧p ∉ l.take i) ?_ ?_ (l.length:Int).toNat 0 () ⟨by omega,by simp⟩
 ·intro m i _ nx ⟨hi,hno⟩ hnx
  unfold kH;refine Gd.jz (by omega) (Gd.ite (fun h=>Gd.ret (.inr ⟨i,by omega,rfl,?_⟩)) (fun h=>hnx () ⟨by omega,?_⟩))
  ·have:p=l[i]:=by simpa using h
   exact this.symm
  ·rw [Iq (by omega),HW,IA]
   rintro (h' | h')
   ·exact hno h'
   ·simp [h'] at h
 ·intro i _ ⟨hi,hno⟩
  rw [HK (by omega)] at hno
  exact Gd.ret (.inl ⟨rfl,hno⟩)
structure BP (M:aY) (n N:Nat) (F:Nat→Nat) (l:List (Rat×Nat×Nat)) (t:Rat):Prop where
 hn:n≤23
 free:M.lS=(List.range n).map (fun i=>(F i:Int))
 inj:∀ i j,i<n→j<n→F i=F j→i=j
 lt:∀ i,i<n→F i<N
 hN:N≤24
 ll:l.length≤24
 el:∀ e ∈ l,e.2.1<N∧e.2.2<N
 fr:M.g_=l.map (fun e=>(e.2.1:Int))
 to:M.To=l.map (fun e=>(e.2.2:Int))
 bl:M.B_.length=l.length
 b:∀ (k:Nat) (y:LR),M.B_[k]? = some y→∃ e,l[k]? = some e∧kI y∧RL y 2∧rv y=t / e.1
def Eo:Option Nat→Int
 | none=>-1
 | some i=>(i:Int)
def eo (o:Option Nat) (r:Nat):Rat:=if o=some r then 1 else 0
theorem pD (i r:Nat):eo (some i) r=dl i r:=by
 unfold eo dl
 by_cases e:i=r
 ·subst e; rw [Hi rfl,Hi rfl]
 ·rw [Hh (fun h=>e (G3 h)),Hh e]
theorem pC (r:Nat):eo none r=0:=Hh (by simp)
theorem yF {M:aY}{n N:Nat}{F:Nat→Nat}{l:List (Rat×Nat×Nat)}{t:Rat} (h:BP M n N F l t) (u:Nat):
  Gd (iX M (u:Int)) (fun r=>∃ o:Option Nat,r=Eo o∧(∀ i,o=some i→i<n∧F i=u)∧∀ r,r<n→eo o r=dl (F r) u):=by
 unfold iX;refine Gd.eA (Bh _ _) (fun r hr=>Gd.ret ?_);rw [h.free] at hr;rcases hr with ⟨rfl,hno⟩ | ⟨k,hk,rfl,e⟩
 ·refine ⟨none,rfl,fun i hi=>by simp at hi,fun r hr=>?_⟩
  rw [pC,lU];intro e;exact hno (IH.2 ⟨r,Io.2 hr,by rw [e]⟩)
 ·have hkn:k<n:=by simpa using hk
  have e2:F k=u:=by simp at e; omega
  refine ⟨some k,rfl,fun i hi=>by obtain rfl:=G3 hi; exact ⟨hkn,e2⟩,fun r hr=>?_⟩
  rw [pD]
  by_cases e3:k=r
  ·subst e3; rw [mH,e2,mH]
  ·rw [lU e3,lU]
   intro e4;exact e3 (h.inj k r hkn hr (by omega))
theorem pJ.xG {rows:List (List LR)}{n w W:Nat}{m:Mt} (h:pJ rows n w W m) {p q:Nat} (hp:p<n) (hq:q<w) {e:LR}{d:Rat} (he:kI e) (hW:RL e W) (hv:rv e=m p q+d):
  pJ (rows.set p (((rows[p]?).getD []).set q e)) n w W (fun r c=>m r c+d*(dl p r*dl q c)):=by
 refine (h.set hp hq he hW).congr (fun r c _ _=>?_)
 by_cases e1:r=p∧c=q
 ·obtain ⟨rfl,rfl⟩:=e1
  rw [if_pos ⟨rfl,rfl⟩,mH,mH,hv]; grind
 ·rw [Hh e1]
  by_cases e2:p=r
  ·rw [lU (i:=q) (fun e=>e1 ⟨e2.symm,e.symm⟩)]; grind
  ·rw [lU e2]; grind
abbrev BO:=List (List LR)→Option aY
theorem E0 {n W:Nat}{nx:BO}{b:LR}{oi oj:Option Nat}{rows:List (List LR)}{m:Mt}{Q:aY→Prop} (hM:pJ rows n n W m) (hW:W≤1000) (hb:kI b) (hbl:RL b 2)
  (hi:∀ i,oi=some i→i<n) (hj:∀ j,oj=some j→j<n) (hne:∀ i,oi=some i→oj≠some i)
  (hnx:∀ rows',pJ rows' n n (W+3) (fun r c=>m r c-rv b*(eo oi r*eo oj c)-rv b*(eo oj r*eo oi c))→Gd (nx ([]::rows')) Q):
  Gd (fK (sR n) nx b (Eo oi) (Eo oj) ([]::rows)) Q:=by
 unfold fK eN;cases oi with
 | none=>
  refine Gd.ite (fun h=>absurd h (by simp [Eo])) (fun _=>hnx rows ((hM.mono (by omega)).congr (fun r c _ _=>?_)))
  rw [pC,pC]; grind
 | some i=>
  cases oj with
  | none=>
   refine Gd.ite (fun h=>absurd h (by simp [Eo])) (fun _=>hnx rows ((hM.mono (by omega)).congr (fun r c _ _=>?_)))
   rw [pC,pC]; grind
  | some j=>
   have hi:=hi i rfl;have hj:=hj j rfl;have hij:i≠j:=fun e=>hne i rfl (by rw [e])
   show Gd (if ((decide (0≤(i:Int)) && decide (0≤(j:Int)))=true) then _ else _) Q
   refine Gd.ite (fun _=>?_) (fun h=>absurd h (by simp))
   show Gd (idx (sR n) (i:Int) _) Q;refine lD hi (lD hj (lD hi (ou hM hi hj (fun y1 a1 a2 a3=>Gd.eA (sC a1 hb a2 hbl (by omega)) (fun r1 b1=>?_)))))
   show Gd (idx (sR n) (j:Int) _) Q;refine lD hj (ou hM hj hi (fun y2 c1 c2 c3=>Gd.eA (sC c1 hb c2 hbl (by omega)) (fun r2 d1=>?_)))
   show Gd (idx ((([]::rows:List (List LR))[i+1]?).getD []) (j:Int) _) Q;refine ou hM hi hj (fun _ _ _ _=>?_);have h2:=(hM.mono (show W≤W+3 by omega)).xG hi hj (d:=-rv b) b1.1 (b1.2.1.mono (by omega)) (by rw [b1.2.2,a3]; grind)
   show Gd (idx ((([]::(rows.set i (((rows[i]?).getD []).set j r1)):List (List LR))[j+1]?).getD []) (i:Int) _) Q;refine ou h2 hj hi (fun _ _ _ _=>?_);have h3:=h2.xG hj hi (d:=-rv b) d1.1 (d1.2.1.mono (by omega)) (by
    rw [d1.2.2,c3,lU hij]; grind)
   refine hnx _ (h3.congr (fun r c _ _=>?_));rw [pD,pD,pD,pD]; grind
theorem E1 {n W:Nat}{nx:BO}{b:LR}{oi oj:Option Nat}{rows:List (List LR)}{m:Mt}{Q:aY→Prop} (hM:pJ rows n n W m) (hW:W≤900) (hb:kI b) (hbl:RL b 2)
  (hi:∀ i,oi=some i→i<n) (hj:∀ j,oj=some j→j<n) (hne:∀ i,oi=some i→oj≠some i)
  (hnx:∀ rows',pJ rows' n n (W+6) (fun r c=>m r c+rv b*(eo oj r*eo oj c)-rv b*(eo oi r*eo oj c)-rv b*(eo oj r*eo oi c))→Gd (nx ([]::rows')) Q):
  Gd (fL (sR n) nx b (Eo oi) (Eo oj) ([]::rows)) Q:=by
 unfold fL;cases oj with
 | none=>
  refine Gd.ite (fun h=>absurd h (by simp [Eo])) (fun _=>E0 (oj:=none) (hM.mono (show W≤W+3 by omega)) (by omega) hb hbl hi hj hne (fun rows' h'=>hnx rows' (h'.congr (fun r c _ _=>?_))))
  rw [pC,pC]; grind
 | some j=>
  have hj':=hj j rfl;show Gd (if (decide (0≤(j:Int))=true) then _ else _) Q
  refine Gd.ite (fun _=>?_) (fun h=>absurd h (by simp))
  show Gd (idx (sR n) (j:Int) _) Q;refine lD hj' (lD hj' (ou hM hj' hj' (fun y1 a1 a2 a3=>Gd.eA (rz a1 hb a2 hbl (by omega)) (fun r1 b1=>ou hM hj' hj' (fun _ _ _ _=>?_)))))
  have h2:=(hM.mono (show W≤W+3 by omega)).xG hj' hj' (d:=rv b) b1.1 (b1.2.1.mono (by omega)) (by rw [b1.2.2,a3])
  refine E0 (oj:=some j) h2 (by omega) hb hbl hi hj hne (fun rows' h'=>hnx rows' (h'.congr (fun r c _ _=>?_)))
  rw [pD,pD]
theorem zI (l:List (Rat×(Nat→Rat))) (e:Rat×(Nat→Rat)) (r c:Nat):eU (l++[e]) r c=eU l r c+e.1*e.2 r*e.2 c:=by
 induction l with
 | nil=>show e.1*e.2 r*e.2 c+0=0+_; grind
 | cons a l ih=>show a.1*a.2 r*a.2 c+eU (l++[e]) r c=a.1*a.2 r*a.2 c+eU l r c+_; rw [ih]; grind
theorem wY {α:Type}{l:List α}{k:Nat}{e:α} (f:α→Int) (h:l[k]? = some e):(l.map f)[k]? = some (f e):=by rw [HR,h]; rfl
theorem FN {M:aY}{n N:Nat}{F:Nat→Nat}{l:List (Rat×Nat×Nat)}{t:Rat} (h:BP M n N F l t) {k W:Nat}{e:Rat×Nat×Nat} (he:l[k]? = some e) {b:LR} (hb:kI b) (hbl:RL b 2) (hbv:rv b=t / e.1)
  {nx:BO}{rows:List (List LR)}{pre:List (Rat×Nat×Nat)}{Q:aY→Prop} (hW:W≤800) (hM:pJ rows n n W (eU ((pre.map (wt t)).map (kd F))))
  (hnx:∀ rows',pJ rows' n n (W+9) (eU (((pre++[e]).map (wt t)).map (kd F)))→Gd (nx ([]::rows')) Q):
  Gd (gT M (sR n) k b ([]::rows) nx) Q:=by
 obtain ⟨q,u,v⟩:=e;unfold gT;rw [h.fr,h.to];have f1:=wY (fun e:Rat×Nat×Nat=>(e.2.1:Int)) he;have f2:=wY (fun e:Rat×Nat×Nat=>(e.2.2:Int)) he;have new:∀ r c,eU (((pre++[(q,u,v)]).map (wt t)).map (kd F)) r c=eU ((pre.map (wt t)).map (kd F)) r c+rv b*(dl (F r) u-dl (F r) v)*(dl (F c) u-dl (F c) v):=fun r c=>by
  rw [I4,I4];show eU (_++[_]) r c=_;rw [zI,hbv]; rfl
 refine Gd.ix (by omega) (by rw [G9]; exact f1) ?_
 refine Gd.eA (yF h u) ?_;rintro _ ⟨oi,rfl,i1,i2⟩;refine Gd.ix (by omega) (by rw [G9]; exact f2) ?_
 refine Gd.eA (yF h v) ?_;rintro _ ⟨oj,rfl,j1,j2⟩;refine Gd.ix (by omega) (by rw [G9]; exact f1) (Gd.ix (by omega) (by rw [G9]; exact f2) ?_)
 refine Gd.ite (fun huv=>?_) (fun huv=>?_)
 ·have e1:u=v:=by have:=Hj huv; simp only at this; omega
  subst e1;unfold eN;refine hnx rows ((hM.mono (by omega)).congr (fun r c _ _=>?_))
  rw [new]; grind
 ·have e1:u≠v:=fun e=>by subst e; simp at huv
  have hne:∀ i,oi=some i→oj≠some i:=fun i hi hj=>by
   have:=(i1 i hi).2;have:=(j1 i hj).2;omega
  have fin:∀ rows',pJ rows' n n (W+9) (fun r c=>eU ((pre.map (wt t)).map (kd F)) r c+rv b*(eo oi r*eo oi c)+rv b*(eo oj r*eo oj c)-rv b*(eo oi r*eo oj c)-rv b*(eo oj r*eo oi c))→Gd (nx ([]::rows')) Q:=fun rows' h'=>
   hnx rows' (h'.congr (fun r c hr hc=>by rw [new,i2 r hr,i2 c hc,j2 r hr,j2 c hc]; grind))
  cases oi with
  | none=>
   refine Gd.ite (fun h=>absurd h (by simp [Eo])) (fun _=>E1 (oi:=none) (hM.mono (show W≤W+3 by omega)) (by omega) hb hbl (fun i hi=>(i1 i hi).1) (fun j hj=>(j1 j hj).1) hne (fun rows' h'=>fin rows' ((h'.mono (by omega)).congr (fun r c _ _=>?_))))
   rw [pC,pC]; grind
  | some i=>
   have hi:=(i1 i rfl).1;show Gd (if (decide (0≤(i:Int))=true) then _ else _) Q
   refine Gd.ite (fun _=>?_) (fun h=>absurd h (by simp))
   show Gd (idx (sR n) (i:Int) _) Q;refine lD hi (lD hi (ou hM hi hi (fun y1 a1 a2 a3=>Gd.eA (rz a1 hb a2 hbl (by omega)) (fun r1 b1=>ou hM hi hi (fun _ _ _ _=>?_)))))
   have h2:=(hM.mono (show W≤W+3 by omega)).xG hi hi (d:=rv b) b1.1 (b1.2.1.mono (by omega)) (by rw [b1.2.2,a3])
   refine E1 (oi:=some i) h2 (by omega) hb hbl (fun i hi=>(i1 i hi).1) (fun j hj=>(j1 j hj).1) hne (fun rows' h'=>fin rows' ((h'.mono (by omega)).congr (fun r c _ _=>?_)))
   rw [pD,pD]
structure ET (rows:List (List LR)) (n:Nat) (A:Mt):Prop where
 ex:∃ m,Gj n A n m∧pJ rows n n 6000 (fun i c=>m i (n+c))
theorem Bj {M:aY}{n N:Nat}{F:Nat→Nat}{l:List (Rat×Nat×Nat)}{t:Rat} (h:BP M n N F l t) {B:Mt}{L R:Nat→Rat} (hp:Pd n (eU ((l.map (wt t)).map (kd F)))) (hB:Nb n (eU ((l.map (wt t)).map (kd F))) L B R):
  Gd (jX M) (fun M'=>∃ rows,M'={ M with mJ:=rows }∧ET rows n (eU ((l.map (wt t)).map (kd F)))):=by
 have hn:=h.hn;have hfl:M.lS.length=n:=by rw [h.free]; simp
 unfold jX;rw [hfl,G9,IM];refine Gd.nd (by omega) (Gd.nd (by omega) ?_)
 rw [G9];refine Gd.jU (fun m i s=>i+m=n∧∃ pre:List (List LR),s=(yZ n i,[]::pre)∧pJ pre i n 2 (fun _ _=>0)) ?_ ?_ n 0 _ ⟨by omega,[],by rw [ve],⟨rfl,fun i hi=>by omega⟩⟩
 ·rintro m i _ nx ⟨him,pre,rfl,hpre⟩ hnx
  have hi:i<n:=by omega
  unfold lO;rw [hfl];refine Gd.eA (wc (by omega)) ?_
  rintro _ ⟨z,rfl,hz⟩;refine Gd.ix (by omega) (by rw [G9]; exact zi hi) (hnx _ ⟨by omega,pre++[List.replicate n z],?_,hpre.snoc (by simp) (fun c hc=>⟨z,by rw [JZ,Hi hc],hz.1,hz.2.1,hz.2.2⟩)⟩)
  rw [G9,Hw,hpre.len,uL hi]; rfl
 ·rintro i _ ⟨hi,pre,rfl,hpre⟩
  obtain rfl:i=n:=by omega
  show Gd (dW (fun k y s1523 n=>gT M (yZ i i) k y s1523 n) _ 0 M.B_ ([]::pre)) _;rw [vd];refine Gd.dW (fun k ys s=>∃ (bs:List LR) (rows:List (List LR)),M.B_=bs++ys∧bs.length=k∧s=[]::rows∧pJ rows i i (2+9*k) (eU (((l.take k).map (wt t)).map (kd F)))) ?_ ?_ M.B_ 0 _ ⟨[],pre,rfl,rfl,rfl,by rw [LH]; exact hpre⟩
  ·rintro k y ys _ nx ⟨bs,rows,hbs,hbk,rfl,hM⟩ hnx
   have hy:M.B_[k]? = some y:=by rw [hbs,HU (by omega),hbk,IN]; rfl
   obtain ⟨e,he,y1,y2,y3⟩:=h.b k y hy;have hkl:=(G4.1 he).1;have hll:=h.ll;have e2:l.take (k+1)=l.take k++[e]:=by
    rw [Iq hkl,(G4.1 he).2]
   refine FN h he y1 y2 y3 (by omega) hM (fun rows' h'=>hnx _ ⟨bs++[y],rows',by rw [hbs]; simp,by simp [hbk],rfl,?_⟩)
   rw [e2];exact h'.mono (by omega)
  ·rintro k _ ⟨bs,rows,hbs,hbk,rfl,hM⟩
   have hll:=h.ll;have hbl:=h.bl;rw [H9] at hbs;have hkl:k=l.length:=by rw [← hbl,hbs,hbk]
   rw [hkl,Jp] at hM;show Gd ((mb (m_ (sR i) ([]::rows))).bind _) _;rw [wa hM.len];refine Gd.eA (zG (by omega) (by omega) (by omega) hp (hM.mono (by omega)) (hB.rb hp (by omega))) (fun r hr=>Gd.ret ⟨r.1,rfl,⟨hr.2⟩⟩)
abbrev Net:=aD
theorem Gd.forAll {R α σ:Type}{Q:R→Prop}{body:Nat→α→σ→(σ→Option R)→Option R}{k:σ→Option R}{l:List α} (P:α→Prop) (J:σ→Prop)
  (hb:∀ i y s n,y ∈ l→J s→(P y→∀ s',J s'→Gd (n s') Q)→Gd (body i y s n) Q) (hk:(∀ x ∈ l,P x)→∀ s,J s→Gd (k s) Q) (s:σ) (hs:J s):Gd (Sim.dW body k 0 l s) Q:=by
 have key:∀ (ys pre:List α) (i:Nat) (s:σ),l=pre++ys→(∀ x ∈ pre,P x)→J s→Gd (Sim.dW body k i ys s) Q:=by
  intro ys
  induction ys with
  | nil=>intro pre i s hl hp hs; exact hk (by rw [hl,H9]; exact hp) s hs
  | cons y ys ih=>
   intro pre i s hl hp hs;refine hb i y s _ (by rw [hl]; exact IG _ (Ha ..)) hs (fun hP s' hs'=>?_)
   exact ih (pre++[y]) (i+1) s' (by rw [hl]; simp) (fun x hx=>by
    rcases HW.1 hx with hx | hx
    ·exact hp x hx
    ·simp at hx; subst hx; exact hP) hs'
 exact key l [] 0 s rfl (by simp) hs
theorem yB (s:ByteArray) (h:s.size≤maxLen):Gd (cM s) (fun _=>True):=by
 unfold cM;refine Gd.nd h (Gd.dW (fun _ _ _=>True) (fun i y ys s n _ hn=>?_) (fun i s _=>Gd.ret G6) _ _ _ G6);unfold nJ;exact Gd.ite (fun _=>Gd.ret G6) (fun _=>hn _ G6)
theorem wH (l:List ByteArray) (p:ByteArray):Gd (bC l p) (fun r=>(r = -1∧p ∉ l)∨∃ (k:Nat) (h:k<l.length),r=k∧l[k]=p):=by
 unfold bC;refine Gd.jU (fun m i _=>i+m=l.length∧p ∉ l.take i) ?_ ?_ (l.length:Int).toNat 0 () ⟨by omega,by simp⟩
 ·intro m i _ nx ⟨hi,hno⟩ hnx
  unfold iS;refine Gd.jz (by omega) (Gd.ite (fun h=>Gd.ret (.inr ⟨i,by omega,rfl,?_⟩)) (fun h=>hnx () ⟨by omega,?_⟩))
  ·have:p=l[i]:=by simpa using h
   exact this.symm
  ·rw [Iq (by omega),HW,IA]
   rintro (h' | h')
   ·exact hno h'
   ·simp [h'] at h
 ·intro i _ ⟨hi,hno⟩
  rw [HK (by omega)] at hno
  exact Gd.ret (.inl ⟨rfl,hno⟩)
theorem te {l:List ByteArray}{p:ByteArray} (h:p ∈ l):∃ k:Nat,bC l p=some (k:Int)∧∃ hk:k<l.length,l[k]=p:=by
 obtain ⟨r,hr,h2⟩:=wH l p;rcases h2 with ⟨_,hno⟩ | ⟨k,hk,rfl,e⟩
 ·exact absurd h hno
 ·exact ⟨k,hr,hk,e⟩
theorem pH (l:List ByteArray) (p:ByteArray):Gd (cK l p) (fun b=>b=true↔p ∈ l):=by
 unfold cK;refine Gd.eA (wH l p) (fun r hr=>Gd.ret ?_);rcases hr with ⟨rfl,hno⟩ | ⟨k,hk,rfl,e⟩
 ·simp [hno]
 ·have:p ∈ l:=e▸Iu _
  simp [this]
theorem pL (c:aT) (name:ByteArray) (nodes:List ByteArray) (h:name.size≤maxLen):
  Gd (bX c name nodes) (fun r=>r.1=0→∀ x ∈ nodes,x ∈ c.nodes):=by
 unfold bX;refine Gd.eA (yB name h) (fun a _=>Gd.ite (fun _=>Gd.ret (fun h=>by simp at h)) (fun _=>Gd.ite (fun _=>Gd.ret (fun h=>by simp at h)) (fun _=>?_)))
 refine Gd.forAll (fun x=>x ∈ c.nodes) (fun _=>True) ?_ ?_ () G6
 ·intro i y s n hy _ hn
  unfold eZ;refine Gd.eA (pH c.nodes y) (fun b hb=>Gd.ite (fun _=>Gd.ret (fun h=>by simp at h)) (fun h=>hn (hb.1 (by simpa using h)) _ G6))
 ·intro hall s _
  refine Gd.ite (fun h=>?_) (fun _=>Gd.ret (fun _=>hall));have h2:nodes.length=2:=by
   have:((nodes.length:Nat):Int)=2:=by simpa using h
   omega
  have e1:(0:Int)=((0:Nat):Int):=rfl;have e2:(1:Int)=((1:Nat):Int):=rfl;rw [e1,e2];exact Gd.jz (by omega) (Gd.jz (by omega) (Gd.ite (fun _=>Gd.ret (fun h=>by simp at h)) (fun _=>Gd.ret (fun _=>hall))))
structure oh (n:Net):Prop where
 nd:∀ x ∈ n.bJ,x.size≤maxLen
 sw:∀ x ∈ n.bM,x.Name.size≤maxLen
 br:∀ x ∈ n.aK,x.Name.size≤maxLen
 gn:∀ x ∈ n.dR,x.Name.size≤maxLen
 ld:∀ x ∈ n.cC,x.Name.size≤maxLen
 st:∀ x ∈ n.bZ,x.Name.size≤maxLen
structure lx (n:Net):Prop where
 l1:n.bJ.length≤24
 l2:n.bM.length≤32
 l3:n.aK.length≤24
 l4:n.dR.length≤10
 l5:n.cC.length≤12
 sw:∀ x ∈ n.bM,x.A ∈ n.bJ∧x.B_ ∈ n.bJ
 br:∀ x ∈ n.aK,x.g_ ∈ n.bJ∧x.To ∈ n.bJ
 gn:∀ x ∈ n.dR,x.Node ∈ n.bJ∧0≤x.cZ∧x.cZ≤x.gL∧x.gL≤100000
 ld:∀ x ∈ n.cC,x.Node ∈ n.bJ∧0≤x.bN∧x.bN≤100000
theorem D1 (c:aT) (n:Net) (hz:oh n):
  Gd (eP c n) (fun r=>r.1=0→(∀ x ∈ n.dR,x.Node ∈ c.nodes∧0≤x.cZ∧x.cZ≤x.gL∧x.gL≤100000)∧(∀ x ∈ n.cC,x.Node ∈ c.nodes∧0≤x.bN∧x.bN≤100000)):=by
 unfold eP;refine Gd.forAll (fun x=>x.Node ∈ c.nodes∧0≤x.cZ∧x.cZ≤x.gL∧x.gL≤100000) (fun _=>True) ?_ ?_ _ G6
 ·intro i y s nx hy _ hn
  unfold fQ;refine Gd.eA (pL _ _ _ (hz.gn y hy)) (fun r hr=>Gd.ite (fun h=>Gd.ret (fun h2=>absurd h2 (by simpa using h))) (fun h=>Gd.ite (fun _=>Gd.ret (fun h2=>by simp at h2)) (fun h2=>hn ?_ _ G6)))
  have h0:r.1=0:=by simpa using h
  have:=hr h0 y.Node (by simp)
  simp [aZ,bK] at h2;exact ⟨this,by omega,by omega,by omega⟩
 ·intro hg s _
  refine Gd.forAll (fun x=>x.Node ∈ c.nodes∧0≤x.bN∧x.bN≤100000) (fun _=>True) ?_ ?_ _ G6
  ·intro i y s nx hy _ hn
   unfold fR;refine Gd.eA (pL _ _ _ (hz.ld y hy)) (fun r hr=>Gd.ite (fun h=>Gd.ret (fun h2=>absurd h2 (by simpa using h))) (fun h=>Gd.ite (fun _=>Gd.ret (fun h2=>by simp at h2)) (fun h2=>hn ?_ _ G6)))
   have h0:r.1=0:=by simpa using h
   have:=hr h0 y.Node (by simp)
   simp [aZ,bK] at h2;exact ⟨this,by omega,by omega⟩
  ·intro hl s _
   refine Gd.forAll (fun _=>True) (fun _=>True) ?_ ?_ _ G6
   ·intro i y s nx hy _ hn
    unfold fS;refine Gd.eA (pL _ _ _ (hz.st y hy)) (fun r hr=>Gd.ite (fun h=>Gd.ret (fun h2=>absurd h2 (by simpa using h))) (fun h=>Gd.ite (fun _=>Gd.ret (fun h2=>by simp at h2)) (fun _=>hn G6 _ G6)))
   ·intro _ s _
    exact Gd.ret fun _=>⟨hg,hl⟩
theorem Cf (n:Net) (hz:oh n):Gd (cD n) (fun e=>e=0→lx n):=by
 unfold cD;refine Gd.ite (fun _=>Gd.ret (fun h=>by simp at h)) (fun hl=>?_)
 simp only [Mq,Nw,Int.not_lt] at hl;refine Gd.forAll (fun _=>True) (fun _=>True) ?_ ?_ _ G6
 ·intro i y s nx hy _ hn
  unfold jY;exact Gd.eA (pL _ _ _ (hz.nd y hy)) (fun r hr=>Gd.ite (fun h=>Gd.ret (fun h2=>absurd h2 (by simpa using h))) (fun h=>hn G6 _ G6))
 intro _ s _;refine Gd.forAll (fun x=>x.A ∈ n.bJ∧x.B_ ∈ n.bJ) (fun _=>True) ?_ ?_ _ G6
 ·intro i y s nx hy _ hn
  unfold jZ;refine Gd.eA (pL _ _ _ (hz.sw y hy)) (fun r hr=>Gd.ite (fun h=>Gd.ret (fun h2=>absurd h2 (by simpa using h))) (fun h=>hn ?_ _ G6))
  have h0:r.1=0:=by simpa using h
  exact ⟨hr h0 y.A (by simp),hr h0 y.B_ (by simp)⟩
 intro hsw s _;refine Gd.forAll (fun x=>x.g_ ∈ n.bJ∧x.To ∈ n.bJ) (fun _=>True) ?_ ?_ _ G6
 ·intro i y s nx hy _ hn
  unfold ka;refine Gd.eA (pL _ _ _ (hz.br y hy)) (fun r hr=>Gd.ite (fun h=>Gd.ret (fun h2=>absurd h2 (by simpa using h))) (fun h=>Gd.ite (fun h=>Gd.ret (fun h2=>absurd h2 (by simpa using h))) (fun _=>hn ?_ _ G6)))
  have h0:r.1=0:=by simpa using h
  exact ⟨hr h0 y.g_ (by simp),hr h0 y.To (by simp)⟩
 intro hbr s _;refine Gd.eA (D1 _ n hz) (fun r hr=>Gd.ret (fun h=>?_));obtain ⟨hg,hl2⟩:=hr h;exact ⟨by omega,by omega,by omega,by omega,by omega,hsw,hbr,hg,hl2⟩
def xH (N:Nat) (l:List bS):Prop:=∀ e ∈ l,0≤e.a0∧e.a0<N∧0≤e.a1∧e.a1<N
structure ti (N:Nat) (many:Int) (out:List Int):Prop where
 len:out.length=N
 DG:∀ v ∈ out,-1≤v∧v<many
def uK (N:Nat) (l:List Int):Prop:=∀ a ∈ l,0≤a∧a<(N:Int)
def nM (out:List Int):Nat:=out.countP (fun v=>decide (v<0))
theorem ti.set {N:Nat}{many:Int}{out:List Int} (h:ti N many out) {v:Int} (hv:0≤v∧v<many) (i:Nat):ti N many (out.set i v):=
 ⟨by simp [h.len],fun x hx=>by
  rcases MM hx with hx | rfl
  ·exact h.DG x hx
  ·omega⟩
theorem yz {out:List Int}{i:Nat} (hi:i<out.length) (hn:out[i]<0) {v:Int} (hv:0≤v):nM (out.set i v)+1=nM out:=by
 unfold nM;rw [List.countP_set hi];have h1:decide (out[i]<0)=true:=decide_eq_true hn;have h2:decide (v<0)=false:=Nv (by omega)
 rw [h1,h2];have hpos:0<out.countP (fun v=>decide (v<0)):=List.countP_pos_iff.2 ⟨_,Iu hi,h1⟩;simp;omega
def sP (a b:List Int):Prop:=∀ (i:Nat) (v:Int),a[i]? = some v→0≤v→∃ w,b[i]? = some w∧0≤w
theorem sP.refl (a:List Int):sP a a:=fun i v h h0=>⟨v,h,h0⟩
theorem sP.set {a b:List Int} (h:sP a b) (i:Nat) {v:Int} (hv:0≤v):sP a (b.set i v):=by
 intro j w hj hw;obtain ⟨u,hu,hu0⟩:=h j w hj hw
 by_cases e:i=j
 ·subst e
  exact ⟨v,by simp [(G4.1 hu).1],hv⟩
 ·exact ⟨u,by rw [HJ e]; exact hu,hu0⟩
theorem C9 (N:Nat) (hN:N≤24) (l:List bS) (hl:xH N l) (hll:l.length≤64) (wo:Int):Gd (lf N l wo) (fun r=>r.length=N∧∀ v ∈ r,0≤v∧v<N):=by
 unfold lf;refine Gd.nd ⟨rfl,by omega,by omega⟩ (Gd.nd (by omega) ?_)
 rw [sk];refine Gd.jU (fun m i s=>i+m=N∧0≤s.2∧s.2≤(i:Int)∧ti N s.2 s.1∧∀ (j:Nat) (v:Int),j<i→s.1[j]? = some v→0≤v) ?_ ?_ (N:Int).toNat 0 (List.replicate N (-1),0) ⟨by omega,by simp,by simp,⟨by simp,by simp⟩,by simp⟩
 ·rintro m i ⟨out,many⟩ nx ⟨hi,h0,hmi,hp,hk⟩ hn
  simp only at h0 hmi hp hk;have hilt:i<out.length:=by rw [hp.len]; omega
  unfold mi;refine Gd.jz hilt (Gd.ite (fun h=>?_) (fun h=>?_))
  ·have hge:0≤out[i]:=by simpa using h
   unfold gI;refine hn _ ⟨by omega,h0,by show many≤((i+1:Nat):Int); omega,hp,fun j v hj hv=>?_⟩
   by_cases e:j=i
   ·subst e
    rw [G7 hilt] at hv;cases hv; exact hge
   ·exact hk j v (by omega) hv
  ·have hneg:out[i]<0:=by simpa using h
   refine Gd.jz hilt ?_;rw [G9];have hw:i64.wrap (many+1)=many+1:=bT ⟨by omega,by omega⟩
   have hp1:ti N (many+1) out:=⟨hp.len,fun v hv=>by have:=hp.DG v hv; omega⟩
   have hbase0:2*nM (out.set i many)+[(i:Int)].length≤2*N+1:=by
    have hc:nM (out.set i many)≤N:=by unfold nM; rw [← hp.len,← Hx (as:=out) (i:=i) (a:=many)]; exact Kg
    simp only [Im]; omega
   refine Gd.gO (fun (s:List Int×List Int)=>ti N (many+1) s.1∧sP (out.set i many) s.1∧uK N s.2∧2*nM s.1+s.2.length≤2*N+1) (fun s=>2*nM s.1+s.2.length) ?_ fX _ ⟨hp1.set ⟨h0,by omega⟩ i,sP.refl _,by intro a ha; simp at ha; omega,hbase0⟩ ?_
   ·rintro ⟨o,todo⟩ nx2 ⟨hq,hkp,htd,htot⟩ hn2
    simp only at hq hkp htd htot;unfold mj;refine Gd.ite (fun hne=>?_) (fun _=>?_)
    ·have hne:0<todo.length:=by
      have:(0:Int)<((todo.length:Nat):Int):=by simpa using hne
      omega
     obtain ⟨at_,ts,rfl⟩:∃ a ts,todo=a::ts:=by
      cases todo with
      | nil=>simp at hne
      | cons a ts=>exact ⟨a,ts,rfl⟩
     refine Gd.ix (y:=at_) (by decide) rfl (Gd.nd ⟨by omega,by simp only [Hw]; omega⟩ ?_)
     have hat:=htd at_ (Ha ..);have hsl:oA (at_::ts) (1:Int).toNat (at_::ts).length=ts:=by
      unfold oA;rw [show (1:Int).toNat=1 from rfl,Me,Jf,HK (by simp)]
     rw [hsl];simp only [Hw] at htot;have push:∀ (b:List Int) (td:List Int) (q:Int) (nn:(List Int×List Int)→Option (List Int)),0≤q→q<N→ti N (many+1) b→sP (out.set i many) b→uK N td→2*nM b+td.length≤2*nM o+ts.length →
       (∀ s',(ti N (many+1) s'.1∧sP (out.set i many) s'.1∧uK N s'.2∧2*nM s'.1+s'.2.length≤2*nM o+ts.length)→Gd (nn s') (fun r=>r.length=N∧∀ v ∈ r,0≤v∧v<N)) →
       Gd (Sim.idx b q fun y7689=>if decide (y7689<0) then (Sim.idx b q fun y7694=>dQ ((td.length+([q]).length)*8≤140737488355328) (dC nn (b.set (q:Int).toNat many) (td++([q])))) else (dC nn b td)) (fun r=>r.length=N∧∀ v ∈ r,0≤v∧v<N):=by
      intro b td q nn q0 qN hb hkb htd2 hms hnn;have hql:q.toNat<b.length:=by rw [hb.len]; omega
      have hget:b[q.toNat]? = some b[q.toNat]:=G7 hql;unfold dC;refine Gd.ix q0 hget (Gd.ite (fun h=>Gd.ix q0 hget (Gd.nd ?_ (hnn _ ⟨hb.set ⟨h0,by omega⟩ _,hkb.set _ h0,?_,?_⟩))) (fun h=>hnn _ ⟨hb,hkb,htd2,hms⟩))
      ·have h1:b[q.toNat]<0:=by simpa using h
       have hc:nM o≤N:=by unfold nM; rw [← hq.len]; exact Kg
       simp;omega
      ·intro a ha
       rcases HW.1 ha with ha | ha
       ·exact htd2 a ha
       ·simp at ha; omega
      ·have h1:b[q.toNat]<0:=by simpa using h
       have:=yz hql h1 h0;simp;omega
     have hc:nM o≤N:=by unfold nM; rw [← hq.len]; exact Kg
     ·refine Gd.forAll (fun _=>True) (fun (s:List Int×List Int)=>ti N (many+1) s.1∧sP (out.set i many) s.1∧uK N s.2∧2*nM s.1+s.2.length≤2*nM o+ts.length) ?_ ?_ _ ⟨hq,hkp,(fun a ha=>htd a (Ho _ ha):uK N ts),HH (2*nM o+ts.length)⟩
      ·rintro k e ⟨b,td⟩ nn he ⟨hb,hkb,htd2,hms⟩ hnn
       simp only at hb hkb htd2 hms;obtain ⟨e1,e2,e3,e4⟩:=hl e he;have hw1:i64.wrap (e.a0+e.a1)=e.a0+e.a1:=bT ⟨by omega,by omega⟩
       have hw2:i64.wrap (e.a0+e.a1-at_)=e.a0+e.a1-at_:=bT ⟨by omega,by omega⟩
       unfold ml;rw [hw1,hw2];refine Gd.ite (fun _=>hnn G6 _ ⟨hb,hkb,htd2,hms⟩) (fun _=>Gd.ite (fun h=>?_) (fun _=>Gd.ite (fun _=>hnn G6 _ ⟨hb,hkb,htd2,hms⟩) (fun h=>?_)))
       ·have h:e.a0=at_:=by simpa using h
        exact push b td _ nn (by omega) (by omega) hb hkb htd2 hms (fun s' hs'=>hnn G6 s' hs')
       ·have h:e.a1=at_:=by simpa using h
        exact push b td _ nn (by omega) (by omega) hb hkb htd2 hms (fun s' hs'=>hnn G6 s' hs')
      ·rintro _ ⟨b,td⟩ ⟨hb,hkb,htd2,hms⟩
       simp only at hb hkb htd2 hms;exact hn2 _ ⟨hb,hkb,htd2,by show 2*nM b+td.length≤2*N+1; omega⟩ (by simp only [Hw]; omega)
    ·unfold gI
     rw [hw];refine hn _ ⟨by omega,by show (0:Int)≤many+1; omega,by show many+1≤((i+1:Nat):Int); omega,hq,fun j v hj hv=>?_⟩
     have hjl:j<out.length:=by omega
     have hbase:∃ w,(out.set i many)[j]? = some w∧0≤w:=by
      by_cases e:i=j
      ·subst e; exact ⟨many,by simp [hilt],h0⟩
      ·exact ⟨out[j],by rw [HJ e]; exact G7 hjl,hk j _ (by omega) (G7 hjl)⟩
     obtain ⟨w,hw1,hw0⟩:=hbase;obtain ⟨u,hu,hu0⟩:=hkp j w hw1 hw0;simp only at hv;rw [hu] at hv; cases hv; exact hu0
   ·refine Kz hbase0 ?_
    unfold fX; omega
 ·rintro i ⟨out,many⟩ ⟨hi,h0,hmi,hp,hk⟩
  simp only at h0 hmi hp hk;refine Gd.ret ⟨hp.len,fun v hv=>?_⟩;obtain ⟨j,hj,hje⟩:=IS.1 hv;have hj:j<out.length:=hj;have h1:=hp.DG v hv;have h2:=hk j v (by have:=hp.len; omega) (by rw [G7 hj]; exact Ht some hje)
  omega
theorem wF (N:Nat) (hN:N≤24) (l:List bS) (hl:xH N l) (hll:l.length≤64):nh N l=some 0:=by
 rw [← Gd.eq];unfold nh;refine Gd.ite (fun h=>?_) (fun _=>Gd.forAll (Q:=fun x=>x=0) (fun _=>True) (fun _=>True) ?_ (fun _ _ _=>Gd.ret rfl) _ G6)
 ·simp at h; omega
 ·intro i e s n he _ hn
  obtain ⟨e1,e2,e3,e4⟩:=hl e he;unfold oM;exact Gd.ite (fun h=>by simp at h; omega) (fun _=>Gd.ite (fun h=>by simp at h; omega) (fun _=>Gd.ite (fun h=>by simp at h; omega) (fun _=>Gd.ite (fun h=>by simp at h; omega) (fun _=>hn G6 _ G6))))
theorem Ch (N:Nat) (hN:N≤24) (l:List bS) (hl:xH N l) (hll:l.length≤64):Gd (fN N l) (fun r=>r.1.length=N∧uK N r.1):=by
 unfold fN;refine Gd.bind_eq (wF N hN l hl hll) (Gd.ite (fun h=>by simp at h) (fun _=>Gd.eA (C9 N hN l hl hll (-1)) (fun r hr=>Gd.ret hr)))
theorem Cy (n:Net) (hn:lx n) (o:Bool):Gd (l7 n o) (fun r=>r.1.length≤32∧xH n.bJ.length r.1):=by
 unfold l7;refine Gd.dW (fun i ys s=>i+ys.length=n.bM.length∧(∀ y ∈ ys,y ∈ n.bM)∧s.1.length≤i∧s.2.length≤i∧xH n.bJ.length s.1) ?_ ?_ _ _ _ ⟨by simp,fun _ h=>h,by simp,by simp,by intro e he; simp at he⟩
 ·rintro i y ys ⟨a,b⟩ nx ⟨hi,hm,ha,hb,he⟩ hnx
  simp only [Hw] at hi ha hb he;have h2:=hn.l2;have hys:∀ z ∈ ys,z ∈ n.bM:=fun z hz=>hm z (Ho _ hz);unfold nL kC;refine Gd.ite (fun _=>?_) (fun _=>hnx _ ⟨by omega,hys,by simp only; omega,by simp only; omega,he⟩)
  obtain ⟨h1,h2'⟩:=hn.sw y (hm y (Ha ..));obtain ⟨p,hp,hpl,_⟩:=te h1;obtain ⟨q,hq,hql,_⟩:=te h2';refine Gd.bind_eq hp (Gd.bind_eq hq (Gd.nd (by simp; omega) (Gd.nd (by simp; omega) (hnx _ ⟨by omega,hys,by simp; omega,by simp; omega,?_⟩))))
  intro e hme;rcases HW.1 hme with hme | hme
  ·exact he e hme
  ·simp at hme; subst hme
   exact ⟨by simp only; omega,by simp only; omega,by simp only; omega,by simp only; omega⟩
 ·rintro i ⟨a,b⟩ ⟨hi,hm,ha,hb,he⟩
  have h2:=hn.l2;simp only [MK] at hi ha;exact Gd.ret ⟨by simp only; omega,he⟩
theorem Ce (n:Net) (hn:lx n):Gd (kP n) (fun r=>r.length=n.bJ.length∧uK n.bJ.length r):=by
 unfold kP;refine Gd.eA (Cy n hn false) (fun r hr=>?_);have h1:=hn.l1;exact Gd.eA (Ch n.bJ.length hn.l1 r.1 hr.2 (by omega)) (fun r hr=>Gd.ret hr)
structure Gz (n:Net) (t:aW):Prop where
 bl:t.kc.length=n.bJ.length
 bi:uK t.bB.length t.kc
 ii:uK t.bB.length t.bB
 il:t.bB.length≤24
theorem Eh {R:Type}{Q:R→Prop} (N:Nat) (hN:N≤24) (body:Nat→Int→Int→(Int→Option R)→Option R) (hb:∀ k y n nx,body k y n nx=nx (max n (i64.wrap (y+1)))) (K:Int→Option R) (l:List Int) (hl:uK N l)
  (hk:∀ m:Nat,m≤N→uK m l→Gd (K (m:Int)) Q):Gd (dW body K 0 l 0) Q:=by
 have key:∀ (ys pre:List Int) (i m:Nat),l=pre++ys→m≤N→uK m pre→Gd (dW body K i ys (m:Int)) Q:=by
  intro ys
  induction ys with
  | nil=>intro pre i m e hm hp; rw [H9] at e; subst e; exact hk m hm hp
  | cons y ys ih=>
   intro pre i m e hm hp;have hy:=hl y (by rw [e]; exact IG _ (Ha ..))
   show Gd (body i y (m:Int) (fun s=>dW body K (i+1) ys s)) Q;rw [hb,bT ⟨by omega,by omega⟩]
   have hmx:max (m:Int) (y+1)=((max m (y+1).toNat:Nat):Int):=by omega
   rw [hmx];refine ih (pre++[y]) (i+1) _ (by rw [e]; simp) (by omega) (fun a ha=>?_)
   rcases HW.1 ha with ha | ha
   ·have:=hp a ha; omega
   ·simp at ha; subst ha; omega
 have:=key l [] 0 0 rfl (by omega) (by intro a ha; simp at ha)
 exact this
abbrev BA:=ByteArray
abbrev Seen:=List (ByteArray×Bool)
theorem CX (l:List (ByteArray×Bool)) (k k':ByteArray):(mZ (qn l k true) k').getD false=((mZ l k').getD false || decide (k=k')):=by
 have key:∀ (l:List (ByteArray×Bool)) (i:Nat),(∀ p,rh l k' i=some p→rh (l++[(k,true)]) k' i=some p)∧(rh l k' i=none→rh (l++[(k,true)]) k' i=if k=k' then some (i+l.length,true) else none):=by
  intro l
  induction l with
  | nil=>intro i; refine ⟨fun p h=>by simp [rh] at h,fun _=>?_⟩; simp [rh]
  | cons q l ih=>
   obtain ⟨a,b⟩:=q;intro i;simp only [JQ,rh]
   by_cases h:a=k'
   ·simp [h]
   ·simp only [h,JL]
    refine ⟨(ih (i+1)).1,fun hn=>?_⟩;rw [(ih (i+1)).2 hn];simp; split
    ·simp; omega
    ·rfl
 have set_ne:∀ (l:List (ByteArray×Bool)) (i j:Nat) (v:Bool),rh l k i=some (j,v)→mZ (l.set (j-i) (k,true)) k'=if k=k' then some true else mZ l k':=by
  intro l;unfold mZ;have:∀ (l:List (ByteArray×Bool)) (i j:Nat) (v:Bool) (q:Nat),rh l k i=some (j,v)→((rh (l.set (j-i) (k,true)) k' q).map (·.2))=if k=k' then some true else (rh l k' q).map (·.2):=by
   intro l
   induction l with
   | nil=>intro i j v q h; simp [rh] at h
   | cons p l ih=>
    obtain ⟨a,b⟩:=p;intro i j v q h;simp only [rh] at h
    split at h
    ·rename_i e
     simp only [H8,KW] at h;obtain ⟨rfl,rfl⟩:=h;subst e;rw [IN,List.set_cons_zero];simp only [rh]
     by_cases e:a=k' <;> simp [e]
    ·rename_i e
     obtain ⟨h1,h2,_⟩:=zM h;rw [show j-i=(j-(i+1))+1 by omega,List.set_cons_succ]
     simp only [rh];have:=ih (i+1) j v (q+1) h
     by_cases e2:a=k'
     ·subst e2
      have hk:k≠a:=fun x=>e x.symm;simp [hk]
     ·simp only [e2,JL]; exact this
  intro i j v h;exact this l i j v 0 h
 unfold qn;cases h:rh l k 0 with
 | none=>
  simp only;unfold mZ;cases h2:rh l k' 0 with
  | none=>
   rw [(key l 0).2 h2]
   by_cases e:k=k' <;> simp [e]
  | some p=>
   rw [(key l 0).1 p h2]
   by_cases e:k=k'
   ·subst e; rw [h] at h2; cases h2
   ·simp [e]
 | some p=>
  obtain ⟨j,v⟩:=p;simp only;have:=set_ne l 0 j v h;rw [Ld] at this;rw [this]
  by_cases e:k=k' <;> simp [e]
def lL (P:List BA) (s:Seen):Prop:=∀ k:BA,(mZ s k).getD false=true↔k ∈ P
theorem lL.nil:lL [] ([]:Seen):=fun k=>by simp [mZ,rh]
theorem lL.put {P:List BA}{s:Seen} (h:lL P s) (k:BA):lL (P++[k]) (qn s k true):=fun k'=>by
 rw [CX,Jj,h k',HW,IA,II];exact or_congr Iff.rfl ⟨fun e=>e.symm,fun e=>e.symm⟩
structure FF (ns P:List BA) (name:BA) (nodes:List BA):Prop where
 nm:cM name=some true
 nw:name ∉ P
 at_:∀ x ∈ nodes,x ∈ ns
 two:∀ a b,nodes=[a,b]→a≠b
theorem pK {c:aT}{P:List BA} (hs:lL P c.seen) {name:BA} (nodes:List BA) (h:name.size≤maxLen):
  Gd (bX c name nodes) (fun r=>r.1=0→FF c.nodes P name nodes∧lL (P++[name]) r.2.seen):=by
 unfold bX;obtain ⟨b,hb,_⟩:=yB name h;refine Gd.bind_eq hb (Gd.ite (fun _=>Gd.ret (fun h=>by simp at h)) (fun hbt=>Gd.ite (fun _=>Gd.ret (fun h=>by simp at h)) (fun hsn=>?_)))
 have hbt:b=true:=by simpa using hbt
 subst hbt;have hnw:name ∉ P:=fun hm=>by rw [(hs name).2 hm] at hsn; cases hsn
 refine Gd.forAll (fun x=>x ∈ c.nodes) (fun _=>True) ?_ ?_ () G6
 ·intro i y s n hy _ hn
  unfold eZ;refine Gd.eA (pH c.nodes y) (fun b hb=>Gd.ite (fun _=>Gd.ret (fun h=>by simp at h)) (fun h=>hn (hb.1 (by simpa using h)) _ G6))
 ·intro hall s _
  refine Gd.ite (fun h=>?_) (fun h2=>Gd.ret (fun _=>⟨⟨hb,hnw,hall,fun a b e=>?_⟩,hs.put name⟩))
  ·have h2:nodes.length=2:=by
    have:((nodes.length:Nat):Int)=2:=by simpa using h
    omega
   obtain ⟨a,b,rfl⟩:∃ a b,nodes=[a,b]:=by
    match nodes,h2 with
    | [a,b],_=>exact ⟨a,b,rfl⟩
   refine Gd.ix (y:=a) (by decide) rfl (Gd.ix (y:=b) (by decide) rfl (Gd.ite (fun _=>Gd.ret (fun h=>by simp at h)) (fun hne=>Gd.ret (fun _=>⟨⟨hb,hnw,hall,fun p q e=>?_⟩,hs.put name⟩))))
   have hne:a≠b:=by simpa using hne
   simp at e;rw [← e.1,← e.2]; exact hne
  ·subst e
   simp at h2
theorem qT {c:aT}{P:List BA} (hs:lL P c.seen) {name:BA}{nodes:List BA} (h:FF c.nodes P name nodes):
  bX c name nodes=some (0,⟨qn c.seen name true,c.nodes⟩):=by
 rw [← Gd.eq];unfold bX;refine Gd.bind_eq h.nm (Gd.ite (fun h=>by simp at h) (fun _=>Gd.ite (fun hsn=>absurd ((hs name).1 hsn) h.nw) (fun _=>?_)))
 refine Gd.forAll (fun _=>True) (fun _=>True) ?_ ?_ () G6
 ·intro i y s n hy _ hn
  unfold eZ;refine Gd.eA (pH c.nodes y) (fun b hb=>Gd.ite (fun hn2=>?_) (fun _=>hn G6 _ G6));have:=hb.2 (h.at_ y hy);simp [this] at hn2
 ·intro _ s _
  refine Gd.ite (fun h2=>?_) (fun _=>Gd.ret rfl);have h2:nodes.length=2:=by
   have:((nodes.length:Nat):Int)=2:=by simpa using h2
   omega
  obtain ⟨a,b,rfl⟩:∃ a b,nodes=[a,b]:=by
   match nodes,h2 with
   | [a,b],_=>exact ⟨a,b,rfl⟩
  have hne:=h.two a b rfl;exact Gd.ix (y:=a) (by decide) rfl (Gd.ix (y:=b) (by decide) rfl (Gd.ite (fun e=>absurd (by simpa using e) hne) (fun _=>Gd.ret rfl)))
def names (n:Net):List BA:=n.bJ++n.bM.map (·.Name)++n.aK.map (·.Name)++n.dR.map (·.Name)++n.cC.map (·.Name)++n.bZ.map (·.Name)
theorem pN {R α:Type}{Q:R→Prop}{body:Nat→α→Seen→(Seen→Option R)→Option R}{k:Seen→Option R}{l:List α} (nm:α→BA) (P:List BA)
  (hb:∀ (i:Nat) (y:α) (s:Seen) (n:Seen→Option R) (pre:List α),(∃ post,l=pre++y::post)→lL (P++pre.map nm) s→Gd (n (qn s (nm y) true)) Q→Gd (body i y s n) Q) (hk:∀ s,lL (P++l.map nm) s→Gd (k s) Q) (s:Seen) (hs:lL P s):Gd (dW body k 0 l s) Q:=by
 refine Gd.seen (fun pre s=>lL (P++pre.map nm) s) ?_ hk s (by simpa using hs)
 intro i y s n pre hpre hs hn;refine hb i y s n pre hpre hs (hn _ ?_);have:=hs.put (nm y);rw [I4,← HY]; exact this
theorem oG {R α:Type}{Q:R→Prop}{body:Nat→α→Seen→(Seen→Option R)→Option R}{k:Seen→Option R}{l:List α} (nm:α→BA) (P:List BA) (C:α→Prop)
  (hb:∀ (i:Nat) (y:α) (s:Seen) (n:Seen→Option R) (pre:List α),y ∈ l→lL (P++pre.map nm) s→(nm y ∉ P++pre.map nm→C y→∀ s',lL (P++pre.map nm++[nm y]) s'→Gd (n s') Q)→Gd (body i y s n) Q)
  (hk:∀ s,lL (P++l.map nm) s→(∀ x ∈ l,C x)→(P.Nodup→(P++l.map nm).Nodup)→Gd (k s) Q) (s:Seen) (hs:lL P s):Gd (dW body k 0 l s) Q:=by
 refine Gd.seen (fun pre s=>lL (P++pre.map nm) s∧(∀ x ∈ pre,C x)∧(P.Nodup→(P++pre.map nm).Nodup)) ?_ (fun s h=>hk s h.1 h.2.1 h.2.2) s ⟨by simpa using hs,by simp,fun h=>by simpa using h⟩
 rintro i y s n pre hpre ⟨h1,h2,h3⟩ hn;refine hb i y s n pre (qM hpre).2.1 h1 (fun hnew hC s' hs'=>hn s' ⟨by rw [I4,← HY]; exact hs',fun x hx=>?_,fun hP=>?_⟩)
 ·rcases HW.1 hx with hx | hx
  ·exact h2 x hx
  ·simp at hx; subst hx; exact hC
 ·rw [I4,← HY,I0]
  refine ⟨h3 hP,by simp,fun a ha b hb=>?_⟩
  simp at hb; subst hb
  intro e; subst e; exact hnew ha
def yh (g:cU):Bool:=!(((!(aZ g.cZ)) || (bK g.gL g.cZ 100000)) || (!(aZ g.tj)))
def wP (s:dS):Bool:=!(((!(aZ s.k_)) || (!(aZ s.Discharge))) || (!(aZ s.nf)))
structure oc (n:Net):Prop where
 l1:n.bJ.length≤24
 l2:n.bM.length≤32
 l3:n.aK.length≤24
 l4:n.dR.length≤10
 l5:n.cC.length≤12
 l6:n.bZ.length≤4
 nd:(names n).Nodup
 vn:∀ x ∈ n.bJ,cM x=some true
 vs:∀ x ∈ n.bM,cM x.Name=some true∧x.A ∈ n.bJ∧x.B_ ∈ n.bJ∧x.A≠x.B_
 vb:∀ x ∈ n.aK,cM x.Name=some true∧x.g_ ∈ n.bJ∧x.To ∈ n.bJ∧x.g_≠x.To∧gK x=0
 vg:∀ x ∈ n.dR,cM x.Name=some true∧x.Node ∈ n.bJ∧yh x=true
 vl:∀ x ∈ n.cC,cM x.Name=some true∧x.Node ∈ n.bJ∧aZ x.bN=true
 vt:∀ x ∈ n.bZ,cM x.Name=some true∧x.Node ∈ n.bJ∧wP x=true
theorem check_sound (n:Net) (hz:oh n):Gd (cD n) (fun e=>e=0→oc n):=by
 unfold cD;refine Gd.ite (fun _=>Gd.ret (fun h=>by simp at h)) (fun hl=>?_)
 simp only [Mq,Nw,Int.not_lt] at hl;refine oG (id:BA→BA) [] (fun x=>cM x=some true) ?_ ?_ _ lL.nil
 ·intro i y s nx pre hy hs hn
  unfold jY;exact Gd.eA (pK (c:=⟨s,n.bJ⟩) hs [] (hz.nd y hy)) (fun r hr=>Gd.ite (fun h=>Gd.ret (fun h2=>absurd h2 (by simpa using h))) (fun h=>by
   obtain ⟨h1,h2⟩:=hr (by simpa using h)
   exact hn h1.nw h1.nm _ h2))
 intro s hs hvn hnd1;simp only [List.map_id,Jv] at hs hnd1;refine oG (fun x:cO=>x.Name) _ (fun x=>cM x.Name=some true∧x.A ∈ n.bJ∧x.B_ ∈ n.bJ∧x.A≠x.B_) ?_ ?_ _ hs
 ·intro i y s nx pre hy hs hn
  unfold jZ;exact Gd.eA (pK (c:=⟨s,n.bJ⟩) hs [y.A,y.B_] (hz.sw y hy)) (fun r hr=>Gd.ite (fun h=>Gd.ret (fun h2=>absurd h2 (by simpa using h))) (fun h=>by
   obtain ⟨h1,h2⟩:=hr (by simpa using h)
   exact hn h1.nw ⟨h1.nm,h1.at_ _ (by simp),h1.at_ _ (by simp),h1.two _ _ rfl⟩ _ h2))
 intro s hs hvs hnd2;refine oG (fun x:bF=>x.Name) _ (fun x=>cM x.Name=some true∧x.g_ ∈ n.bJ∧x.To ∈ n.bJ∧x.g_≠x.To∧gK x=0) ?_ ?_ _ hs
 ·intro i y s nx pre hy hs hn
  unfold ka;exact Gd.eA (pK (c:=⟨s,n.bJ⟩) hs [y.g_,y.To] (hz.br y hy)) (fun r hr=>Gd.ite (fun h=>Gd.ret (fun h2=>absurd h2 (by simpa using h))) (fun h=>Gd.ite (fun h3=>Gd.ret (fun h2=>absurd h2 (by simpa using h3))) (fun h3=>by
   obtain ⟨h1,h2⟩:=hr (by simpa using h)
   exact hn h1.nw ⟨h1.nm,h1.at_ _ (by simp),h1.at_ _ (by simp),h1.two _ _ rfl,by simpa using h3⟩ _ h2)))
 intro s hs hvb hnd3;refine Gd.eA (P:=fun r=>r.1=0→(∀ x ∈ n.dR,cM x.Name=some true∧x.Node ∈ n.bJ∧yh x=true)∧(∀ x ∈ n.cC,cM x.Name=some true∧x.Node ∈ n.bJ∧aZ x.bN=true) ∧
  (∀ x ∈ n.bZ,cM x.Name=some true∧x.Node ∈ n.bJ∧wP x=true)∧(names n).Nodup) ?_ (fun r hr=>Gd.ret (fun h=>by
   obtain ⟨a,b,c,d⟩:=hr h;exact ⟨by omega,by omega,by omega,by omega,by omega,by omega,d,hvn,hvs,hvb,a,b,c⟩))
 unfold eP;refine oG (fun x:cU=>x.Name) _ (fun x=>cM x.Name=some true∧x.Node ∈ n.bJ∧yh x=true) ?_ ?_ _ hs
 ·intro i y s nx pre hy hs hn
  unfold fQ;exact Gd.eA (pK (c:=⟨s,n.bJ⟩) hs [y.Node] (hz.gn y hy)) (fun r hr=>Gd.ite (fun h=>Gd.ret (fun h2=>absurd h2 (by simpa using h))) (fun h=>Gd.ite (fun _=>Gd.ret (fun h2=>by simp at h2)) (fun h3=>by
   obtain ⟨h1,h2⟩:=hr (by simpa using h)
   exact hn h1.nw ⟨h1.nm,h1.at_ _ (by simp),by unfold yh; rw [h3]; rfl⟩ _ h2)))
 intro s hs hvg hnd4;refine oG (fun x:aN=>x.Name) _ (fun x=>cM x.Name=some true∧x.Node ∈ n.bJ∧aZ x.bN=true) ?_ ?_ _ hs
 ·intro i y s nx pre hy hs hn
  unfold fR;exact Gd.eA (pK (c:=⟨s,n.bJ⟩) hs [y.Node] (hz.ld y hy)) (fun r hr=>Gd.ite (fun h=>Gd.ret (fun h2=>absurd h2 (by simpa using h))) (fun h=>Gd.ite (fun _=>Gd.ret (fun h2=>by simp at h2)) (fun h3=>by
   obtain ⟨h1,h2⟩:=hr (by simpa using h)
   exact hn h1.nw ⟨h1.nm,h1.at_ _ (by simp),by simpa using h3⟩ _ h2)))
 intro s hs hvl hnd5;refine oG (fun x:dS=>x.Name) _ (fun x=>cM x.Name=some true∧x.Node ∈ n.bJ∧wP x=true) ?_ ?_ _ hs
 ·intro i y s nx pre hy hs hn
  unfold fS;exact Gd.eA (pK (c:=⟨s,n.bJ⟩) hs [y.Node] (hz.st y hy)) (fun r hr=>Gd.ite (fun h=>Gd.ret (fun h2=>absurd h2 (by simpa using h))) (fun h=>Gd.ite (fun _=>Gd.ret (fun h2=>by simp at h2)) (fun h3=>by
   obtain ⟨h1,h2⟩:=hr (by simpa using h)
   exact hn h1.nw ⟨h1.nm,h1.at_ _ (by simp),by unfold wP; rw [h3]; rfl⟩ _ h2)))
 intro s hs hvt hnd6;exact Gd.ret fun _=>⟨hvg,hvl,hvt,hnd6 (hnd5 (hnd4 (hnd3 (hnd2 (hnd1 List.nodup_nil)))))⟩
theorem Bn {A B C:List BA}{x:BA} (h:(A++(B++x::C)).Nodup):x ∉ A++B:=by
 rw [← HY,I0] at h;exact fun hm=>h.2.2 x hm x (Ha ..) rfl
theorem fresh {P:List BA}{α:Type}{nm:α→BA}{l pre:List α}{y:α} (h:(P++l.map nm).Nodup) (hp:∃ post,l=pre++y::post):nm y ∉ P++pre.map nm:=by
 obtain ⟨post,rfl⟩:=hp;rw [I4,KG] at h;exact Bn h
theorem zm (n:Net) (h:oc n):cD n=some 0:=by
 have hnd:=h.nd;unfold names at hnd;have n5:=(I0.1 hnd).1;have n4:=(I0.1 n5).1;have n3:=(I0.1 n4).1;have n2:=(I0.1 n3).1;have n1:=(I0.1 n2).1;have g1:=h.l1; have g2:=h.l2; have g3:=h.l3; have g4:=h.l4; have g5:=h.l5; have g6:=h.l6
 rw [← Gd.eq];unfold cD;refine Gd.ite (fun hl=>?_) (fun _=>?_)
 ·simp only [Jj,II] at hl
  omega
 refine pN (id:BA→BA) [] ?_ ?_ _ lL.nil
 ·intro i y s nx pre hpre hs hn
  have hy:=(qM hpre).2.1;have hf:=fresh (P:=[]) (nm:=id) (by simpa using n1) hpre
  unfold jY;exact Gd.bind_eq (qT (c:=⟨s,n.bJ⟩) hs ⟨h.vn y hy,hf,by simp,by simp⟩) (Gd.ite (fun h=>by simp at h) (fun _=>hn))
 intro s hs;simp only [List.map_id,Jv] at hs;refine pN (fun x:cO=>x.Name) _ ?_ ?_ _ hs
 ·intro i y s nx pre hpre hs hn
  obtain ⟨a,b,c,d⟩:=h.vs y (qM hpre).2.1;unfold jZ;exact Gd.bind_eq (qT (c:=⟨s,n.bJ⟩) hs ⟨a,fresh n2 hpre,by simp [b,c],fun p q e=>by simp at e; rw [← e.1,← e.2]; exact d⟩) (Gd.ite (fun h=>by simp at h) (fun _=>hn))
 intro s hs;refine pN (fun x:bF=>x.Name) _ ?_ ?_ _ hs
 ·intro i y s nx pre hpre hs hn
  obtain ⟨a,b,c,d,e⟩:=h.vb y (qM hpre).2.1;unfold ka;exact Gd.bind_eq (qT (c:=⟨s,n.bJ⟩) hs ⟨a,fresh n3 hpre,by simp [b,c],fun p q e=>by simp at e; rw [← e.1,← e.2]; exact d⟩) (Gd.ite (fun h=>by simp at h) (fun _=>Gd.ite (fun h=>by simp [e] at h) (fun _=>hn)))
 intro s hs;refine Gd.eA (P:=fun r=>r.1=0) ?_ (fun r hr=>Gd.ret hr);unfold eP;refine pN (fun x:cU=>x.Name) _ ?_ ?_ _ hs
 ·intro i y s nx pre hpre hs hn
  obtain ⟨a,b,c⟩:=h.vg y (qM hpre).2.1;unfold yh at c;unfold fQ;exact Gd.bind_eq (qT (c:=⟨s,n.bJ⟩) hs ⟨a,fresh n4 hpre,by simp [b],by simp⟩) (Gd.ite (fun h=>by simp at h) (fun _=>Gd.ite (fun h=>by rw [h] at c; cases c) (fun _=>hn)))
 intro s hs;refine pN (fun x:aN=>x.Name) _ ?_ ?_ _ hs
 ·intro i y s nx pre hpre hs hn
  obtain ⟨a,b,c⟩:=h.vl y (qM hpre).2.1;unfold fR;exact Gd.bind_eq (qT (c:=⟨s,n.bJ⟩) hs ⟨a,fresh n5 hpre,by simp [b],by simp⟩) (Gd.ite (fun h=>by simp at h) (fun _=>Gd.ite (fun h=>by simp [c] at h) (fun _=>hn)))
 intro s hs;refine pN (fun x:dS=>x.Name) _ ?_ ?_ _ hs
 ·intro i y s nx pre hpre hs hn
  obtain ⟨a,b,c⟩:=h.vt y (qM hpre).2.1;unfold wP at c;unfold fS;exact Gd.bind_eq (qT (c:=⟨s,n.bJ⟩) hs ⟨a,fresh hnd hpre,by simp [b],by simp⟩) (Gd.ite (fun h=>by simp at h) (fun _=>Gd.ite (fun h=>by rw [h] at c; cases c) (fun _=>hn)))
 intro s hs;exact Gd.ret rfl
def DY (n:Net) (q:Nat):Net:={ n with aK:=n.aK.take q++n.aK.drop (q+1) }
theorem Ao {α:Type} (l:List α) (q:Nat):(l.take q++l.drop (q+1)).Sublist l:=by
 have h1:(l.drop (q+1)).Sublist (l.drop q):=by rw [← JB]; exact List.drop_sublist _ _
 have:=(MB (l.take q)).append h1
 rwa [I_] at this
theorem oc.cut {n:Net} (h:oc n) (q:Nat):oc (DY n q):=by
 have hs:=Ao n.aK q;have hnm:(names (DY n q)).Sublist (names n):=by
  unfold names DY;exact ((((MB _).append (hs.map _)).append (MB _)).append (MB _)).append (MB _)
 exact ⟨h.l1,h.l2,IU hs.length_le h.l3,h.l4,h.l5,h.l6,hnm.nodup h.nd,h.vn,h.vs,fun x hx=>h.vb x (hs.subset hx),h.vg,h.vl,h.vt⟩
theorem oc.ok {n:Net} (h:oc n) (hz:oh n):lx n:=by
 obtain ⟨e,he,hok⟩:=Cf n hz;rw [zm n h] at he;exact hok (G3 he).symm
theorem oh.cut {n:Net} (h:oh n) (q:Nat):oh (DY n q):=
 ⟨h.nd,h.sw,fun x hx=>h.br x ((Ao n.aK q).subset hx),h.gn,h.ld,h.st⟩
abbrev Ed:=bS
def lb (o:List Int) (u:Int):Int:=if 0≤u then (o[u.toNat]?).getD (-1) else -1
theorem CQ {o:List Int}{u:Int} (h:0≤lb o u):0≤u∧u<o.length:=by
 unfold lb at h
 split at h
 ·rename_i h0
  refine ⟨h0,?_⟩
  by_cases e:u.toNat<o.length
  ·omega
  ·rw [Ir (by omega)] at h; simp at h
 ·omega
theorem vC {o:List Int}{k:Nat} (h:k<o.length):lb o (k:Int)=o[k]:=by
 unfold lb; rw [Hi (by omega),G9,G7 h]; rfl
theorem CP {o:List Int}{u:Int} (h0:0≤u) (h:u.toNat<o.length):lb o u=o[u.toNat]:=by
 unfold lb; rw [Hi h0,G7 h]; rfl
theorem r9 {o:List Int}{q:Int} (h0:0≤q) (h:q.toNat<o.length) (m u:Int):lb (o.set q.toNat m) u=if u=q then m else lb o u:=by
 unfold lb
 by_cases e:u=q
 ·subst e
  rw [Hi h0,Hi rfl,HP h]; rfl
 ·rw [Hh e]
  by_cases hu:0≤u
  ·rw [Hi hu,Hi hu,HJ (by omega)]
  ·rw [Hh hu,Hh hu]
def DE (l:List Ed) (u v:Int):Prop:=∃ e ∈ l,(e.a0=u∧e.a1=v)∨(e.a1=u∧e.a0=v)
theorem DE.symm {l:List Ed}{u v:Int} (h:DE l u v):DE l v u:=by
 obtain ⟨e,he,h | h⟩:=h
 ·exact ⟨e,he,.inr ⟨h.2,h.1⟩⟩
 ·exact ⟨e,he,.inl ⟨h.2,h.1⟩⟩
inductive rP (l:List Ed) (u:Int):Int→Prop
 | refl:rP l u u
 | snoc {v w:Int}:rP l u v→DE l v w→rP l u w
theorem rP.trans {l:List Ed}{u v w:Int} (h1:rP l u v) (h2:rP l v w):rP l u w:=by
 induction h2 with
 | refl=>exact h1
 | snoc _ h ih=>exact .snoc ih h
theorem rP.symm {l:List Ed}{u v:Int} (h:rP l u v):rP l v u:=by
 induction h with
 | refl=>exact .refl
 | snoc _ h ih=>exact (rP.snoc .refl h.symm).trans ih
structure F0 (N:Nat) (l:List Ed) (many:Int) (out:List Int):Prop where
 pt:ti N many out
 cls:∀ u v,DE l u v→0≤lb out u→lb out v=lb out u
 GA:∀ u v,0≤lb out u→lb out u=lb out v→rP l u v
 Gk:∀ c,0≤c→c<many→∃ u,lb out u=c
theorem ti.lt {N:Nat}{many:Int}{out:List Int} (h:ti N many out) (hm:0≤many) (u:Int):-1≤lb out u∧lb out u<many:=by
 by_cases h0:0≤lb out u
 ·obtain ⟨a,b⟩:=CQ h0
  have:u.toNat<out.length:=by omega
  rw [CP a this];exact h.DG _ (Iu _)
 ·refine ⟨?_,by omega⟩
  unfold lb
  split
  ·by_cases e:u.toNat<out.length
   ·rw [G7 e]
    exact (h.DG _ (Iu e)).1
   ·rw [Ir (by omega)]; simp
  ·omega
structure wg (N:Nat) (l:List Ed) (m:Int) (i:Int) (out o:List Int):Prop where
 pt:ti N (m+1) o
 qk:∀ u,0≤lb out u→lb o u=lb out u
 new:∀ u,lb out u<0→0≤lb o u→lb o u=m∧rP l i u
 st:lb o i=m
theorem wg.put {N:Nat}{l:List Ed}{m i:Int}{out o:List Int} (h:wg N l m i out o) (hc:F0 N l m out) (h0:0≤m) {a q:Int} (ha:lb o a=m) (hadj:DE l a q) (q0:0≤q) (qN:q<N) (hq:lb o q<0):wg N l m i out (o.set q.toNat m):=by
 have hql:q.toNat<o.length:=by rw [h.pt.len]; omega
 have ca:rP l i a:=by
  by_cases e:0≤lb out a
  ·have h1:=h.qk a e
   have h2:=(hc.pt.lt h0 a).2;omega
  ·exact (h.new a (by omega) (by omega)).2
 refine ⟨h.pt.set ⟨h0,by omega⟩ _,fun u hu=>?_,fun u hu hn=>?_,?_⟩
 ·rw [r9 q0 hql]
  have h1:=h.qk u hu;rw [Hh (fun e=>by subst e; omega)]
  exact h1
 ·rw [r9 q0 hql] at hn ⊢
  by_cases e:u=q
  ·subst e
   rw [Hi rfl];exact ⟨rfl,ca.snoc hadj⟩
  ·rw [Hh e] at hn ⊢
   exact h.new u hu hn
 ·rw [r9 q0 hql]
  split
  ·rfl
  ·exact h.st
theorem wg.mono {N:Nat}{m:Int}{o:List Int} (hl:o.length=N) (h0:0≤m) {q:Int} (q0:0≤q) (qN:q<N) {u:Int} (hu:0≤lb o u):0≤lb (o.set q.toNat m) u:=by
 rw [r9 q0 (by omega)]
 split
 ·exact h0
 ·exact hu
theorem wg.done {N:Nat}{l:List Ed}{m i:Int}{out o:List Int} (h:wg N l m i out o) (hc:F0 N l m out) (h0:0≤m) (hp:∀ u,lb o u=m→∀ v,DE l u v→0≤lb o v):F0 N l (m+1) o:=by
 refine ⟨h.pt,fun u v huv hu=>?_,fun u v hu huv=>?_,fun c c0 c1=>?_⟩
 ·by_cases e:0≤lb out u
  ·have h1:=h.qk u e
   have h2:=hc.cls u v huv e;have h3:=h.qk v (by omega)
   omega
  ·obtain ⟨h1,_⟩:=h.new u (by omega) hu
   have h2:=hp u h1 v huv
   by_cases e2:0≤lb out v
   ·have:=hc.cls v u huv.symm e2
    omega
   ·have:=(h.new v (by omega) h2).1
    omega
 ·by_cases e:0≤lb out u
  ·have h1:=h.qk u e
   have h2:=(hc.pt.lt h0 u).2
   by_cases e2:0≤lb out v
   ·exact hc.GA u v e (by have:=h.qk v e2; omega)
   ·have:=(h.new v (by omega) (by omega)).1
    omega
  ·obtain ⟨h1,h2⟩:=h.new u (by omega) hu
   by_cases e2:0≤lb out v
   ·have h3:=h.qk v e2
    have h4:=(hc.pt.lt h0 v).2;omega
   ·exact h2.symm.trans (h.new v (by omega) (by omega)).2
 ·by_cases e:c<m
  ·obtain ⟨u,hu⟩:=hc.Gk c c0 e
   exact ⟨u,by rw [h.qk u (by omega)]; exact hu⟩
  ·exact ⟨i,by rw [h.st]; omega⟩
structure AW (N:Nat) (l:List Ed) (r:List Int) (many:Nat):Prop where
 len:r.length=N
 all:∀ u:Int,0≤u→u<N→0≤lb r u∧lb r u<many
 mN:many≤N
 iff:∀ u v:Int,0≤u→u<N→0≤v→v<N→(lb r u=lb r v↔rP l u v)
 Gk:∀ c:Int,0≤c→c<many→∃ u:Int,0≤u∧u<N∧lb r u=c
theorem zR (N:Nat) (hN:N≤24) (l:List Ed) (hl:xH N l) (hll:l.length≤64):Gd (lf N l (-1)) (fun r=>∃ many:Nat,AW N l r many):=by
 unfold lf;refine Gd.nd ⟨rfl,by omega,by omega⟩ (Gd.nd (by omega) ?_)
 rw [sk];have hrep:∀ u,lb (List.replicate N (-1)) u = -1:=fun u=>by
  unfold lb
  split
  ·by_cases e:u.toNat<N
   ·rw [G7 (by simpa using e)]; simp
   ·rw [Ir (by simpa using e)]; rfl
  ·rfl
 refine Gd.jU (fun m i (s:List Int×Int)=>i+m=N∧0≤s.2∧s.2≤(i:Int)∧F0 N l s.2 s.1∧∀ j:Nat,j<i→0≤lb s.1 (j:Int)) ?_ ?_ (N:Int).toNat 0 (List.replicate N (-1),0)
  ⟨by omega,by simp,by simp,⟨⟨by simp,by simp⟩,fun u v _ h=>by rw [hrep] at h; omega,fun u v h _=>by rw [hrep] at h; omega,fun c h1 h2=>by omega⟩,by simp⟩
 ·rintro m i ⟨out,many⟩ nx ⟨hi,h0,hmi,hc,hk⟩ hn
  simp only at h0 hmi hc hk;have hilt:i<out.length:=by rw [hc.pt.len]; omega
  have hwm:i64.wrap (many+1)=many+1:=bT ⟨by omega,by omega⟩
  unfold mi;refine Gd.jz hilt (Gd.ite (fun h=>?_) (fun h=>?_))
  ·have hge:0≤out[i]:=by simpa using h
   unfold gI;refine hn _ ⟨by omega,h0,by show many≤((i+1:Nat):Int); omega,hc,fun j hj=>?_⟩
   by_cases e:j=i
   ·subst e; simp only; rw [vC hilt]; exact hge
   ·exact hk j (by omega)
  ·have hneg:out[i]<0:=by simpa using h
   refine Gd.jz hilt ?_;rw [G9];have hnegl:lb out (i:Int)<0:=by rw [vC hilt]; exact hneg
   have hset:∀ u,lb (out.set i many) u=if u=(i:Int) then many else lb out u:=fun u=>by
    have:=r9 (o:=out) (q:=(i:Int)) (by omega) (by simpa using hilt) many u
    rwa [G9] at this
   have hp1:ti N (many+1) out:=⟨hc.pt.len,fun v hv=>by have:=hc.pt.DG v hv; omega⟩
   have hbase:2*nM (out.set i many)+[(i:Int)].length≤2*N+1:=by
    have hcn:nM (out.set i many)≤N:=by unfold nM; rw [← hc.pt.len,← Hx (as:=out) (i:=i) (a:=many)]; exact Kg
    simp only [Im]; omega
   have hf0:wg N l many (i:Int) out (out.set i many):=by
    refine ⟨hp1.set ⟨h0,by omega⟩ i,fun u hu=>?_,fun u hu hn2=>?_,by rw [hset,Hi rfl]⟩
    ·rw [hset,Hh (fun e=>by subst e; omega)]
    ·rw [hset] at hn2 ⊢
     by_cases e:u=(i:Int)
     ·subst e; rw [Hi rfl]; exact ⟨rfl,.refl⟩
     ·rw [Hh e] at hn2; omega
   refine Gd.gO (fun (s:List Int×List Int)=>wg N l many (i:Int) out s.1∧(∀ a ∈ s.2,lb s.1 a=many)∧(∀ u,lb s.1 u=many→u ∉ s.2→∀ v,DE l u v→0≤lb s.1 v)∧2*nM s.1+s.2.length≤2*N+1)
    (fun s=>2*nM s.1+s.2.length) ?_ fX _ ⟨hf0,fun a ha=>?_,fun u hu hnu=>?_,hbase⟩ ?_
   ·rintro ⟨o,todo⟩ nx2 ⟨hf,htd,hpr,htot⟩ hn2
    simp only at hf htd hpr htot;have hol:=hf.pt.len;unfold mj;refine Gd.ite (fun hne=>?_) (fun hze=>?_)
    ·obtain ⟨at_,ts,rfl⟩:∃ a ts,todo=a::ts:=by
      cases todo with
      | nil=>simp at hne
      | cons a ts=>exact ⟨a,ts,rfl⟩
     simp only [Hw] at htot;refine Gd.ix (y:=at_) (by decide) rfl (Gd.nd ⟨by omega,by simp only [Hw]; omega⟩ ?_)
     have hat:=htd at_ (Ha ..);obtain ⟨at0,atN⟩:=CQ (by omega:0≤lb o at_)
     have hsl:oA (at_::ts) (1:Int).toNat (at_::ts).length=ts:=by
      unfold oA;rw [show (1:Int).toNat=1 from rfl,Me,Jf,HK (by simp)]
     rw [hsl]
     let J:List Ed→List Int×List Int→Prop:=fun pre s=>wg N l many (i:Int) out s.1∧(∀ a ∈ s.2,lb s.1 a=many)∧lb s.1 at_=many∧(∀ u,lb s.1 u=many→u ∉ s.2→u≠at_→∀ v,DE l u v→0≤lb s.1 v) ∧
      (∀ e ∈ pre,(e.a0=at_→0≤lb s.1 e.a1)∧(e.a1=at_→0≤lb s.1 e.a0))∧2*nM s.1+s.2.length≤2*nM o+ts.length
     have push:∀ (pre:List Ed) (e:Ed) (b td:List Int) (q:Int) (nn:List Int×List Int→Option (List Int)),e ∈ l→J pre (b,td)→DE l at_ q→0≤q→q<N→((e.a0=at_∧e.a1=q)∨(e.a1=at_∧e.a0=q)) →
       (∀ s',J (pre++[e]) s'→Gd (nn s') (fun r=>∃ many:Nat,AW N l r many)) →
       Gd (Sim.idx b q fun y7689=>if decide (y7689<0) then (Sim.idx b q fun y7694=>dQ ((td.length+([q]).length)*8≤140737488355328) (dC nn (b.set (q:Int).toNat many) (td++([q])))) else (dC nn b td)) (fun r=>∃ many:Nat,AW N l r many):=by
      intro pre e b td q nn hel ⟨j1,j2,j3,j4,j5,j6⟩ hadj q0 qN hends hnn;simp only at j1 j2 j3 j4 j5 j6;have hbl:=j1.pt.len;have hql:q.toNat<b.length:=by omega
      have hget:b[q.toNat]? = some b[q.toNat]:=G7 hql;have hlq:lb b q=b[q.toNat]:=CP q0 hql;have hno:nM o≤N:=by unfold nM; rw [← hol]; exact Kg
      unfold dC;refine Gd.ix q0 hget (Gd.ite (fun h=>Gd.ix q0 hget (Gd.nd ?_ (hnn _ ?_))) (fun h=>hnn _ ⟨j1,j2,j3,j4,fun d hd=>?_,j6⟩))
      ·simp; omega
      ·have h1:b[q.toNat]<0:=by simpa using h
       have hlt:lb b q<0:=by omega
       have up:∀ {u:Int},0≤lb b u→0≤lb (b.set q.toNat many) u:=fun {u} hu=>wg.mono hbl h0 q0 qN hu;have hqs:lb (b.set q.toNat many) q=many:=by rw [r9 q0 hql,Hi rfl]
       have same:∀ {u:Int},lb b u=many→lb (b.set q.toNat many) u=many:=fun {u} hu=>by
        rw [r9 q0 hql]; split
        ·rfl
        ·exact hu
       refine ⟨j1.put hc h0 j3 hadj q0 qN hlt,fun a ha=>?_,same j3,fun u hu hnu hua v hv=>?_,fun d hd=>?_,?_⟩
       ·rcases HW.1 ha with ha | ha
        ·exact same (j2 a ha)
        ·simp at ha; subst ha; exact hqs
       ·simp only at hu hnu
        by_cases e2:u=q
        ·subst e2
         exact absurd (IG _ (List.mem_singleton_self _)) hnu
        ·rw [r9 q0 hql,Hh e2] at hu
         exact up (j4 u hu (fun hm=>hnu (G8 _ hm)) hua v hv)
       ·rcases HW.1 hd with hd | hd
        ·obtain ⟨x1,x2⟩:=j5 d hd
         exact ⟨fun hh=>up (x1 hh),fun hh=>up (x2 hh)⟩
        ·simp at hd; subst hd
         have hat2:0≤lb (b.set q.toNat many) at_:=up (by omega)
         have hq2:0≤lb (b.set q.toNat many) q:=by omega
         rcases hends with ⟨x1,x2⟩ | ⟨x1,x2⟩
         ·exact ⟨fun _=>by rw [x2]; exact hq2,fun _=>by rw [x1]; exact hat2⟩
         ·exact ⟨fun _=>by rw [x1]; exact hat2,fun _=>by rw [x2]; exact hq2⟩
       ·have:=yz hql h1 h0
        simp only [HN,Im];omega
      ·have h1:0≤b[q.toNat]:=by simpa using h
       rcases HW.1 hd with hd | hd
       ·exact j5 d hd
       ·simp at hd; subst hd
        rcases hends with ⟨x1,x2⟩ | ⟨x1,x2⟩
        ·exact ⟨fun _=>by rw [x2]; simp only; omega,fun _=>by rw [x1]; simp only; omega⟩
        ·exact ⟨fun _=>by rw [x1]; simp only; omega,fun _=>by rw [x2]; simp only; omega⟩
     refine Gd.seen J ?_ ?_ _ ⟨hf,fun a ha=>htd a (Ho _ ha),hat,fun u hu hnu hua v hv=>hpr u hu (fun hm=>(Ig.1 hm).elim hua hnu) v hv,by simp,HH (2*nM o+ts.length)⟩
     ·rintro k e ⟨b,td⟩ nn pre hpre hJ hnn
      obtain ⟨_,hel,_⟩:=qM hpre;obtain ⟨e1,e2,e3,e4⟩:=hl e hel;have hw1:i64.wrap (e.a0+e.a1)=e.a0+e.a1:=bT ⟨by omega,by omega⟩
      have hw2:i64.wrap (e.a0+e.a1-at_)=e.a0+e.a1-at_:=bT ⟨by omega,by omega⟩
      unfold ml;rw [hw1,hw2];refine Gd.ite (fun h=>by simp at h) (fun _=>Gd.ite (fun h=>?_) (fun h=>Gd.ite (fun h2=>?_) (fun h2=>?_)))
      ·have h:e.a0=at_:=by simpa using h
       have hq:e.a0+e.a1-at_=e.a1:=by omega
       rw [hq];exact push pre e b td _ nn hel hJ ⟨e,hel,.inl ⟨h,rfl⟩⟩ e3 e4 (.inl ⟨h,rfl⟩) hnn
      ·have h1:e.a0≠at_:=by simpa using h
       have h2:e.a1≠at_:=by simpa using h2
       obtain ⟨j1,j2,j3,j4,j5,j6⟩:=hJ;refine hnn _ ⟨j1,j2,j3,j4,fun d hd=>?_,j6⟩;rcases HW.1 hd with hd | hd
       ·exact j5 d hd
       ·simp at hd; subst hd
        exact ⟨fun hh=>absurd hh h1,fun hh=>absurd hh h2⟩
      ·have h2:e.a1=at_:=by simpa using h2
       have hq:e.a0+e.a1-at_=e.a0:=by omega
       rw [hq];exact push pre e b td _ nn hel hJ ⟨e,hel,.inr ⟨h2,rfl⟩⟩ e1 e2 (.inr ⟨h2,rfl⟩) hnn
     ·rintro ⟨b,td⟩ ⟨j1,j2,j3,j4,j5,j6⟩
      simp only at j1 j2 j3 j4 j5 j6;refine hn2 _ ⟨j1,j2,fun u hu hnu v hv=>?_,by show 2*nM b+td.length≤2*N+1; omega⟩ (by simp only [Hw]; omega)
      by_cases e:u=at_
      ·subst e
       obtain ⟨d,hd,hh | hh⟩:=hv
       ·have:=(j5 d hd).1 hh.1
        rw [hh.2] at this; exact this
       ·have:=(j5 d hd).2 hh.1
        rw [hh.2] at this; exact this
      ·exact j4 u hu hnu e v hv
    ·have htn:todo=[]:=by
      cases todo with
      | nil=>rfl
      | cons a ts=>simp at hze
     subst htn;unfold gI;rw [hwm];refine hn _ ⟨by omega,by show (0:Int)≤many+1; omega,by show many+1≤((i+1:Nat):Int); omega,hf.done hc h0 (fun u hu v hv=>hpr u hu (by simp) v hv),fun j hj=>?_⟩
     by_cases e:j=i
     ·subst e; show 0≤lb o (j:Int); rw [hf.st]; exact h0
     ·have h1:=hk j (by omega)
      show 0≤lb o (j:Int);rw [hf.qk _ h1]; exact h1
   ·simp only [IA] at ha
    subst ha;exact hf0.st
   ·exfalso
    rw [hset] at hu
    by_cases e:u=(i:Int)
    ·subst e; simp at hnu
    ·rw [Hh e] at hu
     have:=(hc.pt.lt h0 u).2;omega
   ·refine Kz hbase ?_
    unfold fX; omega
 ·rintro i ⟨out,many⟩ ⟨hi,h0,hmi,hc,hk⟩
  simp only at h0 hmi hc hk;have hge:∀ u:Int,0≤u→u<N→0≤lb out u:=fun u u0 uN=>by
   have:=hk u.toNat (by omega)
   rwa [show ((u.toNat:Nat):Int)=u by omega] at this
  refine Gd.ret ⟨many.toNat,hc.pt.len,fun u u0 uN=>⟨hge u u0 uN,by have h1:=hge u u0 uN; have h2:=(hc.pt.lt h0 u).2; show lb out u<((many.toNat:Nat):Int); omega⟩,by omega,fun u v u0 uN v0 vN=>⟨fun e=>hc.GA u v (hge u u0 uN) e,fun e=>?_⟩,fun c c0 c1=>?_⟩
  ·clear vN v0
   induction e with
   | refl=>rfl
   | snoc _ h ih=>
    rename_i p q _
    have ih:lb out u=lb out p:=ih;have hp:0≤lb out p:=by have:=hge u u0 uN; omega
    show lb out u=lb out q;rw [ih];exact (hc.cls p q h hp).symm
  ·obtain ⟨u,hu⟩:=hc.Gk c c0 (by omega)
   obtain ⟨a,b⟩:=CQ (by omega:0≤lb out u)
   exact ⟨u,a,by have:=hc.pt.len; omega,hu⟩
theorem zu (N:Nat) (hN:N≤24) (l:List Ed) (hl:xH N l) (hll:l.length≤64):Gd (fN N l) (fun r=>r.2=0∧∃ many:Nat,AW N l r.1 many):=by
 unfold fN;refine Gd.bind_eq (wF N hN l hl hll) (Gd.ite (fun h=>by simp at h) (fun _=>Gd.eA (zR N hN l hl hll) (fun r hr=>Gd.ret ⟨rfl,hr⟩)))
theorem Eg (N:Nat) (hN:N≤24) (l:List Int) (hl:uK N l):∃ m:Nat,m≤N∧uK m l∧(∀ c:Nat,uK c l→m≤c) ∧
  ∀ {R:Type} (body:Nat→Int→Int→(Int→Option R)→Option R) (hb:∀ k y n nx,body k y n nx=nx (max n (i64.wrap (y+1)))) (K:Int→Option R),dW body K 0 l 0=K (m:Int):=by
 have key:∀ (ys pre:List Int) (m:Nat),l=pre++ys→m≤N→uK m pre→(∀ c:Nat,uK c pre→m≤c)→∃ m2:Nat,m2≤N∧uK m2 l∧(∀ c:Nat,uK c l→m2≤c) ∧
   ∀ {R:Type} (body:Nat→Int→Int→(Int→Option R)→Option R) (hb:∀ k y n nx,body k y n nx=nx (max n (i64.wrap (y+1)))) (K:Int→Option R) (i:Nat),dW body K i ys (m:Int)=K (m2:Int):=by
  intro ys
  induction ys with
  | nil=>
   intro pre m e hm hp hmin;rw [H9] at e; subst e
   exact ⟨m,hm,hp,hmin,fun _ _ _ _=>rfl⟩
  | cons y ys ih=>
   intro pre m e hm hp hmin;have hy:=hl y (by rw [e]; exact IG _ (Ha ..))
   have hw:i64.wrap (y+1)=y+1:=bT ⟨by omega,by omega⟩
   have hmx:max (m:Int) (y+1)=((max m (y+1).toNat:Nat):Int):=by omega
   obtain ⟨m2,h1,h2,h3,h4⟩:=ih (pre++[y]) (max m (y+1).toNat) (by rw [e]; simp) (by omega) (fun a ha=>by
    rcases HW.1 ha with ha | ha
    ·have:=hp a ha; omega
    ·simp at ha; subst ha; omega) (fun c hc=>by
     have c1:=hmin c (fun a ha=>hc a (G8 _ ha));have c2:=hc y (IG _ (List.mem_singleton_self _));omega)
   refine ⟨m2,h1,h2,h3,fun {R} body hb K i=>?_⟩;show body i y (m:Int) (fun s=>dW body K (i+1) ys s)=_;rw [hb,hw,hmx];exact h4 body hb K (i+1)
 obtain ⟨m2,h1,h2,h3,h4⟩:=key l [] 0 rfl (by omega) (by intro a ha; simp at ha) (fun c _=>by omega)
 exact ⟨m2,h1,h2,h3,fun {R} body hb K=>h4 body hb K 0⟩
def pos (n:Net) (s:BA):Nat:=((bC n.bJ s).getD 0).toNat
theorem LA {n:Net}{s:BA} (h:s ∈ n.bJ):bC n.bJ s=some (pos n s:Int)∧pos n s<n.bJ.length:=by
 obtain ⟨k,hk,hl,_⟩:=te h;unfold pos;rw [hk];exact ⟨rfl,hl⟩
def B7 (n:Net) (bus:List Int) (b:bF):Ed:=⟨bus.getD (pos n b.g_) 0,bus.getD (pos n b.To) 0⟩
theorem B8 {n:Net} (hn:lx n) {bus:List Int}{m:Nat} (hbl:bus.length=n.bJ.length) (hm:uK m bus):xH m (n.aK.map (B7 n bus)):=fun e he=>by
 obtain ⟨b,hb,rfl⟩:=IH.1 he;obtain ⟨h1,h2⟩:=hn.br b hb;have p1:=(LA h1).2;have p2:=(LA h2).2;have q:∀ k,k<bus.length→0≤bus.getD k 0∧bus.getD k 0<m:=fun k hk=>by
  rw [HT,G7 hk];exact hm _ (Iu hk)
 exact ⟨(q _ (by omega)).1,(q _ (by omega)).2,(q _ (by omega)).1,(q _ (by omega)).2⟩
theorem D3 {n:Net} (hn:lx n) {bus:List Int} (hbus:kP n=some bus) (hbl:bus.length=n.bJ.length) {m:Nat} (hm24:m≤24) (hm:uK m bus)
  (hmost:∀ {R:Type} (body:Nat→Int→Int→(Int→Option R)→Option R) (hb:∀ k y n nx,body k y n nx=nx (max n (i64.wrap (y+1)))) (K:Int→Option R),dW body K 0 bus 0=K (m:Int)):
  Gd (cW n) (fun t=>t.kc=bus∧∃ c:Nat,AW m (n.aK.map (B7 n bus)) t.bB c):=by
 have l3:=hn.l3;unfold cW;refine Gd.bind_eq hbus ?_;rw [hmost _ (fun k y n nx=>by unfold n9; rfl)]
 refine Gd.seen (fun pre out=>out=pre.map (B7 n bus)) ?_ ?_ _ rfl
 ·rintro i y out nn pre hpre rfl hnx
  obtain ⟨hpl,hyl,_⟩:=qM hpre;obtain ⟨h1,h2⟩:=hn.br y hyl;obtain ⟨p1,p2⟩:=LA h1;obtain ⟨q1,q2⟩:=LA h2;have g:∀ k (hk:k<bus.length),bus[k]=bus.getD k 0:=fun k hk=>by
   rw [HT,G7 hk]; rfl
  unfold n_;refine Gd.bind_eq p1 (Gd.jz (by omega) (Gd.bind_eq q1 (Gd.jz (by omega) (Gd.nd ?_ (hnx _ ?_)))))
  ·simp only [JO,Im]; omega
  ·rw [I4,g _ (by omega),g _ (by omega)]; rfl
 ·rintro out rfl
  exact Gd.eA (zu m hm24 _ (B8 hn hbl hm) (by simp; omega)) (fun r ⟨_,hr⟩=>Gd.ret ⟨rfl,hr⟩)
section
variable {ν:Type}
def CL (l:List (Int×ν)) (k:Int):Option ν:=(l.find? (fun p=>p.1=k)).map (·.2)
theorem zN (l:List (Int×ν)) (k:Int):mZ l k=CL l k:=by
 unfold mZ CL;have:∀ (l:List (Int×ν)) (i:Nat),(rh l k i).map (·.2)=(l.find? (fun p=>p.1=k)).map (·.2):=by
  intro l
  induction l with
  | nil=>intro i; rfl
  | cons p l ih=>
   obtain ⟨a,v⟩:=p;intro i;simp only [rh,List.find?_cons]
   by_cases e:a=k
   ·simp [e]
   ·simp only [e,JL,L_]; exact ih (i+1)
 exact this l 0
theorem CW {l:List (Int×ν)}{k:Int}:∀ {i j:Nat}{v:ν},rh l k i=some (j,v)→∃ q,j=i+q∧l[q]? = some (k,v):=by
 induction l with
 | nil=>intro i j v h; simp [rh] at h
 | cons p l ih=>
  obtain ⟨a,u⟩:=p;intro i j v h;simp only [rh] at h
  split at h
  ·rename_i e
   simp only [H8,KW] at h;obtain ⟨rfl,rfl⟩:=h;exact ⟨0,rfl,by rw [e]; rfl⟩
  ·obtain ⟨q,rfl,h2⟩:=ih h
   exact ⟨q+1,by omega,h2⟩
theorem CV {l:List (Int×ν)}{k:Int}:∀ {i:Nat},rh l k i=none→∀ p ∈ l,p.1≠k:=by
 induction l with
 | nil=>intro i _ p hp; cases hp
 | cons p l ih=>
  obtain ⟨a,u⟩:=p;intro i h;simp only [rh] at h
  split at h
  ·cases h
  ·rename_i e
   intro q hq;rcases Ig.1 hq with rfl | hq
   ·exact e
   ·exact ih h q hq
def xE (l:List (Int×ν)):Prop:=(l.map (·.1)).Nodup
theorem xE.find {l:List (Int×ν)} (h:xE l) {k:Int}{v:ν}:mZ l k=some v↔(k,v) ∈ l:=by
 rw [zN];unfold CL xE at *
 induction l with
 | nil=>simp
 | cons p l ih=>
  obtain ⟨a,u⟩:=p;simp only [KG,KE] at h;rw [List.find?_cons]
  by_cases e:a=k
  ·subst e
   simp only [decide_true,I6,H8,Ig,KW,true_and];constructor
   ·intro h1; exact .inl h1.symm
   ·rintro (h1 | h1)
    ·exact h1.symm
    ·exact absurd (IH.2 ⟨_,h1,rfl⟩) h.1
  ·simp only [e,L_,Ig,KW]
   rw [ih h.2];constructor
   ·exact fun h1=>.inr h1
   ·rintro (⟨h1,_⟩ | h1)
    ·exact absurd h1.symm e
    ·exact h1
theorem xE.put {l:List (Int×ν)} (h:xE l) (k:Int) (v:ν):xE (qn l k v)∧∀ p,p ∈ qn l k v↔p=(k,v)∨(p ∈ l∧p.1≠k):=by
 unfold qn;cases hm:rh l k 0 with
 | none=>
  have hno:=CV hm;refine ⟨?_,fun p=>?_⟩
  ·show ((l++[(k,v)]).map (·.1)).Nodup
   rw [I4,I0];refine ⟨h,by simp,?_⟩
   intro a ha b hb;obtain ⟨p,hp,rfl⟩:=IH.1 ha;simp at hb;subst hb;exact hno p hp
  ·simp only [HW,IA]
   constructor
   ·rintro (h1 | h1)
    ·exact .inr ⟨h1,hno p h1⟩
    ·exact .inl h1
   ·rintro (h1 | ⟨h1,_⟩)
    ·exact .inr h1
    ·exact .inl h1
 | some q=>
  obtain ⟨j,u⟩:=q;obtain ⟨i,rfl,hi⟩:=CW hm;obtain ⟨hil,hie⟩:=G4.1 hi;simp only [H4];have hmap:(l.set i (k,v)).map (·.1)=l.map (·.1):=by
   rw [List.map_set];apply vW;rw [HR,hi]; rfl
  refine ⟨by unfold xE; rw [hmap]; exact h,fun p=>?_⟩
  have huniq:∀ (a:Nat) (x:Int×ν),l[a]? = some x→x.1=k→a=i:=fun a x ha hx=>by
   obtain ⟨hal,hae⟩:=G4.1 ha;unfold xE at h;rw [List.nodup_iff_pairwise_ne,KL] at h;rcases KJ a i with hlt | heq | hgt
   ·exact (h a i (by simpa using hal) (by simpa using hil) hlt (by rw [Jy,Jy,hae,hie,hx])).elim
   ·exact heq
   ·exact (h i a (by simpa using hil) (by simpa using hal) hgt (by rw [Jy,Jy,hae,hie,hx])).elim
  constructor
  ·intro hp
   obtain ⟨a,ha,hae⟩:=IS.1 hp;rw [MG] at hae
   split at hae
   ·exact .inl hae.symm
   ·rename_i hne
    have hal:a<l.length:=by simpa using ha
    refine .inr ⟨by rw [← hae]; exact Iu hal,fun hk=>?_⟩
    exact hne (huniq a p (by rw [G7 hal,hae]) hk).symm
  ·rintro (rfl | ⟨hp,hk⟩)
   ·exact IS.2 ⟨i,by simpa using hil,by simp⟩
   ·obtain ⟨a,ha,hae⟩:=IS.1 hp
    have hne:i≠a:=fun e=>by
     subst e;rw [hie] at hae;exact hk (by rw [← hae])
    exact IS.2 ⟨a,by simpa using ha,by rw [List.getElem_set_ne hne]; exact hae⟩
theorem xE.Ar {l:List (Int×ν)} (h:xE l) (k k':Int) (v:ν):mZ (qn l k v) k'=if k'=k then some v else mZ l k':=by
 obtain ⟨h1,h2⟩:=h.put k v
 split
 ·rename_i e
  rw [h1.find,h2]; exact .inl (by rw [e])
 ·rename_i e
  cases hg:mZ l k' with
  | some u=>
   rw [h1.find,h2];exact .inr ⟨h.find.1 hg,e⟩
  | none=>
   cases hg2:mZ (qn l k v) k' with
   | none=>rfl
   | some u=>
    rcases (h2 _).1 (h1.find.1 hg2) with h3 | ⟨h3,_⟩
    ·exact absurd (Prod.mk.inj h3).1 e
    ·rw [h.find.2 h3] at hg; cases hg
theorem xE.nil:xE ([]:List (Int×ν)):=by unfold xE; simp
end
structure pT (n:Net) (t:aW):Prop where
 bl:t.kc.length=n.bJ.length
 DF:t.bB.length≤24
 bi:uK t.bB.length t.kc
 comp:∃ c:Nat,AW t.bB.length (n.aK.map (B7 n t.kc)) t.bB c
theorem ED {n:Net} (hn:lx n):∃ t,cW n=some t∧pT n t:=by
 have g1:=hn.l1;obtain ⟨bus,hbus,hbl,hbin⟩:=Ce n hn;obtain ⟨m,hm1,hmin,_,hmost⟩:=Eg n.bJ.length hn.l1 bus hbin;obtain ⟨t,ht,htb,c,hc⟩:=D3 hn hbus hbl (by omega) hmin hmost
 have hl:=hc.len;refine ⟨t,ht,⟨by rw [htb]; exact hbl,by omega,by rw [htb,hl]; exact hmin,c,?_⟩⟩
 rw [htb,hl];exact hc
def fr (isl:List Int):List Nat:=(List.range isl.length).filter (fun i=>(List.range i).any (fun j=>decide (isl[j]? = isl[i]?)))
theorem zC {isl:List Int}{i:Nat}:i ∈ fr isl↔i<isl.length∧∃ j:Nat,j<i∧isl[j]? = isl[i]? := by
 unfold fr;simp
theorem CB (isl:List Int):(fr isl).Nodup:=List.Pairwise.filter _ List.nodup_range
theorem xd {isl:List Int} (h:isl.length≤24):(fr isl).length≤23:=by
 have h1:(fr isl).length≤((List.range isl.length).filter (fun i=>decide (0<i))).length:=by
  unfold fr;rw [← List.countP_eq_length_filter,← List.countP_eq_length_filter];refine List.countP_mono_left (fun i _ hi=>?_);simp at hi;obtain ⟨j,hj,_⟩:=hi;simp; omega
 have h2:∀ m,((List.range m).filter (fun i=>decide (0<i))).length≤m-1:=by
  intro m
  induction m with
  | zero=>simp
  | succ m ih=>
   rw [KZ,Ky,HN];cases m with
   | zero=>simp
   | succ m=>simp at ih ⊢; omega
 have:=h2 isl.length;omega
def we (isl:List Int) (i:Nat):Nat:=(fr isl).getD i 0
theorem xb {isl:List Int}{i:Nat} (h:i<(fr isl).length):(fr isl)[i]? = some (we isl i):=by
 unfold we;rw [HT,G7 h]; rfl
theorem xc {isl:List Int}{i:Nat} (h:i<(fr isl).length):we isl i ∈ fr isl:=Hs (xb h)
theorem tB {isl:List Int}{i j:Nat} (hi:i<(fr isl).length) (hj:j<(fr isl).length) (e:we isl i=we isl j):i=j:=by
 have a:=xb hi;have b:=xb hj;rw [e] at a;have nd:=CB isl;obtain ⟨_,ha⟩:=G4.1 a;obtain ⟨_,hb⟩:=G4.1 b;exact (List.getElem_inj nd).1 (ha.trans hb.symm)
theorem FM (isl:List Int):(fr isl).map (fun x:Nat=>(x:Int))=(List.range (fr isl).length).map (fun i=>(we isl i:Int)):=by
 apply Jm;intro i;rw [HR,HR]
 by_cases h:i<(fr isl).length
 ·rw [xb h,JA h]; rfl
 ·rw [Ir (by omega),Ir (by simp; omega)]; rfl
def Al (n:Net) (bus:List Int) (b:bF):Rat×Nat×Nat:=(((b.X*b.qR:Int):Rat),(B7 n bus b).a0.toNat,(B7 n bus b).a1.toNat)
def uy (n:Net) (bus:List Int):List (Rat×Nat×Nat):=n.aK.map (Al n bus)
structure F6 (b:bF):Prop where
 x:1≤b.X∧b.X≤10000
 t:500≤b.qR∧b.qR≤1500
 s:-1000≤b.Shift∧b.Shift≤1000
 l:0≤b.iA∧b.iA≤100000
theorem A5 {n:Net} (h:oc n) {b:bF} (hb:b ∈ n.aK):F6 b:=by
 obtain ⟨_,_,_,_,h5⟩:=h.vb b hb;unfold gK at h5
 split at h5
 ·omega
 ·rename_i h6
  simp [bK] at h6;exact ⟨by omega,by omega,by omega,by omega⟩
theorem F6.q {b:bF} (h:F6 b):500≤b.X*b.qR∧b.X*b.qR≤15000000:=by
 have h1:=h.x; have h2:=h.t
 have a:1*500≤b.X*b.qR:=Int.mul_le_mul h1.1 h2.1 (by omega) (by omega)
 have c:b.X*b.qR≤10000*1500:=Int.mul_le_mul h1.2 h2.2 (by omega) (by omega)
 omega
structure F1 (N:Nat) (l:List (Rat×Nat×Nat)):Prop where
 ll:l.length≤24
 el:∀ e ∈ l,e.2.1<N∧e.2.2<N
 q:∀ e ∈ l,∃ z:Int,e.1=(z:Rat)∧500≤z∧z≤15000000
theorem vo {n:Net} (h:oc n) (hn:lx n) {t:aW} (ht:pT n t):F1 t.bB.length (uy n t.kc):=by
 refine ⟨by unfold uy; rw [JO]; exact h.l3,fun e he=>?_,fun e he=>?_⟩
 ·obtain ⟨b,hb,rfl⟩:=IH.1 he
  have:=B8 hn ht.bl ht.bi (B7 n t.kc b) (IH.2 ⟨b,hb,rfl⟩);show (B7 n t.kc b).a0.toNat<_∧(B7 n t.kc b).a1.toNat<_;omega
 ·obtain ⟨b,hb,rfl⟩:=IH.1 he
  exact ⟨_,rfl,(A5 h hb).q.1,(A5 h hb).q.2⟩
theorem tS {N:Nat}{l:List (Rat×Nat×Nat)} (h:F1 N l) {e:Rat×Nat×Nat} (he:e ∈ l):pF e.1∧500≤e.1∧e.1≤15000000:=by
 obtain ⟨z,hz,h1,h2⟩:=h.q e he;have a:=Nj.2 h1;have b:=Nj.2 h2;rw [← hz] at a b;exact ⟨⟨z,hz⟩,a,b⟩
abbrev tq:Rat:=((1000000:Int):Rat)
abbrev D8 (F:Nat→Nat) (l:List (Rat×Nat×Nat)):Mt:=eU ((l.map (wt tq)).map (kd F))
theorem Dw:0<tq:=by
 have:((0:Int):Rat)<((1000000:Int):Rat):=Rat.intCast_lt_intCast.2 (by decide)
 simpa using this
theorem Da {a:Nat}{c:Rat} (h0:0≤c) (h:c≤(((2 ^ a:Nat):Int):Rat)):∀ k:Nat,0≤pr k (fun _=>c)∧pr k (fun _=>c)≤(((2 ^ (a*k):Nat):Int):Rat)
 | 0=>by
  refine ⟨by show (0:Rat)≤1; decide,?_⟩
  show (1:Rat)≤_;rw [M4,Nc];exact Nn
 | k+1=>by
  obtain ⟨h1,h2⟩:=Da h0 h k;refine ⟨Nr h1 h0,?_⟩;show pr k (fun _=>c)*c≤_;have e:a*(k+1)=a*k+a:=Nat.mul_succ a k;rw [e,M5,Ij,Nk];exact mg h2 h h1 h0
theorem FB {a b:Nat} (h:a≤32*b):(((2 ^ a:Nat):Int):Rat)≤wq b:=by
 unfold wq;rw [uX];have:2 ^ a≤2 ^ (32*b):=M7 (by decide) h
 exact Nj.2 (by omega)
theorem E3 {a c:Nat}{x:Rat} (h0:0≤x) (h:x≤(((2 ^ a:Nat):Int):Rat)) (k:Nat) (hk:a*k≤32*c):pr k (fun _=>x)≤wq c:=
 No (Da h0 h k).2 (FB hk)
theorem Ai {N:Nat}{l:List (Rat×Nat×Nat)} (h:F1 N l):1≤qS l∧qS l≤wq 18:=by
 have h1:=h.ll;refine ⟨va (fun e he=>by have:=tS h he; grind),?_⟩
 refine Rat.le_trans (Ah (q:=15000000) (fun e he=>by have:=tS h he; constructor <;> grind)) (E3 (a:=24) (by decide) ?_ l.length (by omega))
 have:((15000000:Int):Rat)≤(((2 ^ 24:Nat):Int):Rat):=Nj.2 (by decide)
 exact this
theorem yO {u:Nat}:∀ {l:List (Rat×Nat×Nat)},(∀ e ∈ l,1≤e.1)→pA u l≤qS l
 | [],_=>Nn
 | e::l,h=>by
  have ih:=yO (u:=u) (l:=l) (fun e he=>h e (List.mem_cons_of_mem _ he));have h1:=h e (List.mem_cons_self ..);have h2:=tX (u:=u) (l:=l) (fun e he=>h e (List.mem_cons_of_mem _ he));unfold pA qS;refine mg ?_ ih ?_ (by grind)
  ·split <;> grind
  ·split <;> grind
theorem AU {N:Nat}:∀ {l:List (Rat×Nat×Nat)},(∀ e ∈ l,500≤e.1)→0≤wb (l.map (wt tq))∧wb (l.map (wt tq))≤2000*(((l.length:Nat):Int):Rat)
 | [],_=>⟨Nn,by
  show (0:Rat)≤2000*((((0:Nat):Int)):Rat);simp⟩
 | e::l,h=>by
  obtain ⟨a,b⟩:=AU (N:=N) (l:=l) (fun e he=>h e (List.mem_cons_of_mem _ he));have h1:=h e (List.mem_cons_self ..);have e1:wb ((e::l).map (wt tq))=tq / e.1+wb (l.map (wt tq)):=rfl;have p:0<e.1⁻¹:=Rat.inv_pos.2 (by grind)
  have i1:=Rat.mul_inv_cancel e.1 (by grind)
  have i2:=Rat.mul_le_mul_of_nonneg_right h1 (Rat.le_of_lt p);have t1:tq=1000000:=rfl;have e2:(((e::l).length:Nat):Int)=(((l.length:Nat):Int))+1:=by simp
  rw [e1,Rat.div_def,t1,e2,Rat.intCast_add,Rat.intCast_one];constructor <;> grind
theorem zP {N n:Nat}{F:Nat→Nat}{l:List (Rat×Nat×Nat)} (h:F1 N l) (hn:n≤23) (hF:∀ i j,i<n→j<n→F i=F j→i=j):
  Nb n (D8 F l) (fun i=>pA (F i) l) (fun i c=>pA (F i) l*eU ((l.map (wt tq)).map (ln F)) i c+dl i c) (fun i=>pA (F i) l*(4*wb (l.map (wt tq)))+1):=by
 have h1:=h.ll;have hq1:∀ e ∈ l,1≤e.1:=fun e he=>by have:=tS h he; grind
 have ws:=AU (N:=N) (fun e he=>(tS h he).2.1);have hlc:(((l.length:Nat):Int):Rat)≤24:=Nj.2 (show ((l.length:Nat):Int)≤24 by omega)
 refine ⟨Ek hF ⟨_,rfl⟩ Dw (fun e he=>⟨(tS h he).1,hq1 e he⟩),?_,fun i _=>Rat.le_trans (yO hq1) (Ai h).2⟩;have a:=FR (n:=n) (F:=F) (l:=l) (s:=4*wb (l.map (wt tq))) (w:=192000) hF hq1 (by grind) (by grind)
 have b:=Ai h;have c:pr n (fun _=>(192000:Rat)+1)≤wq 13:=E3 (a:=18) (by grind) (by
  have:((192001:Int):Rat)≤(((2 ^ 18:Nat):Int):Rat):=Nj.2 (by decide)
  have e:(192000:Rat)+1=((192001:Int):Rat):=by grind
  rw [e]; exact this) n (by omega)
 have d:qS l*qS l≤wq 36:=by
  rw [← qO 18 18];exact mg b.2 b.2 (by grind) (by grind)
 have c0:0≤pr n (fun _=>(192000:Rat)+1):=jM (fun _ _=>by grind)
 have f:qS l*qS l*pr n (fun _=>(192000:Rat)+1)≤wq 49:=by
  rw [← qO 36 13];exact mg d c (Rat.mul_nonneg (by grind) (by grind)) c0
 exact No a (No f (sD (by omega)))
theorem CA (isl:List Int):∀ i:Nat,∃ r,r≤i∧isl[r]? = isl[i]? ∧ ∀ j,j<r→isl[j]? ≠ isl[i]? := by
 intro i
 induction i using Nat.strongRecOn with
 | ind i ih=>
  by_cases h:∃ j,j<i∧isl[j]? = isl[i]?
  ·obtain ⟨j,hj,e⟩:=h
   obtain ⟨r,h1,h2,h3⟩:=ih j hj;exact ⟨r,by omega,h2.trans e,fun q hq hh=>h3 q hq (hh.trans e.symm)⟩
  ·exact ⟨i,HH _,rfl,fun j hj e=>h ⟨j,hj,e⟩⟩
theorem DW {n:Net}{t:aW}{u v:Int} (h:rP (n.aK.map (B7 n t.kc)) u v):Lk ((uy n t.kc).map (wt tq)) u.toNat v.toNat:=by
 induction h with
 | refl=>exact .refl
 | snoc _ ha ih=>
  obtain ⟨e,he,hh⟩:=ha;obtain ⟨b,hb,rfl⟩:=IH.1 he;have hm:wt tq (Al n t.kc b) ∈ (uy n t.kc).map (wt tq):=IH.2 ⟨_,IH.2 ⟨b,hb,rfl⟩,rfl⟩;rcases hh with ⟨rfl,rfl⟩ | ⟨rfl,rfl⟩
  ·exact .step ih (.inl hm)
  ·exact .step ih (.inr hm)
theorem zQ {n:Net} (h:oc n) (hn:lx n) {t:aW} (ht:pT n t):Pd (fr t.bB).length (D8 (we t.bB) (uy n t.kc)):=by
 have hE:=vo h hn ht;obtain ⟨c,hc⟩:=ht.comp;refine FU (fun e he=>?_) (fun i j hi hj e=>tB hi hj e) (fun i hi=>?_)
 ·obtain ⟨d,hd,rfl⟩:=IH.1 he
  have:=tS hE hd;show 0<tq / d.1;rw [Rat.div_def];exact Rat.mul_pos Dw (Rat.inv_pos.2 (by grind))
 ·have hm:=zC.1 (xc hi)
  obtain ⟨r,h1,h2,h3⟩:=CA t.bB (we t.bB i);refine ⟨r,fun j hj e=>?_,?_⟩
  ·have hm2:=zC.1 (xc hj)
   rw [e] at hm2;obtain ⟨_,q,hq,hqe⟩:=hm2;exact h3 q hq (hqe.trans h2)
  ·have hl:∀ (a:Nat),a<t.bB.length→lb t.bB (a:Int)=t.bB[a]! := fun a ha=>by
    rw [vC ha]; simp [ha]
   have hcon:rP (n.aK.map (B7 n t.kc)) ((we t.bB i:Nat):Int) ((r:Nat):Int):=by
    refine (hc.iff _ _ (by omega) (by omega) (by omega) (by omega)).1 ?_
    have hr:r<t.bB.length:=by omega
    rw [vC hm.1,vC hr];rw [G7 hr,G7 hm.1] at h2;exact (G3 h2).symm
   have:=DW hcon;simpa using this
structure Md (n:Net) (t:aW) (M:aY):Prop where
 top:M.qE=t
 md:BP M (fr t.bB).length t.bB.length (we t.bB) (uy n t.kc) tq
 cl:M.C.length=n.aK.length
 c:∀ (k:Nat) (y:LR),M.C[k]? = some y→∃ b,n.aK[k]? = some b∧kI y∧RL y 4∧rv y=(tq / ((b.X*b.qR:Int):Rat))*(((0-b.Shift:Int):Rat) / ((1000:Int):Rat))
 inv:ET M.mJ (fr t.bB).length (D8 (we t.bB) (uy n t.kc))
theorem AT {α β:Type}{P:α→β→Prop}{l:List α}{m:List β} (hl:l.length=m.length) (h:∀ (k:Nat) (y:α),l[k]? = some y→∃ b,m[k]? = some b∧P y b) {x:α}{b:β} (hx:P x b):∀ (k:Nat) (y:α),(l++[x])[k]? = some y→∃ b',(m++[b])[k]? = some b'∧P y b':=by
 intro k y hk
 by_cases e:k<l.length
 ·rw [IL e] at hk
  obtain ⟨b',h1,h2⟩:=h k y hk;exact ⟨b',by rw [IL (by omega)]; exact h1,h2⟩
 ·have hk2:=(G4.1 hk).1
  rw [HN,Im] at hk2;obtain rfl:k=l.length:=by omega
  rw [HU (HH _),IN] at hk;obtain rfl:=G3 hk;exact ⟨b,by rw [hl,HU (HH _),IN]; rfl,hx⟩
theorem zj {n:Net} (hn:lx n) {t:aW} (ht:pT n t) {k:Nat} (hk:k<n.bJ.length):∃ v:Nat,t.kc[k]? = some (v:Int)∧v=(t.kc.getD k 0).toNat:=by
 have hkl:k<t.kc.length:=by rw [ht.bl]; exact hk
 have h1:=ht.bi _ (Iu hkl);refine ⟨(t.kc[k]).toNat,?_,?_⟩
 ·rw [G7 hkl]; congr 1; omega
 ·rw [HT,G7 hkl]; rfl
theorem yw {n:Net} (h:oc n) (hn:lx n) {t:aW} (hg:cW n=some t) (ht:pT n t):Gd (pO n) (fun o=>∃ M,o=some M∧Md n t M):=by
 have hE:=vo h hn ht;have hll:=h.l3;have hN:=ht.DF;unfold pO;refine Gd.bind_eq hg ?_;refine Gd.dW (fun k ys s=>∃ pre,n.aK=pre++ys∧pre.length=k∧s.1=pre.map (fun b=>((Al n t.kc b).2.1:Int))∧s.2.1=pre.map (fun b=>((Al n t.kc b).2.2:Int))∧s.2.2.1.length=pre.length∧s.2.2.2.length=pre.length ∧
  (∀ (k:Nat) (y:LR),s.2.2.1[k]? = some y→∃ b,pre[k]? = some b∧(kI y∧RL y 2∧rv y=tq / ((b.X*b.qR:Int):Rat))) ∧
  (∀ (k:Nat) (y:LR),s.2.2.2[k]? = some y→∃ b,pre[k]? = some b∧(kI y∧RL y 4∧rv y=(tq / ((b.X*b.qR:Int):Rat))*(((0-b.Shift:Int):Rat) / ((1000:Int):Rat))))) ?_ ?_ n.aK 0 _
  ⟨[],rfl,rfl,rfl,rfl,rfl,rfl,fun k y hy=>by simp at hy,fun k y hy=>by simp at hy⟩
 ·rintro k b ys ⟨l1,l2,l3,l4⟩ nx ⟨pre,hp,hpk,e1,e2,e3,e4,hB,hC⟩ hnx
  simp only at e1 e2 e3 e4 hB hC;subst e1 e2;have hb:b ∈ n.aK:=by rw [hp]; simp
  have hkl:pre.length<24:=by
   have:n.aK.length=pre.length+(ys.length+1):=by rw [hp]; simp
   omega
  obtain ⟨_,m1,m2,_⟩:=h.vb b hb;obtain ⟨p1,p2⟩:=LA m1;obtain ⟨q1,q2⟩:=LA m2;obtain ⟨u,u1,u2⟩:=zj hn ht p2;obtain ⟨v,v1,v2⟩:=zj hn ht q2;have V:=A5 h hb;have hq:=V.q;have hx:=V.x; have htp:=V.t; have hs:=V.s
  unfold rk;have w1:i64.wrap (b.X*b.qR)=b.X*b.qR:=bT ⟨by omega,by omega⟩
  have w2:i64.wrap (0-b.Shift)=0-b.Shift:=bT ⟨by omega,by omega⟩
  rw [w1,w2];refine Gd.bind_eq p1 (Gd.ix (by omega) (by rw [G9]; exact u1) (Gd.nd (by simp; omega) (Gd.bind_eq q1 (Gd.ix (by omega) (by rw [G9]; exact v1) (Gd.nd (by simp; omega) ?_)))))
  refine Gd.eA (xe (by omega) (by omega) (by omega)) (fun s hs'=>Gd.nd (by simp; omega) (Gd.eA (xe (by omega) (by omega) (by omega)) (fun f hf=>Gd.eA (tV hs'.1 hf.1 hs'.2.1 hf.2.1 (by omega)) (fun c hc=>Gd.nd (by simp; omega) ?_))))
  refine hnx _ ⟨pre++[b],by rw [hp]; simp,by simp [hpk],?_,?_,by simp [e3],by simp [e4],?_,?_⟩
  ·simp only [I4,KG,List.map_nil]
   rw [u2]; rfl
  ·simp only [I4,KG,List.map_nil]
   rw [v2]; rfl
  ·exact AT e3 hB ⟨hs'.1,hs'.2.1,hs'.2.2⟩
  ·exact AT e4 hC ⟨hc.1,hc.2.1,by rw [hc.2.2,hs'.2.2,hf.2.2]⟩
 ·rintro k ⟨l1,l2,l3,l4⟩ ⟨pre,hp,hpk,e1,e2,e3,e4,hB,hC⟩
  simp only at e1 e2 e3 e4 hB hC;rw [H9] at hp;subst hp;subst e1 e2;refine Gd.dW (fun i ys s=>∃ pre,t.bB=pre++ys∧pre.length=i∧xE s.1∧(∀ k:Int,(mZ s.1 k).getD false=true↔k ∈ pre) ∧
   s.2=((List.range i).filter (fun i=>(List.range i).any (fun j=>decide (t.bB[j]? = t.bB[i]?)))).map (fun x:Nat=>(x:Int))) ?_ ?_ t.bB 0 _
   ⟨[],rfl,rfl,xE.nil,fun k=>by simp [mZ,rh],rfl⟩
  ·rintro i y ys ⟨seen,free⟩ nx ⟨pre,hp,hpi,hk,hs,e⟩ hnx
   simp only at hk hs e;subst e;have hi:t.bB[i]? = some y:=by rw [hp,HU (by omega),hpi,IN]; rfl
   have hil:=(G4.1 hi).1;have hmem:y ∈ pre↔(List.range i).any (fun j=>decide (t.bB[j]? = t.bB[i]?))=true:=by
    rw [List.any_eq_true];constructor
    ·intro hy
     obtain ⟨j,hj,he⟩:=IS.1 hy;refine ⟨j,Io.2 (by omega),?_⟩
     rw [hi,hp,IL hj,G7 hj,he]; simp
    ·rintro ⟨j,hj,he⟩
     have hj:=Io.1 hj;have he:=Hj he;rw [hi,hp,IL (by omega)] at he
     exact Hs he
   have hfl:((List.range i).filter (fun i=>(List.range i).any (fun j=>decide (t.bB[j]? = t.bB[i]?)))).length≤i:=by
    have:=List.length_filter_le (fun i=>(List.range i).any (fun j=>decide (t.bB[j]? = t.bB[i]?))) (List.range i);simpa using this
   have hput:xE (qn seen y true)∧∀ k:Int,(mZ (qn seen y true) k).getD false=true↔k ∈ pre++[y]:=by
    refine ⟨(hk.put y true).1,fun k=>?_⟩;rw [hk.Ar,HW,IA]
    split
    ·rename_i e; simp [e]
    ·rename_i e; rw [hs k]; simp [e]
   unfold rl;refine Gd.ite (fun hc=>?_) (fun hc=>?_)
   ·have hc2:=hmem.1 ((hs y).1 hc)
    unfold mK;refine Gd.nd (by simp only [JO,Im]; omega) (hnx _ ⟨pre++[y],by rw [hp]; simp,by simp [hpi],hput.1,hput.2,?_⟩)
    simp only;rw [KZ,Ky,I4,MF,Hi hc2]
    rfl
   ·have hc2:¬ (List.range i).any (fun j=>decide (t.bB[j]? = t.bB[i]?))=true:=fun hh=>by
     have:=(hs y).2 (hmem.2 hh);rw [this] at hc; cases hc
    unfold mK;refine hnx _ ⟨pre++[y],by rw [hp]; simp,by simp [hpi],hput.1,hput.2,?_⟩
    simp only;rw [KZ,Ky,I4,MF,Hh hc2];simp
  ·rintro i ⟨seen,free⟩ ⟨pre,hp,hpi,hk,hs,e⟩
   simp only at e;rw [H9] at hp;subst e;have hi:i=t.bB.length:=by rw [← hpi,← hp]
   subst hi;have hmd:BP (aY.mk t (n.aK.map (fun b=>((Al n t.kc b).2.1:Int))) (n.aK.map (fun b=>((Al n t.kc b).2.2:Int))) l3 l4 ((fr t.bB).map (fun x:Nat=>(x:Int))) []) (fr t.bB).length t.bB.length (we t.bB) (uy n t.kc) tq:=by
    refine ⟨xd hN,FM _,fun i j hi hj e=>tB hi hj e,fun i hi=>(zC.1 (xc hi)).1,hN,hE.ll,hE.el,?_,?_,by show l3.length=_; rw [e3]; simp [uy],fun k y hy=>?_⟩
    ·simp [uy]
    ·simp [uy]
    ·obtain ⟨b,hb,y1,y2,y3⟩:=hB k y hy
     exact ⟨Al n t.kc b,by unfold uy; rw [HR,hb]; rfl,y1,y2,y3⟩
   have hinv:=Bj hmd (zQ h hn ht) (zP hE (xd hN) (fun i j hi hj e=>tB hi hj e));refine Gd.eA hinv ?_;rintro _ ⟨rows,rfl,hI⟩;refine Gd.ret ⟨_,rfl,⟨rfl,?_,e4,hC,hI⟩⟩;exact ⟨hmd.hn,hmd.free,hmd.inj,hmd.lt,hmd.hN,hmd.ll,hmd.el,hmd.fr,hmd.to,hmd.bl,hmd.b⟩
def NL (l:List LR) (N:Nat) (P:Nat→LR→Prop):Prop:=l.length=N∧∀ (b:Nat) (y:LR),l[b]? = some y→P b y
theorem NL.mono {l:List LR}{N:Nat}{P P':Nat→LR→Prop} (h:NL l N P) (k:∀ b y,b<N→P b y→P' b y):NL l N P':=
 ⟨h.1,fun b y hb=>k b y (by rw [← h.1]; exact (G4.1 hb).1) (h.2 b y hb)⟩
theorem NL.set {l:List LR}{N:Nat}{P:Nat→LR→Prop} (h:NL l N P) {b:Nat}{y:LR} (hy:P b y):NL (l.set b y) N P:=by
 refine ⟨by rw [Hx]; exact h.1,fun b' y' hb=>?_⟩
 by_cases e:b=b'
 ·subst e
  have hl:b<l.length:=by
   have:=(G4.1 hb).1
   rwa [Hx] at this
  rw [HP hl] at hb;obtain rfl:=G3 hb;exact hy
 ·rw [HJ e] at hb
  exact h.2 b' y' hb
theorem NL.snoc {l:List LR}{N:Nat}{P:Nat→LR→Prop} (h:NL l N P) {y:LR} (hy:P N y):NL (l++[y]) (N+1) P:=by
 refine ⟨by simp [h.1],fun b y' hb=>?_⟩
 by_cases e:b<l.length
 ·rw [IL e] at hb
  exact h.2 b y' hb
 ·have hk2:=(G4.1 hb).1
  rw [HN,Im] at hk2;obtain rfl:b=l.length:=by omega
  rw [HU (HH _),IN] at hb;obtain rfl:=G3 hb;rw [h.1]; exact hy
theorem NL.get {R:Type}{Q:R→Prop}{l:List LR}{N:Nat}{P:Nat→LR→Prop} (h:NL l N P) {b:Nat} (hb:b<N) {f:LR→Option R} (hk:∀ y,P b y→Gd (f y) Q):Gd (idx l (b:Int) f) Q:=by
 have hl:b<l.length:=by rw [h.1]; exact hb
 exact Gd.jz hl (hk _ (h.2 b _ (G7 hl)))
theorem EB {n:Net}{t:aW}{M:aY} (hM:Md n t M) (ht:pT n t) (hn:lx n) {p:List Int} (hp:p.length=n.bJ.length) (hb:∀ z ∈ p,-100000≤z∧z≤100000):
  Gd (kR M p) (fun r=>NL r t.bB.length (fun _ y=>kI y∧RL y 2∧∃ z:Int,rv y=(z:Rat)∧-2400000≤z∧z≤2400000)):=by
 have h24:=hn.l1;have hN:=ht.DF;unfold kR cL;rw [hM.top];refine Gd.nd (by omega) ?_
 rw [G9];refine Gd.dW (fun i ys s=>∃ pre,p=pre++ys∧pre.length=i∧s.length=t.bB.length∧∀ z ∈ s,-100000*(i:Int)≤z∧z≤100000*(i:Int)) ?_ ?_ p 0 _ ⟨[],rfl,rfl,by simp,fun z hz=>by
  have:=ME hz;omega⟩
 ·rintro i y ys s nx ⟨pre,hpp,hpi,hsl,hs⟩ hnx
  have hi:i<n.bJ.length:=by rw [← hp,hpp]; simp; omega
  have hy:=hb y (by rw [hpp]; simp)
  obtain ⟨v,v1,v2⟩:=zj hn ht hi;have hv:v<t.bB.length:=by
   have:=ht.bi _ (Hs v1);omega
  have hvs:v<s.length:=by omega
  unfold mB;rw [hM.top];refine Gd.ix (by omega) (by rw [G9]; exact v1) (Gd.jz hvs (Gd.jz hvs ?_))
  have hz:=hs _ (Iu hvs);have hw:i64.wrap (s[v]+y)=s[v]+y:=bT ⟨by omega,by omega⟩
  rw [hw,G9];refine hnx _ ⟨pre++[y],by rw [hpp]; simp,by simp [hpi],by rw [Hx]; exact hsl,fun z hz'=>?_⟩
  rcases MM hz' with h1 | h1
  ·have:=hs z h1; omega
  ·subst h1; omega
 ·rintro i s ⟨pre,hpp,hpi,hsl,hs⟩
  rw [H9] at hpp;have hil:i≤24:=by rw [← hpi,← hpp,hp]; exact h24
  refine Gd.dW (fun k ys r=>∃ pre,s=pre++ys∧pre.length=k∧NL r k (fun _ y=>kI y∧RL y 2∧∃ z:Int,rv y=(z:Rat)∧-2400000≤z∧z≤2400000)) ?_ ?_ s 0 _ ⟨[],rfl,rfl,rfl,fun b y hb=>by simp at hb⟩
  ·rintro k y ys r nx ⟨pre,hps,hpk,hr⟩ hnx
   have hy:=hs y (by rw [hps]; simp)
   have hkl:s.length=pre.length+(ys.length+1):=by rw [hps]; simp
   have hrl:=hr.1;unfold mC;refine Gd.eA (ss (by omega)) (fun w hw=>Gd.nd (by simp; omega) (hnx _ ⟨pre++[y],by rw [hps]; simp,by simp [hpk],hr.snoc ⟨hw.1,hw.2.1,y,hw.2.2,by omega,by omega⟩⟩))
  ·rintro k r ⟨pre,hps,hpk,hr⟩
   rw [H9] at hps;have hkn:k=t.bB.length:=by rw [← hpk,← hps,hsl]
   subst hkn;exact Gd.ret hr
theorem Fh {a b:List LR}{n W:Nat}{A B:Nat→Rat} (hn:n≤24) (hW:W≤6000) (ha:NL a n (fun j y=>kI y∧RL y W∧rv y=A j)) (hb:NL b n (fun j y=>kI y∧RL y W∧rv y=B j)):
  Gd (pc a b) (fun r=>kI r∧rv r=sm n (fun j=>A j*B j)):=by
 unfold pc;refine Gd.eA (ss (n:=0) (by omega)) (fun z hz=>?_)
 rw [ha.1,G9];refine Gd.jU (fun m k s=>k+m=n∧∃ r:LR,s=(r.N.minus,r.N.words,r.D.minus,r.D.words)∧kI r∧RL r (2+(2*W+1)*k)∧rv r=sm k (fun j=>A j*B j)) ?_ ?_ n 0 _ ⟨by omega,z,rfl,hz.1,hz.2.1,by rw [hz.2.2]; rfl⟩
 ·rintro m k _ nx ⟨hk,r,rfl,hr,hrl,hv⟩ hnx
  have hkn:k<n:=by omega
  have hbig:(2*W+1)*k≤(2*W+1)*23:=M3 _ (by omega)
  have hsucc:(2*W+1)*(k+1)=(2*W+1)*k+(2*W+1):=Nat.mul_succ _ _;unfold pY;refine ha.get hkn (fun y hy=>?_);have skip:A k*B k=0→Gd (jA nx r.N.minus r.N.words r.D.minus r.D.words) (fun r=>kI r∧rv r=sm n (fun j=>A j*B j)):=fun h0=>by
   unfold jA;refine hnx _ ⟨by omega,r,rfl,hr,hrl.mono (by omega),?_⟩
   rw [hv];show _=sm k (fun j=>A j*B j)+A k*B k;rw [h0]; grind
  rw [sq hy.1,hy.2.2];refine Gd.ite (fun h=>skip (by rw [of_decide_eq_true h]; grind)) (fun _=>hb.get hkn (fun u hu=>?_))
  rw [sq hu.1,hu.2.2];refine Gd.ite (fun _=>ha.get hkn (fun y2 hy2=>hb.get hkn (fun u2 hu2=>?_))) (fun h=>skip (by
   have h1:decide (B k=0)=true:=by simpa using h
   rw [of_decide_eq_true h1]; grind))
  refine Gd.eA (tV hy2.1 hu2.1 hy2.2.1 hu2.2.1 (by omega)) (fun c hc=>Gd.eA (rz (a:=⟨⟨r.N.minus,r.N.words⟩,⟨r.D.minus,r.D.words⟩⟩) hr hc.1 hrl hc.2.1 (by omega)) (fun d hd=>?_))
  unfold jA;refine hnx _ ⟨by omega,d,rfl,hd.1,hd.2.1.mono (by omega),?_⟩
  rw [hd.2.2,hc.2.2,hy2.2.2,hu2.2.2];show rv r+_=sm k (fun j=>A j*B j)+A k*B k;rw [hv]
 ·rintro k _ ⟨hk,r,rfl,hr,hrl,hv⟩
  obtain rfl:k=n:=by omega
  exact Gd.ret ⟨hr,hv⟩
theorem DT {q s:Int} (hq:500≤q) (hs:-1000≤s∧s≤1000):-2000≤(tq / (q:Rat))*((s:Rat) / ((1000:Int):Rat))∧(tq / (q:Rat))*((s:Rat) / ((1000:Int):Rat))≤2000∧(tq / (q:Rat))*((s:Rat) / ((1000:Int):Rat))=(((1000*s:Int):Rat)) / (q:Rat):=by
 have h1:((500:Int):Rat)≤(q:Rat):=Nj.2 hq;have h2:((-1000:Int):Rat)≤(s:Rat):=Nj.2 hs.1;have h3:(s:Rat)≤((1000:Int):Rat):=Nj.2 hs.2;have e1:((500:Int):Rat)=500:=rfl;have e2:((-1000:Int):Rat) = -1000:=by rw [Nl]; rfl
 have e3:((1000:Int):Rat)=1000:=rfl;have e4:tq=1000000:=rfl;rw [e1] at h1; rw [e2] at h2; rw [e3] at h3 ⊢
 have p:0<((q:Rat))⁻¹:=Rat.inv_pos.2 (by grind)
 have i1:=Rat.mul_inv_cancel (q:Rat) (by grind)
 have i2:=Rat.mul_le_mul_of_nonneg_right h1 (Rat.le_of_lt p);have i3:(q:Rat)⁻¹≤1 / 500:=by grind
 have e5:(tq / (q:Rat))*((s:Rat) / 1000)=(1000*(s:Rat))*(q:Rat)⁻¹:=by rw [e4,Rat.div_def,Rat.div_def]; grind
 have m:=u_ (x:=1000*(s:Rat)) (y:=(q:Rat)⁻¹) (a:=1000000) (b:=1 / 500) (by grind) (by grind) (by grind) i3
 refine ⟨by rw [e5]; grind,by rw [e5]; grind,?_⟩
 rw [e5,Nk,e3,Ni]
def Lg (l:List (Rat×Nat×Nat)) (W:Nat) (C:Rat) (b:Nat) (y:LR):Prop:=kI y∧RL y W∧pF (pA b l*rv y)∧-C≤rv y∧rv y≤C
theorem Lg.mono {l:List (Rat×Nat×Nat)}{W W':Nat}{C C':Rat}{b:Nat}{y:LR} (h:Lg l W C b y) (hW:W≤W') (hC:C≤C'):Lg l W' C' b y:=
 ⟨h.1,h.2.1.mono hW,h.2.2.1,by have:=h.2.2.2.1; grind,by have:=h.2.2.2.2; grind⟩
theorem Au {a:Rat} (h:pF a):pF (-a):=by
 obtain ⟨z,rfl⟩:=h;exact ⟨-z,by rw [Nl]⟩
theorem Lg.sub {l:List (Rat×Nat×Nat)}{W:Nat}{C:Rat}{b:Nat}{y c:LR} (h:Lg l W C b y) (hc:Lg l 4 2000 b c) (hW:W≤1000):Gd (fU y c) (Lg l (W+5) (C+2000) b):=by
 obtain ⟨a1,a2,a3,a4,a5⟩:=h;obtain ⟨c1,c2,c3,c4,c5⟩:=hc;refine (sC a1 c1 a2 c2 (by omega)).mono (fun r hr=>⟨hr.1,hr.2.1.mono (by omega),?_,?_,?_⟩)
 ·rw [hr.2.2]
  have e:pA b l*(rv y-rv c)=pA b l*rv y+-(pA b l*rv c):=by grind
  rw [e]; exact tC a3 (Au c3)
 ·rw [hr.2.2]; grind
 ·rw [hr.2.2]; grind
theorem Lg.add {l:List (Rat×Nat×Nat)}{W:Nat}{C:Rat}{b:Nat}{y c:LR} (h:Lg l W C b y) (hc:Lg l 4 2000 b c) (hW:W≤1000):Gd (eY y c) (Lg l (W+5) (C+2000) b):=by
 obtain ⟨a1,a2,a3,a4,a5⟩:=h;obtain ⟨c1,c2,c3,c4,c5⟩:=hc;refine (rz a1 c1 a2 c2 (by omega)).mono (fun r hr=>⟨hr.1,hr.2.1.mono (by omega),?_,?_,?_⟩)
 ·rw [hr.2.2]
  have e:pA b l*(rv y+rv c)=pA b l*rv y+pA b l*rv c:=by grind
  rw [e]; exact tC a3 c3
 ·rw [hr.2.2]; grind
 ·rw [hr.2.2]; grind
theorem CU {n:Net}{t:aW}{M:aY} (hM:Md n t M) {k:Nat}{b:bF} (hb:n.aK[k]? = some b):
  M.g_[k]? = some ((Al n t.kc b).2.1:Int)∧M.To[k]? = some ((Al n t.kc b).2.2:Int)∧(uy n t.kc)[k]? = some (Al n t.kc b):=by
 have e:(uy n t.kc)[k]? = some (Al n t.kc b):=by unfold uy; rw [HR,hb]; rfl
 refine ⟨?_,?_,e⟩
 ·rw [hM.md.fr]; exact wY (fun e:Rat×Nat×Nat=>(e.2.1:Int)) e
 ·rw [hM.md.to]; exact wY (fun e:Rat×Nat×Nat=>(e.2.2:Int)) e
theorem Gh {n:Net}{t:aW}{M:aY} (h:oc n) (hn:lx n) (hM:Md n t M) (ht:pT n t) {k:Nat}{c:LR} (hc:M.C[k]? = some c):
  ∃ b,n.aK[k]? = some b∧Lg (uy n t.kc) 4 2000 (Al n t.kc b).2.1 c∧Lg (uy n t.kc) 4 2000 (Al n t.kc b).2.2 c:=by
 obtain ⟨b,hb,c1,c2,c3⟩:=hM.c k c hc;have V:=A5 h (Hs hb);have hE:=vo h hn ht;obtain ⟨_,_,e⟩:=CU hM hb;have hm:=Hs e;have hs:=V.s;obtain ⟨d1,d2,d3⟩:=DT (q:=b.X*b.qR) (s:=0-b.Shift) V.q.1 (by omega)
 rw [← c3] at d1 d2 d3;have I:=fun (u:Nat) hu=>xy (u:=u) (l:=uy n t.kc) (fun e he=>⟨(tS hE he).1,by have:=(tS hE he).2.1; grind⟩) _ hm hu (((1000*(0-b.Shift):Int)):Rat) ⟨_,rfl⟩
 refine ⟨b,hb,⟨c1,c2,?_,d1,d2⟩,⟨c1,c2,?_,d1,d2⟩⟩
 ·rw [d3]; exact I _ (.inl rfl)
 ·rw [d3]; exact I _ (.inr rfl)
theorem ub (k:Nat):(((k+1:Nat):Int):Rat)=((k:Int):Rat)+1:=by rw [Mw,Rat.intCast_add]; rfl
theorem Ec {n:Net}{t:aW}{M:aY} (h:oc n) (hn:lx n) (hM:Md n t M) (ht:pT n t) {p:List LR}
  (hp:NL p t.bB.length (fun _ y=>kI y∧RL y 2∧∃ z:Int,rv y=(z:Rat)∧-2400000≤z∧z≤2400000)) {Q:List LR→Prop}{K:List LR→Option (List LR)} (hK:∀ s,NL s t.bB.length (Lg (uy n t.kc) 300 2500000)→Gd (K s) Q):
  Gd (dW (fun k y s n=>kg M k y s n) K 0 M.C p) Q:=by
 have hE:=vo h hn ht;have hcl:=hM.cl;have h24:=h.l3;refine Gd.dW (fun k ys s=>∃ pre,M.C=pre++ys∧pre.length=k∧NL s t.bB.length (Lg (uy n t.kc) (2+10*k) (2400000+4000*((k:Int):Rat)))) ?_ ?_ M.C 0 p ⟨[],rfl,rfl,hp.mono (fun b y hb hy=>?_)⟩
 ·rintro k c ys s nx ⟨pre,hpc,hpk,hs⟩ hnx
  have hck:M.C[k]? = some c:=by rw [hpc,HU (by omega),hpk,IN]; rfl
  obtain ⟨b,hb,g1,g2⟩:=Gh h hn hM ht hck;obtain ⟨f1,f2,f3⟩:=CU hM hb;have hlt:=hE.el _ (Hs f3);have hk24:k<24:=by have:=(G4.1 hck).1; omega
  generalize Al n t.kc b=e at g1 g2 f1 f2 f3 hlt;unfold kg;refine Gd.ix (by omega) (by rw [G9]; exact f1) (Gd.ix (by omega) (by rw [G9]; exact f1) (hs.get hlt.1 (fun y hy=>Gd.eA (hy.sub g1 (by omega)) (fun r hr=>hs.get hlt.1 (fun _ _=>?_)))))
  have c0:(2400000+4000*((k:Int):Rat))≤(2400000+4000*((k:Int):Rat))+2000:=by grind
  have hs2:=(hs.mono (P':=Lg (uy n t.kc) (2+10*k+5) (2400000+4000*((k:Int):Rat)+2000)) (fun b y _ hy=>hy.mono (by omega) c0)).set (b:=e.2.1) hr
  refine Gd.ix (by omega) (by rw [G9]; exact f2) (Gd.ix (by omega) (by rw [G9]; exact f2) ?_)
  rw [G9,G9];refine hs2.get hlt.2 (fun y2 hy2=>Gd.eA (hy2.add g2 (by omega)) (fun r2 hr2=>hs2.get hlt.2 (fun _ _=>?_)))
  have c1:(2400000+4000*((k:Int):Rat))+2000≤2400000+4000*(((k+1:Nat):Int):Rat):=by rw [ub]; grind
  have c2:(2400000+4000*((k:Int):Rat))+2000+2000≤2400000+4000*(((k+1:Nat):Int):Rat):=by rw [ub]; grind
  exact hnx _ ⟨pre++[c],by rw [hpc]; simp,by simp [hpk],(hs2.mono (fun b y _ hy=>hy.mono (by omega) c1)).set (hr2.mono (by omega) c2)⟩
 ·rintro k s ⟨pre,hpc,hpk,hs⟩
  rw [H9] at hpc;have hk24:k≤24:=by rw [← hpk,← hpc]; omega
  have hc:((k:Int):Rat)≤((24:Int):Rat):=Nj.2 (by omega)
  have e24:((24:Int):Rat)=24:=rfl;rw [e24] at hc;exact hK s (hs.mono (fun b y _ hy=>hy.mono (by omega) (by grind)))
 ·obtain ⟨y1,y2,z,y3,y4,y5⟩:=hy
  have e0:(((0:Nat):Int):Rat)=0:=rfl;have a:=Nj.2 y4;have b:=Nj.2 y5;have e1:((2400000:Int):Rat)=2400000:=rfl;rw [Nl,e1] at a;rw [e1] at b;refine ⟨y1,y2,?_,?_,?_⟩
  ·rw [y3]
   exact nR (uP (fun e he=>(tS hE he).1)) ⟨z,rfl⟩
  ·rw [y3,e0]; grind
  ·rw [y3,e0]; grind
def An (D:Rat) (y:LR):Prop:=kI y∧∃ T,pF T∧-wq 140≤T∧T≤wq 140∧rv y=T / D
structure Dv (D:Rat):Prop where
 i:pF D
 z:D≠0
 a:-wq 60≤D
 b:D≤wq 60
theorem CH:pF 0:=⟨0,rfl⟩
theorem An.rb {D:Rat} (hD:Dv D) {y:LR} (h:An D y):RB (rv y) 141:=by
 obtain ⟨_,T,t1,t2,t3,e⟩:=h;rw [e];have:=sD (show 60≤140 by omega)
 have h1:=hD.a;have h2:=hD.b;exact tT t1 hD.i t2 t3 (by grind) (by grind) hD.z (by omega)
theorem An.zero {D:Rat}{y:LR} (hy:kI y) (h0:rv y=0):An D y:=⟨hy,0,CH,by have:=qP 140; grind,by have:=qP 140; grind,by rw [h0,Rat.div_def]; grind⟩
theorem E6 {f:Nat→Rat}{b:Rat} (hb:0≤b):∀ {n:Nat},(∀ i,i<n→-b≤f i∧f i≤b)→-(((n:Int):Rat)*b)≤sm n f∧sm n f≤((n:Int):Rat)*b
 | 0,_=>by
  show -((((0:Nat):Int):Rat)*b)≤0∧0≤((((0:Nat):Int):Rat)*b);have e:((((0:Nat):Int)):Rat)=0:=rfl;rw [e]; grind
 | n+1,h=>by
  have h1:=E6 hb (n:=n) (fun i hi=>h i (by omega))
  have h2:=h n (by omega)
  rw [ub];show _≤sm n f+f n∧sm n f+f n≤_
  grind
theorem B5 {n:Nat}{A B m:Mt}{L R:Nat→Rat} (h:Nb n A L B R) (hp:Pd n A) (hn:n≤23) (hG:Gj n A n m) {i:Nat} (hi:i<n) {x:Nat→Rat} (hx:∀ p,p<n→pF (L p*x p)∧-2500000≤x p∧x p≤2500000) {y:LR} (hy:kI y)
  (e:rv y=sm n (fun p=>m i (n+p)*x p)):An (Dk A L n) y:=by
 have d0:=(h.D0 hp (HH n)).1;have key:∀ p,p<n→∃ T,pF T∧-wq 139≤T∧T≤wq 139∧m i (n+p)*x p=T*(Dk A L n)⁻¹:=fun p hpn=>by
  obtain ⟨N,n1,n2,n3,e1⟩:=hG.num h.s (HH n) hi hpn;rw [Hh (by omega)] at e1
  have e1':m i (n+p)*Dk A L n=N*L p:=by
   have e2:1*m i (n+p)*Dk A L n=N*L p:=e1
   grind
  obtain ⟨x1,x2,x3⟩:=hx p hpn;have hP:=h.hP;have p1:1≤pr n R:=xu (fun j hj=>h.s.R1 hj);have r1:=h.s.R1 hi;have r2:=h.R hi;have hNb:pr n R*R i≤wq 120:=by
   rw [← qO 60 60];exact mg hP r2 (by grind) (by grind)
  have l1:=h.s.l1 p hpn;have l2:=h.hL p hpn;have w1:(2500000:Rat)≤wq 1:=by
   have:((2500000:Int):Rat)≤(((WB ^ 1:Nat):Int):Rat):=Nj.2 (by decide)
   exact this
  have q1:=u_ (x:=L p) (y:=x p) (a:=wq 18) (b:=wq 1) (by have:=qP 18; grind) l2 (by grind) (by grind)
  rw [qO] at q1;have q2:=u_ (x:=N) (y:=L p*x p) (a:=wq 120) (b:=wq (18+1)) (by grind) (by grind) q1.1 q1.2
  rw [qO] at q2;refine ⟨N*(L p*x p),nR n1 x1,q2.1,q2.2,?_⟩;have i1:=Rat.mul_inv_cancel _ d0;have e3:m i (n+p)=N*L p*(Dk A L n)⁻¹:=by rw [← e1']; grind
  rw [e3]; grind
 have:∃ T:Nat→Rat,∀ p,p<n→pF (T p)∧-wq 139≤T p∧T p≤wq 139∧m i (n+p)*x p=(Dk A L n)⁻¹*T p:=by
  refine ⟨fun p=>m i (n+p)*x p*Dk A L n,fun p hpn=>?_⟩;obtain ⟨T,t1,t2,t3,t4⟩:=key p hpn;have i1:=Rat.mul_inv_cancel _ d0;have e2:m i (n+p)*x p*Dk A L n=T:=by rw [t4]; grind
  simp only;rw [e2];exact ⟨t1,t2,t3,by rw [t4]; grind⟩
 obtain ⟨T,hT⟩:=this;have hs:sm n (fun p=>m i (n+p)*x p)=(Dk A L n)⁻¹*sm n T:=by
  rw [← na];exact k9 (fun p hp=>(hT p hp).2.2.2)
 have hb:=E6 (f:=T) (b:=wq 139) (by have:=qP 139; grind) (n:=n) (fun p hp=>⟨(hT p hp).2.1,(hT p hp).2.2.1⟩)
 have hn2:((n:Int):Rat)*wq 139≤wq 140:=by
  have e1:wq 1*wq 139=wq 140:=qO 1 139;rw [← e1];have h1:((n:Int):Rat)≤wq 1:=Nj.2 (show (n:Int)≤((WB ^ 1:Nat):Int) by
   have:((WB ^ 1:Nat):Int)=4294967296:=by decide
   rw [this]; omega)
  exact Rat.mul_le_mul_of_nonneg_right h1 (by have:=qP 139; grind)
 refine ⟨hy,sm n T,zH (fun p hp=>(hT p hp).1),by grind,by grind,?_⟩
 rw [e,hs,Rat.div_def]; grind
theorem An.mk' {D:Rat} (hD:Dv D) {y z:LR} (h:An D y) (k:An D z):RB (rv y-rv z) 142:=by
 obtain ⟨_,T,t1,t2,t3,e⟩:=h;obtain ⟨_,U,u1,u2,u3,f⟩:=k;have e1:rv y-rv z=(T+-U) / D:=by rw [e,f,Rat.div_def,Rat.div_def,Rat.div_def]; grind
 have w:wq 140+wq 140≤wq 141:=by
  have e2:wq 1*wq 140=wq 141:=qO 1 140;rw [← e2];have h1:((2:Int):Rat)≤wq 1:=Nj.2 (by decide)
  have h2:((2:Int):Rat)=2:=rfl;rw [h2] at h1;have:=Rat.mul_le_mul_of_nonneg_right h1 (show 0≤wq 140 by have:=qP 140; grind)
  grind
 rw [e1];have w2:=sD (show 60≤141 by omega)
 have d1:=hD.a;have d2:=hD.b;exact tT (tC t1 (Au u1)) hD.i (by grind) (by grind) (by grind) (by grind) hD.z (by omega)
def FK (n:Net) (t:aW):Rat:=Dk (D8 (we t.bB) (uy n t.kc)) (fun i=>pA (we t.bB i) (uy n t.kc)) (fr t.bB).length
theorem Cj {n:Net} (h:oc n) (hn:lx n) {t:aW} (ht:pT n t):Dv (FK n t):=by
 have hE:=vo h hn ht;have hNb:=zP hE (xd ht.DF) (fun i j hi hj e=>tB hi hj e);have hp:=zQ h hn ht;obtain ⟨a,b,c⟩:=hNb.Db (HH _);exact ⟨a,(hNb.D0 hp (HH _)).1,b,c⟩
theorem A3 {n:Net}{t:aW}{M:aY} (h:oc n) (hn:lx n) (hM:Md n t M) (ht:pT n t) {s:List LR} (hs:NL s t.bB.length (Lg (uy n t.kc) 300 2500000)):
  Gd (jW M s) (fun r=>NL r t.bB.length (fun _ y=>An (FK n t) y)):=by
 have hE:=vo h hn ht;have hnf:=xd ht.DF;have hNb:=zP hE hnf (fun i j hi hj e=>tB hi hj e);have hp:=zQ h hn ht;have hfl:M.lS.length=(fr t.bB).length:=by rw [hM.md.free]; simp
 have hfr:∀ k (y:Int),M.lS[k]? = some y→k<(fr t.bB).length∧y=(we t.bB k:Int):=fun k y hk=>by
  have hk1:=(G4.1 hk).1;rw [hM.md.free,HR,JA (by omega)] at hk
  exact ⟨by omega,(G3 hk).symm⟩
 obtain ⟨m,hG,hR⟩:=hM.inv.ex;unfold jW;rw [hfl,G9];refine Gd.nd (by omega) ?_
 refine Gd.dW (fun k ys r=>∃ pre,M.lS=pre++ys∧pre.length=k∧r.length=(fr t.bB).length∧∀ j,j<k→r[j]? = s[we t.bB j]?) ?_ ?_ M.lS 0 _ ⟨[],rfl,rfl,by simp,fun j hj=>by omega⟩
 ·rintro k y ys r nx ⟨pre,hpf,hpk,hrl,hr⟩ hnx
  obtain ⟨hk,rfl⟩:=hfr k y (by rw [hpf,HU (by omega),hpk,IN]; rfl)
  have hlt:=hM.md.lt k hk;unfold lM;refine Gd.jz (by rw [hs.1]; exact hlt) (Gd.jz (by omega) ?_)
  rw [G9];refine hnx _ ⟨pre++[(we t.bB k:Int)],by rw [hpf]; simp,by simp [hpk],by rw [Hx]; exact hrl,fun j hj=>?_⟩
  by_cases e:k=j
  ·subst e
   rw [HP (by omega),G7]
  ·rw [HJ e]; exact hr j (by omega)
 ·rintro k r ⟨pre,hpf,hpk,hrl,hr⟩
  rw [H9] at hpf;have hk:k=(fr t.bB).length:=by rw [← hpk,← hpf,hfl]
  subst hk;unfold cL;rw [hM.top];refine Gd.eA (wc (by have:=ht.DF; omega)) ?_
  rintro _ ⟨z,rfl,z1,z2,z3⟩;have hx:∀ j,j<(fr t.bB).length→∃ y,r[j]? = some y∧Lg (uy n t.kc) 300 2500000 (we t.bB j) y:=fun j hj=>by
   have hlt:=hM.md.lt j hj;have hl:we t.bB j<s.length:=by rw [hs.1]; exact hlt
   have hsj:=G7 hl;exact ⟨s[we t.bB j],by rw [hr j hj,hsj],hs.2 _ _ hsj⟩
  have hb:NL r (fr t.bB).length (fun j y=>kI y∧RL y 6000∧rv y=((r[j]?).map rv).getD 0):=⟨hrl,fun j y hj=>by
   have hj1:=(G4.1 hj).1;obtain ⟨y2,e,g⟩:=hx j (by omega)
   rw [hj] at e;obtain rfl:=G3 e;exact ⟨g.1,g.2.1.mono (by omega),by rw [hj]; rfl⟩⟩
  have hxx:∀ p,p<(fr t.bB).length→pF (pA (we t.bB p) (uy n t.kc)*((r[p]?).map rv).getD 0)∧-2500000≤((r[p]?).map rv).getD 0∧((r[p]?).map rv).getD 0≤2500000:=fun p hp=>by
   obtain ⟨y2,e,g⟩:=hx p hp;rw [e];exact ⟨g.2.2.1,g.2.2.2.1,g.2.2.2.2⟩
  refine Gd.dW (fun k ys o=>∃ pre,M.lS=pre++ys∧pre.length=k∧NL o t.bB.length (fun _ y=>An (FK n t) y)) ?_ ?_ M.lS 0 _ ⟨[],rfl,rfl,⟨by simp,fun b y hb=>by
   have:=ME (Hs hb);subst this;exact An.zero z1 z3⟩⟩
  ·rintro k y ys o nx ⟨pre,hpf,hpk,ho⟩ hnx
   obtain ⟨hk,rfl⟩:=hfr k y (by rw [hpf,HU (by omega),hpk,IN]; rfl)
   have hlt:=hM.md.lt k hk;obtain ⟨row,w1,w2,w3⟩:=hR.row k hk;have ha:NL row (fr t.bB).length (fun j y=>kI y∧RL y 6000∧rv y=m k ((fr t.bB).length+j)):=⟨w2,fun j y hj=>by
    have hj1:=(G4.1 hj).1;obtain ⟨y2,e,g⟩:=w3 j (by omega)
    rw [hj] at e;obtain rfl:=G3 e;exact g⟩
   unfold lN;refine Gd.ix (by omega) (by rw [G9]; exact w1) (Gd.eA (Fh (by omega) (by omega) ha hb) (fun d hd=>ho.get hlt (fun _ _=>?_)))
   rw [G9];exact hnx _ ⟨pre++[(we t.bB k:Int)],by rw [hpf]; simp,by simp [hpk],ho.set (B5 hNb hp hnf hG hk hxx hd.1 hd.2)⟩
  ·rintro k o ⟨_,_,_,ho⟩
   exact Gd.ret ho
theorem AV {n:Net}{t:aW}{M:aY} (h:oc n) (hn:lx n) (hM:Md n t M) (ht:pT n t) {p:List LR}
  (hp:NL p t.bB.length (fun _ y=>kI y∧RL y 2∧∃ z:Int,rv y=(z:Rat)∧-2400000≤z∧z≤2400000)):Gd (jV M p) (fun r=>NL r t.bB.length (fun _ y=>An (FK n t) y)):=by
 have h1:=ht.DF;have h2:=hp.1;unfold jV;exact Gd.nd (by omega) (Ec h hn hM ht hp (fun s hs=>Gd.eA (A3 h hn hM ht hs) (fun r hr=>Gd.ret hr)))
theorem BM {n:Net}{t:aW}{M:aY} (h:oc n) (hn:lx n) (hM:Md n t M) (ht:pT n t) {a:List LR} (ha:NL a t.bB.length (fun _ y=>An (FK n t) y)):
  Gd (kA M a) (fun r=>NL r n.aK.length (fun _ y=>kI y∧fits (rv y))):=by
 have hE:=vo h hn ht;have hD:=Cj h hn ht;have hcl:=hM.cl;have h24:=h.l3;unfold kA;refine Gd.dW (fun k ys r=>∃ pre,M.C=pre++ys∧pre.length=k∧NL r k (fun _ y=>kI y∧fits (rv y))) ?_ ?_ M.C 0 _ ⟨[],rfl,rfl,rfl,fun b y hb=>by simp at hb⟩
 ·rintro k c ys r nx ⟨pre,hpc,hpk,hr⟩ hnx
  have hck:M.C[k]? = some c:=by rw [hpc,HU (by omega),hpk,IN]; rfl
  have hk24:k<24:=by have:=(G4.1 hck).1; omega
  obtain ⟨b,hb,c1,c2,c3⟩:=hM.c k c hck;obtain ⟨f1,f2,f3⟩:=CU hM hb;have hlt:=hE.el _ (Hs f3);have hbl:k<M.B_.length:=by rw [hM.md.bl]; exact (G4.1 f3).1
  obtain ⟨e,e1,b1,b2,b3⟩:=hM.md.b k M.B_[k] (G7 hbl);rw [f3] at e1;obtain rfl:=G3 e1;obtain ⟨q,q1,q2,q3⟩:=hE.q _ (Hs f3);have hBR:RB (rv M.B_[k]) 1:=by
   rw [b3,q1];exact RB.Gm (by decide) (by omega) (by omega)
  have hrl:=hr.1;unfold mf;refine Gd.ix (by omega) (by rw [G9]; exact G7 hbl) (Gd.ix (by omega) (by rw [G9]; exact f1) (ha.get hlt.1 (fun y hy=>Gd.ix (by omega) (by rw [G9]; exact f2) (ha.get hlt.2 (fun z hz=>?_)))))
  refine Gd.eA (sC hy.1 hz.1 (hy.1.rb (hy.rb hD)) (hz.1.rb (hz.rb hD)) (by omega)) (fun d hd=>?_)
  have hdR:RB (rv d) 142:=by rw [hd.2.2]; exact hy.mk' hD hz
  refine Gd.eA (tV b1 hd.1 (b1.rb hBR) (hd.1.rb hdR) (by omega)) (fun f hf=>?_)
  refine Gd.eA (rz hf.1 c1 hf.2.1 c2 (by omega)) (fun g hg=>Gd.nd (by simp; omega) (hnx _ ⟨pre++[c],by rw [hpc]; simp,by simp [hpk],hr.snoc ⟨hg.1,?_⟩⟩))
  exact RB.fits ⟨g,hg.1,hg.2.1,rfl⟩ (by omega)
 ·rintro k r ⟨pre,hpc,hpk,hr⟩
  rw [H9] at hpc;have hk:k=n.aK.length:=by rw [← hpk,← hpc,hcl]
  subst hk;exact Gd.ret hr
theorem yU {l:List LR} (hl:l.length≤1000) (h:∀ y ∈ l,kI y∧fits (rv y)):Gd (kx l) (fun r=>r=(l.map (fun y=>ctext (rv y)),0)):=by
 unfold kx;refine Gd.eA (P:=fun r=>r=(l.map (fun y=>ctext (rv y)),true)) ?_ (fun r hr=>by subst hr; exact Gd.ite (fun h=>by simp at h) (fun _=>Gd.ret rfl))
 unfold oX;refine Gd.nd (by omega) ?_
 rw [G9];refine Gd.dW (fun k ys s=>∃ pre,l=pre++ys∧pre.length=k∧s=pre.map (fun y=>ctext (rv y))++List.replicate ys.length (⟨#[]⟩:ByteArray)) ?_ ?_ l 0 _ ⟨[],rfl,rfl,by simp⟩
 ·rintro k y ys _ nx ⟨pre,hp,hpk,rfl⟩ hnx
  obtain ⟨y1,y2⟩:=h y (by rw [hp]; simp)
  unfold oO;refine Gd.eA (yM y1) (fun r hr=>?_);have h2:=hr.1.2 y2;refine Gd.ite (fun hh=>by rw [h2] at hh; simp at hh) (fun _=>?_)
  refine Gd.ix (y:=⟨#[]⟩) (by omega) ?_ (hnx _ ⟨pre++[y],by rw [hp]; simp,by simp [hpk],?_⟩)
  ·rw [G9,HU (by simp [hpk]),JO,hpk,IN,Hw,J7]; rfl
  ·rw [G9,MO _ _ (by simp [hpk]),JO,hpk,IN,Hw,J7,List.set_cons_zero,hr.2 h2]
   simp
 ·rintro k _ ⟨pre,hp,hpk,rfl⟩
  rw [H9] at hp;subst hp;exact Gd.ret (by simp)
structure E_ (n:Net) (t:aW) (s:dN):Prop where
 al:s.lJ.length=t.bB.length
 fl:s.kn.length=n.aK.length
 a:∀ x ∈ s.lJ,∃ q,fits q∧x=ctext q
 f:∀ x ∈ s.kn,∃ q,fits q∧x=ctext q
theorem NL.all {l:List LR}{N:Nat}{P:LR→Prop} (h:NL l N (fun _ y=>P y)):∀ y ∈ l,P y:=fun y hy=>by
 obtain ⟨i,hi,rfl⟩:=IS.1 hy;exact h.2 i _ (G7 hi)
theorem Ds {n:Net}{p:List Int} (h:oc n) (hn:lx n) {t:aW} (hg:cW n=some t) (ht:pT n t) (hp:p.length=n.bJ.length) (hb:∀ z ∈ p,-100000≤z∧z≤100000) (hc:kf n p=some 0):
  Gd (ki n p) (fun r=>r.2=0∧E_ n t r.1):=by
 have hN:=ht.DF;have h24:=h.l3;unfold ki;refine Gd.bind_eq hc (Gd.ite (fun h=>by simp at h) (fun _=>?_))
 refine Gd.eA (yw h hn hg ht) ?_;rintro _ ⟨M,rfl,hM⟩;simp only [Bp];refine Gd.eA (EB hM ht hn hp hb) (fun sm hsm=>Gd.eA (AV h hn hM ht hsm) (fun a ha=>?_));have hD:=Cj h hn ht;have hl1:=ha.1;refine Gd.eA (yU (by omega) (fun y hy=>⟨(ha.all y hy).1,(An.rb hD (ha.all y hy)).fits (by omega)⟩)) ?_
 rintro _ rfl;refine Gd.eA (BM h hn hM ht ha) (fun f hf=>?_);have hl2:=hf.1;refine Gd.eA (yU (by omega) (fun y hy=>hf.all y hy)) ?_
 rintro _ rfl;refine Gd.ite (fun h=>by simp at h) (fun _=>Gd.ret ⟨rfl,by simp [hl1],by simp [hl2],fun x hx=>?_,fun x hx=>?_⟩)
 ·obtain ⟨y,hy,rfl⟩:=IH.1 hx
  exact ⟨_,(An.rb hD (ha.all y hy)).fits (by omega),rfl⟩
 ·obtain ⟨y,hy,rfl⟩:=IH.1 hx
  exact ⟨_,(hf.all y hy).2,rfl⟩
def acc {α:Type} (f:α→Int) (p:α→Nat) (k:Nat):List α→Int
 | []=>0
 | x::xs=>(if p x=k then f x else 0)+acc f p k xs
theorem wX {α:Type}{f:α→Int}{p:α→Nat}{k:Nat}:∀ {l:List α},(∀ x ∈ l,0≤f x)→0≤acc f p k l
 | [],_=>Kk _
 | x::xs,h=>by
  have h1:=h x (Ha ..);have h2:=wX (f:=f) (p:=p) (k:=k) (l:=xs) fun y hy=>h y (Ho _ hy);unfold acc
  split <;> omega
theorem zc {α:Type}{f:α→Int}{p:α→Nat}{k:Nat}{B:Int} (hB:0≤B):∀ {l:List α},(∀ x ∈ l,f x≤B)→acc f p k l≤B*l.length
 | [],_=>by simp [acc]
 | x::xs,h=>by
  have h1:=h x (Ha ..);have h2:=zc (f:=f) (p:=p) (k:=k) (B:=B) hB (l:=xs) fun y hy=>h y (Ho _ hy);unfold acc;rw [Hw,Mw,Ms]
  split <;> omega
theorem Ag {α:Type}{f:α→Int}{p:α→Nat}{k:Nat}:∀ (a b:List α),acc f p k (a++b)=acc f p k a+acc f p k b
 | [],b=>by show acc f p k b=0+acc f p k b; omega
 | x::xs,b=>by
  have:=Ag (f:=f) (p:=p) (k:=k) xs b;show (if p x=k then f x else 0)+acc f p k (xs++b)=(if p x=k then f x else 0)+acc f p k xs+acc f p k b
  omega
theorem tn {α:Type}{f:α→Int}{p:α→Nat}{k:Nat} (a:List α) (x:α):acc f p k (a++[x])=acc f p k a+(if p x=k then f x else 0):=by
 rw [Ag];show _+((if p x=k then f x else 0)+0)=_
 omega
def oR (pl:Nat→Nat) (k:Nat):Nat→List Int→Int
 | _,[]=>0
 | i,x::xs=>(if pl i=k then x else 0)+oR pl k (i+1) xs
theorem yx (pl:Nat→Nat) (k:Nat):∀ (a b:List Int) (i:Nat),oR pl k i (a++b)=oR pl k i a+oR pl k (i+a.length) b
 | [],b,i=>by show oR pl k i b=0+oR pl k (i+0) b; rw [Jb]; omega
 | x::xs,b,i=>by
  have:=yx pl k xs b (i+1);have e:i+(x::xs).length=i+1+xs.length:=by simp; omega
  rw [e];show (if pl i=k then x else 0)+oR pl k (i+1) (xs++b)=(if pl i=k then x else 0)+oR pl k (i+1) xs+_
  omega
theorem vI (pl:Nat→Nat) (k:Nat) (y:Int):∀ (l:List Int) (i j:Nat) (h:j<l.length),oR pl k i (l.set j y)=oR pl k i l+(if pl (i+j)=k then y-l[j] else 0)
 | [],_,_,h=>by simp at h
 | x::xs,i,0,_=>by
  rw [List.set_cons_zero,Jb,List.getElem_cons_zero];show (if pl i=k then y else 0)+oR pl k (i+1) xs=(if pl i=k then x else 0)+oR pl k (i+1) xs+_
  split <;> omega
 | x::xs,i,j+1,h=>by
  have h':j<xs.length:=by simpa using h
  have:=vI pl k y xs (i+1) j h';have e:i+1+j=i+(j+1):=by omega
  rw [e] at this;rw [List.set_cons_succ,List.getElem_cons_succ];show (if pl i=k then x else 0)+oR pl k (i+1) (xs.set j y)=(if pl i=k then x else 0)+oR pl k (i+1) xs+_
  rw [this]; omega
theorem yy (pl:Nat→Nat) (k:Nat):∀ (m i:Nat),oR pl k i (List.replicate m 0)=0
 | 0,_=>rfl
 | m+1,i=>by
  show (if pl i=k then (0:Int) else 0)+oR pl k (i+1) (List.replicate m 0)=0
  rw [yy pl k m (i+1)]; split <;> rfl
theorem AD (pl:Nat→Nat) (k:Nat) {B:Int} (hB:0≤B):∀ (l:List Int) (i:Nat),(∀ z ∈ l,-B≤z∧z≤B)→-(B*l.length)≤oR pl k i l∧oR pl k i l≤B*l.length
 | [],_,_=>by simp [oR]
 | x::xs,i,h=>by
  have h1:=h x (Ha ..);have h2:=AD pl k hB xs (i+1) (fun z hz=>h z (Ho _ hz));show -(B*(x::xs).length)≤(if pl i=k then x else 0)+oR pl k (i+1) xs∧(if pl i=k then x else 0)+oR pl k (i+1) xs≤B*(x::xs).length
  rw [Hw,Mw,Ms]
  split <;> omega
def xr (t:aW) (i:Nat):Nat:=((t.bB[((t.kc[i]?).getD 0).toNat]?).getD 0).toNat
theorem zS {n:Net}{t:aW} (ht:pT n t) {i:Nat} (hi:i<n.bJ.length):∃ v:Nat,t.kc[i]? = some (v:Int)∧v<t.bB.length∧t.bB[v]? = some (xr t i:Int)∧xr t i<t.bB.length:=by
 have hil:i<t.kc.length:=by rw [ht.bl]; exact hi
 have h1:=ht.bi _ (Iu hil);obtain ⟨c,hc⟩:=ht.comp;have hv:(t.kc[i]).toNat<t.bB.length:=by omega
 have e1:t.kc[i]? = some (((t.kc[i]).toNat:Nat):Int):=by rw [G7 hil]; congr 1; omega
 have h2:=hc.all ((t.kc[i]).toNat:Int) (by omega) (by omega)
 rw [vC hv] at h2;have hm:=hc.mN;refine ⟨(t.kc[i]).toNat,e1,hv,?_,?_⟩
 ·unfold xr
  rw [e1,Jz,G9,G7 hv,Jz]
  congr 1; omega
 ·unfold xr
  rw [e1,Jz,G9,G7 hv,Jz];omega
def sN (n:Net) (t:aW) (s:BA):Nat:=xr t (pos n s)
theorem vS {n:Net}{t:aW} (ht:pT n t) {s:BA} (hs:s ∈ n.bJ):jQ n t s=some (sN n t s:Int)∧sN n t s<t.bB.length:=by
 obtain ⟨p1,p2⟩:=LA hs;obtain ⟨v,v1,v2,v3,v4⟩:=zS ht p2;refine ⟨?_,v4⟩;rw [← Gd.eq];unfold jQ;exact Gd.bind_eq p1 (Gd.ix (by omega) (by rw [G9]; exact v1) (Gd.ix (by omega) (by rw [G9]; exact v3) (Gd.ret rfl)))
theorem Bo {n:Net}{t:aW} (hg:cW n=some t) (ht:pT n t):∃ N:Nat,iY n=some (N:Int)∧N≤24∧∀ s ∈ n.bJ,sN n t s<N:=by
 obtain ⟨c,hc⟩:=ht.comp;have hm:=hc.mN;have hII:uK t.bB.length t.bB:=fun a ha=>by
  obtain ⟨k,hk,rfl⟩:=IS.1 ha;have:=hc.all (k:Int) (by omega) (by omega)
  rw [vC hk] at this;omega
 have h:Gd (iY n) (fun r=>∃ N:Nat,r=N∧N≤24∧uK N t.bB):=by
  unfold iY;refine Gd.bind_eq hg (Eh t.bB.length ht.DF _ (fun k y n nx=>by unfold mT; rfl) _ t.bB hII (fun m hm hbm=>Gd.ret ⟨m,rfl,by have:=ht.DF; omega,hbm⟩))
 obtain ⟨r,hr,N,rfl,h1,h2⟩:=h;refine ⟨N,hr,h1,fun s hs=>?_⟩;obtain ⟨v,_,_,v3,_⟩:=zS ht (LA hs).2;have:=h2 _ (Hs v3);show xr t (pos n s)<N;omega
abbrev A_ (n:Net) (t:aW) (k:Nat):Int:=acc aN.bN (fun l:aN=>sN n t l.Node) k n.cC
theorem Ck {n:Net} (hn:lx n) (t:aW) (k:Nat):0≤A_ n t k∧A_ n t k≤1200000:=by
 have h1:=wX (f:=aN.bN) (p:=fun l:aN=>sN n t l.Node) (k:=k) (l:=n.cC) (fun l hl=>(hn.ld l hl).2.1);have h2:=zc (f:=aN.bN) (p:=fun l:aN=>sN n t l.Node) (k:=k) (B:=100000) (by omega) (l:=n.cC) (fun l hl=>(hn.ld l hl).2.2)
 have:=hn.l5;have h3:A_ n t k≤100000*(n.cC.length:Int):=h2;exact ⟨h1,by omega⟩
theorem CI {n:Net}{t:aW} (hn:lx n) (hg:cW n=some t) (ht:pT n t) {N:Nat} (hN:iY n=some (N:Int)) (h24:N≤24) (hpl:∀ s ∈ n.bJ,sN n t s<N):
  Gd (mD n) (fun r=>r.length=N∧∀ k (hk:k<r.length),r[k].bN=A_ n t k):=by
 have h4:=hn.l4;have h5:=hn.l5;unfold mD;refine Gd.bind_eq hg (Gd.bind_eq hN (Gd.nd ⟨by omega,by omega⟩ ?_))
 rw [G9];refine Gd.dW (fun i ys s=>(∀ y ∈ ys,y ∈ n.dR)∧s.length=N∧∀ k (hk:k<s.length),s[k].bN=0) ?_ ?_ _ _ _ ⟨fun _ h=>h,by simp,?_⟩
 ·rintro i y ys s nx ⟨hm,hl,hk⟩ hnx
  have hy:=hm y (Ha ..);obtain ⟨hp,_⟩:=vS ht (hn.gn y hy).1;have hlt:sN n t y.Node<s.length:=by have:=hpl _ (hn.gn y hy).1; omega
  unfold nU;refine Gd.bind_eq hp (Gd.jz hlt ?_);rw [G9,List.set_set];refine hnx _ ⟨fun z hz=>hm z (Ho _ hz),by simp [hl],fun k hkl=>?_⟩
  rw [Hx] at hkl;rw [MG]
  split
  ·exact hk _ hlt
  ·exact hk k hkl
 ·rintro i s ⟨_,hl,hk⟩
  refine Gd.dW (fun i ys s=>∃ pre,n.cC=pre++ys∧s.length=N∧∀ k (hk:k<s.length),s[k].bN=acc aN.bN (fun l:aN=>sN n t l.Node) k pre) ?_ ?_ _ _ _ ⟨[],rfl,hl,hk⟩
  ·rintro i y ys s nx ⟨pre,hp,hl,hk⟩ hnx
   have hy:y ∈ n.cC:=by rw [hp]; simp
   obtain ⟨hpp,_⟩:=vS ht (hn.ld y hy).1;have hlt:sN n t y.Node<s.length:=by have:=hpl _ (hn.ld y hy).1; omega
   have hyd:=hn.ld y hy;have hb1:=wX (f:=aN.bN) (p:=fun l:aN=>sN n t l.Node) (k:=sN n t y.Node) (l:=pre) (fun l hl=>(hn.ld l (by rw [hp]; simp [hl])).2.1)
   have hb2:=zc (f:=aN.bN) (p:=fun l:aN=>sN n t l.Node) (k:=sN n t y.Node) (B:=100000) (by omega) (l:=pre) (fun l hl=>(hn.ld l (by rw [hp]; simp [hl])).2.2)
   have hpre:pre.length≤12:=by
    have:n.cC.length=pre.length+(ys.length+1):=by rw [hp]; simp
    omega
   have hkk:=hk _ hlt;have hw1:i64.wrap (s[sN n t y.Node].bN+y.bN)=s[sN n t y.Node].bN+y.bN:=bT ⟨by omega,by omega⟩
   unfold nV;refine Gd.bind_eq hpp (Gd.jz hlt (Gd.jz hlt ?_));rw [hw1,G9];refine hnx _ ⟨pre++[y],by rw [hp]; simp,by simp [hl],fun k hkl=>?_⟩
   rw [Hx] at hkl;rw [MG,tn]
   by_cases e:sN n t y.Node=k
   ·subst e
    rw [Hi rfl,Hi rfl,hkk]
   ·rw [Hh e,Hh e,hk k hkl]; omega
  ·rintro i s ⟨pre,hp,hl,hk⟩
   rw [H9] at hp;subst hp;exact Gd.ret ⟨hl,hk⟩
 ·intro k hk
  have e:(List.replicate N ({ cZ:=0,gL:=0,bN:=0 }:aO))[k]={ cZ:=0,gL:=0,bN:=0 }:=List.getElem_replicate _;rw [e]
theorem D5 (l:List Int):Gd (cR l) (fun b=>b=true↔∃ v ∈ l,0<v):=by
 unfold cR dO;refine Gd.eA (P:=fun r=>0≤r↔∃ v ∈ l,0<v) ?_ (fun r hr=>Gd.ret (by simpa using hr))
 refine Gd.jU (fun m i _=>i+m=l.length∧∀ v ∈ l.take i,v≤0) ?_ ?_ (l.length:Int).toNat 0 () ⟨by omega,by simp⟩
 ·intro m i _ nx ⟨hi,hno⟩ hnx
  unfold eG kS;refine Gd.jz (by omega) (Gd.ite (fun h=>Gd.ret ⟨fun _=>⟨l[i],Iu _,by simpa using h⟩,fun _=>by omega⟩) (fun h=>hnx () ⟨by omega,?_⟩))
  rw [Iq (by omega)]
  intro v hv;rcases HW.1 hv with hv | hv
  ·exact hno v hv
  ·simp at hv; subst hv; simpa using h
 ·intro i _ ⟨hi,hno⟩
  rw [HK (by omega)] at hno
  exact Gd.ret ⟨fun h=>by omega,fun ⟨v,hv,h⟩=>by have:=hno v hv; omega⟩
abbrev yg (n:Net) (t:aW) (k:Nat) (l:List (cU×Int)):Int:=acc (fun z:cU×Int=>z.2) (fun z:cU×Int=>sN n t z.1.Node) k l
structure Gb (n:Net) (t:aW) (p:List Int):Prop where
 len:p.length=n.dR.length
 each:∀ z ∈ n.dR.zip p,0≤z.2∧z.2≤100000∧(z.2=0∨z.1.cZ≤z.2∧z.2≤z.1.gL)
 Gf:∀ k,yg n t k (n.dR.zip p)=A_ n t k
theorem Bk {n:Net}{t:aW} (hn:lx n) (hg:cW n=some t) (ht:pT n t) (hc:cD n=some 0):
  Gd (jP n) (fun x=>(x.2=14∧x.1=[])∨(x.2=0∧Gb n t x.1)):=by
 obtain ⟨N,hN,h24,hpl⟩:=Bo hg ht;have h4:=hn.l4;have h5:=hn.l5;obtain ⟨r,hr,hlen,hk⟩:=CI hn hg ht hN h24 hpl;unfold jP;refine Gd.bind_eq hc (Gd.ite (fun h=>by simp at h) (fun _=>Gd.bind_eq hg (Gd.bind_eq hr ?_)))
 refine Gd.dW (fun i ys s=>i+ys.length=r.length∧ys=r.drop i∧s=(r.take i).map aO.bN) ?_ ?_ _ _ _ ⟨by simp,by simp,by simp⟩
 ·rintro i y ys s nx ⟨hi,hys,rfl⟩ hnx
  simp only [Hw] at hi;have hlt:i<r.length:=by omega
  rw [Iw hlt] at hys;obtain ⟨rfl,rfl⟩:=List.cons.inj hys;unfold nC;refine Gd.nd (by simp; omega) (hnx _ ⟨by omega,rfl,?_⟩)
  rw [Iq hlt,I4]; rfl
 rintro i s ⟨hi,_,rfl⟩;rw [HK (by simp at hi; omega)]
 refine Gd.dW (fun i ys (s:List Int×List Int)=>∃ pre,n.dR=pre++ys∧pre.length=i∧s.1.length=N∧s.2.length=pre.length∧(∀ v ∈ s.1,0≤v)∧(∀ z ∈ pre.zip s.2,0≤z.2∧z.2≤100000∧(z.2=0∨z.1.cZ≤z.2∧z.2≤z.1.gL)) ∧
   (∀ k (hk:k<s.1.length),s.1[k]+yg n t k (pre.zip s.2)=A_ n t k)) ?_ ?_ _ _ _
  ⟨[],rfl,rfl,by simp [hlen],rfl,?_,by simp,?_⟩
 ·rintro i y ys ⟨rest,out⟩ nx ⟨pre,hp,hpi,hl1,hl2,h0,he,hb⟩ hnx
  simp only at hl1 hl2 h0 he hb;have hy:y ∈ n.dR:=by rw [hp]; simp
  obtain ⟨hpp,_⟩:=vS ht (hn.gn y hy).1;have hlp:sN n t y.Node<rest.length:=by have:=hpl _ (hn.gn y hy).1; omega
  have hgy:=hn.gn y hy;have hr0:=h0 rest[sN n t y.Node] (Iu _);have hb0:=hb _ hlp;have hd:=Ck hn t (sN n t y.Node);have hge:0≤yg n t (sN n t y.Node) (pre.zip out):=wX (fun z hz=>(he z hz).1);have hpl10:pre.length<10:=by
   have:n.dR.length=pre.length+(ys.length+1):=by rw [hp]; simp
   omega
  have step:∀ p:Int,0≤p→p≤rest[sN n t y.Node]→p≤y.gL→(p=0∨y.cZ≤p∧p≤y.gL) →
    Gd (iZ rest out nx (sN n t y.Node:Int) rest[sN n t y.Node] p) (fun x=>(x.2=14∧x.1=[])∨(x.2=0∧Gb n t x.1)):=by
   intro p p0 pr pm pe;have hw:i64.wrap (rest[sN n t y.Node]-p)=rest[sN n t y.Node]-p:=bT ⟨by omega,by omega⟩
   have hz:(pre++[y]).zip (out++[p])=pre.zip out++[(y,p)]:=by rw [List.zip_append hl2.symm]; rfl
   unfold iZ;rw [hw,G9];refine Gd.nd (by simp; omega) (hnx _ ⟨pre++[y],by rw [hp]; simp,by simp [hpi],by simp [hl1],by simp [hl2],?_,?_,?_⟩)
   ·intro v hv
    rcases MM hv with hv | rfl
    ·exact h0 v hv
    ·omega
   ·simp only
    rw [hz];intro z hzz;rcases HW.1 hzz with h1 | h1
    ·exact he z h1
    ·rw [IA] at h1
     subst h1;exact ⟨p0,by simp only; omega,pe⟩
   ·intro k hkl
    simp only [Hx] at hkl;simp only;rw [hz];unfold yg;rw [tn,MG];have hbk:=hb k hkl;unfold yg at hbk
    by_cases e:sN n t y.Node=k
    ·subst e
     rw [Hi rfl,Hi rfl];simp only; omega
    ·rw [Hh e,Hh e]; omega
  unfold nD;refine Gd.bind_eq hpp (Gd.jz hlp (Gd.ite (fun hle=>?_) (fun _=>step 0 (by omega) (by omega) (by omega) (.inl rfl))))
  have hle:y.cZ≤rest[sN n t y.Node]:=by simpa using hle
  exact step (min y.gL rest[sN n t y.Node]) (by omega) (by omega) (by omega) (.inr ⟨by omega,by omega⟩)
 ·rintro i ⟨rest,out⟩ ⟨pre,hp,hpi,hl1,hl2,h0,he,hb⟩
  simp only at hl1 hl2 h0 he hb;rw [H9] at hp;subst hp;refine Gd.eA (D5 rest) (fun b hb2=>Gd.ite (fun _=>Gd.ret (.inl ⟨rfl,rfl⟩)) (fun h=>Gd.ret (.inr ⟨rfl,hl2,he,fun k=>?_⟩)));have hno:∀ v ∈ rest,v=0:=fun v hv=>by
   have h1:=h0 v hv
   by_cases e:0<v
   ·have:=hb2.2 ⟨v,hv,e⟩
    rw [this] at h; cases h
   ·omega
  by_cases hkN:k<rest.length
  ·have:=hb k hkN
   rw [hno _ (Iu _)] at this;show yg n t k (n.dR.zip out)=_;omega
  ·have none:∀ {α:Type} (f:α→Int) (p:α→Nat) (l:List α),(∀ x ∈ l,p x<N)→acc f p k l=0:=by
    intro α f p l
    induction l with
    | nil=>intro _; rfl
    | cons x l ih=>
     intro hx;have h1:=hx x (Ha ..);have h2:=ih (fun x h=>hx x (Ho _ h));show (if p x=k then f x else 0)+acc f p k l=0
     rw [Hh (by omega),h2]; rfl
   rw [show A_ n t k=0 from none _ _ _ (fun l hl=>hpl _ (hn.ld l hl).1)];exact none _ _ _ (fun z hz=>hpl _ (hn.gn _ (List.of_mem_zip hz).1).1)
 ·intro v hv
  obtain ⟨s,hs,rfl⟩:=IH.1 hv;obtain ⟨k,hk2,rfl⟩:=IS.1 hs;rw [hk k hk2]; exact (Ck hn t k).1
 ·intro k hkl
  simp only [JO] at hkl;simp only [Jy];rw [hk k hkl];show A_ n t k+0=_;omega
theorem yW {α β:Type}{y:α}{v:β}:∀ {pre:List α}{p:List β},p[pre.length]? = some v→(pre++[y]).zip p=pre.zip p++[(y,v)]
 | [],[],h=>by simp at h
 | [],b::p,h=>by
  have:b=v:=by simpa using h
  subst this;simp
 | a::pre,[],h=>by simp at h
 | a::pre,b::p,h=>by
  have h2:p[pre.length]? = some v:=by simpa using h
  have:=yW (y:=y) h2;simp [this]
structure BN (n:Net) (t:aW) (p:List Int):Prop where
 len:p.length=n.bJ.length
 DG:∀ z ∈ p,-100000≤z∧z≤100000
 Gf:∀ k,oR (xr t) k 0 p=0
theorem zB {n:Net}{t:aW} (h:oc n) (hn:lx n) (hg:cW n=some t) (ht:pT n t) (hc:cD n=some 0) {p:List Int} (hp:Gb n t p):
  Gd (ng n p (List.replicate n.bZ.length 0)) (fun x=>(x.2=4∧x.1=[])∨(x.2=0∧BN n t x.1)):=by
 have l1:=hn.l1;have l4:=hn.l4;have l5:=hn.l5;have l6:=h.l6;unfold ng;refine Gd.bind_eq hc (Gd.ite (fun h=>by simp at h) (fun _=>?_))
 refine Gd.ite (fun h=>absurd h (by simp [hp.len])) (fun _=>Gd.nd (by omega) ?_)
 rw [G9];refine Gd.dW (fun i ys s=>∃ pre,n.dR=pre++ys∧pre.length=i∧s.length=n.bJ.length∧(∀ k,oR (xr t) k 0 s=yg n t k (pre.zip p))∧∀ z ∈ s,-(100000*(i:Int))≤z∧z≤100000*(i:Int)) ?_ ?_ n.dR 0 _
  ⟨[],rfl,rfl,by simp,fun k=>yy _ _ _ _,fun z hz=>by have:=ME hz; omega⟩
 ·rintro i y ys s nx ⟨pre,hpp,hpi,hsl,hb,hs⟩ hnx
  have hy:y ∈ n.dR:=by rw [hpp]; simp
  obtain ⟨q1,q2⟩:=LA (hn.gn y hy).1;have hil:i<n.dR.length:=by rw [hpp]; simp; omega
  have hip:i<p.length:=by rw [hp.len]; exact hil
  have hpi2:=G7 hip;have hzip:=yW (y:=y) (pre:=pre) (p:=p) (v:=p[i]) (by rw [hpi]; exact hpi2)
  have hmem:(y,p[i]) ∈ n.dR.zip p:=by
   refine IS.2 ⟨i,by simp [hp.len]; omega,?_⟩
   rw [List.getElem_zip]
   congr 1
   have:n.dR[i]? = some y:=by rw [hpp,HU (by omega),hpi,IN]; rfl
   rw [G7 hil] at this;exact G3 this
  have he:=hp.each _ hmem;simp only at he;have hps:pos n y.Node<s.length:=by omega
  have hz:=hs _ (Iu hps);have fin:Gd (nx (s.set ((pos n y.Node:Int)).toNat (i64.wrap (s[pos n y.Node]+p[i])))) (fun x=>(x.2=4∧x.1=[])∨(x.2=0∧BN n t x.1)):=by
   have hw:i64.wrap (s[pos n y.Node]+p[i])=s[pos n y.Node]+p[i]:=bT ⟨by omega,by omega⟩
   rw [hw,G9];refine hnx _ ⟨pre++[y],by rw [hpp]; simp,by simp [hpi],by simp [hsl],fun k=>?_,fun z hz2=>?_⟩
   ·rw [vI _ _ _ _ _ _ hps,hb k,hzip]
    unfold yg;rw [tn,H4];show _+(if sN n t y.Node=k then _ else _)=_
    split <;> omega
   ·rcases MM hz2 with h1 | h1
    ·have:=hs z h1; omega
    ·subst h1; omega
  unfold oH;refine Gd.jz hip (Gd.ite (fun h0=>?_) (fun h0=>?_))
  ·exact Gd.bind_eq q1 (Gd.jz hps (Gd.jz hip (Gd.jz hps fin)))
  ·have h0:p[i]≠0:=Hv h0
   refine Gd.jz hip (Gd.ite (fun h1=>?_) (fun _=>Gd.jz hip (Gd.ite (fun h1=>?_) (fun _=>Gd.bind_eq q1 (Gd.jz hps (Gd.jz hip (Gd.jz hps fin)))))))
   ·have:=Hj h1; omega
   ·have:=Hj h1; omega
 ·rintro i s ⟨pre,hpp,hpi,hsl,hb,hs⟩
  rw [H9] at hpp;subst hpp;have hb2:∀ k,oR (xr t) k 0 s=A_ n t k:=fun k=>(hb k).trans (hp.Gf k);have hs2:∀ z ∈ s,-1000000≤z∧z≤1000000:=fun z hz=>by have:=hs z hz; omega
  clear hb hs;refine Gd.dW (fun i ys s'=>∃ pre,n.bZ=pre++ys∧pre.length=i∧s'=s) ?_ ?_ n.bZ 0 _ ⟨[],rfl,rfl,rfl⟩
  ·rintro i y ys s nx ⟨pre,hpp,hpi,rfl⟩ hnx
   have hy:y ∈ n.bZ:=by rw [hpp]; simp
   obtain ⟨_,v2,v3⟩:=h.vt y hy;obtain ⟨q1,q2⟩:=LA v2;have hil:i<n.bZ.length:=by rw [hpp]; simp; omega
   have hst:(List.replicate n.bZ.length (0:Int))[i]? = some 0:=by rw [JZ,Hi hil]
   have hps:pos n y.Node<s.length:=by omega
   have hz:=hs2 _ (Iu hps);have hch:0≤y.k_∧y.k_≤100000∧0≤y.Discharge∧y.Discharge≤100000:=by
    simp [wP,aZ,bK] at v3;omega
   have hw:i64.wrap (0-y.k_)=0-y.k_:=bT ⟨by omega,by omega⟩
   have hw2:i64.wrap (s[pos n y.Node]+0)=s[pos n y.Node]:=by rw [bT ⟨by omega,by omega⟩]; omega
   unfold oI;rw [hw];refine Gd.ix (by omega) (by rw [G9]; exact hst) (Gd.ite (fun h1=>?_) (fun _=>Gd.ix (by omega) (by rw [G9]; exact hst) (Gd.ite (fun h1=>?_) (fun _=>Gd.bind_eq q1 (Gd.jz hps (Gd.ix (by omega) (by rw [G9]; exact hst) (Gd.jz hps ?_)))))))
   ·have:=Hj h1; omega
   ·have:=Hj h1; omega
   ·rw [hw2,G9]
    exact hnx _ ⟨pre++[y],by rw [hpp]; simp,by simp [hpi],vW (G7 hps)⟩
  ·rintro i _ ⟨_,_,_,rfl⟩
   refine Gd.dW (fun i ys s'=>∃ pre,n.cC=pre++ys∧pre.length=i∧s'.length=n.bJ.length∧(∀ k,oR (xr t) k 0 s'=A_ n t k-acc aN.bN (fun l:aN=>sN n t l.Node) k pre)∧∀ z ∈ s',-(1000000+100000*(i:Int))≤z∧z≤1000000) ?_ ?_ n.cC 0 _
    ⟨[],rfl,rfl,hsl,fun k=>by rw [hb2 k]; show _=A_ n t k-0; omega,fun z hz=>by have:=hs2 z hz; omega⟩
   ·rintro i y ys s' nx ⟨pre,hpp,hpi,hsl',hb',hs'⟩ hnx
    have hy:y ∈ n.cC:=by rw [hpp]; simp
    obtain ⟨q1,q2⟩:=LA (hn.ld y hy).1;have hd:=(hn.ld y hy).2;have hil:i<n.cC.length:=by rw [hpp]; simp; omega
    have hps:pos n y.Node<s'.length:=by omega
    have hz:=hs' _ (Iu hps);have hw:i64.wrap (s'[pos n y.Node]-y.bN)=s'[pos n y.Node]-y.bN:=bT ⟨by omega,by omega⟩
    unfold oJ;refine Gd.bind_eq q1 (Gd.jz hps (Gd.jz hps ?_));rw [hw,G9];refine hnx _ ⟨pre++[y],by rw [hpp]; simp,by simp [hpi],by simp [hsl'],fun k=>?_,fun z hz2=>?_⟩
    ·rw [vI _ _ _ _ _ _ hps,hb' k,tn,H4]
     show _+(if sN n t y.Node=k then _ else _)=_
     split <;> omega
    ·rcases MM hz2 with h1 | h1
     ·have:=hs' z h1; omega
     ·subst h1; omega
   ·rintro i s' ⟨pre,hpp,hpi,hsl',hb',hs'⟩
    rw [H9] at hpp;subst hpp;refine Gd.dW (fun i ys _=>∃ pre,s'=pre++ys∧∀ z ∈ pre,-100000≤z∧z≤100000) ?_ ?_ s' 0 _ ⟨[],rfl,fun z hz=>by simp at hz⟩
    ·rintro i y ys _ nx ⟨pre,hpp,hr⟩ hnx
     unfold oK;refine Gd.ite (fun _=>Gd.ret (.inl ⟨rfl,rfl⟩)) (fun h1=>hnx () ⟨pre++[y],by rw [hpp]; simp,fun z hz=>?_⟩)
     simp only [Mq,Nw] at h1;rcases HW.1 hz with h2 | h2
     ·exact hr z h2
     ·rw [IA] at h2
      subst h2; omega
    ·rintro i _ ⟨pre,hpp,hr⟩
     rw [H9] at hpp;subst hpp;exact Gd.ret (.inr ⟨rfl,hsl',hr,fun k=>by rw [hb' k]; show A_ n t k-A_ n t k=0; omega⟩)
theorem Bi {n:Net}{t:aW} (h:oc n) (hn:lx n) (hg:cW n=some t) (ht:pT n t) (hc:cD n=some 0):
  Gd (eO n) (fun x=>(x.2≠0∧x.1=[])∨(x.2=0∧BN n t x.1)):=by
 have l6:=h.l6;unfold eO;refine Gd.eA (Bk hn hg ht hc) (fun x hx=>?_);rcases hx with ⟨e,_⟩ | ⟨e,hb⟩
 ·rw [e]
  exact Gd.ite (fun _=>Gd.ret (.inl ⟨by simp,rfl⟩)) (fun h=>by simp at h)
 ·rw [e]
  refine Gd.ite (fun h=>by simp at h) (fun _=>Gd.nd (by omega) ?_)
  rw [G9];refine Gd.eA (zB h hn hg ht hc hb) (fun y hy=>Gd.ret ?_);rcases hy with ⟨e1,e2⟩ | hy
  ·exact .inl ⟨by simp only; omega,e2⟩
  ·exact .inr hy
theorem Bc {n:Net}{t:aW} (hg:cW n=some t) (ht:pT n t) (hn:lx n) (hc:cD n=some 0) {p:List Int} (hp:BN n t p):kf n p=some 0:=by
 have l1:=hn.l1;rw [← Gd.eq];unfold kf;refine Gd.bind_eq hc (Gd.ite (fun h=>by simp at h) (fun _=>Gd.ite (fun h=>absurd h (by simp [hp.len])) (fun _=>Gd.bind_eq hg ?_)))
 refine Gd.dW (fun i ys (l:List (Int×Int))=>∃ pre,p=pre++ys∧pre.length=i∧xE l∧(∀ z ∈ l,∃ k:Nat,z.1=(k:Int))∧∀ k:Nat,(mZ l (k:Int)).getD 0=oR (xr t) k 0 pre) ?_ ?_ p 0 _ ⟨[],rfl,rfl,xE.nil,fun z hz=>by simp at hz,fun k=>by simp [mZ,rh,oR]⟩
 ·rintro i y ys l nx ⟨pre,hpp,hpi,hk,hkey,hs⟩ hnx
  have hy:=hp.DG y (by rw [hpp]; simp)
  have hpl:p.length=pre.length+(ys.length+1):=by rw [hpp]; simp
  have hpn:=hp.len;obtain ⟨v,v1,v2,v3,v4⟩:=zS ht (show i<n.bJ.length by omega)
  have hbd:=AD (xr t) (xr t i) (B:=100000) (by omega) pre 0 (fun z hz=>hp.DG z (by rw [hpp]; simp [hz]))
  have hw:i64.wrap ((mZ l (xr t i:Int)).getD 0+y)=(mZ l (xr t i:Int)).getD 0+y:=by
   rw [hs (xr t i)];exact bT ⟨by omega,by omega⟩
  unfold pj;refine Gd.ite (fun h=>?_) (fun _=>Gd.ix (by omega) (by rw [G9]; exact v1) (Gd.ix (by omega) (by rw [G9]; exact v3) ?_))
  ·exfalso
   simp only [Jj,II] at h;omega
  ·rw [hw]
   refine hnx _ ⟨pre++[y],by rw [hpp]; simp,by simp [hpi],(hk.put _ _).1,fun z hz=>?_,fun k=>?_⟩
   ·rcases ((hk.put _ _).2 z).1 hz with h1 | h1
    ·exact ⟨xr t i,by rw [h1]⟩
    ·exact hkey z h1.1
   ·rw [hk.Ar,yx]
    show _=_+((if xr t (0+pre.length)=k then y else 0)+0)
    rw [H4,hpi]
    by_cases e:xr t i=k
    ·subst e
     rw [Hi rfl,Hi rfl,Jz,hs]; omega
    ·rw [Hh (by omega),Hh e,hs]; omega
 ·rintro i l ⟨pre,hpp,hpi,hk,hkey,hs⟩
  rw [H9] at hpp;subst hpp;have:(l.any fun p=>!decide (p.2=0))=false:=by
   rw [List.any_eq_false];intro z hz;obtain ⟨k,hk2⟩:=hkey z hz;have h1:mZ l (k:Int)=some z.2:=hk.find.2 (by rw [← hk2]; exact hz)
   have h2:=hs k;rw [h1,Jz,hp.Gf k] at h2;simp [h2]
  rw [this];exact Gd.ret rfl
theorem DB (l:List ByteArray):dU l l=some true:=by
 rw [← Gd.eq];unfold dU;refine Gd.ite (fun h=>by simp at h) (fun _=>?_)
 refine Gd.jU (Q:=fun x=>x=true) (fun m i (_:Unit)=>i+m=l.length) ?_ (fun _ _ _=>Gd.ret rfl) ((l.length:Int)).toNat 0 () (by omega)
 intro m i _ nx hi hnx;unfold hO;exact Gd.jz (by omega) (Gd.jz (by omega) (Gd.ite (fun h=>by simp at h) (fun _=>hnx () (by omega))))
theorem x_ {s:ByteArray} (h:∃ q,fits q∧s=ctext q):s.size≤maxLen:=by
 obtain ⟨q,hq,rfl⟩:=h;have:=s8 hq;unfold maxLen; omega
theorem BF {n:Net}{p:List Int} (h:oc n) (hn:lx n) {t:aW} (hg:cW n=some t) (ht:pT n t) (hc:kf n p=some 0) {s:dN} (hs:E_ n t s) (hr:ki n p=some (s,0)):l9 n p s=some 0:=by
 have hN:=ht.DF;have h24:=h.l3;rw [← Gd.eq];unfold l9;refine Gd.bind_eq hc (Gd.ite (fun h=>by simp at h) (fun _=>?_))
 refine Gd.eA (yw h hn hg ht) ?_;rintro _ ⟨M,rfl,hM⟩;simp only [Bp];unfold cL;rw [hM.top,hs.al,hs.fl];refine Gd.ite (fun _=>Gd.ite (fun h=>by simp at h) (fun _=>?_)) (fun h=>by simp at h)
 refine Gd.seen (l:=[s.lJ,s.kn]) (fun _ _=>True) ?_ ?_ () G6
 ·rintro i y _ nx pre hpre _ hnx
  have hy:=(qM hpre).2.1;unfold oL;have hcv:k6 y=some 0:=by
   rw [← Gd.eq];have hlen:y.length≤24∧∀ x ∈ y,∃ q,fits q∧x=ctext q:=by
    rcases Ig.1 hy with rfl | hy
    ·exact ⟨by rw [hs.al]; exact hN,hs.a⟩
    ·rw [IA] at hy
     subst hy;exact ⟨by rw [hs.fl]; exact h24,hs.f⟩
   unfold k6;refine Gd.ite (fun h=>absurd (Hj h) (by omega)) (fun _=>Gd.eA (rY (fun x hx=>x_ (hlen.2 x hx))) (fun c hc=>Gd.ret (hc.2 hlen.2)))
  exact Gd.bind_eq hcv (Gd.ite (fun h=>by simp at h) (fun _=>hnx () G6))
 ·rintro _ _
  refine Gd.bind_eq hr (Gd.ite (fun _=>?_) (fun h=>by simp at h))
  exact Gd.bind_eq (DB _) (Gd.ite (fun _=>Gd.bind_eq (DB _) (Gd.ite (fun h=>by simp at h) (fun _=>Gd.ret rfl))) (fun h=>by simp at h))
theorem oh.Gl {n:Net} (h:oh n) (a b:Nat):oh (aD.mk n.bJ n.bM n.aK (oA n.dR 0 a) (oA n.cC 0 b) n.bZ):=
 ⟨h.nd,h.sw,h.br,fun x hx=>h.gn x (by unfold oA at hx; simp at hx; exact JW hx),fun x hx=>h.ld x (by unfold oA at hx; simp at hx; exact JW hx),h.st⟩
theorem xh (n:Net) (hz:oh n):(∃ e,e≠0∧eO n=some ([],e)) ∨
  (∃ t p s,oc n∧lx n∧cW n=some t∧pT n t∧BN n t p∧eO n=some (p,0)∧kf n p=some 0∧ki n p=some (s,0)∧E_ n t s∧l9 n p s=some 0):=by
 obtain ⟨e,he,hok⟩:=check_sound n hz
 by_cases h0:e=0
 ·subst h0
  have hV:=hok rfl;have hn:=hV.ok hz;obtain ⟨t,hg,ht⟩:=ED hn;obtain ⟨⟨p,x⟩,hi,hx⟩:=Bi hV hn hg ht he;rcases hx with ⟨hne,hp⟩ | ⟨hx,hb⟩
  ·left
   simp only at hne hp;subst hp;exact ⟨x,hne,hi⟩
  ·right
   simp only at hx hb;subst hx;have hc:=Bc hg ht hn he hb;obtain ⟨⟨s,y⟩,hs,hy,hst⟩:=Ds hV hn hg ht hb.len hb.DG hc;simp only at hy hst;subst hy;exact ⟨t,p,s,hV,hn,hg,ht,hb,hi,hc,hs,hst,BF hV hn hg ht hc hst hs⟩
 ·left
  refine ⟨e,h0,?_⟩;have hsh:jP n=some ([],e):=by
   rw [← Gd.eq];unfold jP;exact Gd.bind_eq he (Gd.ite (fun _=>Gd.ret rfl) (fun h=>absurd (by simpa using h) h0))
  rw [← Gd.eq];unfold eO;exact Gd.bind_eq hsh (Gd.ite (fun _=>Gd.ret rfl) (fun h=>absurd (by simpa using h) h0))
instance Gr (p:ByteArray) (l:List ByteArray):Decidable (p ∈ l):=@List.instDecidableMemOfLawfulBEq _ instBEqOfDecidableEq inferInstance p l
theorem yH (l:List ByteArray) (p:ByteArray):cK l p=some (decide (p ∈ l)):=by
 obtain ⟨b,e,h⟩:=pH l p;rw [e]
 congr 1
 cases b <;> simp_all
def qv (W:List BA) (x:aN):Bool:=decide (x.Name ∈ W)
theorem del_eq (W:List BA) (x:aN):ky x W=some (!qv W x):=by
 unfold ky;rw [yH]; rfl
theorem zw (W:List BA) (A:List aN) (hA:A.length≤1000):Gd (cG A W) (fun r=>r=A.filter (qv W)):=by
 unfold cG;refine Gd.eA (P:=fun r=>(r = -1∧∀ x ∈ A,qv W x=true)∨∃ (i:Nat) (h:i<A.length),r=i∧qv W A[i]=false∧∀ x ∈ A.take i,qv W x=true) ?_ (fun r hr=>?_)
 ·unfold cX
  refine Gd.jU (fun m i _=>i+m=A.length∧∀ x ∈ A.take i,qv W x=true) ?_ ?_ (A.length:Int).toNat 0 () ⟨by omega,by simp⟩
  ·intro m i _ nx ⟨hi,hno⟩ hnx
   have hlt:i<A.length:=by omega
   unfold dJ;refine Gd.jz hlt ?_;rw [del_eq];refine Gd.ite (fun h=>Gd.ret (.inr ⟨i,hlt,rfl,by simpa using h,hno⟩)) (fun h=>hnx () ⟨by omega,?_⟩)
   rw [Iq hlt];intro x hx;rcases HW.1 hx with hx | hx
   ·exact hno x hx
   ·simp at hx; subst hx; simpa using h
  ·intro i _ ⟨hi,hno⟩
   rw [HK (by omega)] at hno
   exact Gd.ret (.inl ⟨rfl,hno⟩)
 ·rcases hr with ⟨rfl,hall⟩ | ⟨i,hi,rfl,hki,hpre⟩
  ·exact Gd.ite (fun _=>Gd.ret (Mf.2 hall).symm) (fun h=>by simp at h)
  ·refine Gd.ite (fun h=>by simp at h) (fun _=>?_)
   have hw0:i64.wrap ((i:Int)+1)=((i+1:Nat):Int):=by rw [bT ⟨by omega,by omega⟩]; omega
   rw [hw0];have hinit:A.take i=(A.take (i+1)).filter (qv W):=by
    rw [Iq hi,Ky,Mf.2 hpre];simp [MF,hki]
   refine Gd.gO (fun (s:List aN×Int×Int)=>∃ p q:Nat,s.2.1=p∧s.2.2=q∧p<q∧q≤A.length∧s.1.length=A.length∧s.1.take p=(A.take q).filter (qv W)∧s.1.drop q=A.drop q) (fun s=>A.length-s.2.2.toNat) ?_ fX _ ⟨i,i+1,rfl,rfl,by omega,by omega,rfl,hinit,rfl⟩ (by unfold fX; omega)
   rintro ⟨l,n1,n2⟩ nx ⟨p,q,h1,h2,hpq,hqA,hl,htk,hdr⟩ hn;simp only at h1 h2 hl htk hdr;subst h1; subst h2
   unfold dH cB;have hwq:i64.wrap ((q:Int)+1)=((q+1:Nat):Int):=by rw [bT ⟨by omega,by omega⟩]; omega
   have hwp:i64.wrap ((p:Int)+1)=((p+1:Nat):Int):=by rw [bT ⟨by omega,by omega⟩]; omega
   rw [hwq];refine Gd.ite (fun h=>?_) (fun h=>?_)
   ·have hq:q<l.length:=by
     have:(q:Int)<((l.length:Nat):Int):=by simpa using h
     omega
    have hqa:q<A.length:=by omega
    have hv:l[q]=A[q]:=by
     have e1:=Iw hq;have e2:=Iw hqa;rw [hdr,e2] at e1;exact (List.cons.inj e1).1.symm
    have hd2:l.drop (q+1)=A.drop (q+1):=by
     have:=Ht (List.drop 1) hdr;simpa [JB] using this
    have htk2:(A.take (q+1)).filter (qv W)=(A.take q).filter (qv W)++(if qv W A[q] then [A[q]] else []):=by
     rw [Iq hqa,Ky]
     congr 1
     simp only [MF,List.filter_nil]
    refine Gd.jz hq ?_;rw [del_eq,hv];refine Gd.ite (fun hk=>Gd.jz (show p<l.length by omega) ?_) (fun hk=>?_)
    ·have hk:qv W A[q]=true:=by simpa using hk
     rw [hwp,G9];refine hn _ ⟨p+1,q+1,rfl,rfl,by omega,by omega,by simpa using hl,?_,?_⟩ (by simp only [G9]; omega)
     ·simp only
      have hp:p<(l.set p A[q]).length:=by simp; omega
      rw [Iq hp,List.getElem_set_self,htk2,Hi hk,J8 (HH p),htk]
     ·simp only
      rw [J6 (by omega),hd2]
    ·have hk:qv W A[q]=false:=by simpa using hk
     refine hn _ ⟨p,q+1,rfl,rfl,by omega,by omega,hl,?_,hd2⟩ (by simp only [G9]; omega)
     simp only;rw [htk2,Hh (by simp [hk]),H9,htk]
   ·have hq:l.length≤q:=by
     have:((l.length:Nat):Int)≤(q:Int):=by simpa using h
     omega
    have hqe:q=A.length:=by omega
    refine Gd.nd ⟨My p,show (p:Int)≤((l.length:Nat):Int) by omega⟩ (Gd.nd ⟨My p,?_⟩ (Gd.ret ?_))
    ·simp only [G9,HN,HV,IM]; omega
    ·unfold oA
     rw [Jf,Ld,G9,List.take_append_of_le_length (by simp; omega),LG,Nat.min_self,htk,hqe,Jp]
theorem BH {n:Net} (hz:oh n) (on:List ByteArray):Gd (fW n on) (fun e=>e=0→cD n=some 0):=by
 obtain ⟨e,he,_⟩:=check_sound n hz;unfold fW;refine Gd.bind_eq he (Gd.ite (fun h=>Gd.ret (fun h0=>by subst h0; simp at h)) (fun h=>?_))
 have h0:e=0:=by simpa using h
 subst h0;refine Gd.dW (Q:=fun e=>e=0→cD n=some 0) (fun i (ys:List ByteArray) (_:Unit)=>i+ys.length=on.length) ?_ (fun _ _ _=>Gd.ret (fun _=>he)) on 0 () (by simp)
 intro i y ys _ nx hi hnx;simp only [Hw] at hi;unfold nK;refine Gd.eA (P:=fun _=>True) ?_ (fun b _=>Gd.ite (fun _=>Gd.ret (fun h=>by simp at h)) (fun _=>?_))
 ·unfold cQ cV
  refine Gd.eA (P:=fun _=>True) ?_ (fun _ _=>Gd.ret G6);refine Gd.jU (Q:=fun _=>True) (fun m i (_:Unit)=>i+m=n.cC.length) ?_ (fun _ _ _=>Gd.ret G6) ((n.cC.length:Int)).toNat 0 () (by omega)
  intro m i _ nx hi hnx;unfold dI;exact Gd.jz (by omega) (Gd.ite (fun _=>Gd.ret G6) (fun _=>hnx () (by omega)))
 ·refine Gd.nd (by omega) ?_
  rw [yH];exact Gd.ite (fun _=>Gd.ret (fun h=>by simp at h)) (fun _=>hnx () (by omega))
def sT (n:Net) (on:List ByteArray):Net:=aD.mk n.bJ n.bM n.aK n.dR (n.cC.filter (qv on)) n.bZ
theorem ER {n:Net} (h:oc n) (on:List ByteArray):lA n on=some (sT n on):=by
 have:=h.l1; have:=h.l2; have:=h.l3; have:=h.l4; have:=h.l5; have:=h.l6
 rw [← Gd.eq];unfold lA nr;refine Gd.eA (P:=fun r=>r=n) (Gd.nd (by omega) (Gd.nd (by omega) (Gd.nd (by omega) (Gd.nd (by omega) (Gd.nd (by omega) (Gd.nd (by omega) (Gd.ret rfl))))))) (fun r hr=>?_)
 subst hr;refine Gd.eA (zw on r.cC (by omega)) (fun l hl=>Gd.ret ?_)
 rw [hl]; rfl
theorem oh.sT {n:Net} (h:oh n) (on:List ByteArray):oh (sT n on):=
 ⟨h.nd,h.sw,h.br,h.gn,fun x hx=>h.ld x (IT.1 hx).1,h.st⟩
theorem DO {n:Net}{on:List ByteArray}{e:Int} (h:fW n on=some e) (h0:e≠0):jD n on=some (aD.mk [] [] [] [] [] [],e):=by
 rw [← Gd.eq];unfold jD;exact Gd.bind_eq h (Gd.ite (fun _=>Gd.ret rfl) (fun k=>absurd (by simpa using k) h0))
theorem wW {n:Net} (hV:oc n) {on:List ByteArray} (h:fW n on=some 0):jD n on=some (sT n on,0):=by
 rw [← Gd.eq];unfold jD;exact Gd.bind_eq h (Gd.ite (fun k=>by simp at k) (fun _=>Gd.bind_eq (ER hV on) (Gd.ret rfl)))
def uf (z:bF×Rat):Prop:=(z.1.iA:Rat)<Dg z.2
open Classical in
noncomputable def tQ (z:bF×Rat):List ByteArray:=if uf z then [z.1.Name] else []
theorem wI {z:bF×Rat} (h:uf z):tQ z=[z.1.Name]:=Hi h
theorem yE {z:bF×Rat} (h:¬ uf z):tQ z=[]:=Hh h
theorem E4:∀ {l:List ByteArray},(∀ x ∈ l,∃ q,fits q∧x=ctext q)→∃ qs:List Rat,l=qs.map ctext∧∀ q ∈ qs,fits q
 | [],_=>⟨[],rfl,fun q h=>by cases h⟩
 | x::l,h=>by
  obtain ⟨q,hq,rfl⟩:=h x (Ha ..);obtain ⟨qs,rfl,hf⟩:=E4 (l:=l) (fun y hy=>h y (Ho _ hy));refine ⟨q::qs,rfl,fun p hp=>?_⟩;rcases Ig.1 hp with rfl | hp
  ·exact hq
  ·exact hf p hp
theorem yX {bs:List bF}{qs:List Rat}{i:Nat} (h:i<bs.length) (h':i<qs.length):
  ((bs.zip qs).take (i+1)).flatMap tQ=((bs.zip qs).take i).flatMap tQ++tQ (bs[i],qs[i]):=by
 have hz:i<(bs.zip qs).length:=by simp; omega
 rw [Iq hz,Mg,List.getElem_zip];simp
theorem AK {n:Net} (hV:oc n) {qs:List Rat} (hl:qs.length=n.aK.length) (hf:∀ q ∈ qs,fits q):
  iG n (qs.map ctext)=some ((n.aK.zip qs).flatMap tQ):=by
 have h3:=hV.l3;rw [← Gd.eq];unfold iG;refine Gd.dW (fun i (ys:List bF) (w:List ByteArray)=>i+ys.length=n.aK.length∧n.aK.drop i=ys∧w.length≤i∧w=((n.aK.zip qs).take i).flatMap tQ) ?_ ?_ n.aK 0 [] ⟨by simp,rfl,by simp,by simp⟩
 ·rintro i y ys w nx ⟨hi,hd,hw,hv⟩ hnx
  simp only [Hw] at hi;have hib:i<n.aK.length:=by omega
  have hiq:i<qs.length:=by omega
  have hy:n.aK[i]=y:=by
   have e:=Iw hib;rw [hd] at e; exact (List.cons.inj e).1.symm
  have hd':n.aK.drop (i+1)=ys:=by
   have:=Ht (List.drop 1) hd;simpa [JB] using this
  have hL:=(A5 hV (Iu hib)).l;have hst:=yX hib hiq;rw [← hv] at hst;unfold n7 k7;refine Gd.jz (by simpa using hiq) ?_
  rw [Jy];refine Gd.eA (si (hf _ (Iu hiq))) (fun a ha=>Gd.eA (Ev ha.1 ha.2.1 (by omega)) (fun b hb=>?_))
  rw [← hy];refine Gd.eA (ss ⟨by omega,by omega⟩) (fun c hc=>Gd.eA (AP hb.1 hc.1 hb.2.1 hc.2.1 (by omega)) (fun d hd2=>?_))
  rw [hb.2.2,hc.2.2,ha.2.2] at hd2;have hov:0<d↔uf (n.aK[i],qs[i]):=hd2.1;clear hd2;refine Gd.ite (fun h=>Gd.nd ?_ (hnx _ ⟨by omega,hd',?_,?_⟩)) (fun h=>hnx _ ⟨by omega,hd',by omega,?_⟩)
  ·simp only [Hw,MK]; omega
  ·simp; omega
  ·rw [hst,wI (hov.1 (Hj h))]
  ·rw [hst,yE (fun k=>Hv h (hov.2 k)),H9]
 ·rintro i w ⟨hi,_,_,hv⟩
  rw [HK (by simp at hi ⊢; omega)] at hv
  exact Gd.ret hv
theorem oT:fG=some true:=by kernel_rfl
theorem BR {n:Net}{on:List ByteArray}{e:Int} (h:fW n on=some e) (h0:e≠0):fV n on=some (dN.mk [] [],[],e):=by
 rw [← Gd.eq];unfold fV;exact Gd.bind_eq (DO h h0) (Gd.ite (fun _=>Gd.ret rfl) (fun k=>absurd (by simpa using k) h0))
theorem AZ {n:Net} (hV:oc n) {on:List ByteArray} (h:fW n on=some 0) {e:Int} (h0:e≠0) (hi:eO (sT n on)=some ([],e)):
  fV n on=some (dN.mk [] [],[],e):=by
 rw [← Gd.eq];unfold fV kO;exact Gd.bind_eq (wW hV h) (Gd.ite (fun k=>by simp at k) (fun _=>Gd.eA (P:=fun r=>r=(dN.mk [] [],[],e)) (Gd.bind_eq hi (Gd.ite (fun _=>Gd.ret rfl) (fun k=>absurd (by simpa using k) h0))) (fun r hr=>by subst hr; exact Gd.ret rfl)))
theorem BS {n:Net} (hV:oc n) {on:List ByteArray} (h:fW n on=some 0) {p:List Int}{s:dN}{ov:List ByteArray}
  (hi:eO (sT n on)=some (p,0)) (hs:ki (sT n on) p=some (s,0)) (ho:iG (sT n on) s.kn=some ov):
  fV n on=some (s,ov,0):=by
 rw [← Gd.eq];unfold fV kO;exact Gd.bind_eq (wW hV h) (Gd.ite (fun k=>by simp at k) (fun _=>Gd.eA (P:=fun r=>r=(s,ov,0)) (Gd.bind_eq hi (Gd.ite (fun k=>by simp at k) (fun _=>Gd.bind_eq hs (Gd.ite (fun k=>by simp at k) (fun _=>Gd.bind_eq ho (Gd.ret rfl)))))) (fun r hr=>by subst hr; exact Gd.ret rfl)))
theorem seq_eq (l:List ByteArray):dM l l=some true:=by
 rw [← Gd.eq];unfold dM;refine Gd.ite (fun h=>by simp at h) (fun _=>?_)
 refine Gd.jU (Q:=fun x=>x=true) (fun m i (_:Unit)=>i+m=l.length) ?_ (fun _ _ _=>Gd.ret rfl) ((l.length:Int)).toNat 0 () (by omega)
 intro m i _ nx hi hnx;unfold iR;exact Gd.jz (by omega) (Gd.jz (by omega) (Gd.ite (fun h=>by simp at h) (fun _=>hnx () (by omega))))
theorem tA {z:Int} (h:-100000≤z∧z≤100000):fits (z:Rat):=by
 refine Aq (k:=6) ?_ ?_ (by decide) (by decide)
 ·rw [Rat.num_intCast]; omega
 ·rw [Rat.den_intCast]; decide
theorem CT {z:Int} (h:-100000≤z∧z≤100000):qZ z 1=some (ctext (z:Rat),0):=by
 rw [GD ⟨by omega,by omega⟩ ⟨by omega,by omega⟩ (by decide)]
 have e:((z:Rat) / ((1:Int):Rat))=(z:Rat):=by
  have:((1:Int):Rat)=1:=rfl;rw [this]; grind
 rw [e,Dz (tA h)]
theorem C1 {z:Int} (h:-100000≤z∧z≤100000):pP (ctext (z:Rat))=some (ctext (-(z:Rat)),0)∧fits (-(z:Rat)):=by
 have e:-(z:Rat)=((-z:Int):Rat):=by grind
 have hf:fits (-(z:Rat)):=by rw [e]; exact tA ⟨by omega,by omega⟩
 exact ⟨by rw [Gg (tA h),Dz hf],hf⟩
theorem DK {n:Net} (hc:cD n=some 0) {fl:List ByteArray} (hl:fl.length=n.aK.length) (hf:∀ x ∈ fl,∃ q,fits q∧x=ctext q) {ov:List ByteArray} (ho:iG n fl=some ov):
  mF n fl=some (ov,0):=by
 rw [← Gd.eq];unfold mF;refine Gd.bind_eq hc (Gd.ite (fun k=>by simp at k) (fun _=>?_))
 refine Gd.eA (rY (fun s hs=>x_ (hf s hs))) (fun c hc=>?_);have h0:c=0:=hc.2 hf;subst h0;exact Gd.ite (fun k=>by simp at k) (fun _=>Gd.ite (fun k=>by simp [hl] at k) (fun _=>Gd.bind_eq ho (Gd.ret rfl)))
theorem sX (n:Net) (hz:oh n) (set:Int):dX n set=some true:=by
 rw [← Gd.eq];unfold dX lq;refine Gd.eA (P:=fun r=>oh r∧r.cC.length≤4) (Gd.nd (by omega) (Gd.nd (by omega) (Gd.ret ⟨hz.Gl _ _,by unfold oA; simp; omega⟩))) (fun n ⟨hz,hl⟩=>?_)
 refine Gd.dW (fun i (ys:List aN) (on:List ByteArray)=>i+ys.length=n.cC.length∧on.length≤i) ?_ ?_ n.cC 0 [] ⟨by simp,by simp⟩
 ·rintro i y ys on nx ⟨hi,hon⟩ hnx
  simp only [Hw] at hi;unfold iC eB;refine Gd.nd (by omega) (Gd.ite (fun _=>Gd.nd ?_ (hnx _ ⟨by omega,?_⟩)) (fun _=>hnx _ ⟨by omega,by omega⟩))
  ·simp only [Hw,MK]; omega
  ·simp; omega
 ·rintro _ on _
  obtain ⟨e,he,h0⟩:=BH hz on
  by_cases hz0:e=0
  ·subst hz0
   have hc:=h0 rfl;have hV:oc n:=by
    obtain ⟨e',he',hv⟩:=check_sound n hz;rw [hc] at he';exact hv (G3 he').symm
   rcases xh (sT n on) (hz.sT on) with ⟨x,hx,hi⟩ | ⟨t,p,s,hV',hn',hg,ht,hb,hi,hfc,hs,hst,hv⟩
   ·refine Gd.bind_eq (AZ hV he hx hi) (Gd.ite (fun _=>Gd.bind_eq oT (Gd.ret (by simp))) (fun h=>absurd (by simpa using h) hx))
   ·obtain ⟨qs,hq,hqf⟩:=E4 hst.f
    have hql:qs.length=n.aK.length:=by
     have:=hst.fl;rw [hq,JO] at this;exact this
    have ho:=AK hV' (qs:=qs) hql hqf;rw [← hq] at ho;have ho':iG n s.kn=some ((n.aK.zip qs).flatMap tQ):=by rw [hq]; exact AK hV hql hqf
    have hfl:s.kn.length=n.aK.length:=hst.fl;refine Gd.bind_eq (BS hV he hi hs ho) (Gd.ite (fun h=>by simp at h) (fun _=>?_))
    refine Gd.bind_eq (wW hV he) (Gd.bind_eq hi (Gd.ite (fun _=>Gd.ite (fun _=>Gd.bind_eq hv (Gd.ite (fun _=>Gd.ite (fun h=>by simp [hfl] at h) (fun _=>?_)) (fun h=>by simp at h))) (fun h=>by simp at h)) (fun h=>by simp at h)))
    have h3:=hV.l3;refine Gd.dW (fun i (ys:List bF) (w:List ByteArray)=>i+ys.length=n.aK.length∧n.aK.drop i=ys∧w.length≤i∧w=((n.aK.zip qs).take i).flatMap tQ) ?_ ?_ n.aK 0 [] ⟨by simp,rfl,by simp,by simp⟩
    ·rintro i y ys w nx ⟨hi',hd,hw,hv'⟩ hnx
     simp only [Hw] at hi';have hib:i<n.aK.length:=by omega
     have hiq:i<qs.length:=by omega
     have hy:n.aK[i]=y:=by
      have e:=Iw hib;rw [hd] at e; exact (List.cons.inj e).1.symm
     have hd':n.aK.drop (i+1)=ys:=by
      have:=Ht (List.drop 1) hd;simpa [JB] using this
     have hL:=(A5 hV (Iu hib)).l;have hst':=yX hib hiq;rw [← hv'] at hst';have hLim:-100000≤n.aK[i].iA∧n.aK[i].iA≤100000:=⟨by omega,by omega⟩
     have hN:=C1 hLim;have hfi:i<s.kn.length:=by omega
     have hfe:s.kn[i]=ctext qs[i]:=by simp only [hq,Jy]
     have hqi:=hqf _ (Iu hiq);unfold iD eC;rw [← hy];refine Gd.bind_eq (CT hLim) (Gd.bind_eq hN.1 (Gd.jz hfi ?_));simp only [hfe];refine Gd.eA (FJ hqi (tA hLim)) (fun c hc'=>Gd.jz hfi ?_);simp only [hfe];refine Gd.eA (FJ hqi hN.2) (fun d hd2=>?_);have hov:(0<c.1∨d.1<0)↔uf (n.aK[i],qs[i]):=by
      unfold uf;rw [Ew,hc'.2.1,hd2.2.2]
     refine Gd.ite (fun h=>by simp [hc'.1,hd2.1] at h) (fun _=>Gd.ite (fun h=>Gd.nd ?_ (hnx _ ⟨by omega,hd',?_,?_⟩)) (fun h=>hnx _ ⟨by omega,hd',by omega,?_⟩))
     ·simp only [Hw,MK]; omega
     ·simp; omega
     ·rw [hst',wI (hov.1 (by simpa using h))]
     ·rw [hst',yE (fun k=>by have:=hov.2 k; simp at h; omega),H9]
    ·rintro i w ⟨hi',_,_,hv'⟩
     rw [HK (by simp at hi' ⊢; omega)] at hv'
     subst hv';refine Gd.bind_eq (DK hc hfl hst.f ho') (Gd.bind_eq oT (Gd.ite (fun _=>Gd.ite (fun _=>?_) (fun h=>by simp at h)) (fun h=>by simp at h)))
     exact Gd.bind_eq (seq_eq _) (Gd.ite (fun _=>Gd.bind_eq (seq_eq _) (Gd.ret rfl)) (fun h=>by simp at h))
  ·refine Gd.bind_eq (BR he hz0) (Gd.ite (fun _=>Gd.bind_eq oT (Gd.ret (by simp))) (fun h=>absurd (by simpa using h) hz0))
end Go.Sim
