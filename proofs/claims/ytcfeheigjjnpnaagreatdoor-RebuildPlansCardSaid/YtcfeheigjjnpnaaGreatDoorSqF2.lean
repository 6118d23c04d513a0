/-
  The proof, part F2.
-/
import Derived.Test.YtcfeheigjjnpnaaGreatDoorSqF1
set_option linter.unusedVariables false
set_option linter.unusedSimpArgs false
set_option linter.unusedSectionVars false
set_option linter.unnecessarySimpa false
namespace Go.Sim
abbrev MC := @Int.natCast_nonneg
abbrev ME := @List.Perm.refl
abbrev MF := @List.Sublist.refl
abbrev MG := @List.cons.inj
abbrev MJ := @List.eq_of_mem_replicate
abbrev MK := @List.filter_cons
abbrev ML := @List.getElem_set
abbrev MT := @List.mem_take_iff_getElem
abbrev MU := @List.set_append_right
abbrev Nq := @Rat.intCast_le_intCast
end Go.Sim
namespace Go.Sim
open Go
open _root_.Go.IntKind (i64 u64 u32 u8)
abbrev xL:=(List Nat×List (List LR))×List Int
theorem ss {j w:Nat} (hj:j≤w) (hw:w≤1000):i64.wrap ((j:Int)+1)=((j+1:Nat):Int):=by
 rw [bP ⟨by omega,by omega⟩]; omega
theorem GA {n w W k i:Nat}{l:List Int}{sg:List Nat}{p:Int}{k1 k2:Nat}{nxO:List (List LR)→Option xL}{f:LR}{rows:List (List LR)}{m:Mt}{F:Rat}{Q:xL→Prop}
  (hSG:(sg.set ((l.length:Int):Int).toNat k1).set (p:Int).toNat k2=sM n) (hl:l.length=k) (hk:k<n) (hi:i<n) (hw:w≤1000) (hkw:k≤w) (hW:W≤100000) (hik:i≠k)
  (hf:lh f) (hfl:RL f W) (fv:rv f=F) (hM:pJ rows n w W m) (hb:∀ c,k≤c→c<w→RB (m i c-F*m k c) W)
  (hnx:∀ rows',pJ rows' n w W (fun i' c=>if i'=i∧k≤c then m i c-F*m k c else m i' c)→Gd (nxO ([]::rows')) Q):
  Gd (fD (fun s n'=>k4 l sg p k1 k2 nxO i f s.1 s.2 n') eB ((k:Int),[]::rows)) Q:=by
 refine Gd.fD (fun s=>∃ (j:Nat) (rows':List (List LR)),s=((j:Int),[]::rows')∧k≤j∧j≤w∧pJ rows' n w W (fun i' c=>if i'=i∧k≤c∧c<j then m i c-F*m k c else m i' c)) (fun s=>((w:Int)-s.1).toNat) ?_ eB _
  ⟨k,rows,rfl,HH _,hkw,hM.congr (fun i' c _ _=>by rw [Hh (by omega)])⟩ (by simp only [eB]; omega)
 rintro _ nx ⟨j,rows',rfl,hkj,hjw,hM'⟩ hnext;show Gd (k4 l sg p k1 k2 nxO i f (j:Int) ([]::rows') nx) Q;unfold k4;simp only [hSG];refine lE hi ?_;rw [hM'.Dj hi]
 by_cases hj:j<w
 ·refine Gd.ite (fun _=>?_) (fun h=>absurd (NC.1 h) (by simp; omega))
  rw [hl];refine lE hk (ou hM' hk hj (fun y hy hyl hyv=>?_));rw [Hh (by omega)] at hyv
  refine Gd.ite (fun hs=>?_) (fun hs=>?_)
  ·refine lE hi (lE hi (ou hM' hi hj (fun yi gi gil giv=>lE hk (ou hM' hk hj (fun yr gr grl grv=>?_)))))
   rw [Hh (by omega)] at giv grv
   refine Gd.eJ (tK hf gr hfl grl (by omega)) (fun mm hmm=>Gd.eJ (sq gi hmm.1 gil hmm.2.1 (by omega)) (fun r hr=>ou hM' hi hj (fun _ _ _ _=>?_)))
   have hv:rv r=m i j-F*m k j:=by rw [hr.2.2,hmm.2.2,giv,grv,fv]
   have hrl:RL r W:=hr.1.rb (by rw [hv]; exact hb j hkj hj)
   unfold jK;rw [ss hjw hw];have h2:=hM'.set hi hj hr.1 hrl;refine hnext _ ⟨j+1,_,rfl,by omega,by omega,h2.congr (fun i' c _ _=>?_)⟩ (by simp only; omega)
   by_cases e:i'=i∧c=j
   ·obtain ⟨rfl,rfl⟩:=e
    rw [Hl ⟨rfl,rfl⟩,Hl (by omega),hv]
   ·rw [Hh e]
    by_cases e2:i'=i∧k≤c∧c<j
    ·rw [Hl e2,Hl (by omega)]
    ·rw [Hh e2,Hh (by omega)]
  ·have h0:m k j=0:=by
    have:=se hy;rw [hyv] at this;have hs2:decide (cH y=0)=true:=by simpa using hs
    rw [this] at hs2;exact Hk hs2
   unfold jK;rw [ss hjw hw];refine hnext _ ⟨j+1,rows',rfl,by omega,by omega,hM'.congr (fun i' c _ _=>?_)⟩ (by simp only; omega)
   by_cases e:i'=i∧c=j
   ·obtain ⟨rfl,rfl⟩:=e
    rw [if_neg (by omega),if_pos (by omega),h0]; grind
   ·by_cases e2:i'=i∧k≤c∧c<j
    ·rw [Hl e2,Hl (by omega)]
    ·rw [Hh e2,Hh (by omega)]
 ·refine Gd.ite (fun h=>absurd (Hk h) (by omega)) (fun _=>?_)
  unfold gG;refine hnx rows' (hM'.congr (fun i' c _ hc=>?_))
  by_cases e:i'=i∧k≤c
  ·rw [Hl e,Hl (by omega)]
  ·rw [Hh e,Hh (by omega)]
theorem Gz {n w W k:Nat}{l:List Int}{sg:List Nat}{p:Int}{k1 k2:Nat}{K:List (List LR)→Option xL}{rows:List (List LR)}{m:Mt}{Q:xL→Prop}
  (hSG:(sg.set ((l.length:Int):Int).toNat k1).set (p:Int).toNat k2=sM n) (hl:l.length=k) (hk:k<n) (hw:w≤1000) (hkw:k<w) (hW:W≤100000)
  (hM:pJ rows n w W m) (hz:∀ c,c<k→m k c=0) (hb:∀ i c,i<n→i≠k→k≤c→c<w→RB (m i c-m i k*m k c) W)
  (hK:∀ rows',pJ rows' n w W (fun i c=>if i=k then m k c else m i c-m i k*m k c)→Gd (K ([]::rows')) Q):
  Gd (jT (fun kk s n'=>mn l (k:Int) sg p k1 k2 kk s n') K n 0 ([]::rows)) Q:=by
 refine Gd.jT (fun M i s=>i+M=n∧∃ rows':List (List LR),s=[]::rows'∧pJ rows' n w W (fun i' c=>if i'<i∧i'≠k then m i' c-m i' k*m k c else m i' c)) ?_ ?_ n 0 _
  ⟨by omega,rows,rfl,hM.congr (fun i' c _ _=>by rw [Hh (by omega)])⟩
 ·rintro M i _ nx ⟨hiM,rows',rfl,hM'⟩ hnx
  have hi:i<n:=by omega
  unfold mn;simp only [hSG];rw [hl];refine Gd.ite (fun h=>?_) (fun h=>?_)
  ·have e:i=k:=by have:=Hk h; omega
   subst e;unfold gG;refine hnx _ ⟨by omega,rows',rfl,hM'.congr (fun i' c _ _=>?_)⟩
   by_cases e:i'<i∧i'≠i
   ·rw [Hl e,Hl (by omega)]
   ·rw [Hh e,Hh (by omega)]
  ·have hik:i≠k:=fun e=>by rw [e] at h; simp at h
   refine lE hi (ou hM' hi hkw (fun y hy hyl hyv=>?_));rw [Hh (by omega)] at hyv
   refine Gd.ite (fun hs=>?_) (fun hs=>?_)
   ·have h0:m i k=0:=by
     have:=se hy;rw [hyv] at this;rw [this] at hs;exact Hk hs
    unfold gG;refine hnx _ ⟨by omega,rows',rfl,hM'.congr (fun i' c _ _=>?_)⟩
    by_cases e:i'=i
    ·subst e
     rw [if_neg (by omega),if_pos ⟨by omega,hik⟩,h0]; grind
    ·by_cases e2:i'<i∧i'≠k
     ·rw [Hl e2,Hl (by omega)]
     ·rw [Hh e2,Hh (by omega)]
   ·refine lE hi (ou hM' hi hkw (fun f hf hfl hfv=>?_))
    rw [Hh (by omega)] at hfv
    refine GA (m:=fun i' c=>if i'<i∧i'≠k then m i' c-m i' k*m k c else m i' c) hSG hl hk hi hw (by omega) hW hik hf hfl hfv hM' (fun c h1 h2=>?_) (fun rows'' hM''=>?_)
    ·rw [Hh (by omega),Hh (by omega)]
     exact hb i c hi hik h1 h2
    ·refine hnx _ ⟨by omega,rows'',rfl,hM''.congr (fun i' c _ _=>?_)⟩
     by_cases e:i'=i
     ·subst e
      rw [Hl (show i'<i'+1∧i'≠k from ⟨by omega,hik⟩),Hh (show ¬ (i'<i'∧i'≠k) by omega),Hh (show ¬ (k<i'∧k≠k) by omega)]
      by_cases e3:k≤c
      ·rw [Hl ⟨rfl,e3⟩]
      ·rw [if_neg (by omega),hz c (by omega)]; grind
     ·rw [Hh (show ¬ (i'=i∧k≤c) from fun hh=>e hh.1)]
      by_cases e2:i'<i∧i'≠k
      ·rw [Hl e2,Hl (by omega)]
      ·rw [Hh e2,Hh (by omega)]
 ·rintro i _ ⟨hi,rows',rfl,hM'⟩
  refine hK rows' (hM'.congr (fun i' c hi' _=>?_))
  by_cases e:i'=k
  ·subst e; rw [Hh (by omega),Hl rfl]
  ·rw [Hl ⟨by omega,e⟩,Hh e]
def Cu (k:Nat) (m:Mt):Mt:=fun i c=>if i=k∧k≤c then m k c / m k k else m i c
theorem w_ {k i:Nat} (h:i≠k) (m:Mt) (c:Nat):Cu k m i c=m i c:=Hh (fun hh=>h hh.1)
theorem zv {k c:Nat} (h:k≤c) (m:Mt):Cu k m k c=m k c / m k k:=Hl ⟨rfl,h⟩
theorem zw {k c:Nat} (h:c<k) (m:Mt):Cu k m k c=m k c:=Hh (fun hh=>by omega)
theorem Gy {n w W k:Nat}{l:List Int}{sg:List Nat}{p:Int}{k1 k2:Nat}{nx:(List Int×Int×List Nat×List (List LR))→Option xL}{d:LR}{rows:List (List LR)}{m:Mt}{Q:xL→Prop}
  (hSG:(sg.set ((l.length:Int):Int).toNat k1).set (p:Int).toNat k2=sM n) (hl:l.length=k) (hk:k<n) (hn:n≤1000) (hw:w≤1000) (hkw:k<w) (hW:W≤100000)
  (hd:lh d) (hdl:RL d W) (hdv:rv d=m k k) (hd0:m k k≠0) (hM:pJ rows n w W m) (hz:∀ c,c<k→m k c=0) (hb:∀ i c,i<n→c<w→RB (pY k m i c) W)
  (hnx:∀ rows',pJ rows' n w W (pY k m)→Gd (nx (l++[(k:Int)],((k+1:Nat):Int),sM n,[]::rows')) Q):
  Gd (fD (fun s n'=>k0 l (k:Int) sg nx p k1 k2 d s.1 s.2 n') eB ((k:Int),[]::rows)) Q:=by
 refine Gd.fD (fun s=>∃ (j:Nat) (rows':List (List LR)),s=((j:Int),[]::rows')∧k≤j∧j≤w∧pJ rows' n w W (fun i' c=>if i'=k∧k≤c∧c<j then m k c / m k k else m i' c)) (fun s=>((w:Int)-s.1).toNat) ?_ eB _
  ⟨k,rows,rfl,HH _,by omega,hM.congr (fun i' c _ _=>by rw [Hh (by omega)])⟩ (by simp only [eB]; omega)
 rintro _ nxL ⟨j,rows',rfl,hkj,hjw,hM'⟩ hnext;show Gd (k0 l (k:Int) sg nx p k1 k2 d (j:Int) ([]::rows') nxL) Q;have hdiv:m k k / m k k=1:=by rw [Np]; exact Nw _ hd0
 unfold k0;simp only [hSG];rw [hl];refine lE hk ?_;rw [hM'.Dj hk]
 by_cases hj:j<w
 ·refine Gd.ite (fun _=>?_) (fun h=>absurd (NC.1 h) (by simp; omega))
  refine lE hk (lE hk (ou hM' hk hj (fun y hy hyl hyv=>?_)));rw [Hh (by omega)] at hyv
  refine Gd.eJ (EB hy hd (by rw [hdv]; exact hd0) hyl hdl (by omega)) (fun r hr=>ou hM' hk hj (fun _ _ _ _=>?_))
  have hv:rv r=m k j / m k k:=by rw [hr.2.2,hyv,hdv]
  have hrl:RL r W:=hr.1.rb (by
   rw [hv];have:=hb k j hk hj;unfold pY at this;rw [Hl rfl] at this;exact this)
  rw [ss hjw hw];refine hnext _ ⟨j+1,_,rfl,by omega,by omega,(hM'.set hk hj hr.1 hrl).congr (fun i' c _ _=>?_)⟩ (by simp only; omega)
  by_cases e:i'=k∧c=j
  ·obtain ⟨rfl,rfl⟩:=e
   rw [Hl ⟨rfl,rfl⟩,Hl (by omega),hv]
  ·rw [Hh e]
   by_cases e2:i'=k∧k≤c∧c<j
   ·rw [Hl e2,Hl (by omega)]
   ·rw [Hh e2,Hh (by omega)]
 ·refine Gd.ite (fun h=>absurd (Hk h) (by omega)) (fun _=>?_)
  rw [ru,Ha];refine Gd.nd (by omega) ?_
  refine Gz (m:=Cu k m) hSG hl hk hw hkw hW (hM'.congr (fun i' c _ hc=>?_)) (fun c hc=>(zw hc m).trans (hz c hc)) (fun i c hi hik h1 h2=>?_) (fun rows'' hM''=>?_)
  ·unfold Cu
   by_cases e:i'=k∧k≤c
   ·rw [Hl e,Hl (by omega)]
   ·rw [Hh e,Hh (by omega)]
  ·rw [w_ hik,w_ hik,zv h1]
   have:=hb i c hi h2;unfold pY at this;rw [Hh hik] at this;exact this
  ·refine Gd.nd (by rw [show ([(k:Int)]:List Int).length=1 from rfl]; omega) ?_
   unfold kZ;rw [ss (show k≤w by omega) hw]
   refine hnx rows'' (hM''.congr (fun i c _ _=>?_));unfold pY
   by_cases e:i=k
   ·subst e
    rw [Hl rfl,Hl rfl]
    by_cases e2:i≤c
    ·rw [zv e2]
    ·rw [zw (by omega),hz c (by omega),Rat.div_def]; grind
   ·rw [Hh e,Hh e,w_ e,w_ e]
    by_cases e2:k≤c
    ·rw [zv e2]
    ·rw [zw (by omega),hz c (by omega),Rat.div_def]; grind
theorem Bw {n w W k:Nat}{cols:Int}{l:List Int}{nx:(List Int×Int×List Nat×List (List LR))→Option xL}{rows:List (List LR)}{m:Mt}{Q:xL→Prop}
  (hl:l.length=k) (hk:k<n) (hc:(k:Int)<cols) (hn:n≤1000) (hw:w≤1000) (hkw:k<w) (hW:W≤100000)
  (hd0:m k k≠0) (hM:pJ rows n w W m) (hz:∀ c,c<k→m k c=0) (hb:∀ i c,i<n→c<w→RB (pY k m i c) W)
  (hnx:∀ rows',pJ rows' n w W (pY k m)→Gd (nx (l++[(k:Int)],((k+1:Nat):Int),sM n,[]::rows')) Q):
  Gd (jJ cols l (k:Int) (sM n) ([]::rows) nx) Q:=by
 unfold jJ;rw [hl,ru];refine Gd.ite (fun _=>?_) (fun h=>absurd h (by simp; omega))
 refine Gd.fD (fun s=>s=(k:Int)) (fun _=>0) ?_ eB _ rfl (by simp only [eB]; omega)
 rintro _ nx2 rfl _;unfold nZ;rw [ru];refine Gd.ite (fun _=>?_) (fun h=>absurd (NC.1 h) (by simp; omega))
 refine lE hk (ou hM hk hkw (fun y hy hyl hyv=>?_));rw [se hy,hyv];refine Gd.ite (fun h=>absurd (Hk h) hd0) (fun _=>?_);unfold k5;rw [ru,hl];refine Gd.ite (fun h=>absurd (Hk h) (by omega)) (fun _=>?_)
 refine lE hk (lE hk (lE hk ?_));rw [yN hk,Ha,uK hk];refine lE hk (lE hk (ou hM hk hkw (fun d hd hdl hdv=>?_)));exact Gy (by rw [hl]; exact yN hk) hl hk hn hw hkw hW hd hdl hdv hd0 hM hz hb hnx
def yV (n i:Nat):List Nat:=(List.range i).map (·+1)++List.replicate (n-i) 0
theorem u_ (n:Nat):yV n 0=List.replicate n 0:=by simp [yV]
theorem u9 (n:Nat):yV n n=sM n:=by simp [yV,sM]
theorem zc {n i:Nat} (hi:i<n):(yV n i)[i]? = some 0:=by
 unfold yV;rw [HY (by simp),JX,Hl (by simp; omega)]
theorem uG {n i:Nat} (hi:i<n):(yV n i).set i (i+1)=yV n (i+1):=by
 unfold yV;rw [MU _ _ (by simp)]
 have e:n-i=(n-(i+1))+1:=by omega
 rw [e,J5,K1];simp
theorem DS {n i:Nat} (hi:i<n):(yV n (i+1))[i]? = some (i+1):=by
 rw [← uG hi,HS (by simp [yV]; omega)]
theorem wc {n:Nat}{rows:List (List LR)} (h:rows.length=n):mX (sM n) ([]::rows)=rows:=by
 apply Ji;intro i;unfold mX;rw [HZ]
 by_cases hi:i<n
 ·rw [xz hi,I7,Ax,G9 (by omega)]; rfl
 ·rw [Iv (by rw [ru]; omega),Iv (by omega)]; rfl
theorem DX {rows:List (List LR)}{n:Nat} (hl:rows.length=n) (hn:n≤1000) (hr:∀ y ∈ rows,y.length≤1000):Gd (qb rows) (fun r=>r=(sM n,[]::rows)):=by
 unfold qb;rw [hl];refine Gd.nd (by omega) ?_
 rw [Ha];refine Gd.dW (fun i l s=>∃ pre,rows=pre++l∧pre.length=i∧s=(yV n i,[]::pre)) ?_ ?_ rows 0 _ ⟨[],rfl,rfl,by rw [u_]⟩
 ·rintro i y ys _ nx ⟨pre,hp,hpl,rfl⟩ hnx
  have hi:i<n:=by rw [← hl,hp,HQ,Hz]; omega
  have hy:=hr y (by rw [hp]; simp)
  unfold qJ;refine Gd.nd (by simp; omega) (Gd.ix (by omega) (by rw [Ha]; exact zc hi) (hnx _ ⟨pre++[y],by rw [hp]; simp,by simp [hpl],?_⟩))
  rw [Ha,Hz,hpl,uG hi];simp
 ·rintro i _ ⟨pre,hp,hpl,rfl⟩
  rw [Ia] at hp;subst hp;refine Gd.ret ?_;rw [← hpl,hl,u9]
theorem pJ.short {rows:List (List LR)}{n w W:Nat}{m:Mt} (h:pJ rows n w W m) (hw:w≤1000):∀ y ∈ rows,y.length≤1000:=by
 intro y hy;obtain ⟨i,hi,he⟩:=IN.1 hy;obtain ⟨l,h1,h2,_⟩:=h.row i (by rw [← h.len]; exact hi)
 rw [G9 hi] at h1;have:=G7 h1;rw [← he,this]; omega
theorem Bx {rows:List (List LR)}{n W:Nat}{A m0:Mt} (hn:n≤400) (hW:W≤100000) (hp:Pd n A) (h0:Gj n A 0 m0) (hM:pJ rows n (2*n) W m0)
  (hB:∀ k m,k≤n→Gj n A k m→∀ i c,i<n→c<2*n→RB (m i c) W):
  Gd (mK rows (n:Int)) (fun r=>∃ rows' m,r.1=(sM n,[]::rows')∧r.2.length=n∧Gj n A n m∧pJ rows' n (2*n) W m):=by
 unfold mK;refine Gd.eJ (DX hM.len (by omega) (hM.short (by omega))) (fun r hr=>?_)
 subst hr;refine Gd.fD (fun s=>∃ (k:Nat) (l:List Int) (rows':List (List LR)) (m:Mt),s=(l,(k:Int),sM n,[]::rows')∧l.length=k∧k≤n∧Gj n A k m∧pJ rows' n (2*n) W m) (fun s=>((n:Int)-s.2.1).toNat) ?_ eB _
  ⟨0,[],rows,m0,rfl,rfl,by omega,h0,hM⟩ (by simp only [eB]; omega)
 rintro _ nx ⟨k,l,rows',m,rfl,hl,hk,hG,hM'⟩ hnext;show Gd (jJ (n:Int) l (k:Int) (sM n) ([]::rows') nx) _
 by_cases h:k<n
 ·have hd:=hG.E5 hp h
  refine Bw hl h (by omega) (by omega) (by omega) (by omega) hW hd hM' (fun c hc=>?_) (fun i c hi hc=>hB (k+1) _ (by omega) (hG.step h hd) i c hi hc) (fun rows'' hM''=>?_)
  ·rw [hG.left k c h (by omega) hc,lP (by omega)]
  ·exact hnext _ ⟨k+1,_,rows'',_,rfl,by simp [hl],by omega,hG.step h hd,hM''⟩ (by simp only; omega)
 ·obtain rfl:k=n:=by omega
  unfold jJ;refine Gd.ite (fun h=>absurd h (by simp)) (fun _=>Gd.ret ⟨rows',m,rfl,hl,hG,hM'⟩)
theorem wg {n:Nat} (hn:n≤1000):Gd (ln (n:Int)) (fun r=>∃ z,r=List.replicate n z∧lh z∧RL z 2∧rv z=0):=by
 unfold ln;refine Gd.eJ (sh (n:=0) (by omega)) (fun z hz=>Gd.nd (by simp; omega) (Gd.ret ⟨z,r9 _ _,hz.1,hz.2.1,by rw [hz.2.2]; rfl⟩))
theorem pJ.snoc {rows:List (List LR)}{n w W:Nat}{m:Mt} (h:pJ rows n w W m) {l:List LR} (h2:l.length=w) (h3:∀ c,c<w→∃ y,l[c]? = some y∧lh y∧RL y W∧rv y=m n c):pJ (rows++[l]) (n+1) w W m:=by
 refine ⟨by simp [h.len],fun i hi=>?_⟩
 by_cases e:i<n
 ·obtain ⟨l',a,b,c⟩:=h.row i e
  exact ⟨l',by rw [IM (by rw [h.len]; exact e)]; exact a,b,c⟩
 ·obtain rfl:i=n:=by omega
  exact ⟨l,by rw [HY (by rw [h.len]; omega),h.len,IT]; rfl,h2,h3⟩
def xa (n:Nat) (A:Mt):Mt:=fun i c=>if c<n then A i c else dl i (c-n)
theorem Cw (n:Nat) (A:Mt):Gj n A 0 (xa n A):=by
 have e:∀ i j,xa n A i (n+j)=dl i j:=fun i j=>by unfold xa; rw [Hh (by omega)]; congr 1; omega
 refine ⟨fun i c hi hc=>?_,fun i j _ _ _=>e i j,fun i c _ _ h=>by omega⟩
 have h1:sm n (fun j=>xa n A i (n+j)*A j c)=xa n A i (n+i)*A i c:=vZ (p:=i) hi (fun j hj hne=>by rw [e,lP (fun x=>hne x.symm)]; grind)
 rw [h1,e,mE];unfold xa;rw [if_pos hc]; grind
theorem D5 {n k W:Nat}{y:List LR}{z one:LR}{A:Mt} (hk:k<n) (hy:y.length=n) (hyc:∀ c,c<n→∃ v,y[c]? = some v∧lh v∧RL v W∧rv v=A k c) (hz:lh z∧RL z 2∧rv z=0) (ho:lh one∧RL one 2∧rv one=1) (hW:2≤W):
  ((([]++y)++List.replicate n z).set (n+k) one).length=2*n∧∀ c,c<2*n→∃ v,((([]++y)++List.replicate n z).set (n+k) one)[c]? = some v∧lh v∧RL v W∧rv v=xa n A k c:=by
 refine ⟨by simp [hy]; omega,fun c hc=>?_⟩
 rw [Jw];unfold xa
 by_cases h1:c<n
 ·obtain ⟨v,a,b,d,e⟩:=hyc c h1
  refine ⟨v,?_,b,d,by rw [Hl h1]; exact e⟩
  rw [HM (by omega),IM (by omega)]; exact a
 ·by_cases h2:c=n+k
  ·subst h2
   refine ⟨one,by rw [HS (by simp [hy]; omega)],ho.1,ho.2.1.mono hW,?_⟩
   rw [Hh h1,ho.2.2,JG,mE]
  ·refine ⟨z,?_,hz.1,hz.2.1.mono hW,?_⟩
   ·rw [HM (by omega),HY (by omega),JX,Hl (by omega)]
   ·rw [Hh h1,hz.2.2,lP (by omega)]
theorem zC {rows:List (List LR)}{n W:Nat}{A:Mt} (hn:n≤400) (hW:W≤100000) (hW2:2≤W) (hp:Pd n A) (hM:pJ rows n n W A)
  (hB:∀ k m,k≤n→Gj n A k m→∀ i c,i<n→c<2*n→RB (m i c) W):
  Gd (l7 rows) (fun r=>r.2=true∧∃ m,Gj n A n m∧pJ r.1 n n W (fun i c=>m i (n+c))):=by
 unfold l7;rw [hM.len];refine Gd.nd (by omega) ?_
 rw [Ha];refine Gd.jT (fun M i s=>i+M=n∧∃ pre:List (List LR),s=(yV n i,[]::pre)∧pJ pre i (2*n) W (xa n A)) ?_ ?_ n 0 _ ⟨by omega,[],by rw [u_],⟨rfl,fun i hi=>by omega⟩⟩
 ·rintro M i _ nx ⟨hiM,pre,rfl,hpre⟩ hnx
  have hi:i<n:=by omega
  obtain ⟨y,y1,y2,y3⟩:=hM.row i hi;unfold oL;rw [hM.len];refine Gd.ix (y:=y) (by omega) (by rw [Ha]; exact y1) (Gd.nd (by simp; omega) (Gd.eJ (wg (by omega)) ?_))
  rintro _ ⟨z,rfl,hz⟩;refine Gd.nd (by simp; omega) (Gd.ix (by omega) (by rw [Ha]; exact zc hi) ?_)
  have hlen:([]::pre:List (List LR)).length=i+1:=by simp [hpre.len]
  rw [hlen,Ha,uG hi];refine Gd.ix (by omega) (by rw [Ha]; exact DS hi) (Gd.eJ (sh (n:=1) (by omega)) (fun one ho=>?_))
  have ho2:lh one∧RL one 2∧rv one=1:=⟨ho.1,ho.2.1,by rw [ho.2.2]; rfl⟩
  have hrow:=D5 hi y2 y3 hz ho2 hW2;have hat:((([]::pre++[([]++y)++List.replicate n z]:List (List LR))[i+1]?).getD [])=([]++y)++List.replicate n z:=by
   rw [JQ,List.getElem?_cons_succ,HY (by rw [hpre.len]; omega),hpre.len,IT]; rfl
  rw [hat];have hwr:i64.wrap ((n:Int)+(i:Int))=((n+i:Nat):Int):=by rw [bP ⟨by omega,by omega⟩]; omega
  rw [hwr];refine Gd.ix (y:=z) (by omega) ?_ (hnx _ ⟨by omega,pre++[(([]++y)++List.replicate n z).set (n+i) one],?_,hpre.snoc hrow.1 hrow.2⟩)
  ·rw [Ha,Jw,HY (by omega),JX,Hl (by omega)]
  ·rw [Ha,JQ,List.set_cons_succ,MU _ _ (by rw [hpre.len]; omega),hpre.len,IT]
   rfl
 ·rintro i _ ⟨hi,pre,rfl,hpre⟩
  obtain rfl:i=n:=by omega
  show Gd ((mK (mX (yV i i) ([]::pre)) (i:Int)).bind _) _;rw [u9,wc hpre.len];refine Gd.eJ (Bx hn hW hp (Cw i A) hpre hB) ?_;rintro ⟨⟨sg,ls⟩,pv⟩ ⟨rows',m,he,hpl,hG,hM'⟩;obtain ⟨rfl,rfl⟩:=Prod.mk.inj he;simp only at hpl ⊢;rw [hpl];refine Gd.ite (fun h=>absurd (Hk h) (by omega)) (fun _=>?_)
  rw [ru];refine Gd.nd (by omega) ?_
  rw [Ha];refine Gd.jT (fun M k s=>k+M=i∧∃ rs:List (List LR),s=(sM i,[]::rs)∧rs.length=i∧∀ q,q<i→rs[q]? = if q<k then (rows'[q]?).map (·.drop i) else rows'[q]?) ?_ ?_ i 0 _
   ⟨by omega,rows',rfl,hM'.len,fun q _=>by rw [Hh (by omega)]⟩
  ·rintro M k _ nx ⟨hkM,rs,rfl,hrl,hrs⟩ hnx
   have hk:k<i:=by omega
   obtain ⟨l,l1,l2,l3⟩:=hM'.row k hk;have hat:rs[k]? = some l:=by rw [hrs k hk,Hh (by omega),l1]
   unfold oM;rw [hM.len];refine lE hk ?_;rw [Ax,hat,JA];refine Gd.nd (by omega) (lE hk (Gd.nd ?_ ?_))
   ·rw [Ha]
    refine Eg (fun j hj=>?_);have hjn:j<i:=by
     have:=(G6.1 hj).1
     rwa [ru] at this
    rw [xz hjn] at hj;have:=G7 hj;omega
   ·rw [Ha,Ha,uK hk,Fy]
    refine hnx _ ⟨by omega,_,rfl,by rw [Hw]; exact hrl,fun q hq=>?_⟩
    by_cases e:k=q
    ·subst e
     rw [HS (by omega),Hl (by omega),l1]; rfl
    ·rw [HM e,hrs q hq]
     by_cases e2:q<k
     ·rw [Hl e2,Hl (by omega)]
     ·rw [Hh e2,Hh (by omega)]
  ·rintro k _ ⟨hk,rs,rfl,hrl,hrs⟩
   refine Gd.ret ⟨rfl,m,hG,?_⟩;show pJ (mX (sM i) ([]::rs)) i i W _;rw [wc hrl];refine ⟨hrl,fun q hq=>?_⟩;obtain ⟨l,l1,l2,l3⟩:=hM'.row q hq;refine ⟨l.drop i,by rw [hrs q hq,Hl (by omega),l1]; rfl,by rw [Jh]; omega,fun c hc=>?_⟩
   obtain ⟨v,a,b,d,e⟩:=l3 (i+c) (by omega)
   exact ⟨v,by rw [Ib]; exact a,b,d,e⟩
def wq (k:Nat):Rat:=(((WB ^ k:Nat):Int):Rat)
theorem qQ (a b:Nat):wq a*wq b=wq (a+b):=by unfold wq; rw [Na,Ip,Nr]
theorem qR (a:Nat):1≤wq a:=by
 unfold wq;have h:(1:Nat)≤WB ^ a:=Nat.one_le_pow _ _ (by decide)
 have h2:(1:Int)≤((WB ^ a:Nat):Int):=by omega
 have:=Nq.2 h2
 rwa [Rat.intCast_one] at this
theorem sr {a b:Nat} (h:a≤b):wq a≤wq b:=by
 unfold wq;have h:WB ^ a≤WB ^ b:=Nd (by decide) h
 exact Nq.2 (by omega)
theorem u5 {x y a b:Rat} (h1:-a≤x) (h2:x≤a) (h3:-b≤y) (h4:y≤b):-(a*b)≤x*y∧x*y≤a*b:=by
 have e1:=Rat.mul_nonneg (show 0≤a-x by grind) (show 0≤b+y by grind)
 have e2:=Rat.mul_nonneg (show 0≤a+x by grind) (show 0≤b-y by grind)
 have e3:=Rat.mul_nonneg (show 0≤a-x by grind) (show 0≤b-y by grind)
 have e4:=Rat.mul_nonneg (show 0≤a+x by grind) (show 0≤b+y by grind)
 constructor <;> grind
theorem C1 {z:Int}{k:Nat} (h1:-wq k≤(z:Rat)) (h2:(z:Rat)≤wq k):z.natAbs<WB ^ (k+1):=by
 unfold wq at h1 h2;rw [← Ns] at h1;have a1:=Nq.1 h1;have a2:=Nq.1 h2;have a3:WB ^ k<WB ^ (k+1):=Nat.pow_lt_pow_right (by decide) (by omega)
 omega
theorem tJ {p q:Rat}{k:Nat} (hp:pF p) (hq:pF q) (p1:-wq k≤p) (p2:p≤wq k) (q1:-wq k≤q) (q2:q≤wq k) (q0:q≠0) (hk:k≤186):RB (p / q) (k+1):=by
 obtain ⟨a,rfl⟩:=hp;obtain ⟨b,rfl⟩:=hq;exact RB.ratio (C1 p1 p2) (C1 q1 q2) (fun e=>q0 (by rw [e]; rfl)) (by omega)
theorem RB.zero:RB 0 1:=by
 have:=RB.small (m:=0) (by decide)
 simpa using this
theorem RB.one:RB 1 1:=by
 have:=RB.small (m:=1) (by decide)
 simpa using this
theorem RB.dl (i j:Nat):RB (dl i j) 1:=by
 rcases rA i j with h | h <;> rw [h]
 ·exact RB.zero
 ·exact RB.one
theorem RB.sm {f:Nat→Rat}{a:Nat}:∀ {n:Nat},n*(a+1)+1≤700000→(∀ j,j<n→RB (f j) a)→RB (sm n f) (n*(a+1)+1)
 | 0,_,_=>RB.zero.mono (by omega)
 | n+1,hn,h=>by
  have e:(n+1)*(a+1)=n*(a+1)+(a+1):=Nat.succ_mul _ _;have h1:=RB.sm (n:=n) (by omega) (fun j hj=>h j (by omega))
  exact (h1.add (h n (by omega)) (by omega)).mono (by omega)
structure Nb (n:Nat) (A:Mt) (L:Nat→Rat) (B:Mt) (R:Nat→Rat):Prop where
 s:BN n A L B R
 hP:pr n R≤wq 60
 hL:∀ i,i<n→L i≤wq 18
theorem Nb.R {n:Nat}{A B:Mt}{L R:Nat→Rat} (h:Nb n A L B R) {i:Nat} (hi:i<n):R i≤wq 60:=by
 have key:∀ {m:Nat},(∀ j,j<m→1≤R j)→i<m→R i≤pr m R:=by
  intro m
  induction m with
  | zero=>intro _ h; omega
  | succ m ih=>
   intro h1 hi;have p1:1≤pr m R:=xv (fun j hj=>h1 j (by omega))
   show R i≤pr m R*R m
   by_cases e:i=m
   ·subst e
    have:=Rat.mul_le_mul_of_nonneg_right p1 (show 0≤R i by have:=h1 i hi; grind)
    grind
   ·have a:=ih (fun j hj=>h1 j (by omega)) (by omega)
    have:=Rat.mul_le_mul_of_nonneg_left (h1 m (by omega)) (show 0≤pr m R by grind)
    grind
 exact Nu (key (fun j hj=>h.s.R1 hj) hi) h.hP
theorem Nb.L0 {n:Nat}{A B:Mt}{L R:Nat→Rat} (h:Nb n A L B R) {i:Nat} (hi:i<n):L i≠0:=fun e=>by
 have:=h.s.l1 i hi; rw [e] at this; exact absurd this (by decide)
theorem Nb.ab {n:Nat}{A B:Mt}{L R:Nat→Rat} (h:Nb n A L B R) {i c:Nat} (hi:i<n) (hc:c<n):-wq 60≤L i*A i c∧L i*A i c≤wq 60:=by
 have h1:=h.s.ab i c hi hc;have h2:=E_ (f:=B i) (h.s.b0 i) hc;have h3:=h.s.rs i hi;have h4:=h.R hi;constructor <;> grind
theorem Nb.A {n:Nat}{A B:Mt}{L R:Nat→Rat} (h:Nb n A L B R) {i c:Nat} (hi:i<n) (hc:c<n):RB (A i c) 61:=by
 have e:A i c=(L i*A i c) / L i:=by
  rw [Np];have:=Nw (L i) (h.L0 hi)
  grind
 rw [e];have l1:=h.s.l1 i hi;have l2:=h.hL i hi;have l3:=sr (show 18≤60 by omega)
 have w:=qR 60;exact tJ (h.s.ai i c hi hc) (h.s.li i hi) (h.ab hi hc).1 (h.ab hi hc).2 (by grind) (by grind) (h.L0 hi) (by omega)
def Dk (A:Mt) (L:Nat→Rat) (k:Nat):Rat:=mq k (fun r c=>L r*A r c)
theorem Nb.D0 {n:Nat}{A B:Mt}{L R:Nat→Rat} (h:Nb n A L B R) (hp:Pd n A):∀ {k:Nat},k≤n→Dk A L k≠0∧∃ m,Gj n A k m
 | 0,_=>⟨by show (1:Rat)≠0; decide,_,Cw n A⟩
 | k+1,hk=>by
  obtain ⟨d,m,hG⟩:=h.D0 hp (k:=k) (by omega)
  have hd:=hG.E5 hp (by omega)
  refine ⟨?_,_,hG.step (by omega) hd⟩
  have e:=hG.mq (k:=k) (by omega) (L:=L) (fun i hi=>h.L0 hi)
  show Sim.mq (k+1) (fun r c=>L r*A r c)≠0;rw [e];intro h0;rcases Nv.1 h0 with h1 | h1
  ·rcases Nv.1 h1 with h2 | h2
   ·exact h.L0 (by omega) h2
   ·exact hd h2
  ·exact d h1
theorem Nb.Db {n:Nat}{A B:Mt}{L R:Nat→Rat} (h:Nb n A L B R) {k:Nat} (hk:k≤n):pF (Dk A L k)∧-wq 60≤Dk A L k∧Dk A L k≤wq 60:=by
 obtain ⟨a,b,c⟩:=h.s.mq hk;have:=h.hP;refine ⟨a,?_,?_⟩ <;> unfold Dk <;> grind
theorem Nb.num {n:Nat}{A B m:Mt}{L R:Nat→Rat} (h:Nb n A L B R) (hp:Pd n A) {k:Nat} (hG:Gj n A k m) (hk:k≤n) {i p:Nat} (hi:i<n) (hpk:p<k):RB (m i (n+p)) 140:=by
 obtain ⟨N,n1,n2,n3,e⟩:=hG.num h.s hk hi hpk;obtain ⟨d1,d2,d3⟩:=h.Db hk;have d0:=(h.D0 hp hk).1;have hP:=h.hP;have p1:1≤pr n R:=xv (fun j hj=>h.s.R1 hj);have r1:=h.s.R1 hi;have r2:=h.R hi;have hNb:pr n R*R i≤wq 120:=by
  rw [← qQ 60 60];exact mc hP r2 (by grind) (by grind)
 have lp:=h.s.l1 p (by omega)
 have lp2:=h.hL p (by omega)
 have t:=u5 (x:=N) (y:=L p) (a:=wq 120) (b:=wq 18) (by grind) (by grind) (by have:=qR 18; grind) lp2
 rw [qQ] at t;have s0:(if k≤i then L i else 1)≠0:=by
  split
  ·exact h.L0 hi
  ·decide
 have s1:pF (if k≤i then L i else 1):=by
  split
  ·exact h.s.li i hi
  ·exact ⟨1,rfl⟩
 have s2:1≤(if k≤i then L i else 1)∧(if k≤i then L i else 1)≤wq 18:=by
  split
  ·exact ⟨h.s.l1 i hi,h.hL i hi⟩
  ·exact ⟨Nt,qR 18⟩
 generalize (if k≤i then L i else 1)=s at e s0 s1 s2
 have u:=u5 (x:=s) (y:=Dk A L k) (a:=wq 18) (b:=wq 60) (by have:=qR 18; grind) s2.2 d2 d3
 rw [qQ] at u;have e2:m i (n+p)=(N*L p) / (s*Dk A L k):=by
  have e3:s*m i (n+p)*Dk A L k=N*L p:=e;rw [← e3,Np];have h3:s*Dk A L k≠0:=fun hh=>by
   rcases Nv.1 hh with h1 | h1
   ·exact s0 h1
   ·exact d0 h1
  have:=Nw _ h3
  grind
 rw [e2];have w1:=sr (show 18+60≤139 by omega)
 have w2:=sr (show 120+18≤139 by omega)
 refine tJ (nT n1 (h.s.li p (by omega))) (nT s1 d1) (by grind) (by grind) (by grind) (by grind) ?_ (by omega)
 intro hh;rcases Nv.1 hh with h1 | h1
 ·exact s0 h1
 ·exact d0 h1
theorem Nb.rb {n:Nat}{A B:Mt}{L R:Nat→Rat} (h:Nb n A L B R) (hp:Pd n A) (hn:n≤24) (k:Nat) (m:Mt) (hk:k≤n) (hG:Gj n A k m) (i c:Nat) (hi:i<n) (hc:c<2*n):RB (m i c) 6000:=by
 have right:∀ p,p<n→RB (m i (n+p)) 140:=fun p hpn=>by
  by_cases e:p<k
  ·exact h.num hp hG hk hi e
  ·rw [hG.right i p hi hpn (by omega)]
   exact (RB.dl i p).mono (by omega)
 by_cases hcn:c<n
 ·rw [hG.Fk hk hi hcn]
  have h1:RB (sm k (fun j=>m i (n+j)*A j c)) (k*202+1):=RB.sm (a:=201) (by omega) (fun j hj=>(right j (by omega)).mul (h.A (by omega) hcn) (by omega))
  have h2:RB (if k≤i then A i c else 0) 61:=by
   split
   ·exact h.A hi hcn
   ·exact RB.zero.mono (by omega)
  exact (h1.add h2 (by omega)).mono (by omega)
 ·have e:c=n+(c-n):=by omega
  rw [e];exact (right (c-n) (by omega)).mono (by omega)
theorem Bf (l:List Int) (p:Int):Gd (iH l p) (fun r=>(r = -1∧p ∉ l)∨∃ (k:Nat) (h:k<l.length),r=k∧l[k]=p):=by
 unfold iH;refine Gd.jT (fun m i _=>i+m=l.length∧p ∉ l.take i) ?_ ?_ (l.length:Int).toNat 0 () ⟨by omega,by simp⟩
 ·intro m i _ nx ⟨hi,hno⟩ hnx
  unfold kH;refine Gd.iU (by omega) (Gd.ite (fun h=>Gd.ret (.inr ⟨i,by omega,rfl,?_⟩)) (fun h=>hnx () ⟨by omega,?_⟩))
  ·have:p=l[i]:=by simpa using h
   exact this.symm
  ·rw [Ig (by omega),HV,IJ]
   rintro (h' | h')
   ·exact hno h'
   ·simp [h'] at h
 ·intro i _ ⟨hi,hno⟩
  rw [HN (by omega)] at hno
  exact Gd.ret (.inl ⟨rfl,hno⟩)
structure BM (M:aW) (n N:Nat) (F:Nat→Nat) (l:List (Rat×Nat×Nat)) (t:Rat):Prop where
 hn:n≤23
 free:M.lN=(List.range n).map (fun i=>(F i:Int))
 inj:∀ i j,i<n→j<n→F i=F j→i=j
 lt:∀ i,i<n→F i<N
 hN:N≤24
 ll:l.length≤24
 el:∀ e ∈ l,e.2.1<N∧e.2.2<N
 fr:M.iT=l.map (fun e=>(e.2.1:Int))
 to:M.To=l.map (fun e=>(e.2.2:Int))
 bl:M.B_.length=l.length
 b:∀ (k:Nat) (y:LR),M.B_[k]? = some y→∃ e,l[k]? = some e∧lh y∧RL y 2∧rv y=t / e.1
def Et:Option Nat→Int
 | none=>-1
 | some i=>(i:Int)
def eo (o:Option Nat) (r:Nat):Rat:=if o=some r then 1 else 0
theorem pD (i r:Nat):eo (some i) r=dl i r:=by
 unfold eo dl
 by_cases e:i=r
 ·subst e; rw [Hl rfl,Hl rfl]
 ·rw [Hh (fun h=>e (G7 h)),Hh e]
theorem pC (r:Nat):eo none r=0:=Hh (by simp)
theorem yF {M:aW}{n N:Nat}{F:Nat→Nat}{l:List (Rat×Nat×Nat)}{t:Rat} (h:BM M n N F l t) (u:Nat):
  Gd (jt M (u:Int)) (fun r=>∃ o:Option Nat,r=Et o∧(∀ i,o=some i→i<n∧F i=u)∧∀ r,r<n→eo o r=dl (F r) u):=by
 unfold jt;refine Gd.eJ (Bf _ _) (fun r hr=>Gd.ret ?_);rw [h.free] at hr;rcases hr with ⟨rfl,hno⟩ | ⟨k,hk,rfl,e⟩
 ·refine ⟨none,rfl,fun i hi=>by simp at hi,fun r hr=>?_⟩
  rw [pC,lP];intro e;exact hno (II.2 ⟨r,Io.2 hr,by rw [e]⟩)
 ·have hkn:k<n:=by simpa using hk
  have e2:F k=u:=by simp at e; omega
  refine ⟨some k,rfl,fun i hi=>by obtain rfl:=G7 hi; exact ⟨hkn,e2⟩,fun r hr=>?_⟩
  rw [pD]
  by_cases e3:k=r
  ·subst e3; rw [mE,e2,mE]
  ·rw [lP e3,lP]
   intro e4;exact e3 (h.inj k r hkn hr (by omega))
theorem pJ.xG {rows:List (List LR)}{n w W:Nat}{m:Mt} (h:pJ rows n w W m) {p q:Nat} (hp:p<n) (hq:q<w) {e:LR}{d:Rat} (he:lh e) (hW:RL e W) (hv:rv e=m p q+d):
  pJ (rows.set p (((rows[p]?).getD []).set q e)) n w W (fun r c=>m r c+d*(dl p r*dl q c)):=by
 refine (h.set hp hq he hW).congr (fun r c _ _=>?_)
 by_cases e1:r=p∧c=q
 ·obtain ⟨rfl,rfl⟩:=e1
  rw [if_pos ⟨rfl,rfl⟩,mE,mE,hv]; grind
 ·rw [Hh e1]
  by_cases e2:p=r
  ·rw [lP (i:=q) (fun e=>e1 ⟨e2.symm,e.symm⟩)]; grind
  ·rw [lP e2]; grind
abbrev BL:=List (List LR)→Option aW
theorem E2 {n W:Nat}{nx:BL}{b:LR}{oi oj:Option Nat}{rows:List (List LR)}{m:Mt}{Q:aW→Prop} (hM:pJ rows n n W m) (hW:W≤1000) (hb:lh b) (hbl:RL b 2)
  (hi:∀ i,oi=some i→i<n) (hj:∀ j,oj=some j→j<n) (hne:∀ i,oi=some i→oj≠some i)
  (hnx:∀ rows',pJ rows' n n (W+3) (fun r c=>m r c-rv b*(eo oi r*eo oj c)-rv b*(eo oj r*eo oi c))→Gd (nx ([]::rows')) Q):
  Gd (fO (sM n) nx b (Et oi) (Et oj) ([]::rows)) Q:=by
 unfold fO eL;cases oi with
 | none=>
  refine Gd.ite (fun h=>absurd h (by simp [Et])) (fun _=>hnx rows ((hM.mono (by omega)).congr (fun r c _ _=>?_)))
  rw [pC,pC]; grind
 | some i=>
  cases oj with
  | none=>
   refine Gd.ite (fun h=>absurd h (by simp [Et])) (fun _=>hnx rows ((hM.mono (by omega)).congr (fun r c _ _=>?_)))
   rw [pC,pC]; grind
  | some j=>
   have hi:=hi i rfl;have hj:=hj j rfl;have hij:i≠j:=fun e=>hne i rfl (by rw [e])
   show Gd (if ((decide (0≤(i:Int)) && decide (0≤(j:Int)))=true) then _ else _) Q
   refine Gd.ite (fun _=>?_) (fun h=>absurd h (by simp))
   show Gd (idx (sM n) (i:Int) _) Q;refine lE hi (lE hj (lE hi (ou hM hi hj (fun y1 a1 a2 a3=>Gd.eJ (sq a1 hb a2 hbl (by omega)) (fun r1 b1=>?_)))))
   show Gd (idx (sM n) (j:Int) _) Q;refine lE hj (ou hM hj hi (fun y2 c1 c2 c3=>Gd.eJ (sq c1 hb c2 hbl (by omega)) (fun r2 d1=>?_)))
   show Gd (idx ((([]::rows:List (List LR))[i+1]?).getD []) (j:Int) _) Q;refine ou hM hi hj (fun _ _ _ _=>?_);have h2:=(hM.mono (show W≤W+3 by omega)).xG hi hj (d:=-rv b) b1.1 (b1.2.1.mono (by omega)) (by rw [b1.2.2,a3]; grind)
   show Gd (idx ((([]::(rows.set i (((rows[i]?).getD []).set j r1)):List (List LR))[j+1]?).getD []) (i:Int) _) Q;refine ou h2 hj hi (fun _ _ _ _=>?_);have h3:=h2.xG hj hi (d:=-rv b) d1.1 (d1.2.1.mono (by omega)) (by
    rw [d1.2.2,c3,lP hij]; grind)
   refine hnx _ (h3.congr (fun r c _ _=>?_));rw [pD,pD,pD,pD]; grind
theorem E3 {n W:Nat}{nx:BL}{b:LR}{oi oj:Option Nat}{rows:List (List LR)}{m:Mt}{Q:aW→Prop} (hM:pJ rows n n W m) (hW:W≤900) (hb:lh b) (hbl:RL b 2)
  (hi:∀ i,oi=some i→i<n) (hj:∀ j,oj=some j→j<n) (hne:∀ i,oi=some i→oj≠some i)
  (hnx:∀ rows',pJ rows' n n (W+6) (fun r c=>m r c+rv b*(eo oj r*eo oj c)-rv b*(eo oi r*eo oj c)-rv b*(eo oj r*eo oi c))→Gd (nx ([]::rows')) Q):
  Gd (fP (sM n) nx b (Et oi) (Et oj) ([]::rows)) Q:=by
 unfold fP;cases oj with
 | none=>
  refine Gd.ite (fun h=>absurd h (by simp [Et])) (fun _=>E2 (oj:=none) (hM.mono (show W≤W+3 by omega)) (by omega) hb hbl hi hj hne (fun rows' h'=>hnx rows' (h'.congr (fun r c _ _=>?_))))
  rw [pC,pC]; grind
 | some j=>
  have hj':=hj j rfl;show Gd (if (decide (0≤(j:Int))=true) then _ else _) Q
  refine Gd.ite (fun _=>?_) (fun h=>absurd h (by simp))
  show Gd (idx (sM n) (j:Int) _) Q;refine lE hj' (lE hj' (ou hM hj' hj' (fun y1 a1 a2 a3=>Gd.eJ (rq a1 hb a2 hbl (by omega)) (fun r1 b1=>ou hM hj' hj' (fun _ _ _ _=>?_)))))
  have h2:=(hM.mono (show W≤W+3 by omega)).xG hj' hj' (d:=rv b) b1.1 (b1.2.1.mono (by omega)) (by rw [b1.2.2,a3])
  refine E2 (oj:=some j) h2 (by omega) hb hbl hi hj hne (fun rows' h'=>hnx rows' (h'.congr (fun r c _ _=>?_)))
  rw [pD,pD]
theorem zE (l:List (Rat×(Nat→Rat))) (e:Rat×(Nat→Rat)) (r c:Nat):eU (l++[e]) r c=eU l r c+e.1*e.2 r*e.2 c:=by
 induction l with
 | nil=>show e.1*e.2 r*e.2 c+0=0+_; grind
 | cons a l ih=>show a.1*a.2 r*a.2 c+eU (l++[e]) r c=a.1*a.2 r*a.2 c+eU l r c+_; rw [ih]; grind
theorem wZ {α:Type}{l:List α}{k:Nat}{e:α} (f:α→Int) (h:l[k]? = some e):(l.map f)[k]? = some (f e):=by rw [HZ,h]; rfl
theorem FU {M:aW}{n N:Nat}{F:Nat→Nat}{l:List (Rat×Nat×Nat)}{t:Rat} (h:BM M n N F l t) {k W:Nat}{e:Rat×Nat×Nat} (he:l[k]? = some e) {b:LR} (hb:lh b) (hbl:RL b 2) (hbv:rv b=t / e.1)
  {nx:BL}{rows:List (List LR)}{pre:List (Rat×Nat×Nat)}{Q:aW→Prop} (hW:W≤800) (hM:pJ rows n n W (eU ((pre.map (wt t)).map (kc F))))
  (hnx:∀ rows',pJ rows' n n (W+9) (eU (((pre++[e]).map (wt t)).map (kc F)))→Gd (nx ([]::rows')) Q):
  Gd (gR M (sM n) k b ([]::rows) nx) Q:=by
 obtain ⟨q,u,v⟩:=e;unfold gR;rw [h.fr,h.to];have f1:=wZ (fun e:Rat×Nat×Nat=>(e.2.1:Int)) he;have f2:=wZ (fun e:Rat×Nat×Nat=>(e.2.2:Int)) he;have new:∀ r c,eU (((pre++[(q,u,v)]).map (wt t)).map (kc F)) r c=eU ((pre.map (wt t)).map (kc F)) r c+rv b*(dl (F r) u-dl (F r) v)*(dl (F c) u-dl (F c) v):=fun r c=>by
  rw [I4,I4];show eU (_++[_]) r c=_;rw [zE,hbv]; rfl
 refine Gd.ix (by omega) (by rw [Ha]; exact f1) ?_
 refine Gd.eJ (yF h u) ?_;rintro _ ⟨oi,rfl,i1,i2⟩;refine Gd.ix (by omega) (by rw [Ha]; exact f2) ?_
 refine Gd.eJ (yF h v) ?_;rintro _ ⟨oj,rfl,j1,j2⟩;refine Gd.ix (by omega) (by rw [Ha]; exact f1) (Gd.ix (by omega) (by rw [Ha]; exact f2) ?_)
 refine Gd.ite (fun huv=>?_) (fun huv=>?_)
 ·have e1:u=v:=by have:=Hk huv; simp only at this; omega
  subst e1;unfold eL;refine hnx rows ((hM.mono (by omega)).congr (fun r c _ _=>?_))
  rw [new]; grind
 ·have e1:u≠v:=fun e=>by subst e; simp at huv
  have hne:∀ i,oi=some i→oj≠some i:=fun i hi hj=>by
   have:=(i1 i hi).2;have:=(j1 i hj).2;omega
  have fin:∀ rows',pJ rows' n n (W+9) (fun r c=>eU ((pre.map (wt t)).map (kc F)) r c+rv b*(eo oi r*eo oi c)+rv b*(eo oj r*eo oj c)-rv b*(eo oi r*eo oj c)-rv b*(eo oj r*eo oi c))→Gd (nx ([]::rows')) Q:=fun rows' h'=>
   hnx rows' (h'.congr (fun r c hr hc=>by rw [new,i2 r hr,i2 c hc,j2 r hr,j2 c hc]; grind))
  cases oi with
  | none=>
   refine Gd.ite (fun h=>absurd h (by simp [Et])) (fun _=>E3 (oi:=none) (hM.mono (show W≤W+3 by omega)) (by omega) hb hbl (fun i hi=>(i1 i hi).1) (fun j hj=>(j1 j hj).1) hne (fun rows' h'=>fin rows' ((h'.mono (by omega)).congr (fun r c _ _=>?_))))
   rw [pC,pC]; grind
  | some i=>
   have hi:=(i1 i rfl).1;show Gd (if (decide (0≤(i:Int))=true) then _ else _) Q
   refine Gd.ite (fun _=>?_) (fun h=>absurd h (by simp))
   show Gd (idx (sM n) (i:Int) _) Q;refine lE hi (lE hi (ou hM hi hi (fun y1 a1 a2 a3=>Gd.eJ (rq a1 hb a2 hbl (by omega)) (fun r1 b1=>ou hM hi hi (fun _ _ _ _=>?_)))))
   have h2:=(hM.mono (show W≤W+3 by omega)).xG hi hi (d:=rv b) b1.1 (b1.2.1.mono (by omega)) (by rw [b1.2.2,a3])
   refine E3 (oi:=some i) h2 (by omega) hb hbl (fun i hi=>(i1 i hi).1) (fun j hj=>(j1 j hj).1) hne (fun rows' h'=>fin rows' ((h'.mono (by omega)).congr (fun r c _ _=>?_)))
   rw [pD,pD]
structure EU (rows:List (List LR)) (n:Nat) (A:Mt):Prop where
 ex:∃ m,Gj n A n m∧pJ rows n n 6000 (fun i c=>m i (n+c))
theorem Bh {M:aW}{n N:Nat}{F:Nat→Nat}{l:List (Rat×Nat×Nat)}{t:Rat} (h:BM M n N F l t) {B:Mt}{L R:Nat→Rat} (hp:Pd n (eU ((l.map (wt t)).map (kc F)))) (hB:Nb n (eU ((l.map (wt t)).map (kc F))) L B R):
  Gd (jW M) (fun M'=>∃ rows,M'={ M with mG:=rows }∧EU rows n (eU ((l.map (wt t)).map (kc F)))):=by
 have hn:=h.hn;have hfl:M.lN.length=n:=by rw [h.free]; simp
 unfold jW;rw [hfl,Ha,IS];refine Gd.nd (by omega) (Gd.nd (by omega) ?_)
 rw [Ha];refine Gd.jT (fun m i s=>i+m=n∧∃ pre:List (List LR),s=(yV n i,[]::pre)∧pJ pre i n 2 (fun _ _=>0)) ?_ ?_ n 0 _ ⟨by omega,[],by rw [u_],⟨rfl,fun i hi=>by omega⟩⟩
 ·rintro m i _ nx ⟨him,pre,rfl,hpre⟩ hnx
  have hi:i<n:=by omega
  unfold lM;rw [hfl];refine Gd.eJ (wg (by omega)) ?_
  rintro _ ⟨z,rfl,hz⟩;refine Gd.ix (by omega) (by rw [Ha]; exact zc hi) (hnx _ ⟨by omega,pre++[List.replicate n z],?_,hpre.snoc (by simp) (fun c hc=>⟨z,by rw [JX,Hl hc],hz.1,hz.2.1,hz.2.2⟩)⟩)
  rw [Ha,Hz,hpre.len,uG hi]; rfl
 ·rintro i _ ⟨hi,pre,rfl,hpre⟩
  obtain rfl:i=n:=by omega
  show Gd (dW (fun k y s1523 n=>gR M (yV i i) k y s1523 n) _ 0 M.B_ ([]::pre)) _;rw [u9];refine Gd.dW (fun k ys s=>∃ (bs:List LR) (rows:List (List LR)),M.B_=bs++ys∧bs.length=k∧s=[]::rows∧pJ rows i i (2+9*k) (eU (((l.take k).map (wt t)).map (kc F)))) ?_ ?_ M.B_ 0 _ ⟨[],pre,rfl,rfl,rfl,by rw [LG]; exact hpre⟩
  ·rintro k y ys _ nx ⟨bs,rows,hbs,hbk,rfl,hM⟩ hnx
   have hy:M.B_[k]? = some y:=by rw [hbs,HY (by omega),hbk,IT]; rfl
   obtain ⟨e,he,y1,y2,y3⟩:=h.b k y hy;have hkl:=(G6.1 he).1;have hll:=h.ll;have e2:l.take (k+1)=l.take k++[e]:=by
    rw [Ig hkl,(G6.1 he).2]
   refine FU h he y1 y2 y3 (by omega) hM (fun rows' h'=>hnx _ ⟨bs++[y],rows',by rw [hbs]; simp,by simp [hbk],rfl,?_⟩)
   rw [e2];exact h'.mono (by omega)
  ·rintro k _ ⟨bs,rows,hbs,hbk,rfl,hM⟩
   have hll:=h.ll;have hbl:=h.bl;rw [Ia] at hbs;have hkl:k=l.length:=by rw [← hbl,hbs,hbk]
   rw [hkl,I5] at hM;show Gd ((l7 (mX (sM i) ([]::rows))).bind _) _;rw [wc hM.len];refine Gd.eJ (zC (by omega) (by omega) (by omega) hp (hM.mono (by omega)) (hB.rb hp (by omega))) (fun r hr=>Gd.ret ⟨r.1,rfl,⟨hr.2⟩⟩)
abbrev Net:=aC
theorem Gd.forAll {R α σ:Type}{Q:R→Prop}{body:Nat→α→σ→(σ→Option R)→Option R}{k:σ→Option R}{l:List α} (P:α→Prop) (J:σ→Prop)
  (hb:∀ i y s n,y ∈ l→J s→(P y→∀ s',J s'→Gd (n s') Q)→Gd (body i y s n) Q) (hk:(∀ x ∈ l,P x)→∀ s,J s→Gd (k s) Q) (s:σ) (hs:J s):Gd (Sim.dW body k 0 l s) Q:=by
 have key:∀ (ys pre:List α) (i:Nat) (s:σ),l=pre++ys→(∀ x ∈ pre,P x)→J s→Gd (Sim.dW body k i ys s) Q:=by
  intro ys
  induction ys with
  | nil=>intro pre i s hl hp hs; exact hk (by rw [hl,Ia]; exact hp) s hs
  | cons y ys ih=>
   intro pre i s hl hp hs;refine hb i y s _ (by rw [hl]; exact IH _ (He ..)) hs (fun hP s' hs'=>?_)
   exact ih (pre++[y]) (i+1) s' (by rw [hl]; simp) (fun x hx=>by
    rcases HV.1 hx with hx | hx
    ·exact hp x hx
    ·simp at hx; subst hx; exact hP) hs'
 exact key l [] 0 s rfl (by simp) hs
theorem yC (s:ByteArray) (h:s.size≤maxLen):Gd (cK s) (fun _=>True):=by
 unfold cK;refine Gd.nd h (Gd.dW (fun _ _ _=>True) (fun i y ys s n _ hn=>?_) (fun i s _=>Gd.ret G_) _ _ _ G_);unfold nI;exact Gd.ite (fun _=>Gd.ret G_) (fun _=>hn _ G_)
theorem wH (l:List ByteArray) (p:ByteArray):Gd (bB l p) (fun r=>(r = -1∧p ∉ l)∨∃ (k:Nat) (h:k<l.length),r=k∧l[k]=p):=by
 unfold bB;refine Gd.jT (fun m i _=>i+m=l.length∧p ∉ l.take i) ?_ ?_ (l.length:Int).toNat 0 () ⟨by omega,by simp⟩
 ·intro m i _ nx ⟨hi,hno⟩ hnx
  unfold iW;refine Gd.iU (by omega) (Gd.ite (fun h=>Gd.ret (.inr ⟨i,by omega,rfl,?_⟩)) (fun h=>hnx () ⟨by omega,?_⟩))
  ·have:p=l[i]:=by simpa using h
   exact this.symm
  ·rw [Ig (by omega),HV,IJ]
   rintro (h' | h')
   ·exact hno h'
   ·simp [h'] at h
 ·intro i _ ⟨hi,hno⟩
  rw [HN (by omega)] at hno
  exact Gd.ret (.inl ⟨rfl,hno⟩)
theorem sX {l:List ByteArray}{p:ByteArray} (h:p ∈ l):∃ k:Nat,bB l p=some (k:Int)∧∃ hk:k<l.length,l[k]=p:=by
 obtain ⟨r,hr,h2⟩:=wH l p;rcases h2 with ⟨_,hno⟩ | ⟨k,hk,rfl,e⟩
 ·exact absurd h hno
 ·exact ⟨k,hr,hk,e⟩
theorem pH (l:List ByteArray) (p:ByteArray):Gd (cJ l p) (fun b=>b=true↔p ∈ l):=by
 unfold cJ;refine Gd.eJ (wH l p) (fun r hr=>Gd.ret ?_);rcases hr with ⟨rfl,hno⟩ | ⟨k,hk,rfl,e⟩
 ·simp [hno]
 ·have:p ∈ l:=e▸Iy _
  simp [this]
theorem pL (c:aQ) (name:ByteArray) (nodes:List ByteArray) (h:name.size≤maxLen):
  Gd (bW c name nodes) (fun r=>r.1=0→∀ x ∈ nodes,x ∈ c.nodes):=by
 unfold bW;refine Gd.eJ (yC name h) (fun a _=>Gd.ite (fun _=>Gd.ret (fun h=>by simp at h)) (fun _=>Gd.ite (fun _=>Gd.ret (fun h=>by simp at h)) (fun _=>?_)))
 refine Gd.forAll (fun x=>x ∈ c.nodes) (fun _=>True) ?_ ?_ () G_
 ·intro i y s n hy _ hn
  unfold eY;refine Gd.eJ (pH c.nodes y) (fun b hb=>Gd.ite (fun _=>Gd.ret (fun h=>by simp at h)) (fun h=>hn (hb.1 (by simpa using h)) _ G_))
 ·intro hall s _
  refine Gd.ite (fun h=>?_) (fun _=>Gd.ret (fun _=>hall));have h2:nodes.length=2:=by
   have:((nodes.length:Nat):Int)=2:=by simpa using h
   omega
  have e1:(0:Int)=((0:Nat):Int):=rfl;have e2:(1:Int)=((1:Nat):Int):=rfl;rw [e1,e2];exact Gd.iU (by omega) (Gd.iU (by omega) (Gd.ite (fun _=>Gd.ret (fun h=>by simp at h)) (fun _=>Gd.ret (fun _=>hall))))
structure na (n:Net):Prop where
 nd:∀ x ∈ n.bJ,x.size≤maxLen
 sw:∀ x ∈ n.bM,x.Name.size≤maxLen
 br:∀ x ∈ n.aS,x.Name.size≤maxLen
 gn:∀ x ∈ n.dR,x.Name.size≤maxLen
 ld:∀ x ∈ n.bQ,x.Name.size≤maxLen
 st:∀ x ∈ n.bY,x.Name.size≤maxLen
structure ly (n:Net):Prop where
 l1:n.bJ.length≤24
 l2:n.bM.length≤32
 l3:n.aS.length≤24
 l4:n.dR.length≤10
 l5:n.bQ.length≤12
 sw:∀ x ∈ n.bM,x.A ∈ n.bJ∧x.B_ ∈ n.bJ
 br:∀ x ∈ n.aS,x.iT ∈ n.bJ∧x.To ∈ n.bJ
 gn:∀ x ∈ n.dR,x.Node ∈ n.bJ∧0≤x.c_∧x.c_≤x.gK∧x.gK≤100000
 ld:∀ x ∈ n.bQ,x.Node ∈ n.bJ∧0≤x.bL∧x.bL≤100000
theorem D1 (c:aQ) (n:Net) (hz:na n):
  Gd (eM c n) (fun r=>r.1=0→(∀ x ∈ n.dR,x.Node ∈ c.nodes∧0≤x.c_∧x.c_≤x.gK∧x.gK≤100000)∧(∀ x ∈ n.bQ,x.Node ∈ c.nodes∧0≤x.bL∧x.bL≤100000)):=by
 unfold eM;refine Gd.forAll (fun x=>x.Node ∈ c.nodes∧0≤x.c_∧x.c_≤x.gK∧x.gK≤100000) (fun _=>True) ?_ ?_ _ G_
 ·intro i y s nx hy _ hn
  unfold fV;refine Gd.eJ (pL _ _ _ (hz.gn y hy)) (fun r hr=>Gd.ite (fun h=>Gd.ret (fun h2=>absurd h2 (by simpa using h))) (fun h=>Gd.ite (fun _=>Gd.ret (fun h2=>by simp at h2)) (fun h2=>hn ?_ _ G_)))
  have h0:r.1=0:=by simpa using h
  have:=hr h0 y.Node (by simp)
  simp [aX,bI] at h2;exact ⟨this,by omega,by omega,by omega⟩
 ·intro hg s _
  refine Gd.forAll (fun x=>x.Node ∈ c.nodes∧0≤x.bL∧x.bL≤100000) (fun _=>True) ?_ ?_ _ G_
  ·intro i y s nx hy _ hn
   unfold fW;refine Gd.eJ (pL _ _ _ (hz.ld y hy)) (fun r hr=>Gd.ite (fun h=>Gd.ret (fun h2=>absurd h2 (by simpa using h))) (fun h=>Gd.ite (fun _=>Gd.ret (fun h2=>by simp at h2)) (fun h2=>hn ?_ _ G_)))
   have h0:r.1=0:=by simpa using h
   have:=hr h0 y.Node (by simp)
   simp [aX,bI] at h2;exact ⟨this,by omega,by omega⟩
  ·intro hl s _
   refine Gd.forAll (fun _=>True) (fun _=>True) ?_ ?_ _ G_
   ·intro i y s nx hy _ hn
    unfold fX;refine Gd.eJ (pL _ _ _ (hz.st y hy)) (fun r hr=>Gd.ite (fun h=>Gd.ret (fun h2=>absurd h2 (by simpa using h))) (fun h=>Gd.ite (fun _=>Gd.ret (fun h2=>by simp at h2)) (fun _=>hn G_ _ G_)))
   ·intro _ s _
    exact Gd.ret fun _=>⟨hg,hl⟩
theorem Cc (n:Net) (hz:na n):Gd (cI n) (fun e=>e=0→ly n):=by
 unfold cI;refine Gd.ite (fun _=>Gd.ret (fun h=>by simp at h)) (fun hl=>?_)
 simp only [Mv,NC,Int.not_lt] at hl;refine Gd.forAll (fun _=>True) (fun _=>True) ?_ ?_ _ G_
 ·intro i y s nx hy _ hn
  unfold jX;exact Gd.eJ (pL _ _ _ (hz.nd y hy)) (fun r hr=>Gd.ite (fun h=>Gd.ret (fun h2=>absurd h2 (by simpa using h))) (fun h=>hn G_ _ G_))
 intro _ s _;refine Gd.forAll (fun x=>x.A ∈ n.bJ∧x.B_ ∈ n.bJ) (fun _=>True) ?_ ?_ _ G_
 ·intro i y s nx hy _ hn
  unfold jY;refine Gd.eJ (pL _ _ _ (hz.sw y hy)) (fun r hr=>Gd.ite (fun h=>Gd.ret (fun h2=>absurd h2 (by simpa using h))) (fun h=>hn ?_ _ G_))
  have h0:r.1=0:=by simpa using h
  exact ⟨hr h0 y.A (by simp),hr h0 y.B_ (by simp)⟩
 intro hsw s _;refine Gd.forAll (fun x=>x.iT ∈ n.bJ∧x.To ∈ n.bJ) (fun _=>True) ?_ ?_ _ G_
 ·intro i y s nx hy _ hn
  unfold jZ;refine Gd.eJ (pL _ _ _ (hz.br y hy)) (fun r hr=>Gd.ite (fun h=>Gd.ret (fun h2=>absurd h2 (by simpa using h))) (fun h=>Gd.ite (fun h=>Gd.ret (fun h2=>absurd h2 (by simpa using h))) (fun _=>hn ?_ _ G_)))
  have h0:r.1=0:=by simpa using h
  exact ⟨hr h0 y.iT (by simp),hr h0 y.To (by simp)⟩
 intro hbr s _;refine Gd.eJ (D1 _ n hz) (fun r hr=>Gd.ret (fun h=>?_));obtain ⟨hg,hl2⟩:=hr h;exact ⟨by omega,by omega,by omega,by omega,by omega,hsw,hbr,hg,hl2⟩
def xI (N:Nat) (l:List bS):Prop:=∀ e ∈ l,0≤e.a0∧e.a0<N∧0≤e.a1∧e.a1<N
structure s7 (N:Nat) (many:Int) (out:List Int):Prop where
 len:out.length=N
 DH:∀ v ∈ out,-1≤v∧v<many
def uE (N:Nat) (l:List Int):Prop:=∀ a ∈ l,0≤a∧a<(N:Int)
def nL (out:List Int):Nat:=out.countP (fun v=>decide (v<0))
theorem s7.set {N:Nat}{many:Int}{out:List Int} (h:s7 N many out) {v:Int} (hv:0≤v∧v<many) (i:Nat):s7 N many (out.set i v):=
 ⟨by simp [h.len],fun x hx=>by
  rcases MR hx with hx | rfl
  ·exact h.DH x hx
  ·omega⟩
theorem yz {out:List Int}{i:Nat} (hi:i<out.length) (hn:out[i]<0) {v:Int} (hv:0≤v):nL (out.set i v)+1=nL out:=by
 unfold nL;rw [List.countP_set hi];have h1:decide (out[i]<0)=true:=decide_eq_true hn;have h2:decide (v<0)=false:=NB (by omega)
 rw [h1,h2];have hpos:0<out.countP (fun v=>decide (v<0)):=List.countP_pos_iff.2 ⟨_,Iy hi,h1⟩;simp;omega
def sI (a b:List Int):Prop:=∀ (i:Nat) (v:Int),a[i]? = some v→0≤v→∃ w,b[i]? = some w∧0≤w
theorem sI.refl (a:List Int):sI a a:=fun i v h h0=>⟨v,h,h0⟩
theorem sI.set {a b:List Int} (h:sI a b) (i:Nat) {v:Int} (hv:0≤v):sI a (b.set i v):=by
 intro j w hj hw;obtain ⟨u,hu,hu0⟩:=h j w hj hw
 by_cases e:i=j
 ·subst e
  exact ⟨v,by simp [(G6.1 hu).1],hv⟩
 ·exact ⟨u,by rw [HM e]; exact hu,hu0⟩
theorem C9 (N:Nat) (hN:N≤24) (l:List bS) (hl:xI N l) (hll:l.length≤64) (wo:Int):Gd (lj N l wo) (fun r=>r.length=N∧∀ v ∈ r,0≤v∧v<N):=by
 unfold lj;refine Gd.nd ⟨rfl,by omega,by omega⟩ (Gd.nd (by omega) ?_)
 rw [r9];refine Gd.jT (fun m i s=>i+m=N∧0≤s.2∧s.2≤(i:Int)∧s7 N s.2 s.1∧∀ (j:Nat) (v:Int),j<i→s.1[j]? = some v→0≤v) ?_ ?_ (N:Int).toNat 0 (List.replicate N (-1),0) ⟨by omega,by simp,by simp,⟨by simp,by simp⟩,by simp⟩
 ·rintro m i ⟨out,many⟩ nx ⟨hi,h0,hmi,hp,hk⟩ hn
  simp only at h0 hmi hp hk;have hilt:i<out.length:=by rw [hp.len]; omega
  unfold mf;refine Gd.iU hilt (Gd.ite (fun h=>?_) (fun h=>?_))
  ·have hge:0≤out[i]:=by simpa using h
   unfold gF;refine hn _ ⟨by omega,h0,by show many≤((i+1:Nat):Int); omega,hp,fun j v hj hv=>?_⟩
   by_cases e:j=i
   ·subst e
    rw [G9 hilt] at hv;cases hv; exact hge
   ·exact hk j v (by omega) hv
  ·have hneg:out[i]<0:=by simpa using h
   refine Gd.iU hilt ?_;rw [Ha];have hw:i64.wrap (many+1)=many+1:=bP ⟨by omega,by omega⟩
   have hp1:s7 N (many+1) out:=⟨hp.len,fun v hv=>by have:=hp.DH v hv; omega⟩
   have hbase0:2*nL (out.set i many)+[(i:Int)].length≤2*N+1:=by
    have hc:nL (out.set i many)≤N:=by unfold nL; rw [← hp.len,← Hw (as:=out) (i:=i) (a:=many)]; exact Kf
    simp only [Is]; omega
   refine Gd.fD (fun (s:List Int×List Int)=>s7 N (many+1) s.1∧sI (out.set i many) s.1∧uE N s.2∧2*nL s.1+s.2.length≤2*N+1) (fun s=>2*nL s.1+s.2.length) ?_ eB _ ⟨hp1.set ⟨h0,by omega⟩ i,sI.refl _,by intro a ha; simp at ha; omega,hbase0⟩ ?_
   ·rintro ⟨o,todo⟩ nx2 ⟨hq,hkp,htd,htot⟩ hn2
    simp only at hq hkp htd htot;unfold mg;refine Gd.ite (fun hne=>?_) (fun _=>?_)
    ·have hne:0<todo.length:=by
      have:(0:Int)<((todo.length:Nat):Int):=by simpa using hne
      omega
     obtain ⟨at_,ts,rfl⟩:∃ a ts,todo=a::ts:=by
      cases todo with
      | nil=>simp at hne
      | cons a ts=>exact ⟨a,ts,rfl⟩
     refine Gd.ix (y:=at_) (by decide) rfl (Gd.nd ⟨by omega,by simp only [Hz]; omega⟩ ?_)
     have hat:=htd at_ (He ..);have hsl:nr (at_::ts) (1:Int).toNat (at_::ts).length=ts:=by
      unfold nr;rw [show (1:Int).toNat=1 from rfl,Mj,Jg,HN (by simp)]
     rw [hsl];simp only [Hz] at htot;have push:∀ (b:List Int) (td:List Int) (q:Int) (nn:(List Int×List Int)→Option (List Int)),0≤q→q<N→s7 N (many+1) b→sI (out.set i many) b→uE N td→2*nL b+td.length≤2*nL o+ts.length →
       (∀ s',(s7 N (many+1) s'.1∧sI (out.set i many) s'.1∧uE N s'.2∧2*nL s'.1+s'.2.length≤2*nL o+ts.length)→Gd (nn s') (fun r=>r.length=N∧∀ v ∈ r,0≤v∧v<N)) →
       Gd (Sim.idx b q fun y7689=>if decide (y7689<0) then (Sim.idx b q fun y7694=>dN ((td.length+([q]).length)*8≤140737488355328) (dA nn (b.set (q:Int).toNat many) (td++([q])))) else (dA nn b td)) (fun r=>r.length=N∧∀ v ∈ r,0≤v∧v<N):=by
      intro b td q nn q0 qN hb hkb htd2 hms hnn;have hql:q.toNat<b.length:=by rw [hb.len]; omega
      have hget:b[q.toNat]? = some b[q.toNat]:=G9 hql;unfold dA;refine Gd.ix q0 hget (Gd.ite (fun h=>Gd.ix q0 hget (Gd.nd ?_ (hnn _ ⟨hb.set ⟨h0,by omega⟩ _,hkb.set _ h0,?_,?_⟩))) (fun h=>hnn _ ⟨hb,hkb,htd2,hms⟩))
      ·have h1:b[q.toNat]<0:=by simpa using h
       have hc:nL o≤N:=by unfold nL; rw [← hq.len]; exact Kf
       simp;omega
      ·intro a ha
       rcases HV.1 ha with ha | ha
       ·exact htd2 a ha
       ·simp at ha; omega
      ·have h1:b[q.toNat]<0:=by simpa using h
       have:=yz hql h1 h0;simp;omega
     have hc:nL o≤N:=by unfold nL; rw [← hq.len]; exact Kf
     ·refine Gd.forAll (fun _=>True) (fun (s:List Int×List Int)=>s7 N (many+1) s.1∧sI (out.set i many) s.1∧uE N s.2∧2*nL s.1+s.2.length≤2*nL o+ts.length) ?_ ?_ _ ⟨hq,hkp,(fun a ha=>htd a (Ho _ ha):uE N ts),HH (2*nL o+ts.length)⟩
      ·rintro k e ⟨b,td⟩ nn he ⟨hb,hkb,htd2,hms⟩ hnn
       simp only at hb hkb htd2 hms;obtain ⟨e1,e2,e3,e4⟩:=hl e he;have hw1:i64.wrap (e.a0+e.a1)=e.a0+e.a1:=bP ⟨by omega,by omega⟩
       have hw2:i64.wrap (e.a0+e.a1-at_)=e.a0+e.a1-at_:=bP ⟨by omega,by omega⟩
       unfold mh;rw [hw1,hw2];refine Gd.ite (fun _=>hnn G_ _ ⟨hb,hkb,htd2,hms⟩) (fun _=>Gd.ite (fun h=>?_) (fun _=>Gd.ite (fun _=>hnn G_ _ ⟨hb,hkb,htd2,hms⟩) (fun h=>?_)))
       ·have h:e.a0=at_:=by simpa using h
        exact push b td _ nn (by omega) (by omega) hb hkb htd2 hms (fun s' hs'=>hnn G_ s' hs')
       ·have h:e.a1=at_:=by simpa using h
        exact push b td _ nn (by omega) (by omega) hb hkb htd2 hms (fun s' hs'=>hnn G_ s' hs')
      ·rintro _ ⟨b,td⟩ ⟨hb,hkb,htd2,hms⟩
       simp only at hb hkb htd2 hms;exact hn2 _ ⟨hb,hkb,htd2,by show 2*nL b+td.length≤2*N+1; omega⟩ (by simp only [Hz]; omega)
    ·unfold gF
     rw [hw];refine hn _ ⟨by omega,by show (0:Int)≤many+1; omega,by show many+1≤((i+1:Nat):Int); omega,hq,fun j v hj hv=>?_⟩
     have hjl:j<out.length:=by omega
     have hbase:∃ w,(out.set i many)[j]? = some w∧0≤w:=by
      by_cases e:i=j
      ·subst e; exact ⟨many,by simp [hilt],h0⟩
      ·exact ⟨out[j],by rw [HM e]; exact G9 hjl,hk j _ (by omega) (G9 hjl)⟩
     obtain ⟨w,hw1,hw0⟩:=hbase;obtain ⟨u,hu,hu0⟩:=hkp j w hw1 hw0;simp only at hv;rw [hu] at hv; cases hv; exact hu0
   ·refine KD hbase0 ?_
    unfold eB; omega
 ·rintro i ⟨out,many⟩ ⟨hi,h0,hmi,hp,hk⟩
  simp only at h0 hmi hp hk;refine Gd.ret ⟨hp.len,fun v hv=>?_⟩;obtain ⟨j,hj,hje⟩:=IN.1 hv;have hj:j<out.length:=hj;have h1:=hp.DH v hv;have h2:=hk j v (by have:=hp.len; omega) (by rw [G9 hj]; exact HB some hje)
  omega
theorem wE (N:Nat) (hN:N≤24) (l:List bS) (hl:xI N l) (hll:l.length≤64):nc N l=some 0:=by
 rw [← Gd.eq];unfold nc;refine Gd.ite (fun h=>?_) (fun _=>Gd.forAll (Q:=fun x=>x=0) (fun _=>True) (fun _=>True) ?_ (fun _ _ _=>Gd.ret rfl) _ G_)
 ·simp at h; omega
 ·intro i e s n he _ hn
  obtain ⟨e1,e2,e3,e4⟩:=hl e he;unfold oH;exact Gd.ite (fun h=>by simp at h; omega) (fun _=>Gd.ite (fun h=>by simp at h; omega) (fun _=>Gd.ite (fun h=>by simp at h; omega) (fun _=>Gd.ite (fun h=>by simp at h; omega) (fun _=>hn G_ _ G_))))
theorem Ce (N:Nat) (hN:N≤24) (l:List bS) (hl:xI N l) (hll:l.length≤64):Gd (fS N l) (fun r=>r.1.length=N∧uE N r.1):=by
 unfold fS;refine Gd.bind_eq (wE N hN l hl hll) (Gd.ite (fun h=>by simp at h) (fun _=>Gd.eJ (C9 N hN l hl hll (-1)) (fun r hr=>Gd.ret hr)))
theorem Cv (n:Net) (hn:ly n) (o:Bool):Gd (lX n o) (fun r=>r.1.length≤32∧xI n.bJ.length r.1):=by
 unfold lX;refine Gd.dW (fun i ys s=>i+ys.length=n.bM.length∧(∀ y ∈ ys,y ∈ n.bM)∧s.1.length≤i∧s.2.length≤i∧xI n.bJ.length s.1) ?_ ?_ _ _ _ ⟨by simp,fun _ h=>h,by simp,by simp,by intro e he; simp at he⟩
 ·rintro i y ys ⟨a,b⟩ nx ⟨hi,hm,ha,hb,he⟩ hnx
  simp only [Hz] at hi ha hb he;have h2:=hn.l2;have hys:∀ z ∈ ys,z ∈ n.bM:=fun z hz=>hm z (Ho _ hz);unfold nK kC;refine Gd.ite (fun _=>?_) (fun _=>hnx _ ⟨by omega,hys,by simp only; omega,by simp only; omega,he⟩)
  obtain ⟨h1,h2'⟩:=hn.sw y (hm y (He ..));obtain ⟨p,hp,hpl,_⟩:=sX h1;obtain ⟨q,hq,hql,_⟩:=sX h2';refine Gd.bind_eq hp (Gd.bind_eq hq (Gd.nd (by simp; omega) (Gd.nd (by simp; omega) (hnx _ ⟨by omega,hys,by simp; omega,by simp; omega,?_⟩))))
  intro e hme;rcases HV.1 hme with hme | hme
  ·exact he e hme
  ·simp at hme; subst hme
   exact ⟨by simp only; omega,by simp only; omega,by simp only; omega,by simp only; omega⟩
 ·rintro i ⟨a,b⟩ ⟨hi,hm,ha,hb,he⟩
  have h2:=hn.l2;simp only [MP] at hi ha;exact Gd.ret ⟨by simp only; omega,he⟩
theorem Cb (n:Net) (hn:ly n):Gd (kN n) (fun r=>r.length=n.bJ.length∧uE n.bJ.length r):=by
 unfold kN;refine Gd.eJ (Cv n hn false) (fun r hr=>?_);have h1:=hn.l1;exact Gd.eJ (Ce n.bJ.length hn.l1 r.1 hr.2 (by omega)) (fun r hr=>Gd.ret hr)
structure GD (n:Net) (t:aV):Prop where
 bl:t.kb.length=n.bJ.length
 bi:uE t.bA.length t.kb
 ii:uE t.bA.length t.bA
 il:t.bA.length≤24
theorem Ej {R:Type}{Q:R→Prop} (N:Nat) (hN:N≤24) (body:Nat→Int→Int→(Int→Option R)→Option R) (hb:∀ k y n nx,body k y n nx=nx (max n (i64.wrap (y+1)))) (K:Int→Option R) (l:List Int) (hl:uE N l)
  (hk:∀ m:Nat,m≤N→uE m l→Gd (K (m:Int)) Q):Gd (dW body K 0 l 0) Q:=by
 have key:∀ (ys pre:List Int) (i m:Nat),l=pre++ys→m≤N→uE m pre→Gd (dW body K i ys (m:Int)) Q:=by
  intro ys
  induction ys with
  | nil=>intro pre i m e hm hp; rw [Ia] at e; subst e; exact hk m hm hp
  | cons y ys ih=>
   intro pre i m e hm hp;have hy:=hl y (by rw [e]; exact IH _ (He ..))
   show Gd (body i y (m:Int) (fun s=>dW body K (i+1) ys s)) Q;rw [hb,bP ⟨by omega,by omega⟩]
   have hmx:max (m:Int) (y+1)=((max m (y+1).toNat:Nat):Int):=by omega
   rw [hmx];refine ih (pre++[y]) (i+1) _ (by rw [e]; simp) (by omega) (fun a ha=>?_)
   rcases HV.1 ha with ha | ha
   ·have:=hp a ha; omega
   ·simp at ha; subst ha; omega
 have:=key l [] 0 0 rfl (by omega) (by intro a ha; simp at ha)
 exact this
abbrev BA:=ByteArray
abbrev Seen:=List (ByteArray×Bool)
theorem CY (l:List (ByteArray×Bool)) (k k':ByteArray):(mW (qo l k true) k').getD false=((mW l k').getD false || decide (k=k')):=by
 have key:∀ (l:List (ByteArray×Bool)) (i:Nat),(∀ p,re l k' i=some p→re (l++[(k,true)]) k' i=some p)∧(re l k' i=none→re (l++[(k,true)]) k' i=if k=k' then some (i+l.length,true) else none):=by
  intro l
  induction l with
  | nil=>intro i; refine ⟨fun p h=>by simp [re] at h,fun _=>?_⟩; simp [re]
  | cons q l ih=>
   obtain ⟨a,b⟩:=q;intro i;simp only [JQ,re]
   by_cases h:a=k'
   ·simp [h]
   ·simp only [h,JL]
    refine ⟨(ih (i+1)).1,fun hn=>?_⟩;rw [(ih (i+1)).2 hn];simp; split
    ·simp; omega
    ·rfl
 have set_ne:∀ (l:List (ByteArray×Bool)) (i j:Nat) (v:Bool),re l k i=some (j,v)→mW (l.set (j-i) (k,true)) k'=if k=k' then some true else mW l k':=by
  intro l;unfold mW;have:∀ (l:List (ByteArray×Bool)) (i j:Nat) (v:Bool) (q:Nat),re l k i=some (j,v)→((re (l.set (j-i) (k,true)) k' q).map (·.2))=if k=k' then some true else (re l k' q).map (·.2):=by
   intro l
   induction l with
   | nil=>intro i j v q h; simp [re] at h
   | cons p l ih=>
    obtain ⟨a,b⟩:=p;intro i j v q h;simp only [re] at h
    split at h
    ·rename_i e
     simp only [H9,KY] at h;obtain ⟨rfl,rfl⟩:=h;subst e;rw [IT,List.set_cons_zero];simp only [re]
     by_cases e:a=k' <;> simp [e]
    ·rename_i e
     obtain ⟨h1,h2,_⟩:=zH h;rw [show j-i=(j-(i+1))+1 by omega,List.set_cons_succ]
     simp only [re];have:=ih (i+1) j v (q+1) h
     by_cases e2:a=k'
     ·subst e2
      have hk:k≠a:=fun x=>e x.symm;simp [hk]
     ·simp only [e2,JL]; exact this
  intro i j v h;exact this l i j v 0 h
 unfold qo;cases h:re l k 0 with
 | none=>
  simp only;unfold mW;cases h2:re l k' 0 with
  | none=>
   rw [(key l 0).2 h2]
   by_cases e:k=k' <;> simp [e]
  | some p=>
   rw [(key l 0).1 p h2]
   by_cases e:k=k'
   ·subst e; rw [h] at h2; cases h2
   ·simp [e]
 | some p=>
  obtain ⟨j,v⟩:=p;simp only;have:=set_ne l 0 j v h;rw [Lh] at this;rw [this]
  by_cases e:k=k' <;> simp [e]
def lJ (P:List BA) (s:Seen):Prop:=∀ k:BA,(mW s k).getD false=true↔k ∈ P
theorem lJ.nil:lJ [] ([]:Seen):=fun k=>by simp [mW,re]
theorem lJ.put {P:List BA}{s:Seen} (h:lJ P s) (k:BA):lJ (P++[k]) (qo s k true):=fun k'=>by
 rw [CY,Jd,h k',HV,IJ,IF];exact or_congr Iff.rfl ⟨fun e=>e.symm,fun e=>e.symm⟩
structure FL (ns P:List BA) (name:BA) (nodes:List BA):Prop where
 nm:cK name=some true
 nw:name ∉ P
 at_:∀ x ∈ nodes,x ∈ ns
 two:∀ a b,nodes=[a,b]→a≠b
theorem pK {c:aQ}{P:List BA} (hs:lJ P c.seen) {name:BA} (nodes:List BA) (h:name.size≤maxLen):
  Gd (bW c name nodes) (fun r=>r.1=0→FL c.nodes P name nodes∧lJ (P++[name]) r.2.seen):=by
 unfold bW;obtain ⟨b,hb,_⟩:=yC name h;refine Gd.bind_eq hb (Gd.ite (fun _=>Gd.ret (fun h=>by simp at h)) (fun hbt=>Gd.ite (fun _=>Gd.ret (fun h=>by simp at h)) (fun hsn=>?_)))
 have hbt:b=true:=by simpa using hbt
 subst hbt;have hnw:name ∉ P:=fun hm=>by rw [(hs name).2 hm] at hsn; cases hsn
 refine Gd.forAll (fun x=>x ∈ c.nodes) (fun _=>True) ?_ ?_ () G_
 ·intro i y s n hy _ hn
  unfold eY;refine Gd.eJ (pH c.nodes y) (fun b hb=>Gd.ite (fun _=>Gd.ret (fun h=>by simp at h)) (fun h=>hn (hb.1 (by simpa using h)) _ G_))
 ·intro hall s _
  refine Gd.ite (fun h=>?_) (fun h2=>Gd.ret (fun _=>⟨⟨hb,hnw,hall,fun a b e=>?_⟩,hs.put name⟩))
  ·have h2:nodes.length=2:=by
    have:((nodes.length:Nat):Int)=2:=by simpa using h
    omega
   obtain ⟨a,b,rfl⟩:∃ a b,nodes=[a,b]:=by
    match nodes,h2 with
    | [a,b],_=>exact ⟨a,b,rfl⟩
   refine Gd.ix (y:=a) (by decide) rfl (Gd.ix (y:=b) (by decide) rfl (Gd.ite (fun _=>Gd.ret (fun h=>by simp at h)) (fun hne=>Gd.ret (fun _=>⟨⟨hb,hnw,hall,fun p q e=>?_⟩,hs.put name⟩))))
   have hne:a≠b:=by simpa using hne
   simp at e;rw [← e.1,← e.2]; exact hne
  ·subst e
   simp at h2
theorem qV {c:aQ}{P:List BA} (hs:lJ P c.seen) {name:BA}{nodes:List BA} (h:FL c.nodes P name nodes):
  bW c name nodes=some (0,⟨qo c.seen name true,c.nodes⟩):=by
 rw [← Gd.eq];unfold bW;refine Gd.bind_eq h.nm (Gd.ite (fun h=>by simp at h) (fun _=>Gd.ite (fun hsn=>absurd ((hs name).1 hsn) h.nw) (fun _=>?_)))
 refine Gd.forAll (fun _=>True) (fun _=>True) ?_ ?_ () G_
 ·intro i y s n hy _ hn
  unfold eY;refine Gd.eJ (pH c.nodes y) (fun b hb=>Gd.ite (fun hn2=>?_) (fun _=>hn G_ _ G_));have:=hb.2 (h.at_ y hy);simp [this] at hn2
 ·intro _ s _
  refine Gd.ite (fun h2=>?_) (fun _=>Gd.ret rfl);have h2:nodes.length=2:=by
   have:((nodes.length:Nat):Int)=2:=by simpa using h2
   omega
  obtain ⟨a,b,rfl⟩:∃ a b,nodes=[a,b]:=by
   match nodes,h2 with
   | [a,b],_=>exact ⟨a,b,rfl⟩
  have hne:=h.two a b rfl;exact Gd.ix (y:=a) (by decide) rfl (Gd.ix (y:=b) (by decide) rfl (Gd.ite (fun e=>absurd (by simpa using e) hne) (fun _=>Gd.ret rfl)))
def names (n:Net):List BA:=n.bJ++n.bM.map (·.Name)++n.aS.map (·.Name)++n.dR.map (·.Name)++n.bQ.map (·.Name)++n.bY.map (·.Name)
theorem pN {R α:Type}{Q:R→Prop}{body:Nat→α→Seen→(Seen→Option R)→Option R}{k:Seen→Option R}{l:List α} (nm:α→BA) (P:List BA)
  (hb:∀ (i:Nat) (y:α) (s:Seen) (n:Seen→Option R) (pre:List α),(∃ post,l=pre++y::post)→lJ (P++pre.map nm) s→Gd (n (qo s (nm y) true)) Q→Gd (body i y s n) Q) (hk:∀ s,lJ (P++l.map nm) s→Gd (k s) Q) (s:Seen) (hs:lJ P s):Gd (dW body k 0 l s) Q:=by
 refine Gd.seen (fun pre s=>lJ (P++pre.map nm) s) ?_ hk s (by simpa using hs)
 intro i y s n pre hpre hs hn;refine hb i y s n pre hpre hs (hn _ ?_);have:=hs.put (nm y);rw [I4,← H6]; exact this
theorem oC {R α:Type}{Q:R→Prop}{body:Nat→α→Seen→(Seen→Option R)→Option R}{k:Seen→Option R}{l:List α} (nm:α→BA) (P:List BA) (C:α→Prop)
  (hb:∀ (i:Nat) (y:α) (s:Seen) (n:Seen→Option R) (pre:List α),y ∈ l→lJ (P++pre.map nm) s→(nm y ∉ P++pre.map nm→C y→∀ s',lJ (P++pre.map nm++[nm y]) s'→Gd (n s') Q)→Gd (body i y s n) Q)
  (hk:∀ s,lJ (P++l.map nm) s→(∀ x ∈ l,C x)→(P.Nodup→(P++l.map nm).Nodup)→Gd (k s) Q) (s:Seen) (hs:lJ P s):Gd (dW body k 0 l s) Q:=by
 refine Gd.seen (fun pre s=>lJ (P++pre.map nm) s∧(∀ x ∈ pre,C x)∧(P.Nodup→(P++pre.map nm).Nodup)) ?_ (fun s h=>hk s h.1 h.2.1 h.2.2) s ⟨by simpa using hs,by simp,fun h=>by simpa using h⟩
 rintro i y s n pre hpre ⟨h1,h2,h3⟩ hn;refine hb i y s n pre (qP hpre).2.1 h1 (fun hnew hC s' hs'=>hn s' ⟨by rw [I4,← H6]; exact hs',fun x hx=>?_,fun hP=>?_⟩)
 ·rcases HV.1 hx with hx | hx
  ·exact h2 x hx
  ·simp at hx; subst hx; exact hC
 ·rw [I4,← H6,IK]
  refine ⟨h3 hP,by simp,fun a ha b hb=>?_⟩
  simp at hb; subst hb
  intro e; subst e; exact hnew ha
def yl (g:cR):Bool:=!(((!(aX g.c_)) || (bI g.gK g.c_ 100000)) || (!(aX g.s8)))
def wP (s:dS):Bool:=!(((!(aX s.lg)) || (!(aX s.Discharge))) || (!(aX s.m_)))
structure og (n:Net):Prop where
 l1:n.bJ.length≤24
 l2:n.bM.length≤32
 l3:n.aS.length≤24
 l4:n.dR.length≤10
 l5:n.bQ.length≤12
 l6:n.bY.length≤4
 nd:(names n).Nodup
 vn:∀ x ∈ n.bJ,cK x=some true
 vs:∀ x ∈ n.bM,cK x.Name=some true∧x.A ∈ n.bJ∧x.B_ ∈ n.bJ∧x.A≠x.B_
 vb:∀ x ∈ n.aS,cK x.Name=some true∧x.iT ∈ n.bJ∧x.To ∈ n.bJ∧x.iT≠x.To∧gH x=0
 vg:∀ x ∈ n.dR,cK x.Name=some true∧x.Node ∈ n.bJ∧yl x=true
 vl:∀ x ∈ n.bQ,cK x.Name=some true∧x.Node ∈ n.bJ∧aX x.bL=true
 vt:∀ x ∈ n.bY,cK x.Name=some true∧x.Node ∈ n.bJ∧wP x=true
theorem check_sound (n:Net) (hz:na n):Gd (cI n) (fun e=>e=0→og n):=by
 unfold cI;refine Gd.ite (fun _=>Gd.ret (fun h=>by simp at h)) (fun hl=>?_)
 simp only [Mv,NC,Int.not_lt] at hl;refine oC (id:BA→BA) [] (fun x=>cK x=some true) ?_ ?_ _ lJ.nil
 ·intro i y s nx pre hy hs hn
  unfold jX;exact Gd.eJ (pK (c:=⟨s,n.bJ⟩) hs [] (hz.nd y hy)) (fun r hr=>Gd.ite (fun h=>Gd.ret (fun h2=>absurd h2 (by simpa using h))) (fun h=>by
   obtain ⟨h1,h2⟩:=hr (by simpa using h)
   exact hn h1.nw h1.nm _ h2))
 intro s hs hvn hnd1;simp only [List.map_id,Jw] at hs hnd1;refine oC (fun x:cN=>x.Name) _ (fun x=>cK x.Name=some true∧x.A ∈ n.bJ∧x.B_ ∈ n.bJ∧x.A≠x.B_) ?_ ?_ _ hs
 ·intro i y s nx pre hy hs hn
  unfold jY;exact Gd.eJ (pK (c:=⟨s,n.bJ⟩) hs [y.A,y.B_] (hz.sw y hy)) (fun r hr=>Gd.ite (fun h=>Gd.ret (fun h2=>absurd h2 (by simpa using h))) (fun h=>by
   obtain ⟨h1,h2⟩:=hr (by simpa using h)
   exact hn h1.nw ⟨h1.nm,h1.at_ _ (by simp),h1.at_ _ (by simp),h1.two _ _ rfl⟩ _ h2))
 intro s hs hvs hnd2;refine oC (fun x:bH=>x.Name) _ (fun x=>cK x.Name=some true∧x.iT ∈ n.bJ∧x.To ∈ n.bJ∧x.iT≠x.To∧gH x=0) ?_ ?_ _ hs
 ·intro i y s nx pre hy hs hn
  unfold jZ;exact Gd.eJ (pK (c:=⟨s,n.bJ⟩) hs [y.iT,y.To] (hz.br y hy)) (fun r hr=>Gd.ite (fun h=>Gd.ret (fun h2=>absurd h2 (by simpa using h))) (fun h=>Gd.ite (fun h3=>Gd.ret (fun h2=>absurd h2 (by simpa using h3))) (fun h3=>by
   obtain ⟨h1,h2⟩:=hr (by simpa using h)
   exact hn h1.nw ⟨h1.nm,h1.at_ _ (by simp),h1.at_ _ (by simp),h1.two _ _ rfl,by simpa using h3⟩ _ h2)))
 intro s hs hvb hnd3;refine Gd.eJ (P:=fun r=>r.1=0→(∀ x ∈ n.dR,cK x.Name=some true∧x.Node ∈ n.bJ∧yl x=true)∧(∀ x ∈ n.bQ,cK x.Name=some true∧x.Node ∈ n.bJ∧aX x.bL=true) ∧
  (∀ x ∈ n.bY,cK x.Name=some true∧x.Node ∈ n.bJ∧wP x=true)∧(names n).Nodup) ?_ (fun r hr=>Gd.ret (fun h=>by
   obtain ⟨a,b,c,d⟩:=hr h;exact ⟨by omega,by omega,by omega,by omega,by omega,by omega,d,hvn,hvs,hvb,a,b,c⟩))
 unfold eM;refine oC (fun x:cR=>x.Name) _ (fun x=>cK x.Name=some true∧x.Node ∈ n.bJ∧yl x=true) ?_ ?_ _ hs
 ·intro i y s nx pre hy hs hn
  unfold fV;exact Gd.eJ (pK (c:=⟨s,n.bJ⟩) hs [y.Node] (hz.gn y hy)) (fun r hr=>Gd.ite (fun h=>Gd.ret (fun h2=>absurd h2 (by simpa using h))) (fun h=>Gd.ite (fun _=>Gd.ret (fun h2=>by simp at h2)) (fun h3=>by
   obtain ⟨h1,h2⟩:=hr (by simpa using h)
   exact hn h1.nw ⟨h1.nm,h1.at_ _ (by simp),by unfold yl; rw [h3]; rfl⟩ _ h2)))
 intro s hs hvg hnd4;refine oC (fun x:aK=>x.Name) _ (fun x=>cK x.Name=some true∧x.Node ∈ n.bJ∧aX x.bL=true) ?_ ?_ _ hs
 ·intro i y s nx pre hy hs hn
  unfold fW;exact Gd.eJ (pK (c:=⟨s,n.bJ⟩) hs [y.Node] (hz.ld y hy)) (fun r hr=>Gd.ite (fun h=>Gd.ret (fun h2=>absurd h2 (by simpa using h))) (fun h=>Gd.ite (fun _=>Gd.ret (fun h2=>by simp at h2)) (fun h3=>by
   obtain ⟨h1,h2⟩:=hr (by simpa using h)
   exact hn h1.nw ⟨h1.nm,h1.at_ _ (by simp),by simpa using h3⟩ _ h2)))
 intro s hs hvl hnd5;refine oC (fun x:dS=>x.Name) _ (fun x=>cK x.Name=some true∧x.Node ∈ n.bJ∧wP x=true) ?_ ?_ _ hs
 ·intro i y s nx pre hy hs hn
  unfold fX;exact Gd.eJ (pK (c:=⟨s,n.bJ⟩) hs [y.Node] (hz.st y hy)) (fun r hr=>Gd.ite (fun h=>Gd.ret (fun h2=>absurd h2 (by simpa using h))) (fun h=>Gd.ite (fun _=>Gd.ret (fun h2=>by simp at h2)) (fun h3=>by
   obtain ⟨h1,h2⟩:=hr (by simpa using h)
   exact hn h1.nw ⟨h1.nm,h1.at_ _ (by simp),by unfold wP; rw [h3]; rfl⟩ _ h2)))
 intro s hs hvt hnd6;exact Gd.ret fun _=>⟨hvg,hvl,hvt,hnd6 (hnd5 (hnd4 (hnd3 (hnd2 (hnd1 List.nodup_nil)))))⟩
theorem Bn {A B C:List BA}{x:BA} (h:(A++(B++x::C)).Nodup):x ∉ A++B:=by
 rw [← H6,IK] at h;exact fun hm=>h.2.2 x hm x (He ..) rfl
theorem fresh {P:List BA}{α:Type}{nm:α→BA}{l pre:List α}{y:α} (h:(P++l.map nm).Nodup) (hp:∃ post,l=pre++y::post):nm y ∉ P++pre.map nm:=by
 obtain ⟨post,rfl⟩:=hp;rw [I4,KK] at h;exact Bn h
theorem zh (n:Net) (h:og n):cI n=some 0:=by
 have hnd:=h.nd;unfold names at hnd;have n5:=(IK.1 hnd).1;have n4:=(IK.1 n5).1;have n3:=(IK.1 n4).1;have n2:=(IK.1 n3).1;have n1:=(IK.1 n2).1;have g1:=h.l1; have g2:=h.l2; have g3:=h.l3; have g4:=h.l4; have g5:=h.l5; have g6:=h.l6
 rw [← Gd.eq];unfold cI;refine Gd.ite (fun hl=>?_) (fun _=>?_)
 ·simp only [Jd,IF] at hl
  omega
 refine pN (id:BA→BA) [] ?_ ?_ _ lJ.nil
 ·intro i y s nx pre hpre hs hn
  have hy:=(qP hpre).2.1;have hf:=fresh (P:=[]) (nm:=id) (by simpa using n1) hpre
  unfold jX;exact Gd.bind_eq (qV (c:=⟨s,n.bJ⟩) hs ⟨h.vn y hy,hf,by simp,by simp⟩) (Gd.ite (fun h=>by simp at h) (fun _=>hn))
 intro s hs;simp only [List.map_id,Jw] at hs;refine pN (fun x:cN=>x.Name) _ ?_ ?_ _ hs
 ·intro i y s nx pre hpre hs hn
  obtain ⟨a,b,c,d⟩:=h.vs y (qP hpre).2.1;unfold jY;exact Gd.bind_eq (qV (c:=⟨s,n.bJ⟩) hs ⟨a,fresh n2 hpre,by simp [b,c],fun p q e=>by simp at e; rw [← e.1,← e.2]; exact d⟩) (Gd.ite (fun h=>by simp at h) (fun _=>hn))
 intro s hs;refine pN (fun x:bH=>x.Name) _ ?_ ?_ _ hs
 ·intro i y s nx pre hpre hs hn
  obtain ⟨a,b,c,d,e⟩:=h.vb y (qP hpre).2.1;unfold jZ;exact Gd.bind_eq (qV (c:=⟨s,n.bJ⟩) hs ⟨a,fresh n3 hpre,by simp [b,c],fun p q e=>by simp at e; rw [← e.1,← e.2]; exact d⟩) (Gd.ite (fun h=>by simp at h) (fun _=>Gd.ite (fun h=>by simp [e] at h) (fun _=>hn)))
 intro s hs;refine Gd.eJ (P:=fun r=>r.1=0) ?_ (fun r hr=>Gd.ret hr);unfold eM;refine pN (fun x:cR=>x.Name) _ ?_ ?_ _ hs
 ·intro i y s nx pre hpre hs hn
  obtain ⟨a,b,c⟩:=h.vg y (qP hpre).2.1;unfold yl at c;unfold fV;exact Gd.bind_eq (qV (c:=⟨s,n.bJ⟩) hs ⟨a,fresh n4 hpre,by simp [b],by simp⟩) (Gd.ite (fun h=>by simp at h) (fun _=>Gd.ite (fun h=>by rw [h] at c; cases c) (fun _=>hn)))
 intro s hs;refine pN (fun x:aK=>x.Name) _ ?_ ?_ _ hs
 ·intro i y s nx pre hpre hs hn
  obtain ⟨a,b,c⟩:=h.vl y (qP hpre).2.1;unfold fW;exact Gd.bind_eq (qV (c:=⟨s,n.bJ⟩) hs ⟨a,fresh n5 hpre,by simp [b],by simp⟩) (Gd.ite (fun h=>by simp at h) (fun _=>Gd.ite (fun h=>by simp [c] at h) (fun _=>hn)))
 intro s hs;refine pN (fun x:dS=>x.Name) _ ?_ ?_ _ hs
 ·intro i y s nx pre hpre hs hn
  obtain ⟨a,b,c⟩:=h.vt y (qP hpre).2.1;unfold wP at c;unfold fX;exact Gd.bind_eq (qV (c:=⟨s,n.bJ⟩) hs ⟨a,fresh hnd hpre,by simp [b],by simp⟩) (Gd.ite (fun h=>by simp at h) (fun _=>Gd.ite (fun h=>by rw [h] at c; cases c) (fun _=>hn)))
 intro s hs;exact Gd.ret rfl
def DY (n:Net) (q:Nat):Net:={ n with aS:=n.aS.take q++n.aS.drop (q+1) }
theorem Ak {α:Type} (l:List α) (q:Nat):(l.take q++l.drop (q+1)).Sublist l:=by
 have h1:(l.drop (q+1)).Sublist (l.drop q):=by rw [← Jt]; exact List.drop_sublist _ _
 have:=(MF (l.take q)).append h1
 rwa [I2] at this
theorem og.cut {n:Net} (h:og n) (q:Nat):og (DY n q):=by
 have hs:=Ak n.aS q;have hnm:(names (DY n q)).Sublist (names n):=by
  unfold names DY;exact ((((MF _).append (hs.map _)).append (MF _)).append (MF _)).append (MF _)
 exact ⟨h.l1,h.l2,IY hs.length_le h.l3,h.l4,h.l5,h.l6,hnm.nodup h.nd,h.vn,h.vs,fun x hx=>h.vb x (hs.subset hx),h.vg,h.vl,h.vt⟩
theorem og.ok {n:Net} (h:og n) (hz:na n):ly n:=by
 obtain ⟨e,he,hok⟩:=Cc n hz;rw [zh n h] at he;exact hok (G7 he).symm
theorem na.cut {n:Net} (h:na n) (q:Nat):na (DY n q):=
 ⟨h.nd,h.sw,fun x hx=>h.br x ((Ak n.aS q).subset hx),h.gn,h.ld,h.st⟩
abbrev Ed:=bS
def lb (o:List Int) (u:Int):Int:=if 0≤u then (o[u.toNat]?).getD (-1) else -1
theorem CP {o:List Int}{u:Int} (h:0≤lb o u):0≤u∧u<o.length:=by
 unfold lb at h
 split at h
 ·rename_i h0
  refine ⟨h0,?_⟩
  by_cases e:u.toNat<o.length
  ·omega
  ·rw [Iv (by omega)] at h; simp at h
 ·omega
theorem vx {o:List Int}{k:Nat} (h:k<o.length):lb o (k:Int)=o[k]:=by
 unfold lb; rw [Hl (by omega),Ha,G9 h]; rfl
theorem CO {o:List Int}{u:Int} (h0:0≤u) (h:u.toNat<o.length):lb o u=o[u.toNat]:=by
 unfold lb; rw [Hl h0,G9 h]; rfl
theorem rU {o:List Int}{q:Int} (h0:0≤q) (h:q.toNat<o.length) (m u:Int):lb (o.set q.toNat m) u=if u=q then m else lb o u:=by
 unfold lb
 by_cases e:u=q
 ·subst e
  rw [Hl h0,Hl rfl,HS h]; rfl
 ·rw [Hh e]
  by_cases hu:0≤u
  ·rw [Hl hu,Hl hu,HM (by omega)]
  ·rw [Hh hu,Hh hu]
def DF (l:List Ed) (u v:Int):Prop:=∃ e ∈ l,(e.a0=u∧e.a1=v)∨(e.a1=u∧e.a0=v)
theorem DF.symm {l:List Ed}{u v:Int} (h:DF l u v):DF l v u:=by
 obtain ⟨e,he,h | h⟩:=h
 ·exact ⟨e,he,.inr ⟨h.2,h.1⟩⟩
 ·exact ⟨e,he,.inl ⟨h.2,h.1⟩⟩
inductive rK (l:List Ed) (u:Int):Int→Prop
 | refl:rK l u u
 | snoc {v w:Int}:rK l u v→DF l v w→rK l u w
theorem rK.trans {l:List Ed}{u v w:Int} (h1:rK l u v) (h2:rK l v w):rK l u w:=by
 induction h2 with
 | refl=>exact h1
 | snoc _ h ih=>exact .snoc ih h
theorem rK.symm {l:List Ed}{u v:Int} (h:rK l u v):rK l v u:=by
 induction h with
 | refl=>exact .refl
 | snoc _ h ih=>exact (rK.snoc .refl h.symm).trans ih
structure F5 (N:Nat) (l:List Ed) (many:Int) (out:List Int):Prop where
 pt:s7 N many out
 cls:∀ u v,DF l u v→0≤lb out u→lb out v=lb out u
 GF:∀ u v,0≤lb out u→lb out u=lb out v→rK l u v
 Gp:∀ c,0≤c→c<many→∃ u,lb out u=c
theorem s7.lt {N:Nat}{many:Int}{out:List Int} (h:s7 N many out) (hm:0≤many) (u:Int):-1≤lb out u∧lb out u<many:=by
 by_cases h0:0≤lb out u
 ·obtain ⟨a,b⟩:=CP h0
  have:u.toNat<out.length:=by omega
  rw [CO a this];exact h.DH _ (Iy _)
 ·refine ⟨?_,by omega⟩
  unfold lb
  split
  ·by_cases e:u.toNat<out.length
   ·rw [G9 e]
    exact (h.DH _ (Iy e)).1
   ·rw [Iv (by omega)]; simp
  ·omega
structure wi (N:Nat) (l:List Ed) (m:Int) (i:Int) (out o:List Int):Prop where
 pt:s7 N (m+1) o
 ql:∀ u,0≤lb out u→lb o u=lb out u
 new:∀ u,lb out u<0→0≤lb o u→lb o u=m∧rK l i u
 st:lb o i=m
theorem wi.put {N:Nat}{l:List Ed}{m i:Int}{out o:List Int} (h:wi N l m i out o) (hc:F5 N l m out) (h0:0≤m) {a q:Int} (ha:lb o a=m) (hadj:DF l a q) (q0:0≤q) (qN:q<N) (hq:lb o q<0):wi N l m i out (o.set q.toNat m):=by
 have hql:q.toNat<o.length:=by rw [h.pt.len]; omega
 have ca:rK l i a:=by
  by_cases e:0≤lb out a
  ·have h1:=h.ql a e
   have h2:=(hc.pt.lt h0 a).2;omega
  ·exact (h.new a (by omega) (by omega)).2
 refine ⟨h.pt.set ⟨h0,by omega⟩ _,fun u hu=>?_,fun u hu hn=>?_,?_⟩
 ·rw [rU q0 hql]
  have h1:=h.ql u hu;rw [Hh (fun e=>by subst e; omega)]
  exact h1
 ·rw [rU q0 hql] at hn ⊢
  by_cases e:u=q
  ·subst e
   rw [Hl rfl];exact ⟨rfl,ca.snoc hadj⟩
  ·rw [Hh e] at hn ⊢
   exact h.new u hu hn
 ·rw [rU q0 hql]
  split
  ·rfl
  ·exact h.st
theorem wi.mono {N:Nat}{m:Int}{o:List Int} (hl:o.length=N) (h0:0≤m) {q:Int} (q0:0≤q) (qN:q<N) {u:Int} (hu:0≤lb o u):0≤lb (o.set q.toNat m) u:=by
 rw [rU q0 (by omega)]
 split
 ·exact h0
 ·exact hu
theorem wi.done {N:Nat}{l:List Ed}{m i:Int}{out o:List Int} (h:wi N l m i out o) (hc:F5 N l m out) (h0:0≤m) (hp:∀ u,lb o u=m→∀ v,DF l u v→0≤lb o v):F5 N l (m+1) o:=by
 refine ⟨h.pt,fun u v huv hu=>?_,fun u v hu huv=>?_,fun c c0 c1=>?_⟩
 ·by_cases e:0≤lb out u
  ·have h1:=h.ql u e
   have h2:=hc.cls u v huv e;have h3:=h.ql v (by omega)
   omega
  ·obtain ⟨h1,_⟩:=h.new u (by omega) hu
   have h2:=hp u h1 v huv
   by_cases e2:0≤lb out v
   ·have:=hc.cls v u huv.symm e2
    omega
   ·have:=(h.new v (by omega) h2).1
    omega
 ·by_cases e:0≤lb out u
  ·have h1:=h.ql u e
   have h2:=(hc.pt.lt h0 u).2
   by_cases e2:0≤lb out v
   ·exact hc.GF u v e (by have:=h.ql v e2; omega)
   ·have:=(h.new v (by omega) (by omega)).1
    omega
  ·obtain ⟨h1,h2⟩:=h.new u (by omega) hu
   by_cases e2:0≤lb out v
   ·have h3:=h.ql v e2
    have h4:=(hc.pt.lt h0 v).2;omega
   ·exact h2.symm.trans (h.new v (by omega) (by omega)).2
 ·by_cases e:c<m
  ·obtain ⟨u,hu⟩:=hc.Gp c c0 e
   exact ⟨u,by rw [h.ql u (by omega)]; exact hu⟩
  ·exact ⟨i,by rw [h.st]; omega⟩
structure AW (N:Nat) (l:List Ed) (r:List Int) (many:Nat):Prop where
 len:r.length=N
 all:∀ u:Int,0≤u→u<N→0≤lb r u∧lb r u<many
 mN:many≤N
 iff:∀ u v:Int,0≤u→u<N→0≤v→v<N→(lb r u=lb r v↔rK l u v)
 Gp:∀ c:Int,0≤c→c<many→∃ u:Int,0≤u∧u<N∧lb r u=c
theorem zN (N:Nat) (hN:N≤24) (l:List Ed) (hl:xI N l) (hll:l.length≤64):Gd (lj N l (-1)) (fun r=>∃ many:Nat,AW N l r many):=by
 unfold lj;refine Gd.nd ⟨rfl,by omega,by omega⟩ (Gd.nd (by omega) ?_)
 rw [r9];have hrep:∀ u,lb (List.replicate N (-1)) u = -1:=fun u=>by
  unfold lb
  split
  ·by_cases e:u.toNat<N
   ·rw [G9 (by simpa using e)]; simp
   ·rw [Iv (by simpa using e)]; rfl
  ·rfl
 refine Gd.jT (fun m i (s:List Int×Int)=>i+m=N∧0≤s.2∧s.2≤(i:Int)∧F5 N l s.2 s.1∧∀ j:Nat,j<i→0≤lb s.1 (j:Int)) ?_ ?_ (N:Int).toNat 0 (List.replicate N (-1),0)
  ⟨by omega,by simp,by simp,⟨⟨by simp,by simp⟩,fun u v _ h=>by rw [hrep] at h; omega,fun u v h _=>by rw [hrep] at h; omega,fun c h1 h2=>by omega⟩,by simp⟩
 ·rintro m i ⟨out,many⟩ nx ⟨hi,h0,hmi,hc,hk⟩ hn
  simp only at h0 hmi hc hk;have hilt:i<out.length:=by rw [hc.pt.len]; omega
  have hwm:i64.wrap (many+1)=many+1:=bP ⟨by omega,by omega⟩
  unfold mf;refine Gd.iU hilt (Gd.ite (fun h=>?_) (fun h=>?_))
  ·have hge:0≤out[i]:=by simpa using h
   unfold gF;refine hn _ ⟨by omega,h0,by show many≤((i+1:Nat):Int); omega,hc,fun j hj=>?_⟩
   by_cases e:j=i
   ·subst e; simp only; rw [vx hilt]; exact hge
   ·exact hk j (by omega)
  ·have hneg:out[i]<0:=by simpa using h
   refine Gd.iU hilt ?_;rw [Ha];have hnegl:lb out (i:Int)<0:=by rw [vx hilt]; exact hneg
   have hset:∀ u,lb (out.set i many) u=if u=(i:Int) then many else lb out u:=fun u=>by
    have:=rU (o:=out) (q:=(i:Int)) (by omega) (by simpa using hilt) many u
    rwa [Ha] at this
   have hp1:s7 N (many+1) out:=⟨hc.pt.len,fun v hv=>by have:=hc.pt.DH v hv; omega⟩
   have hbase:2*nL (out.set i many)+[(i:Int)].length≤2*N+1:=by
    have hcn:nL (out.set i many)≤N:=by unfold nL; rw [← hc.pt.len,← Hw (as:=out) (i:=i) (a:=many)]; exact Kf
    simp only [Is]; omega
   have hf0:wi N l many (i:Int) out (out.set i many):=by
    refine ⟨hp1.set ⟨h0,by omega⟩ i,fun u hu=>?_,fun u hu hn2=>?_,by rw [hset,Hl rfl]⟩
    ·rw [hset,Hh (fun e=>by subst e; omega)]
    ·rw [hset] at hn2 ⊢
     by_cases e:u=(i:Int)
     ·subst e; rw [Hl rfl]; exact ⟨rfl,.refl⟩
     ·rw [Hh e] at hn2; omega
   refine Gd.fD (fun (s:List Int×List Int)=>wi N l many (i:Int) out s.1∧(∀ a ∈ s.2,lb s.1 a=many)∧(∀ u,lb s.1 u=many→u ∉ s.2→∀ v,DF l u v→0≤lb s.1 v)∧2*nL s.1+s.2.length≤2*N+1)
    (fun s=>2*nL s.1+s.2.length) ?_ eB _ ⟨hf0,fun a ha=>?_,fun u hu hnu=>?_,hbase⟩ ?_
   ·rintro ⟨o,todo⟩ nx2 ⟨hf,htd,hpr,htot⟩ hn2
    simp only at hf htd hpr htot;have hol:=hf.pt.len;unfold mg;refine Gd.ite (fun hne=>?_) (fun hze=>?_)
    ·obtain ⟨at_,ts,rfl⟩:∃ a ts,todo=a::ts:=by
      cases todo with
      | nil=>simp at hne
      | cons a ts=>exact ⟨a,ts,rfl⟩
     simp only [Hz] at htot;refine Gd.ix (y:=at_) (by decide) rfl (Gd.nd ⟨by omega,by simp only [Hz]; omega⟩ ?_)
     have hat:=htd at_ (He ..);obtain ⟨at0,atN⟩:=CP (by omega:0≤lb o at_)
     have hsl:nr (at_::ts) (1:Int).toNat (at_::ts).length=ts:=by
      unfold nr;rw [show (1:Int).toNat=1 from rfl,Mj,Jg,HN (by simp)]
     rw [hsl]
     let J:List Ed→List Int×List Int→Prop:=fun pre s=>wi N l many (i:Int) out s.1∧(∀ a ∈ s.2,lb s.1 a=many)∧lb s.1 at_=many∧(∀ u,lb s.1 u=many→u ∉ s.2→u≠at_→∀ v,DF l u v→0≤lb s.1 v) ∧
      (∀ e ∈ pre,(e.a0=at_→0≤lb s.1 e.a1)∧(e.a1=at_→0≤lb s.1 e.a0))∧2*nL s.1+s.2.length≤2*nL o+ts.length
     have push:∀ (pre:List Ed) (e:Ed) (b td:List Int) (q:Int) (nn:List Int×List Int→Option (List Int)),e ∈ l→J pre (b,td)→DF l at_ q→0≤q→q<N→((e.a0=at_∧e.a1=q)∨(e.a1=at_∧e.a0=q)) →
       (∀ s',J (pre++[e]) s'→Gd (nn s') (fun r=>∃ many:Nat,AW N l r many)) →
       Gd (Sim.idx b q fun y7689=>if decide (y7689<0) then (Sim.idx b q fun y7694=>dN ((td.length+([q]).length)*8≤140737488355328) (dA nn (b.set (q:Int).toNat many) (td++([q])))) else (dA nn b td)) (fun r=>∃ many:Nat,AW N l r many):=by
      intro pre e b td q nn hel ⟨j1,j2,j3,j4,j5,j6⟩ hadj q0 qN hends hnn;simp only at j1 j2 j3 j4 j5 j6;have hbl:=j1.pt.len;have hql:q.toNat<b.length:=by omega
      have hget:b[q.toNat]? = some b[q.toNat]:=G9 hql;have hlq:lb b q=b[q.toNat]:=CO q0 hql;have hno:nL o≤N:=by unfold nL; rw [← hol]; exact Kf
      unfold dA;refine Gd.ix q0 hget (Gd.ite (fun h=>Gd.ix q0 hget (Gd.nd ?_ (hnn _ ?_))) (fun h=>hnn _ ⟨j1,j2,j3,j4,fun d hd=>?_,j6⟩))
      ·simp; omega
      ·have h1:b[q.toNat]<0:=by simpa using h
       have hlt:lb b q<0:=by omega
       have up:∀ {u:Int},0≤lb b u→0≤lb (b.set q.toNat many) u:=fun {u} hu=>wi.mono hbl h0 q0 qN hu;have hqs:lb (b.set q.toNat many) q=many:=by rw [rU q0 hql,Hl rfl]
       have same:∀ {u:Int},lb b u=many→lb (b.set q.toNat many) u=many:=fun {u} hu=>by
        rw [rU q0 hql]; split
        ·rfl
        ·exact hu
       refine ⟨j1.put hc h0 j3 hadj q0 qN hlt,fun a ha=>?_,same j3,fun u hu hnu hua v hv=>?_,fun d hd=>?_,?_⟩
       ·rcases HV.1 ha with ha | ha
        ·exact same (j2 a ha)
        ·simp at ha; subst ha; exact hqs
       ·simp only at hu hnu
        by_cases e2:u=q
        ·subst e2
         exact absurd (IH _ (List.mem_singleton_self _)) hnu
        ·rw [rU q0 hql,Hh e2] at hu
         exact up (j4 u hu (fun hm=>hnu (Hb _ hm)) hua v hv)
       ·rcases HV.1 hd with hd | hd
        ·obtain ⟨x1,x2⟩:=j5 d hd
         exact ⟨fun hh=>up (x1 hh),fun hh=>up (x2 hh)⟩
        ·simp at hd; subst hd
         have hat2:0≤lb (b.set q.toNat many) at_:=up (by omega)
         have hq2:0≤lb (b.set q.toNat many) q:=by omega
         rcases hends with ⟨x1,x2⟩ | ⟨x1,x2⟩
         ·exact ⟨fun _=>by rw [x2]; exact hq2,fun _=>by rw [x1]; exact hat2⟩
         ·exact ⟨fun _=>by rw [x1]; exact hat2,fun _=>by rw [x2]; exact hq2⟩
       ·have:=yz hql h1 h0
        simp only [HQ,Is];omega
      ·have h1:0≤b[q.toNat]:=by simpa using h
       rcases HV.1 hd with hd | hd
       ·exact j5 d hd
       ·simp at hd; subst hd
        rcases hends with ⟨x1,x2⟩ | ⟨x1,x2⟩
        ·exact ⟨fun _=>by rw [x2]; simp only; omega,fun _=>by rw [x1]; simp only; omega⟩
        ·exact ⟨fun _=>by rw [x1]; simp only; omega,fun _=>by rw [x2]; simp only; omega⟩
     refine Gd.seen J ?_ ?_ _ ⟨hf,fun a ha=>htd a (Ho _ ha),hat,fun u hu hnu hua v hv=>hpr u hu (fun hm=>(Ik.1 hm).elim hua hnu) v hv,by simp,HH (2*nL o+ts.length)⟩
     ·rintro k e ⟨b,td⟩ nn pre hpre hJ hnn
      obtain ⟨_,hel,_⟩:=qP hpre;obtain ⟨e1,e2,e3,e4⟩:=hl e hel;have hw1:i64.wrap (e.a0+e.a1)=e.a0+e.a1:=bP ⟨by omega,by omega⟩
      have hw2:i64.wrap (e.a0+e.a1-at_)=e.a0+e.a1-at_:=bP ⟨by omega,by omega⟩
      unfold mh;rw [hw1,hw2];refine Gd.ite (fun h=>by simp at h) (fun _=>Gd.ite (fun h=>?_) (fun h=>Gd.ite (fun h2=>?_) (fun h2=>?_)))
      ·have h:e.a0=at_:=by simpa using h
       have hq:e.a0+e.a1-at_=e.a1:=by omega
       rw [hq];exact push pre e b td _ nn hel hJ ⟨e,hel,.inl ⟨h,rfl⟩⟩ e3 e4 (.inl ⟨h,rfl⟩) hnn
      ·have h1:e.a0≠at_:=by simpa using h
       have h2:e.a1≠at_:=by simpa using h2
       obtain ⟨j1,j2,j3,j4,j5,j6⟩:=hJ;refine hnn _ ⟨j1,j2,j3,j4,fun d hd=>?_,j6⟩;rcases HV.1 hd with hd | hd
       ·exact j5 d hd
       ·simp at hd; subst hd
        exact ⟨fun hh=>absurd hh h1,fun hh=>absurd hh h2⟩
      ·have h2:e.a1=at_:=by simpa using h2
       have hq:e.a0+e.a1-at_=e.a0:=by omega
       rw [hq];exact push pre e b td _ nn hel hJ ⟨e,hel,.inr ⟨h2,rfl⟩⟩ e1 e2 (.inr ⟨h2,rfl⟩) hnn
     ·rintro ⟨b,td⟩ ⟨j1,j2,j3,j4,j5,j6⟩
      simp only at j1 j2 j3 j4 j5 j6;refine hn2 _ ⟨j1,j2,fun u hu hnu v hv=>?_,by show 2*nL b+td.length≤2*N+1; omega⟩ (by simp only [Hz]; omega)
      by_cases e:u=at_
      ·subst e
       obtain ⟨d,hd,hh | hh⟩:=hv
       ·have:=(j5 d hd).1 hh.1
        rw [hh.2] at this; exact this
       ·have:=(j5 d hd).2 hh.1
        rw [hh.2] at this; exact this
      ·exact j4 u hu hnu e v hv
    ·have htn:todo=[]:=by
      cases todo with
      | nil=>rfl
      | cons a ts=>simp at hze
     subst htn;unfold gF;rw [hwm];refine hn _ ⟨by omega,by show (0:Int)≤many+1; omega,by show many+1≤((i+1:Nat):Int); omega,hf.done hc h0 (fun u hu v hv=>hpr u hu (by simp) v hv),fun j hj=>?_⟩
     by_cases e:j=i
     ·subst e; show 0≤lb o (j:Int); rw [hf.st]; exact h0
     ·have h1:=hk j (by omega)
      show 0≤lb o (j:Int);rw [hf.ql _ h1]; exact h1
   ·simp only [IJ] at ha
    subst ha;exact hf0.st
   ·exfalso
    rw [hset] at hu
    by_cases e:u=(i:Int)
    ·subst e; simp at hnu
    ·rw [Hh e] at hu
     have:=(hc.pt.lt h0 u).2;omega
   ·refine KD hbase ?_
    unfold eB; omega
 ·rintro i ⟨out,many⟩ ⟨hi,h0,hmi,hc,hk⟩
  simp only at h0 hmi hc hk;have hge:∀ u:Int,0≤u→u<N→0≤lb out u:=fun u u0 uN=>by
   have:=hk u.toNat (by omega)
   rwa [show ((u.toNat:Nat):Int)=u by omega] at this
  refine Gd.ret ⟨many.toNat,hc.pt.len,fun u u0 uN=>⟨hge u u0 uN,by have h1:=hge u u0 uN; have h2:=(hc.pt.lt h0 u).2; show lb out u<((many.toNat:Nat):Int); omega⟩,by omega,fun u v u0 uN v0 vN=>⟨fun e=>hc.GF u v (hge u u0 uN) e,fun e=>?_⟩,fun c c0 c1=>?_⟩
  ·clear vN v0
   induction e with
   | refl=>rfl
   | snoc _ h ih=>
    rename_i p q _
    have ih:lb out u=lb out p:=ih;have hp:0≤lb out p:=by have:=hge u u0 uN; omega
    show lb out u=lb out q;rw [ih];exact (hc.cls p q h hp).symm
  ·obtain ⟨u,hu⟩:=hc.Gp c c0 (by omega)
   obtain ⟨a,b⟩:=CP (by omega:0≤lb out u)
   exact ⟨u,a,by have:=hc.pt.len; omega,hu⟩
theorem zo (N:Nat) (hN:N≤24) (l:List Ed) (hl:xI N l) (hll:l.length≤64):Gd (fS N l) (fun r=>r.2=0∧∃ many:Nat,AW N l r.1 many):=by
 unfold fS;refine Gd.bind_eq (wE N hN l hl hll) (Gd.ite (fun h=>by simp at h) (fun _=>Gd.eJ (zN N hN l hl hll) (fun r hr=>Gd.ret ⟨rfl,hr⟩)))
theorem Ei (N:Nat) (hN:N≤24) (l:List Int) (hl:uE N l):∃ m:Nat,m≤N∧uE m l∧(∀ c:Nat,uE c l→m≤c) ∧
  ∀ {R:Type} (body:Nat→Int→Int→(Int→Option R)→Option R) (hb:∀ k y n nx,body k y n nx=nx (max n (i64.wrap (y+1)))) (K:Int→Option R),dW body K 0 l 0=K (m:Int):=by
 have key:∀ (ys pre:List Int) (m:Nat),l=pre++ys→m≤N→uE m pre→(∀ c:Nat,uE c pre→m≤c)→∃ m2:Nat,m2≤N∧uE m2 l∧(∀ c:Nat,uE c l→m2≤c) ∧
   ∀ {R:Type} (body:Nat→Int→Int→(Int→Option R)→Option R) (hb:∀ k y n nx,body k y n nx=nx (max n (i64.wrap (y+1)))) (K:Int→Option R) (i:Nat),dW body K i ys (m:Int)=K (m2:Int):=by
  intro ys
  induction ys with
  | nil=>
   intro pre m e hm hp hmin;rw [Ia] at e; subst e
   exact ⟨m,hm,hp,hmin,fun _ _ _ _=>rfl⟩
  | cons y ys ih=>
   intro pre m e hm hp hmin;have hy:=hl y (by rw [e]; exact IH _ (He ..))
   have hw:i64.wrap (y+1)=y+1:=bP ⟨by omega,by omega⟩
   have hmx:max (m:Int) (y+1)=((max m (y+1).toNat:Nat):Int):=by omega
   obtain ⟨m2,h1,h2,h3,h4⟩:=ih (pre++[y]) (max m (y+1).toNat) (by rw [e]; simp) (by omega) (fun a ha=>by
    rcases HV.1 ha with ha | ha
    ·have:=hp a ha; omega
    ·simp at ha; subst ha; omega) (fun c hc=>by
     have c1:=hmin c (fun a ha=>hc a (Hb _ ha));have c2:=hc y (IH _ (List.mem_singleton_self _));omega)
   refine ⟨m2,h1,h2,h3,fun {R} body hb K i=>?_⟩;show body i y (m:Int) (fun s=>dW body K (i+1) ys s)=_;rw [hb,hw,hmx];exact h4 body hb K (i+1)
 obtain ⟨m2,h1,h2,h3,h4⟩:=key l [] 0 rfl (by omega) (by intro a ha; simp at ha) (fun c _=>by omega)
 exact ⟨m2,h1,h2,h3,fun {R} body hb K=>h4 body hb K 0⟩
def pos (n:Net) (s:BA):Nat:=((bB n.bJ s).getD 0).toNat
theorem LA {n:Net}{s:BA} (h:s ∈ n.bJ):bB n.bJ s=some (pos n s:Int)∧pos n s<n.bJ.length:=by
 obtain ⟨k,hk,hl,_⟩:=sX h;unfold pos;rw [hk];exact ⟨rfl,hl⟩
def B2 (n:Net) (bus:List Int) (b:bH):Ed:=⟨bus.getD (pos n b.iT) 0,bus.getD (pos n b.To) 0⟩
theorem B3 {n:Net} (hn:ly n) {bus:List Int}{m:Nat} (hbl:bus.length=n.bJ.length) (hm:uE m bus):xI m (n.aS.map (B2 n bus)):=fun e he=>by
 obtain ⟨b,hb,rfl⟩:=II.1 he;obtain ⟨h1,h2⟩:=hn.br b hb;have p1:=(LA h1).2;have p2:=(LA h2).2;have q:∀ k,k<bus.length→0≤bus.getD k 0∧bus.getD k 0<m:=fun k hk=>by
  rw [HW,G9 hk];exact hm _ (Iy hk)
 exact ⟨(q _ (by omega)).1,(q _ (by omega)).2,(q _ (by omega)).1,(q _ (by omega)).2⟩
theorem D4 {n:Net} (hn:ly n) {bus:List Int} (hbus:kN n=some bus) (hbl:bus.length=n.bJ.length) {m:Nat} (hm24:m≤24) (hm:uE m bus)
  (hmost:∀ {R:Type} (body:Nat→Int→Int→(Int→Option R)→Option R) (hb:∀ k y n nx,body k y n nx=nx (max n (i64.wrap (y+1)))) (K:Int→Option R),dW body K 0 bus 0=K (m:Int)):
  Gd (cV n) (fun t=>t.kb=bus∧∃ c:Nat,AW m (n.aS.map (B2 n bus)) t.bA c):=by
 have l3:=hn.l3;unfold cV;refine Gd.bind_eq hbus ?_;rw [hmost _ (fun k y n nx=>by unfold n_; rfl)]
 refine Gd.seen (fun pre out=>out=pre.map (B2 n bus)) ?_ ?_ _ rfl
 ·rintro i y out nn pre hpre rfl hnx
  obtain ⟨hpl,hyl,_⟩:=qP hpre;obtain ⟨h1,h2⟩:=hn.br y hyl;obtain ⟨p1,p2⟩:=LA h1;obtain ⟨q1,q2⟩:=LA h2;have g:∀ k (hk:k<bus.length),bus[k]=bus.getD k 0:=fun k hk=>by
   rw [HW,G9 hk]; rfl
  unfold oa;refine Gd.bind_eq p1 (Gd.iU (by omega) (Gd.bind_eq q1 (Gd.iU (by omega) (Gd.nd ?_ (hnx _ ?_)))))
  ·simp only [JN,Is]; omega
  ·rw [I4,g _ (by omega),g _ (by omega)]; rfl
 ·rintro out rfl
  exact Gd.eJ (zo m hm24 _ (B3 hn hbl hm) (by simp; omega)) (fun r ⟨_,hr⟩=>Gd.ret ⟨rfl,hr⟩)
section
variable {ν:Type}
def CK (l:List (Int×ν)) (k:Int):Option ν:=(l.find? (fun p=>p.1=k)).map (·.2)
theorem zI (l:List (Int×ν)) (k:Int):mW l k=CK l k:=by
 unfold mW CK;have:∀ (l:List (Int×ν)) (i:Nat),(re l k i).map (·.2)=(l.find? (fun p=>p.1=k)).map (·.2):=by
  intro l
  induction l with
  | nil=>intro i; rfl
  | cons p l ih=>
   obtain ⟨a,v⟩:=p;intro i;simp only [re,List.find?_cons]
   by_cases e:a=k
   ·simp [e]
   ·simp only [e,JL,Mf]; exact ih (i+1)
 exact this l 0
theorem CX {l:List (Int×ν)}{k:Int}:∀ {i j:Nat}{v:ν},re l k i=some (j,v)→∃ q,j=i+q∧l[q]? = some (k,v):=by
 induction l with
 | nil=>intro i j v h; simp [re] at h
 | cons p l ih=>
  obtain ⟨a,u⟩:=p;intro i j v h;simp only [re] at h
  split at h
  ·rename_i e
   simp only [H9,KY] at h;obtain ⟨rfl,rfl⟩:=h;exact ⟨0,rfl,by rw [e]; rfl⟩
  ·obtain ⟨q,rfl,h2⟩:=ih h
   exact ⟨q+1,by omega,h2⟩
theorem CW {l:List (Int×ν)}{k:Int}:∀ {i:Nat},re l k i=none→∀ p ∈ l,p.1≠k:=by
 induction l with
 | nil=>intro i _ p hp; cases hp
 | cons p l ih=>
  obtain ⟨a,u⟩:=p;intro i h;simp only [re] at h
  split at h
  ·cases h
  ·rename_i e
   intro q hq;rcases Ik.1 hq with rfl | hq
   ·exact e
   ·exact ih h q hq
def xE (l:List (Int×ν)):Prop:=(l.map (·.1)).Nodup
theorem xE.find {l:List (Int×ν)} (h:xE l) {k:Int}{v:ν}:mW l k=some v↔(k,v) ∈ l:=by
 rw [zI];unfold CK xE at *
 induction l with
 | nil=>simp
 | cons p l ih=>
  obtain ⟨a,u⟩:=p;simp only [KK,Km] at h;rw [List.find?_cons]
  by_cases e:a=k
  ·subst e
   simp only [decide_true,I7,H9,Ik,KY,true_and];constructor
   ·intro h1; exact .inl h1.symm
   ·rintro (h1 | h1)
    ·exact h1.symm
    ·exact absurd (II.2 ⟨_,h1,rfl⟩) h.1
  ·simp only [e,Mf,Ik,KY]
   rw [ih h.2];constructor
   ·exact fun h1=>.inr h1
   ·rintro (⟨h1,_⟩ | h1)
    ·exact absurd h1.symm e
    ·exact h1
theorem xE.put {l:List (Int×ν)} (h:xE l) (k:Int) (v:ν):xE (qo l k v)∧∀ p,p ∈ qo l k v↔p=(k,v)∨(p ∈ l∧p.1≠k):=by
 unfold qo;cases hm:re l k 0 with
 | none=>
  have hno:=CW hm;refine ⟨?_,fun p=>?_⟩
  ·show ((l++[(k,v)]).map (·.1)).Nodup
   rw [I4,IK];refine ⟨h,by simp,?_⟩
   intro a ha b hb;obtain ⟨p,hp,rfl⟩:=II.1 ha;simp at hb;subst hb;exact hno p hp
  ·simp only [HV,IJ]
   constructor
   ·rintro (h1 | h1)
    ·exact .inr ⟨h1,hno p h1⟩
    ·exact .inl h1
   ·rintro (h1 | ⟨h1,_⟩)
    ·exact .inr h1
    ·exact .inl h1
 | some q=>
  obtain ⟨j,u⟩:=q;obtain ⟨i,rfl,hi⟩:=CX hm;obtain ⟨hil,hie⟩:=G6.1 hi;simp only [H_];have hmap:(l.set i (k,v)).map (·.1)=l.map (·.1):=by
   rw [List.map_set];apply vX;rw [HZ,hi]; rfl
  refine ⟨by unfold xE; rw [hmap]; exact h,fun p=>?_⟩
  have huniq:∀ (a:Nat) (x:Int×ν),l[a]? = some x→x.1=k→a=i:=fun a x ha hx=>by
   obtain ⟨hal,hae⟩:=G6.1 ha;unfold xE at h;rw [List.nodup_iff_pairwise_ne,Ki] at h;rcases Ks a i with hlt | heq | hgt
   ·exact (h a i (by simpa using hal) (by simpa using hil) hlt (by rw [JH,JH,hae,hie,hx])).elim
   ·exact heq
   ·exact (h i a (by simpa using hil) (by simpa using hal) hgt (by rw [JH,JH,hae,hie,hx])).elim
  constructor
  ·intro hp
   obtain ⟨a,ha,hae⟩:=IN.1 hp;rw [ML] at hae
   split at hae
   ·exact .inl hae.symm
   ·rename_i hne
    have hal:a<l.length:=by simpa using ha
    refine .inr ⟨by rw [← hae]; exact Iy hal,fun hk=>?_⟩
    exact hne (huniq a p (by rw [G9 hal,hae]) hk).symm
  ·rintro (rfl | ⟨hp,hk⟩)
   ·exact IN.2 ⟨i,by simpa using hil,by simp⟩
   ·obtain ⟨a,ha,hae⟩:=IN.1 hp
    have hne:i≠a:=fun e=>by
     subst e;rw [hie] at hae;exact hk (by rw [← hae])
    exact IN.2 ⟨a,by simpa using ha,by rw [List.getElem_set_ne hne]; exact hae⟩
theorem xE.Ao {l:List (Int×ν)} (h:xE l) (k k':Int) (v:ν):mW (qo l k v) k'=if k'=k then some v else mW l k':=by
 obtain ⟨h1,h2⟩:=h.put k v
 split
 ·rename_i e
  rw [h1.find,h2]; exact .inl (by rw [e])
 ·rename_i e
  cases hg:mW l k' with
  | some u=>
   rw [h1.find,h2];exact .inr ⟨h.find.1 hg,e⟩
  | none=>
   cases hg2:mW (qo l k v) k' with
   | none=>rfl
   | some u=>
    rcases (h2 _).1 (h1.find.1 hg2) with h3 | ⟨h3,_⟩
    ·exact absurd (Prod.mk.inj h3).1 e
    ·rw [h.find.2 h3] at hg; cases hg
theorem xE.nil:xE ([]:List (Int×ν)):=by unfold xE; simp
end
structure pV (n:Net) (t:aV):Prop where
 bl:t.kb.length=n.bJ.length
 DG:t.bA.length≤24
 bi:uE t.bA.length t.kb
 comp:∃ c:Nat,AW t.bA.length (n.aS.map (B2 n t.kb)) t.bA c
theorem EF {n:Net} (hn:ly n):∃ t,cV n=some t∧pV n t:=by
 have g1:=hn.l1;obtain ⟨bus,hbus,hbl,hbin⟩:=Cb n hn;obtain ⟨m,hm1,hmin,_,hmost⟩:=Ei n.bJ.length hn.l1 bus hbin;obtain ⟨t,ht,htb,c,hc⟩:=D4 hn hbus hbl (by omega) hmin hmost
 have hl:=hc.len;refine ⟨t,ht,⟨by rw [htb]; exact hbl,by omega,by rw [htb,hl]; exact hmin,c,?_⟩⟩
 rw [htb,hl];exact hc
def fr (isl:List Int):List Nat:=(List.range isl.length).filter (fun i=>(List.range i).any (fun j=>decide (isl[j]? = isl[i]?)))
theorem zy {isl:List Int}{i:Nat}:i ∈ fr isl↔i<isl.length∧∃ j:Nat,j<i∧isl[j]? = isl[i]? := by
 unfold fr;simp
theorem Cz (isl:List Int):(fr isl).Nodup:=List.Pairwise.filter _ List.nodup_range
theorem xe {isl:List Int} (h:isl.length≤24):(fr isl).length≤23:=by
 have h1:(fr isl).length≤((List.range isl.length).filter (fun i=>decide (0<i))).length:=by
  unfold fr;rw [← List.countP_eq_length_filter,← List.countP_eq_length_filter];refine List.countP_mono_left (fun i _ hi=>?_);simp at hi;obtain ⟨j,hj,_⟩:=hi;simp; omega
 have h2:∀ m,((List.range m).filter (fun i=>decide (0<i))).length≤m-1:=by
  intro m
  induction m with
  | zero=>simp
  | succ m ih=>
   rw [K1,KC,HQ];cases m with
   | zero=>simp
   | succ m=>simp at ih ⊢; omega
 have:=h2 isl.length;omega
def wh (isl:List Int) (i:Nat):Nat:=(fr isl).getD i 0
theorem xc {isl:List Int}{i:Nat} (h:i<(fr isl).length):(fr isl)[i]? = some (wh isl i):=by
 unfold wh;rw [HW,G9 h]; rfl
theorem xd {isl:List Int}{i:Nat} (h:i<(fr isl).length):wh isl i ∈ fr isl:=Hu (xc h)
theorem tk {isl:List Int}{i j:Nat} (hi:i<(fr isl).length) (hj:j<(fr isl).length) (e:wh isl i=wh isl j):i=j:=by
 have a:=xc hi;have b:=xc hj;rw [e] at a;have nd:=Cz isl;obtain ⟨_,ha⟩:=G6.1 a;obtain ⟨_,hb⟩:=G6.1 b;exact (List.getElem_inj nd).1 (ha.trans hb.symm)
theorem FT (isl:List Int):(fr isl).map (fun x:Nat=>(x:Int))=(List.range (fr isl).length).map (fun i=>(wh isl i:Int)):=by
 apply Ji;intro i;rw [HZ,HZ]
 by_cases h:i<(fr isl).length
 ·rw [xc h,JB h]; rfl
 ·rw [Iv (by omega),Iv (by simp; omega)]; rfl
def Ai (n:Net) (bus:List Int) (b:bH):Rat×Nat×Nat:=(((b.X*b.rz:Int):Rat),(B2 n bus b).a0.toNat,(B2 n bus b).a1.toNat)
def uq (n:Net) (bus:List Int):List (Rat×Nat×Nat):=n.aS.map (Ai n bus)
structure Ga (b:bH):Prop where
 x:1≤b.X∧b.X≤10000
 t:500≤b.rz∧b.rz≤1500
 s:-1000≤b.Shift∧b.Shift≤1000
 l:0≤b.jS∧b.jS≤100000
theorem B9 {n:Net} (h:og n) {b:bH} (hb:b ∈ n.aS):Ga b:=by
 obtain ⟨_,_,_,_,h5⟩:=h.vb b hb;unfold gH at h5
 split at h5
 ·omega
 ·rename_i h6
  simp [bI] at h6;exact ⟨by omega,by omega,by omega,by omega⟩
theorem Ga.q {b:bH} (h:Ga b):500≤b.X*b.rz∧b.X*b.rz≤15000000:=by
 have h1:=h.x; have h2:=h.t
 have a:1*500≤b.X*b.rz:=Int.mul_le_mul h1.1 h2.1 (by omega) (by omega)
 have c:b.X*b.rz≤10000*1500:=Int.mul_le_mul h1.2 h2.2 (by omega) (by omega)
 omega
structure F6 (N:Nat) (l:List (Rat×Nat×Nat)):Prop where
 ll:l.length≤24
 el:∀ e ∈ l,e.2.1<N∧e.2.2<N
 q:∀ e ∈ l,∃ z:Int,e.1=(z:Rat)∧500≤z∧z≤15000000
theorem vh {n:Net} (h:og n) (hn:ly n) {t:aV} (ht:pV n t):F6 t.bA.length (uq n t.kb):=by
 refine ⟨by unfold uq; rw [JN]; exact h.l3,fun e he=>?_,fun e he=>?_⟩
 ·obtain ⟨b,hb,rfl⟩:=II.1 he
  have:=B3 hn ht.bl ht.bi (B2 n t.kb b) (II.2 ⟨b,hb,rfl⟩);show (B2 n t.kb b).a0.toNat<_∧(B2 n t.kb b).a1.toNat<_;omega
 ·obtain ⟨b,hb,rfl⟩:=II.1 he
  exact ⟨_,rfl,(B9 h hb).q.1,(B9 h hb).q.2⟩
theorem tI {N:Nat}{l:List (Rat×Nat×Nat)} (h:F6 N l) {e:Rat×Nat×Nat} (he:e ∈ l):pF e.1∧500≤e.1∧e.1≤15000000:=by
 obtain ⟨z,hz,h1,h2⟩:=h.q e he;have a:=Nq.2 h1;have b:=Nq.2 h2;rw [← hz] at a b;exact ⟨⟨z,hz⟩,a,b⟩
abbrev tq:Rat:=((1000000:Int):Rat)
abbrev D9 (F:Nat→Nat) (l:List (Rat×Nat×Nat)):Mt:=eU ((l.map (wt tq)).map (kc F))
theorem Dx:0<tq:=by
 have:((0:Int):Rat)<((1000000:Int):Rat):=Rat.intCast_lt_intCast.2 (by decide)
 simpa using this
theorem Da {a:Nat}{c:Rat} (h0:0≤c) (h:c≤(((2 ^ a:Nat):Int):Rat)):∀ k:Nat,0≤pr k (fun _=>c)∧pr k (fun _=>c)≤(((2 ^ (a*k):Nat):Int):Rat)
 | 0=>by
  refine ⟨by show (0:Rat)≤1; decide,?_⟩
  show (1:Rat)≤_;rw [M_,Nj];exact Nt
 | k+1=>by
  obtain ⟨h1,h2⟩:=Da h0 h k;refine ⟨Nx h1 h0,?_⟩;show pr k (fun _=>c)*c≤_;have e:a*(k+1)=a*k+a:=Nat.mul_succ a k;rw [e,Na,Ip,Nr];exact mc h2 h h1 h0
theorem FH {a b:Nat} (h:a≤32*b):(((2 ^ a:Nat):Int):Rat)≤wq b:=by
 unfold wq;rw [uS];have:2 ^ a≤2 ^ (32*b):=Nd (by decide) h
 exact Nq.2 (by omega)
theorem E6 {a c:Nat}{x:Rat} (h0:0≤x) (h:x≤(((2 ^ a:Nat):Int):Rat)) (k:Nat) (hk:a*k≤32*c):pr k (fun _=>x)≤wq c:=
 Nu (Da h0 h k).2 (FH hk)
theorem Af {N:Nat}{l:List (Rat×Nat×Nat)} (h:F6 N l):1≤qU l∧qU l≤wq 18:=by
 have h1:=h.ll;refine ⟨u6 (fun e he=>by have:=tI h he; grind),?_⟩
 refine Rat.le_trans (Ae (q:=15000000) (fun e he=>by have:=tI h he; constructor <;> grind)) (E6 (a:=24) (by decide) ?_ l.length (by omega))
 have:((15000000:Int):Rat)≤(((2 ^ 24:Nat):Int):Rat):=Nq.2 (by decide)
 exact this
theorem yL {u:Nat}:∀ {l:List (Rat×Nat×Nat)},(∀ e ∈ l,1≤e.1)→pA u l≤qU l
 | [],_=>Nt
 | e::l,h=>by
  have ih:=yL (u:=u) (l:=l) (fun e he=>h e (List.mem_cons_of_mem _ he));have h1:=h e (List.mem_cons_self ..);have h2:=tM (u:=u) (l:=l) (fun e he=>h e (List.mem_cons_of_mem _ he));unfold pA qU;refine mc ?_ ih ?_ (by grind)
  ·split <;> grind
  ·split <;> grind
theorem AU {N:Nat}:∀ {l:List (Rat×Nat×Nat)},(∀ e ∈ l,500≤e.1)→0≤we (l.map (wt tq))∧we (l.map (wt tq))≤2000*(((l.length:Nat):Int):Rat)
 | [],_=>⟨Nt,by
  show (0:Rat)≤2000*((((0:Nat):Int)):Rat);simp⟩
 | e::l,h=>by
  obtain ⟨a,b⟩:=AU (N:=N) (l:=l) (fun e he=>h e (List.mem_cons_of_mem _ he));have h1:=h e (List.mem_cons_self ..);have e1:we ((e::l).map (wt tq))=tq / e.1+we (l.map (wt tq)):=rfl;have p:0<e.1⁻¹:=Rat.inv_pos.2 (by grind)
  have i1:=Rat.mul_inv_cancel e.1 (by grind)
  have i2:=Rat.mul_le_mul_of_nonneg_right h1 (Rat.le_of_lt p);have t1:tq=1000000:=rfl;have e2:(((e::l).length:Nat):Int)=(((l.length:Nat):Int))+1:=by simp
  rw [e1,Rat.div_def,t1,e2,Rat.intCast_add,Rat.intCast_one];constructor <;> grind
theorem zK {N n:Nat}{F:Nat→Nat}{l:List (Rat×Nat×Nat)} (h:F6 N l) (hn:n≤23) (hF:∀ i j,i<n→j<n→F i=F j→i=j):
  Nb n (D9 F l) (fun i=>pA (F i) l) (fun i c=>pA (F i) l*eU ((l.map (wt tq)).map (lr F)) i c+dl i c) (fun i=>pA (F i) l*(4*we (l.map (wt tq)))+1):=by
 have h1:=h.ll;have hq1:∀ e ∈ l,1≤e.1:=fun e he=>by have:=tI h he; grind
 have ws:=AU (N:=N) (fun e he=>(tI h he).2.1);have hlc:(((l.length:Nat):Int):Rat)≤24:=Nq.2 (show ((l.length:Nat):Int)≤24 by omega)
 refine ⟨Em hF ⟨_,rfl⟩ Dx (fun e he=>⟨(tI h he).1,hq1 e he⟩),?_,fun i _=>Rat.le_trans (yL hq1) (Af h).2⟩;have a:=FY (n:=n) (F:=F) (l:=l) (s:=4*we (l.map (wt tq))) (w:=192000) hF hq1 (by grind) (by grind)
 have b:=Af h;have c:pr n (fun _=>(192000:Rat)+1)≤wq 13:=E6 (a:=18) (by grind) (by
  have:((192001:Int):Rat)≤(((2 ^ 18:Nat):Int):Rat):=Nq.2 (by decide)
  have e:(192000:Rat)+1=((192001:Int):Rat):=by grind
  rw [e]; exact this) n (by omega)
 have d:qU l*qU l≤wq 36:=by
  rw [← qQ 18 18];exact mc b.2 b.2 (by grind) (by grind)
 have c0:0≤pr n (fun _=>(192000:Rat)+1):=jM (fun _ _=>by grind)
 have f:qU l*qU l*pr n (fun _=>(192000:Rat)+1)≤wq 49:=by
  rw [← qQ 36 13];exact mc d c (Rat.mul_nonneg (by grind) (by grind)) c0
 exact Nu a (Nu f (sr (by omega)))
theorem Cy (isl:List Int):∀ i:Nat,∃ r,r≤i∧isl[r]? = isl[i]? ∧ ∀ j,j<r→isl[j]? ≠ isl[i]? := by
 intro i
 induction i using Nat.strongRecOn with
 | ind i ih=>
  by_cases h:∃ j,j<i∧isl[j]? = isl[i]?
  ·obtain ⟨j,hj,e⟩:=h
   obtain ⟨r,h1,h2,h3⟩:=ih j hj;exact ⟨r,by omega,h2.trans e,fun q hq hh=>h3 q hq (hh.trans e.symm)⟩
  ·exact ⟨i,HH _,rfl,fun j hj e=>h ⟨j,hj,e⟩⟩
theorem DW {n:Net}{t:aV}{u v:Int} (h:rK (n.aS.map (B2 n t.kb)) u v):Lk ((uq n t.kb).map (wt tq)) u.toNat v.toNat:=by
 induction h with
 | refl=>exact .refl
 | snoc _ ha ih=>
  obtain ⟨e,he,hh⟩:=ha;obtain ⟨b,hb,rfl⟩:=II.1 he;have hm:wt tq (Ai n t.kb b) ∈ (uq n t.kb).map (wt tq):=II.2 ⟨_,II.2 ⟨b,hb,rfl⟩,rfl⟩;rcases hh with ⟨rfl,rfl⟩ | ⟨rfl,rfl⟩
  ·exact .step ih (.inl hm)
  ·exact .step ih (.inr hm)
theorem zL {n:Net} (h:og n) (hn:ly n) {t:aV} (ht:pV n t):Pd (fr t.bA).length (D9 (wh t.bA) (uq n t.kb)):=by
 have hE:=vh h hn ht;obtain ⟨c,hc⟩:=ht.comp;refine F0 (fun e he=>?_) (fun i j hi hj e=>tk hi hj e) (fun i hi=>?_)
 ·obtain ⟨d,hd,rfl⟩:=II.1 he
  have:=tI hE hd;show 0<tq / d.1;rw [Rat.div_def];exact Rat.mul_pos Dx (Rat.inv_pos.2 (by grind))
 ·have hm:=zy.1 (xd hi)
  obtain ⟨r,h1,h2,h3⟩:=Cy t.bA (wh t.bA i);refine ⟨r,fun j hj e=>?_,?_⟩
  ·have hm2:=zy.1 (xd hj)
   rw [e] at hm2;obtain ⟨_,q,hq,hqe⟩:=hm2;exact h3 q hq (hqe.trans h2)
  ·have hl:∀ (a:Nat),a<t.bA.length→lb t.bA (a:Int)=t.bA[a]! := fun a ha=>by
    rw [vx ha]; simp [ha]
   have hcon:rK (n.aS.map (B2 n t.kb)) ((wh t.bA i:Nat):Int) ((r:Nat):Int):=by
    refine (hc.iff _ _ (by omega) (by omega) (by omega) (by omega)).1 ?_
    have hr:r<t.bA.length:=by omega
    rw [vx hm.1,vx hr];rw [G9 hr,G9 hm.1] at h2;exact (G7 h2).symm
   have:=DW hcon;simpa using this
structure Md (n:Net) (t:aV) (M:aW):Prop where
 top:M.qH=t
 md:BM M (fr t.bA).length t.bA.length (wh t.bA) (uq n t.kb) tq
 cl:M.C.length=n.aS.length
 c:∀ (k:Nat) (y:LR),M.C[k]? = some y→∃ b,n.aS[k]? = some b∧lh y∧RL y 4∧rv y=(tq / ((b.X*b.rz:Int):Rat))*(((0-b.Shift:Int):Rat) / ((1000:Int):Rat))
 inv:EU M.mG (fr t.bA).length (D9 (wh t.bA) (uq n t.kb))
theorem AR {α β:Type}{P:α→β→Prop}{l:List α}{m:List β} (hl:l.length=m.length) (h:∀ (k:Nat) (y:α),l[k]? = some y→∃ b,m[k]? = some b∧P y b) {x:α}{b:β} (hx:P x b):∀ (k:Nat) (y:α),(l++[x])[k]? = some y→∃ b',(m++[b])[k]? = some b'∧P y b':=by
 intro k y hk
 by_cases e:k<l.length
 ·rw [IM e] at hk
  obtain ⟨b',h1,h2⟩:=h k y hk;exact ⟨b',by rw [IM (by omega)]; exact h1,h2⟩
 ·have hk2:=(G6.1 hk).1
  rw [HQ,Is] at hk2;obtain rfl:k=l.length:=by omega
  rw [HY (HH _),IT] at hk;obtain rfl:=G7 hk;exact ⟨b,by rw [hl,HY (HH _),IT]; rfl,hx⟩
theorem zd {n:Net} (hn:ly n) {t:aV} (ht:pV n t) {k:Nat} (hk:k<n.bJ.length):∃ v:Nat,t.kb[k]? = some (v:Int)∧v=(t.kb.getD k 0).toNat:=by
 have hkl:k<t.kb.length:=by rw [ht.bl]; exact hk
 have h1:=ht.bi _ (Iy hkl);refine ⟨(t.kb[k]).toNat,?_,?_⟩
 ·rw [G9 hkl]; congr 1; omega
 ·rw [HW,G9 hkl]; rfl
theorem yw {n:Net} (h:og n) (hn:ly n) {t:aV} (hg:cV n=some t) (ht:pV n t):Gd (pO n) (fun o=>∃ M,o=some M∧Md n t M):=by
 have hE:=vh h hn ht;have hll:=h.l3;have hN:=ht.DG;unfold pO;refine Gd.bind_eq hg ?_;refine Gd.dW (fun k ys s=>∃ pre,n.aS=pre++ys∧pre.length=k∧s.1=pre.map (fun b=>((Ai n t.kb b).2.1:Int))∧s.2.1=pre.map (fun b=>((Ai n t.kb b).2.2:Int))∧s.2.2.1.length=pre.length∧s.2.2.2.length=pre.length ∧
  (∀ (k:Nat) (y:LR),s.2.2.1[k]? = some y→∃ b,pre[k]? = some b∧(lh y∧RL y 2∧rv y=tq / ((b.X*b.rz:Int):Rat))) ∧
  (∀ (k:Nat) (y:LR),s.2.2.2[k]? = some y→∃ b,pre[k]? = some b∧(lh y∧RL y 4∧rv y=(tq / ((b.X*b.rz:Int):Rat))*(((0-b.Shift:Int):Rat) / ((1000:Int):Rat))))) ?_ ?_ n.aS 0 _
  ⟨[],rfl,rfl,rfl,rfl,rfl,rfl,fun k y hy=>by simp at hy,fun k y hy=>by simp at hy⟩
 ·rintro k b ys ⟨l1,l2,l3,l4⟩ nx ⟨pre,hp,hpk,e1,e2,e3,e4,hB,hC⟩ hnx
  simp only at e1 e2 e3 e4 hB hC;subst e1 e2;have hb:b ∈ n.aS:=by rw [hp]; simp
  have hkl:pre.length<24:=by
   have:n.aS.length=pre.length+(ys.length+1):=by rw [hp]; simp
   omega
  obtain ⟨_,m1,m2,_⟩:=h.vb b hb;obtain ⟨p1,p2⟩:=LA m1;obtain ⟨q1,q2⟩:=LA m2;obtain ⟨u,u1,u2⟩:=zd hn ht p2;obtain ⟨v,v1,v2⟩:=zd hn ht q2;have V:=B9 h hb;have hq:=V.q;have hx:=V.x; have htp:=V.t; have hs:=V.s
  unfold rh;have w1:i64.wrap (b.X*b.rz)=b.X*b.rz:=bP ⟨by omega,by omega⟩
  have w2:i64.wrap (0-b.Shift)=0-b.Shift:=bP ⟨by omega,by omega⟩
  rw [w1,w2];refine Gd.bind_eq p1 (Gd.ix (by omega) (by rw [Ha]; exact u1) (Gd.nd (by simp; omega) (Gd.bind_eq q1 (Gd.ix (by omega) (by rw [Ha]; exact v1) (Gd.nd (by simp; omega) ?_)))))
  refine Gd.eJ (Am (by omega) (by omega) (by omega)) (fun s hs'=>Gd.nd (by simp; omega) (Gd.eJ (Am (by omega) (by omega) (by omega)) (fun f hf=>Gd.eJ (tK hs'.1 hf.1 hs'.2.1 hf.2.1 (by omega)) (fun c hc=>Gd.nd (by simp; omega) ?_))))
  refine hnx _ ⟨pre++[b],by rw [hp]; simp,by simp [hpk],?_,?_,by simp [e3],by simp [e4],?_,?_⟩
  ·simp only [I4,KK,Ma]
   rw [u2]; rfl
  ·simp only [I4,KK,Ma]
   rw [v2]; rfl
  ·exact AR e3 hB ⟨hs'.1,hs'.2.1,hs'.2.2⟩
  ·exact AR e4 hC ⟨hc.1,hc.2.1,by rw [hc.2.2,hs'.2.2,hf.2.2]⟩
 ·rintro k ⟨l1,l2,l3,l4⟩ ⟨pre,hp,hpk,e1,e2,e3,e4,hB,hC⟩
  simp only at e1 e2 e3 e4 hB hC;rw [Ia] at hp;subst hp;subst e1 e2;refine Gd.dW (fun i ys s=>∃ pre,t.bA=pre++ys∧pre.length=i∧xE s.1∧(∀ k:Int,(mW s.1 k).getD false=true↔k ∈ pre) ∧
   s.2=((List.range i).filter (fun i=>(List.range i).any (fun j=>decide (t.bA[j]? = t.bA[i]?)))).map (fun x:Nat=>(x:Int))) ?_ ?_ t.bA 0 _
   ⟨[],rfl,rfl,xE.nil,fun k=>by simp [mW,re],rfl⟩
  ·rintro i y ys ⟨seen,free⟩ nx ⟨pre,hp,hpi,hk,hs,e⟩ hnx
   simp only at hk hs e;subst e;have hi:t.bA[i]? = some y:=by rw [hp,HY (by omega),hpi,IT]; rfl
   have hil:=(G6.1 hi).1;have hmem:y ∈ pre↔(List.range i).any (fun j=>decide (t.bA[j]? = t.bA[i]?))=true:=by
    rw [List.any_eq_true];constructor
    ·intro hy
     obtain ⟨j,hj,he⟩:=IN.1 hy;refine ⟨j,Io.2 (by omega),?_⟩
     rw [hi,hp,IM hj,G9 hj,he]; simp
    ·rintro ⟨j,hj,he⟩
     have hj:=Io.1 hj;have he:=Hk he;rw [hi,hp,IM (by omega)] at he
     exact Hu he
   have hfl:((List.range i).filter (fun i=>(List.range i).any (fun j=>decide (t.bA[j]? = t.bA[i]?)))).length≤i:=by
    have:=List.length_filter_le (fun i=>(List.range i).any (fun j=>decide (t.bA[j]? = t.bA[i]?))) (List.range i);simpa using this
   have hput:xE (qo seen y true)∧∀ k:Int,(mW (qo seen y true) k).getD false=true↔k ∈ pre++[y]:=by
    refine ⟨(hk.put y true).1,fun k=>?_⟩;rw [hk.Ao,HV,IJ]
    split
    ·rename_i e; simp [e]
    ·rename_i e; rw [hs k]; simp [e]
   unfold ri;refine Gd.ite (fun hc=>?_) (fun hc=>?_)
   ·have hc2:=hmem.1 ((hs y).1 hc)
    unfold mI;refine Gd.nd (by simp only [JN,Is]; omega) (hnx _ ⟨pre++[y],by rw [hp]; simp,by simp [hpi],hput.1,hput.2,?_⟩)
    simp only;rw [K1,KC,I4,MK,Hl hc2]
    rfl
   ·have hc2:¬ (List.range i).any (fun j=>decide (t.bA[j]? = t.bA[i]?))=true:=fun hh=>by
     have:=(hs y).2 (hmem.2 hh);rw [this] at hc; cases hc
    unfold mI;refine hnx _ ⟨pre++[y],by rw [hp]; simp,by simp [hpi],hput.1,hput.2,?_⟩
    simp only;rw [K1,KC,I4,MK,Hh hc2];simp
  ·rintro i ⟨seen,free⟩ ⟨pre,hp,hpi,hk,hs,e⟩
   simp only at e;rw [Ia] at hp;subst e;have hi:i=t.bA.length:=by rw [← hpi,← hp]
   subst hi;have hmd:BM (aW.mk t (n.aS.map (fun b=>((Ai n t.kb b).2.1:Int))) (n.aS.map (fun b=>((Ai n t.kb b).2.2:Int))) l3 l4 ((fr t.bA).map (fun x:Nat=>(x:Int))) []) (fr t.bA).length t.bA.length (wh t.bA) (uq n t.kb) tq:=by
    refine ⟨xe hN,FT _,fun i j hi hj e=>tk hi hj e,fun i hi=>(zy.1 (xd hi)).1,hN,hE.ll,hE.el,?_,?_,by show l3.length=_; rw [e3]; simp [uq],fun k y hy=>?_⟩
    ·simp [uq]
    ·simp [uq]
    ·obtain ⟨b,hb,y1,y2,y3⟩:=hB k y hy
     exact ⟨Ai n t.kb b,by unfold uq; rw [HZ,hb]; rfl,y1,y2,y3⟩
   have hinv:=Bh hmd (zL h hn ht) (zK hE (xe hN) (fun i j hi hj e=>tk hi hj e));refine Gd.eJ hinv ?_;rintro _ ⟨rows,rfl,hI⟩;refine Gd.ret ⟨_,rfl,⟨rfl,?_,e4,hC,hI⟩⟩;exact ⟨hmd.hn,hmd.free,hmd.inj,hmd.lt,hmd.hN,hmd.ll,hmd.el,hmd.fr,hmd.to,hmd.bl,hmd.b⟩
def NL (l:List LR) (N:Nat) (P:Nat→LR→Prop):Prop:=l.length=N∧∀ (b:Nat) (y:LR),l[b]? = some y→P b y
theorem NL.mono {l:List LR}{N:Nat}{P P':Nat→LR→Prop} (h:NL l N P) (k:∀ b y,b<N→P b y→P' b y):NL l N P':=
 ⟨h.1,fun b y hb=>k b y (by rw [← h.1]; exact (G6.1 hb).1) (h.2 b y hb)⟩
theorem NL.set {l:List LR}{N:Nat}{P:Nat→LR→Prop} (h:NL l N P) {b:Nat}{y:LR} (hy:P b y):NL (l.set b y) N P:=by
 refine ⟨by rw [Hw]; exact h.1,fun b' y' hb=>?_⟩
 by_cases e:b=b'
 ·subst e
  have hl:b<l.length:=by
   have:=(G6.1 hb).1
   rwa [Hw] at this
  rw [HS hl] at hb;obtain rfl:=G7 hb;exact hy
 ·rw [HM e] at hb
  exact h.2 b' y' hb
theorem NL.snoc {l:List LR}{N:Nat}{P:Nat→LR→Prop} (h:NL l N P) {y:LR} (hy:P N y):NL (l++[y]) (N+1) P:=by
 refine ⟨by simp [h.1],fun b y' hb=>?_⟩
 by_cases e:b<l.length
 ·rw [IM e] at hb
  exact h.2 b y' hb
 ·have hk2:=(G6.1 hb).1
  rw [HQ,Is] at hk2;obtain rfl:b=l.length:=by omega
  rw [HY (HH _),IT] at hb;obtain rfl:=G7 hb;rw [h.1]; exact hy
theorem NL.get {R:Type}{Q:R→Prop}{l:List LR}{N:Nat}{P:Nat→LR→Prop} (h:NL l N P) {b:Nat} (hb:b<N) {f:LR→Option R} (hk:∀ y,P b y→Gd (f y) Q):Gd (idx l (b:Int) f) Q:=by
 have hl:b<l.length:=by rw [h.1]; exact hb
 exact Gd.iU hl (hk _ (h.2 b _ (G9 hl)))
theorem ED {n:Net}{t:aV}{M:aW} (hM:Md n t M) (ht:pV n t) (hn:ly n) {p:List Int} (hp:p.length=n.bJ.length) (hb:∀ z ∈ p,-100000≤z∧z≤100000):
  Gd (kQ M p) (fun r=>NL r t.bA.length (fun _ y=>lh y∧RL y 2∧∃ z:Int,rv y=(z:Rat)∧-2400000≤z∧z≤2400000)):=by
 have h24:=hn.l1;have hN:=ht.DG;unfold kQ dJ;rw [hM.top];refine Gd.nd (by omega) ?_
 rw [Ha];refine Gd.dW (fun i ys s=>∃ pre,p=pre++ys∧pre.length=i∧s.length=t.bA.length∧∀ z ∈ s,-100000*(i:Int)≤z∧z≤100000*(i:Int)) ?_ ?_ p 0 _ ⟨[],rfl,rfl,by simp,fun z hz=>by
  have:=MJ hz;omega⟩
 ·rintro i y ys s nx ⟨pre,hpp,hpi,hsl,hs⟩ hnx
  have hi:i<n.bJ.length:=by rw [← hp,hpp]; simp; omega
  have hy:=hb y (by rw [hpp]; simp)
  obtain ⟨v,v1,v2⟩:=zd hn ht hi;have hv:v<t.bA.length:=by
   have:=ht.bi _ (Hu v1);omega
  have hvs:v<s.length:=by omega
  unfold mr;rw [hM.top];refine Gd.ix (by omega) (by rw [Ha]; exact v1) (Gd.iU hvs (Gd.iU hvs ?_))
  have hz:=hs _ (Iy hvs);have hw:i64.wrap (s[v]+y)=s[v]+y:=bP ⟨by omega,by omega⟩
  rw [hw,Ha];refine hnx _ ⟨pre++[y],by rw [hpp]; simp,by simp [hpi],by rw [Hw]; exact hsl,fun z hz'=>?_⟩
  rcases MR hz' with h1 | h1
  ·have:=hs z h1; omega
  ·subst h1; omega
 ·rintro i s ⟨pre,hpp,hpi,hsl,hs⟩
  rw [Ia] at hpp;have hil:i≤24:=by rw [← hpi,← hpp,hp]; exact h24
  refine Gd.dW (fun k ys r=>∃ pre,s=pre++ys∧pre.length=k∧NL r k (fun _ y=>lh y∧RL y 2∧∃ z:Int,rv y=(z:Rat)∧-2400000≤z∧z≤2400000)) ?_ ?_ s 0 _ ⟨[],rfl,rfl,rfl,fun b y hb=>by simp at hb⟩
  ·rintro k y ys r nx ⟨pre,hps,hpk,hr⟩ hnx
   have hy:=hs y (by rw [hps]; simp)
   have hkl:s.length=pre.length+(ys.length+1):=by rw [hps]; simp
   have hrl:=hr.1;unfold mu;refine Gd.eJ (sh (by omega)) (fun w hw=>Gd.nd (by simp; omega) (hnx _ ⟨pre++[y],by rw [hps]; simp,by simp [hpk],hr.snoc ⟨hw.1,hw.2.1,y,hw.2.2,by omega,by omega⟩⟩))
  ·rintro k r ⟨pre,hps,hpk,hr⟩
   rw [Ia] at hps;have hkn:k=t.bA.length:=by rw [← hpk,← hps,hsl]
   subst hkn;exact Gd.ret hr
theorem Fl {a b:List LR}{n W:Nat}{A B:Nat→Rat} (hn:n≤24) (hW:W≤6000) (ha:NL a n (fun j y=>lh y∧RL y W∧rv y=A j)) (hb:NL b n (fun j y=>lh y∧RL y W∧rv y=B j)):
  Gd (pa a b) (fun r=>lh r∧rv r=sm n (fun j=>A j*B j)):=by
 unfold pa;refine Gd.eJ (sh (n:=0) (by omega)) (fun z hz=>?_)
 rw [ha.1,Ha];refine Gd.jT (fun m k s=>k+m=n∧∃ r:LR,s=(r.N.minus,r.N.words,r.D.minus,r.D.words)∧lh r∧RL r (2+(2*W+1)*k)∧rv r=sm k (fun j=>A j*B j)) ?_ ?_ n 0 _ ⟨by omega,z,rfl,hz.1,hz.2.1,by rw [hz.2.2]; rfl⟩
 ·rintro m k _ nx ⟨hk,r,rfl,hr,hrl,hv⟩ hnx
  have hkn:k<n:=by omega
  have hbig:(2*W+1)*k≤(2*W+1)*23:=M9 _ (by omega)
  have hsucc:(2*W+1)*(k+1)=(2*W+1)*k+(2*W+1):=Nat.mul_succ _ _;unfold pZ;refine ha.get hkn (fun y hy=>?_);have skip:A k*B k=0→Gd (jC nx r.N.minus r.N.words r.D.minus r.D.words) (fun r=>lh r∧rv r=sm n (fun j=>A j*B j)):=fun h0=>by
   unfold jC;refine hnx _ ⟨by omega,r,rfl,hr,hrl.mono (by omega),?_⟩
   rw [hv];show _=sm k (fun j=>A j*B j)+A k*B k;rw [h0]; grind
  rw [se hy.1,hy.2.2];refine Gd.ite (fun h=>skip (by rw [of_decide_eq_true h]; grind)) (fun _=>hb.get hkn (fun u hu=>?_))
  rw [se hu.1,hu.2.2];refine Gd.ite (fun _=>ha.get hkn (fun y2 hy2=>hb.get hkn (fun u2 hu2=>?_))) (fun h=>skip (by
   have h1:decide (B k=0)=true:=by simpa using h
   rw [of_decide_eq_true h1]; grind))
  refine Gd.eJ (tK hy2.1 hu2.1 hy2.2.1 hu2.2.1 (by omega)) (fun c hc=>Gd.eJ (rq (a:=⟨⟨r.N.minus,r.N.words⟩,⟨r.D.minus,r.D.words⟩⟩) hr hc.1 hrl hc.2.1 (by omega)) (fun d hd=>?_))
  unfold jC;refine hnx _ ⟨by omega,d,rfl,hd.1,hd.2.1.mono (by omega),?_⟩
  rw [hd.2.2,hc.2.2,hy2.2.2,hu2.2.2];show rv r+_=sm k (fun j=>A j*B j)+A k*B k;rw [hv]
 ·rintro k _ ⟨hk,r,rfl,hr,hrl,hv⟩
  obtain rfl:k=n:=by omega
  exact Gd.ret ⟨hr,hv⟩
theorem DT {q s:Int} (hq:500≤q) (hs:-1000≤s∧s≤1000):-2000≤(tq / (q:Rat))*((s:Rat) / ((1000:Int):Rat))∧(tq / (q:Rat))*((s:Rat) / ((1000:Int):Rat))≤2000∧(tq / (q:Rat))*((s:Rat) / ((1000:Int):Rat))=(((1000*s:Int):Rat)) / (q:Rat):=by
 have h1:((500:Int):Rat)≤(q:Rat):=Nq.2 hq;have h2:((-1000:Int):Rat)≤(s:Rat):=Nq.2 hs.1;have h3:(s:Rat)≤((1000:Int):Rat):=Nq.2 hs.2;have e1:((500:Int):Rat)=500:=rfl;have e2:((-1000:Int):Rat) = -1000:=by rw [Ns]; rfl
 have e3:((1000:Int):Rat)=1000:=rfl;have e4:tq=1000000:=rfl;rw [e1] at h1; rw [e2] at h2; rw [e3] at h3 ⊢
 have p:0<((q:Rat))⁻¹:=Rat.inv_pos.2 (by grind)
 have i1:=Rat.mul_inv_cancel (q:Rat) (by grind)
 have i2:=Rat.mul_le_mul_of_nonneg_right h1 (Rat.le_of_lt p);have i3:(q:Rat)⁻¹≤1 / 500:=by grind
 have e5:(tq / (q:Rat))*((s:Rat) / 1000)=(1000*(s:Rat))*(q:Rat)⁻¹:=by rw [e4,Rat.div_def,Rat.div_def]; grind
 have m:=u5 (x:=1000*(s:Rat)) (y:=(q:Rat)⁻¹) (a:=1000000) (b:=1 / 500) (by grind) (by grind) (by grind) i3
 refine ⟨by rw [e5]; grind,by rw [e5]; grind,?_⟩
 rw [e5,Nr,e3,Np]
def Lg (l:List (Rat×Nat×Nat)) (W:Nat) (C:Rat) (b:Nat) (y:LR):Prop:=lh y∧RL y W∧pF (pA b l*rv y)∧-C≤rv y∧rv y≤C
theorem Lg.mono {l:List (Rat×Nat×Nat)}{W W':Nat}{C C':Rat}{b:Nat}{y:LR} (h:Lg l W C b y) (hW:W≤W') (hC:C≤C'):Lg l W' C' b y:=
 ⟨h.1,h.2.1.mono hW,h.2.2.1,by have:=h.2.2.2.1; grind,by have:=h.2.2.2.2; grind⟩
theorem Aq {a:Rat} (h:pF a):pF (-a):=by
 obtain ⟨z,rfl⟩:=h;exact ⟨-z,by rw [Ns]⟩
theorem Lg.sub {l:List (Rat×Nat×Nat)}{W:Nat}{C:Rat}{b:Nat}{y c:LR} (h:Lg l W C b y) (hc:Lg l 4 2000 b c) (hW:W≤1000):Gd (fZ y c) (Lg l (W+5) (C+2000) b):=by
 obtain ⟨a1,a2,a3,a4,a5⟩:=h;obtain ⟨c1,c2,c3,c4,c5⟩:=hc;refine (sq a1 c1 a2 c2 (by omega)).mono (fun r hr=>⟨hr.1,hr.2.1.mono (by omega),?_,?_,?_⟩)
 ·rw [hr.2.2]
  have e:pA b l*(rv y-rv c)=pA b l*rv y+-(pA b l*rv c):=by grind
  rw [e]; exact tl a3 (Aq c3)
 ·rw [hr.2.2]; grind
 ·rw [hr.2.2]; grind
theorem Lg.add {l:List (Rat×Nat×Nat)}{W:Nat}{C:Rat}{b:Nat}{y c:LR} (h:Lg l W C b y) (hc:Lg l 4 2000 b c) (hW:W≤1000):Gd (eX y c) (Lg l (W+5) (C+2000) b):=by
 obtain ⟨a1,a2,a3,a4,a5⟩:=h;obtain ⟨c1,c2,c3,c4,c5⟩:=hc;refine (rq a1 c1 a2 c2 (by omega)).mono (fun r hr=>⟨hr.1,hr.2.1.mono (by omega),?_,?_,?_⟩)
 ·rw [hr.2.2]
  have e:pA b l*(rv y+rv c)=pA b l*rv y+pA b l*rv c:=by grind
  rw [e]; exact tl a3 c3
 ·rw [hr.2.2]; grind
 ·rw [hr.2.2]; grind
theorem CV {n:Net}{t:aV}{M:aW} (hM:Md n t M) {k:Nat}{b:bH} (hb:n.aS[k]? = some b):
  M.iT[k]? = some ((Ai n t.kb b).2.1:Int)∧M.To[k]? = some ((Ai n t.kb b).2.2:Int)∧(uq n t.kb)[k]? = some (Ai n t.kb b):=by
 have e:(uq n t.kb)[k]? = some (Ai n t.kb b):=by unfold uq; rw [HZ,hb]; rfl
 refine ⟨?_,?_,e⟩
 ·rw [hM.md.fr]; exact wZ (fun e:Rat×Nat×Nat=>(e.2.1:Int)) e
 ·rw [hM.md.to]; exact wZ (fun e:Rat×Nat×Nat=>(e.2.2:Int)) e
theorem Gm {n:Net}{t:aV}{M:aW} (h:og n) (hn:ly n) (hM:Md n t M) (ht:pV n t) {k:Nat}{c:LR} (hc:M.C[k]? = some c):
  ∃ b,n.aS[k]? = some b∧Lg (uq n t.kb) 4 2000 (Ai n t.kb b).2.1 c∧Lg (uq n t.kb) 4 2000 (Ai n t.kb b).2.2 c:=by
 obtain ⟨b,hb,c1,c2,c3⟩:=hM.c k c hc;have V:=B9 h (Hu hb);have hE:=vh h hn ht;obtain ⟨_,_,e⟩:=CV hM hb;have hm:=Hu e;have hs:=V.s;obtain ⟨d1,d2,d3⟩:=DT (q:=b.X*b.rz) (s:=0-b.Shift) V.q.1 (by omega)
 rw [← c3] at d1 d2 d3;have I:=fun (u:Nat) hu=>xy (u:=u) (l:=uq n t.kb) (fun e he=>⟨(tI hE he).1,by have:=(tI hE he).2.1; grind⟩) _ hm hu (((1000*(0-b.Shift):Int)):Rat) ⟨_,rfl⟩
 refine ⟨b,hb,⟨c1,c2,?_,d1,d2⟩,⟨c1,c2,?_,d1,d2⟩⟩
 ·rw [d3]; exact I _ (.inl rfl)
 ·rw [d3]; exact I _ (.inr rfl)
theorem tT (k:Nat):(((k+1:Nat):Int):Rat)=((k:Int):Rat)+1:=by rw [MB,Rat.intCast_add]; rfl
theorem Ee {n:Net}{t:aV}{M:aW} (h:og n) (hn:ly n) (hM:Md n t M) (ht:pV n t) {p:List LR}
  (hp:NL p t.bA.length (fun _ y=>lh y∧RL y 2∧∃ z:Int,rv y=(z:Rat)∧-2400000≤z∧z≤2400000)) {Q:List LR→Prop}{K:List LR→Option (List LR)} (hK:∀ s,NL s t.bA.length (Lg (uq n t.kb) 300 2500000)→Gd (K s) Q):
  Gd (dW (fun k y s n=>ke M k y s n) K 0 M.C p) Q:=by
 have hE:=vh h hn ht;have hcl:=hM.cl;have h24:=h.l3;refine Gd.dW (fun k ys s=>∃ pre,M.C=pre++ys∧pre.length=k∧NL s t.bA.length (Lg (uq n t.kb) (2+10*k) (2400000+4000*((k:Int):Rat)))) ?_ ?_ M.C 0 p ⟨[],rfl,rfl,hp.mono (fun b y hb hy=>?_)⟩
 ·rintro k c ys s nx ⟨pre,hpc,hpk,hs⟩ hnx
  have hck:M.C[k]? = some c:=by rw [hpc,HY (by omega),hpk,IT]; rfl
  obtain ⟨b,hb,g1,g2⟩:=Gm h hn hM ht hck;obtain ⟨f1,f2,f3⟩:=CV hM hb;have hlt:=hE.el _ (Hu f3);have hk24:k<24:=by have:=(G6.1 hck).1; omega
  generalize Ai n t.kb b=e at g1 g2 f1 f2 f3 hlt;unfold ke;refine Gd.ix (by omega) (by rw [Ha]; exact f1) (Gd.ix (by omega) (by rw [Ha]; exact f1) (hs.get hlt.1 (fun y hy=>Gd.eJ (hy.sub g1 (by omega)) (fun r hr=>hs.get hlt.1 (fun _ _=>?_)))))
  have c0:(2400000+4000*((k:Int):Rat))≤(2400000+4000*((k:Int):Rat))+2000:=by grind
  have hs2:=(hs.mono (P':=Lg (uq n t.kb) (2+10*k+5) (2400000+4000*((k:Int):Rat)+2000)) (fun b y _ hy=>hy.mono (by omega) c0)).set (b:=e.2.1) hr
  refine Gd.ix (by omega) (by rw [Ha]; exact f2) (Gd.ix (by omega) (by rw [Ha]; exact f2) ?_)
  rw [Ha,Ha];refine hs2.get hlt.2 (fun y2 hy2=>Gd.eJ (hy2.add g2 (by omega)) (fun r2 hr2=>hs2.get hlt.2 (fun _ _=>?_)))
  have c1:(2400000+4000*((k:Int):Rat))+2000≤2400000+4000*(((k+1:Nat):Int):Rat):=by rw [tT]; grind
  have c2:(2400000+4000*((k:Int):Rat))+2000+2000≤2400000+4000*(((k+1:Nat):Int):Rat):=by rw [tT]; grind
  exact hnx _ ⟨pre++[c],by rw [hpc]; simp,by simp [hpk],(hs2.mono (fun b y _ hy=>hy.mono (by omega) c1)).set (hr2.mono (by omega) c2)⟩
 ·rintro k s ⟨pre,hpc,hpk,hs⟩
  rw [Ia] at hpc;have hk24:k≤24:=by rw [← hpk,← hpc]; omega
  have hc:((k:Int):Rat)≤((24:Int):Rat):=Nq.2 (by omega)
  have e24:((24:Int):Rat)=24:=rfl;rw [e24] at hc;exact hK s (hs.mono (fun b y _ hy=>hy.mono (by omega) (by grind)))
 ·obtain ⟨y1,y2,z,y3,y4,y5⟩:=hy
  have e0:(((0:Nat):Int):Rat)=0:=rfl;have a:=Nq.2 y4;have b:=Nq.2 y5;have e1:((2400000:Int):Rat)=2400000:=rfl;rw [Ns,e1] at a;rw [e1] at b;refine ⟨y1,y2,?_,?_,?_⟩
  ·rw [y3]
   exact nT (uJ (fun e he=>(tI hE he).1)) ⟨z,rfl⟩
  ·rw [y3,e0]; grind
  ·rw [y3,e0]; grind
def An (D:Rat) (y:LR):Prop:=lh y∧∃ T,pF T∧-wq 140≤T∧T≤wq 140∧rv y=T / D
structure Dv (D:Rat):Prop where
 i:pF D
 z:D≠0
 a:-wq 60≤D
 b:D≤wq 60
theorem CF:pF 0:=⟨0,rfl⟩
theorem An.rb {D:Rat} (hD:Dv D) {y:LR} (h:An D y):RB (rv y) 141:=by
 obtain ⟨_,T,t1,t2,t3,e⟩:=h;rw [e];have:=sr (show 60≤140 by omega)
 have h1:=hD.a;have h2:=hD.b;exact tJ t1 hD.i t2 t3 (by grind) (by grind) hD.z (by omega)
theorem An.zero {D:Rat}{y:LR} (hy:lh y) (h0:rv y=0):An D y:=⟨hy,0,CF,by have:=qR 140; grind,by have:=qR 140; grind,by rw [h0,Rat.div_def]; grind⟩
theorem E9 {f:Nat→Rat}{b:Rat} (hb:0≤b):∀ {n:Nat},(∀ i,i<n→-b≤f i∧f i≤b)→-(((n:Int):Rat)*b)≤sm n f∧sm n f≤((n:Int):Rat)*b
 | 0,_=>by
  show -((((0:Nat):Int):Rat)*b)≤0∧0≤((((0:Nat):Int):Rat)*b);have e:((((0:Nat):Int)):Rat)=0:=rfl;rw [e]; grind
 | n+1,h=>by
  have h1:=E9 hb (n:=n) (fun i hi=>h i (by omega))
  have h2:=h n (by omega)
  rw [tT];show _≤sm n f+f n∧sm n f+f n≤_
  grind
theorem BZ {n:Nat}{A B m:Mt}{L R:Nat→Rat} (h:Nb n A L B R) (hp:Pd n A) (hn:n≤23) (hG:Gj n A n m) {i:Nat} (hi:i<n) {x:Nat→Rat} (hx:∀ p,p<n→pF (L p*x p)∧-2500000≤x p∧x p≤2500000) {y:LR} (hy:lh y)
  (e:rv y=sm n (fun p=>m i (n+p)*x p)):An (Dk A L n) y:=by
 have d0:=(h.D0 hp (HH n)).1;have key:∀ p,p<n→∃ T,pF T∧-wq 139≤T∧T≤wq 139∧m i (n+p)*x p=T*(Dk A L n)⁻¹:=fun p hpn=>by
  obtain ⟨N,n1,n2,n3,e1⟩:=hG.num h.s (HH n) hi hpn;rw [Hh (by omega)] at e1
  have e1':m i (n+p)*Dk A L n=N*L p:=by
   have e2:1*m i (n+p)*Dk A L n=N*L p:=e1
   grind
  obtain ⟨x1,x2,x3⟩:=hx p hpn;have hP:=h.hP;have p1:1≤pr n R:=xv (fun j hj=>h.s.R1 hj);have r1:=h.s.R1 hi;have r2:=h.R hi;have hNb:pr n R*R i≤wq 120:=by
   rw [← qQ 60 60];exact mc hP r2 (by grind) (by grind)
  have l1:=h.s.l1 p hpn;have l2:=h.hL p hpn;have w1:(2500000:Rat)≤wq 1:=by
   have:((2500000:Int):Rat)≤(((WB ^ 1:Nat):Int):Rat):=Nq.2 (by decide)
   exact this
  have q1:=u5 (x:=L p) (y:=x p) (a:=wq 18) (b:=wq 1) (by have:=qR 18; grind) l2 (by grind) (by grind)
  rw [qQ] at q1;have q2:=u5 (x:=N) (y:=L p*x p) (a:=wq 120) (b:=wq (18+1)) (by grind) (by grind) q1.1 q1.2
  rw [qQ] at q2;refine ⟨N*(L p*x p),nT n1 x1,q2.1,q2.2,?_⟩;have i1:=Rat.mul_inv_cancel _ d0;have e3:m i (n+p)=N*L p*(Dk A L n)⁻¹:=by rw [← e1']; grind
  rw [e3]; grind
 have:∃ T:Nat→Rat,∀ p,p<n→pF (T p)∧-wq 139≤T p∧T p≤wq 139∧m i (n+p)*x p=(Dk A L n)⁻¹*T p:=by
  refine ⟨fun p=>m i (n+p)*x p*Dk A L n,fun p hpn=>?_⟩;obtain ⟨T,t1,t2,t3,t4⟩:=key p hpn;have i1:=Rat.mul_inv_cancel _ d0;have e2:m i (n+p)*x p*Dk A L n=T:=by rw [t4]; grind
  simp only;rw [e2];exact ⟨t1,t2,t3,by rw [t4]; grind⟩
 obtain ⟨T,hT⟩:=this;have hs:sm n (fun p=>m i (n+p)*x p)=(Dk A L n)⁻¹*sm n T:=by
  rw [← mY];exact lf (fun p hp=>(hT p hp).2.2.2)
 have hb:=E9 (f:=T) (b:=wq 139) (by have:=qR 139; grind) (n:=n) (fun p hp=>⟨(hT p hp).2.1,(hT p hp).2.2.1⟩)
 have hn2:((n:Int):Rat)*wq 139≤wq 140:=by
  have e1:wq 1*wq 139=wq 140:=qQ 1 139;rw [← e1];have h1:((n:Int):Rat)≤wq 1:=Nq.2 (show (n:Int)≤((WB ^ 1:Nat):Int) by
   have:((WB ^ 1:Nat):Int)=4294967296:=by decide
   rw [this]; omega)
  exact Rat.mul_le_mul_of_nonneg_right h1 (by have:=qR 139; grind)
 refine ⟨hy,sm n T,zD (fun p hp=>(hT p hp).1),by grind,by grind,?_⟩
 rw [e,hs,Rat.div_def]; grind
theorem An.mk' {D:Rat} (hD:Dv D) {y z:LR} (h:An D y) (k:An D z):RB (rv y-rv z) 142:=by
 obtain ⟨_,T,t1,t2,t3,e⟩:=h;obtain ⟨_,U,u1,u2,u3,f⟩:=k;have e1:rv y-rv z=(T+-U) / D:=by rw [e,f,Rat.div_def,Rat.div_def,Rat.div_def]; grind
 have w:wq 140+wq 140≤wq 141:=by
  have e2:wq 1*wq 140=wq 141:=qQ 1 140;rw [← e2];have h1:((2:Int):Rat)≤wq 1:=Nq.2 (by decide)
  have h2:((2:Int):Rat)=2:=rfl;rw [h2] at h1;have:=Rat.mul_le_mul_of_nonneg_right h1 (show 0≤wq 140 by have:=qR 140; grind)
  grind
 rw [e1];have w2:=sr (show 60≤141 by omega)
 have d1:=hD.a;have d2:=hD.b;exact tJ (tl t1 (Aq u1)) hD.i (by grind) (by grind) (by grind) (by grind) hD.z (by omega)
def FQ (n:Net) (t:aV):Rat:=Dk (D9 (wh t.bA) (uq n t.kb)) (fun i=>pA (wh t.bA i) (uq n t.kb)) (fr t.bA).length
theorem Ch {n:Net} (h:og n) (hn:ly n) {t:aV} (ht:pV n t):Dv (FQ n t):=by
 have hE:=vh h hn ht;have hNb:=zK hE (xe ht.DG) (fun i j hi hj e=>tk hi hj e);have hp:=zL h hn ht;obtain ⟨a,b,c⟩:=hNb.Db (HH _);exact ⟨a,(hNb.D0 hp (HH _)).1,b,c⟩
theorem A2 {n:Net}{t:aV}{M:aW} (h:og n) (hn:ly n) (hM:Md n t M) (ht:pV n t) {s:List LR} (hs:NL s t.bA.length (Lg (uq n t.kb) 300 2500000)):
  Gd (jV M s) (fun r=>NL r t.bA.length (fun _ y=>An (FQ n t) y)):=by
 have hE:=vh h hn ht;have hnf:=xe ht.DG;have hNb:=zK hE hnf (fun i j hi hj e=>tk hi hj e);have hp:=zL h hn ht;have hfl:M.lN.length=(fr t.bA).length:=by rw [hM.md.free]; simp
 have hfr:∀ k (y:Int),M.lN[k]? = some y→k<(fr t.bA).length∧y=(wh t.bA k:Int):=fun k y hk=>by
  have hk1:=(G6.1 hk).1;rw [hM.md.free,HZ,JB (by omega)] at hk
  exact ⟨by omega,(G7 hk).symm⟩
 obtain ⟨m,hG,hR⟩:=hM.inv.ex;unfold jV;rw [hfl,Ha];refine Gd.nd (by omega) ?_
 refine Gd.dW (fun k ys r=>∃ pre,M.lN=pre++ys∧pre.length=k∧r.length=(fr t.bA).length∧∀ j,j<k→r[j]? = s[wh t.bA j]?) ?_ ?_ M.lN 0 _ ⟨[],rfl,rfl,by simp,fun j hj=>by omega⟩
 ·rintro k y ys r nx ⟨pre,hpf,hpk,hrl,hr⟩ hnx
  obtain ⟨hk,rfl⟩:=hfr k y (by rw [hpf,HY (by omega),hpk,IT]; rfl)
  have hlt:=hM.md.lt k hk;unfold lK;refine Gd.iU (by rw [hs.1]; exact hlt) (Gd.iU (by omega) ?_)
  rw [Ha];refine hnx _ ⟨pre++[(wh t.bA k:Int)],by rw [hpf]; simp,by simp [hpk],by rw [Hw]; exact hrl,fun j hj=>?_⟩
  by_cases e:k=j
  ·subst e
   rw [HS (by omega),G9]
  ·rw [HM e]; exact hr j (by omega)
 ·rintro k r ⟨pre,hpf,hpk,hrl,hr⟩
  rw [Ia] at hpf;have hk:k=(fr t.bA).length:=by rw [← hpk,← hpf,hfl]
  subst hk;unfold dJ;rw [hM.top];refine Gd.eJ (wg (by have:=ht.DG; omega)) ?_
  rintro _ ⟨z,rfl,z1,z2,z3⟩;have hx:∀ j,j<(fr t.bA).length→∃ y,r[j]? = some y∧Lg (uq n t.kb) 300 2500000 (wh t.bA j) y:=fun j hj=>by
   have hlt:=hM.md.lt j hj;have hl:wh t.bA j<s.length:=by rw [hs.1]; exact hlt
   have hsj:=G9 hl;exact ⟨s[wh t.bA j],by rw [hr j hj,hsj],hs.2 _ _ hsj⟩
  have hb:NL r (fr t.bA).length (fun j y=>lh y∧RL y 6000∧rv y=((r[j]?).map rv).getD 0):=⟨hrl,fun j y hj=>by
   have hj1:=(G6.1 hj).1;obtain ⟨y2,e,g⟩:=hx j (by omega)
   rw [hj] at e;obtain rfl:=G7 e;exact ⟨g.1,g.2.1.mono (by omega),by rw [hj]; rfl⟩⟩
  have hxx:∀ p,p<(fr t.bA).length→pF (pA (wh t.bA p) (uq n t.kb)*((r[p]?).map rv).getD 0)∧-2500000≤((r[p]?).map rv).getD 0∧((r[p]?).map rv).getD 0≤2500000:=fun p hp=>by
   obtain ⟨y2,e,g⟩:=hx p hp;rw [e];exact ⟨g.2.2.1,g.2.2.2.1,g.2.2.2.2⟩
  refine Gd.dW (fun k ys o=>∃ pre,M.lN=pre++ys∧pre.length=k∧NL o t.bA.length (fun _ y=>An (FQ n t) y)) ?_ ?_ M.lN 0 _ ⟨[],rfl,rfl,⟨by simp,fun b y hb=>by
   have:=MJ (Hu hb);subst this;exact An.zero z1 z3⟩⟩
  ·rintro k y ys o nx ⟨pre,hpf,hpk,ho⟩ hnx
   obtain ⟨hk,rfl⟩:=hfr k y (by rw [hpf,HY (by omega),hpk,IT]; rfl)
   have hlt:=hM.md.lt k hk;obtain ⟨row,w1,w2,w3⟩:=hR.row k hk;have ha:NL row (fr t.bA).length (fun j y=>lh y∧RL y 6000∧rv y=m k ((fr t.bA).length+j)):=⟨w2,fun j y hj=>by
    have hj1:=(G6.1 hj).1;obtain ⟨y2,e,g⟩:=w3 j (by omega)
    rw [hj] at e;obtain rfl:=G7 e;exact g⟩
   unfold lL;refine Gd.ix (by omega) (by rw [Ha]; exact w1) (Gd.eJ (Fl (by omega) (by omega) ha hb) (fun d hd=>ho.get hlt (fun _ _=>?_)))
   rw [Ha];exact hnx _ ⟨pre++[(wh t.bA k:Int)],by rw [hpf]; simp,by simp [hpk],ho.set (BZ hNb hp hnf hG hk hxx hd.1 hd.2)⟩
  ·rintro k o ⟨_,_,_,ho⟩
   exact Gd.ret ho
theorem AV {n:Net}{t:aV}{M:aW} (h:og n) (hn:ly n) (hM:Md n t M) (ht:pV n t) {p:List LR}
  (hp:NL p t.bA.length (fun _ y=>lh y∧RL y 2∧∃ z:Int,rv y=(z:Rat)∧-2400000≤z∧z≤2400000)):Gd (jU M p) (fun r=>NL r t.bA.length (fun _ y=>An (FQ n t) y)):=by
 have h1:=ht.DG;have h2:=hp.1;unfold jU;exact Gd.nd (by omega) (Ee h hn hM ht hp (fun s hs=>Gd.eJ (A2 h hn hM ht hs) (fun r hr=>Gd.ret hr)))
theorem BJ {n:Net}{t:aV}{M:aW} (h:og n) (hn:ly n) (hM:Md n t M) (ht:pV n t) {a:List LR} (ha:NL a t.bA.length (fun _ y=>An (FQ n t) y)):
  Gd (ky M a) (fun r=>NL r n.aS.length (fun _ y=>lh y∧fits (rv y))):=by
 have hE:=vh h hn ht;have hD:=Ch h hn ht;have hcl:=hM.cl;have h24:=h.l3;unfold ky;refine Gd.dW (fun k ys r=>∃ pre,M.C=pre++ys∧pre.length=k∧NL r k (fun _ y=>lh y∧fits (rv y))) ?_ ?_ M.C 0 _ ⟨[],rfl,rfl,rfl,fun b y hb=>by simp at hb⟩
 ·rintro k c ys r nx ⟨pre,hpc,hpk,hr⟩ hnx
  have hck:M.C[k]? = some c:=by rw [hpc,HY (by omega),hpk,IT]; rfl
  have hk24:k<24:=by have:=(G6.1 hck).1; omega
  obtain ⟨b,hb,c1,c2,c3⟩:=hM.c k c hck;obtain ⟨f1,f2,f3⟩:=CV hM hb;have hlt:=hE.el _ (Hu f3);have hbl:k<M.B_.length:=by rw [hM.md.bl]; exact (G6.1 f3).1
  obtain ⟨e,e1,b1,b2,b3⟩:=hM.md.b k M.B_[k] (G9 hbl);rw [f3] at e1;obtain rfl:=G7 e1;obtain ⟨q,q1,q2,q3⟩:=hE.q _ (Hu f3);have hBR:RB (rv M.B_[k]) 1:=by
   rw [b3,q1];exact RB.Gr (by decide) (by omega) (by omega)
  have hrl:=hr.1;unfold l_;refine Gd.ix (by omega) (by rw [Ha]; exact G9 hbl) (Gd.ix (by omega) (by rw [Ha]; exact f1) (ha.get hlt.1 (fun y hy=>Gd.ix (by omega) (by rw [Ha]; exact f2) (ha.get hlt.2 (fun z hz=>?_)))))
  refine Gd.eJ (sq hy.1 hz.1 (hy.1.rb (hy.rb hD)) (hz.1.rb (hz.rb hD)) (by omega)) (fun d hd=>?_)
  have hdR:RB (rv d) 142:=by rw [hd.2.2]; exact hy.mk' hD hz
  refine Gd.eJ (tK b1 hd.1 (b1.rb hBR) (hd.1.rb hdR) (by omega)) (fun f hf=>?_)
  refine Gd.eJ (rq hf.1 c1 hf.2.1 c2 (by omega)) (fun g hg=>Gd.nd (by simp; omega) (hnx _ ⟨pre++[c],by rw [hpc]; simp,by simp [hpk],hr.snoc ⟨hg.1,?_⟩⟩))
  exact RB.fits ⟨g,hg.1,hg.2.1,rfl⟩ (by omega)
 ·rintro k r ⟨pre,hpc,hpk,hr⟩
  rw [Ia] at hpc;have hk:k=n.aS.length:=by rw [← hpk,← hpc,hcl]
  subst hk;exact Gd.ret hr
theorem yR {l:List LR} (hl:l.length≤1000) (h:∀ y ∈ l,lh y∧fits (rv y)):Gd (kt l) (fun r=>r=(l.map (fun y=>ctext (rv y)),0)):=by
 unfold kt;refine Gd.eJ (P:=fun r=>r=(l.map (fun y=>ctext (rv y)),true)) ?_ (fun r hr=>by subst hr; exact Gd.ite (fun h=>by simp at h) (fun _=>Gd.ret rfl))
 unfold oU;refine Gd.nd (by omega) ?_
 rw [Ha];refine Gd.dW (fun k ys s=>∃ pre,l=pre++ys∧pre.length=k∧s=pre.map (fun y=>ctext (rv y))++List.replicate ys.length (⟨#[]⟩:ByteArray)) ?_ ?_ l 0 _ ⟨[],rfl,rfl,by simp⟩
 ·rintro k y ys _ nx ⟨pre,hp,hpk,rfl⟩ hnx
  obtain ⟨y1,y2⟩:=h y (by rw [hp]; simp)
  unfold oK;refine Gd.eJ (Dl y1) (fun r hr=>?_);have h2:=hr.1.2 y2;refine Gd.ite (fun hh=>by rw [h2] at hh; simp at hh) (fun _=>?_)
  refine Gd.ix (y:=⟨#[]⟩) (by omega) ?_ (hnx _ ⟨pre++[y],by rw [hp]; simp,by simp [hpk],?_⟩)
  ·rw [Ha,HY (by simp [hpk]),JN,hpk,IT,Hz,J5]; rfl
  ·rw [Ha,MU _ _ (by simp [hpk]),JN,hpk,IT,Hz,J5,List.set_cons_zero,hr.2 h2]
   simp
 ·rintro k _ ⟨pre,hp,hpk,rfl⟩
  rw [Ia] at hp;subst hp;exact Gd.ret (by simp)
structure Fe (n:Net) (t:aV) (s:fB):Prop where
 al:s.pR.length=t.bA.length
 fl:s.pT.length=n.aS.length
 a:∀ x ∈ s.pR,∃ q,fits q∧x=ctext q
 f:∀ x ∈ s.pT,∃ q,fits q∧x=ctext q
theorem NL.all {l:List LR}{N:Nat}{P:LR→Prop} (h:NL l N (fun _ y=>P y)):∀ y ∈ l,P y:=fun y hy=>by
 obtain ⟨i,hi,rfl⟩:=IN.1 hy;exact h.2 i _ (G9 hi)
theorem Dt {n:Net}{p:List Int} (h:og n) (hn:ly n) {t:aV} (hg:cV n=some t) (ht:pV n t) (hp:p.length=n.bJ.length) (hb:∀ z ∈ p,-100000≤z∧z≤100000) (hc:kd n p=some 0):
  Gd (kR n p) (fun r=>r.2=0∧Fe n t r.1):=by
 have hN:=ht.DG;have h24:=h.l3;unfold kR;refine Gd.bind_eq hc (Gd.ite (fun h=>by simp at h) (fun _=>?_))
 refine Gd.eJ (yw h hn hg ht) ?_;rintro _ ⟨M,rfl,hM⟩;simp only [Bp];refine Gd.eJ (ED hM ht hn hp hb) (fun sm hsm=>Gd.eJ (AV h hn hM ht hsm) (fun a ha=>?_));have hD:=Ch h hn ht;have hl1:=ha.1;refine Gd.eJ (yR (by omega) (fun y hy=>⟨(ha.all y hy).1,(An.rb hD (ha.all y hy)).fits (by omega)⟩)) ?_
 rintro _ rfl;refine Gd.eJ (BJ h hn hM ht ha) (fun f hf=>?_);have hl2:=hf.1;refine Gd.eJ (yR (by omega) (fun y hy=>hf.all y hy)) ?_
 rintro _ rfl;refine Gd.ite (fun h=>by simp at h) (fun _=>Gd.ret ⟨rfl,by simp [hl1],by simp [hl2],fun x hx=>?_,fun x hx=>?_⟩)
 ·obtain ⟨y,hy,rfl⟩:=II.1 hx
  exact ⟨_,(An.rb hD (ha.all y hy)).fits (by omega),rfl⟩
 ·obtain ⟨y,hy,rfl⟩:=II.1 hx
  exact ⟨_,(hf.all y hy).2,rfl⟩
def acc {α:Type} (f:α→Int) (p:α→Nat) (k:Nat):List α→Int
 | []=>0
 | x::xs=>(if p x=k then f x else 0)+acc f p k xs
theorem wY {α:Type}{f:α→Int}{p:α→Nat}{k:Nat}:∀ {l:List α},(∀ x ∈ l,0≤f x)→0≤acc f p k l
 | [],_=>Kj _
 | x::xs,h=>by
  have h1:=h x (He ..);have h2:=wY (f:=f) (p:=p) (k:=k) (l:=xs) fun y hy=>h y (Ho _ hy);unfold acc
  split <;> omega
theorem y6 {α:Type}{f:α→Int}{p:α→Nat}{k:Nat}{B:Int} (hB:0≤B):∀ {l:List α},(∀ x ∈ l,f x≤B)→acc f p k l≤B*l.length
 | [],_=>by simp [acc]
 | x::xs,h=>by
  have h1:=h x (He ..);have h2:=y6 (f:=f) (p:=p) (k:=k) (B:=B) hB (l:=xs) fun y hy=>h y (Ho _ hy);unfold acc;rw [Hz,MB,My]
  split <;> omega
theorem Ad {α:Type}{f:α→Int}{p:α→Nat}{k:Nat}:∀ (a b:List α),acc f p k (a++b)=acc f p k a+acc f p k b
 | [],b=>by show acc f p k b=0+acc f p k b; omega
 | x::xs,b=>by
  have:=Ad (f:=f) (p:=p) (k:=k) xs b;show (if p x=k then f x else 0)+acc f p k (xs++b)=(if p x=k then f x else 0)+acc f p k xs+acc f p k b
  omega
theorem tf {α:Type}{f:α→Int}{p:α→Nat}{k:Nat} (a:List α) (x:α):acc f p k (a++[x])=acc f p k a+(if p x=k then f x else 0):=by
 rw [Ad];show _+((if p x=k then f x else 0)+0)=_
 omega
def oO (pl:Nat→Nat) (k:Nat):Nat→List Int→Int
 | _,[]=>0
 | i,x::xs=>(if pl i=k then x else 0)+oO pl k (i+1) xs
theorem yx (pl:Nat→Nat) (k:Nat):∀ (a b:List Int) (i:Nat),oO pl k i (a++b)=oO pl k i a+oO pl k (i+a.length) b
 | [],b,i=>by show oO pl k i b=0+oO pl k (i+0) b; rw [Jb]; omega
 | x::xs,b,i=>by
  have:=yx pl k xs b (i+1);have e:i+(x::xs).length=i+1+xs.length:=by simp; omega
  rw [e];show (if pl i=k then x else 0)+oO pl k (i+1) (xs++b)=(if pl i=k then x else 0)+oO pl k (i+1) xs+_
  omega
theorem vG (pl:Nat→Nat) (k:Nat) (y:Int):∀ (l:List Int) (i j:Nat) (h:j<l.length),oO pl k i (l.set j y)=oO pl k i l+(if pl (i+j)=k then y-l[j] else 0)
 | [],_,_,h=>by simp at h
 | x::xs,i,0,_=>by
  rw [List.set_cons_zero,Jb,List.getElem_cons_zero];show (if pl i=k then y else 0)+oO pl k (i+1) xs=(if pl i=k then x else 0)+oO pl k (i+1) xs+_
  split <;> omega
 | x::xs,i,j+1,h=>by
  have h':j<xs.length:=by simpa using h
  have:=vG pl k y xs (i+1) j h';have e:i+1+j=i+(j+1):=by omega
  rw [e] at this;rw [List.set_cons_succ,List.getElem_cons_succ];show (if pl i=k then x else 0)+oO pl k (i+1) (xs.set j y)=(if pl i=k then x else 0)+oO pl k (i+1) xs+_
  rw [this]; omega
theorem yy (pl:Nat→Nat) (k:Nat):∀ (m i:Nat),oO pl k i (List.replicate m 0)=0
 | 0,_=>rfl
 | m+1,i=>by
  show (if pl i=k then (0:Int) else 0)+oO pl k (i+1) (List.replicate m 0)=0
  rw [yy pl k m (i+1)]; split <;> rfl
theorem Az (pl:Nat→Nat) (k:Nat) {B:Int} (hB:0≤B):∀ (l:List Int) (i:Nat),(∀ z ∈ l,-B≤z∧z≤B)→-(B*l.length)≤oO pl k i l∧oO pl k i l≤B*l.length
 | [],_,_=>by simp [oO]
 | x::xs,i,h=>by
  have h1:=h x (He ..);have h2:=Az pl k hB xs (i+1) (fun z hz=>h z (Ho _ hz));show -(B*(x::xs).length)≤(if pl i=k then x else 0)+oO pl k (i+1) xs∧(if pl i=k then x else 0)+oO pl k (i+1) xs≤B*(x::xs).length
  rw [Hz,MB,My]
  split <;> omega
def xt (t:aV) (i:Nat):Nat:=((t.bA[((t.kb[i]?).getD 0).toNat]?).getD 0).toNat
theorem zO {n:Net}{t:aV} (ht:pV n t) {i:Nat} (hi:i<n.bJ.length):∃ v:Nat,t.kb[i]? = some (v:Int)∧v<t.bA.length∧t.bA[v]? = some (xt t i:Int)∧xt t i<t.bA.length:=by
 have hil:i<t.kb.length:=by rw [ht.bl]; exact hi
 have h1:=ht.bi _ (Iy hil);obtain ⟨c,hc⟩:=ht.comp;have hv:(t.kb[i]).toNat<t.bA.length:=by omega
 have e1:t.kb[i]? = some (((t.kb[i]).toNat:Nat):Int):=by rw [G9 hil]; congr 1; omega
 have h2:=hc.all ((t.kb[i]).toNat:Int) (by omega) (by omega)
 rw [vx hv] at h2;have hm:=hc.mN;refine ⟨(t.kb[i]).toNat,e1,hv,?_,?_⟩
 ·unfold xt
  rw [e1,JA,Ha,G9 hv,JA]
  congr 1; omega
 ·unfold xt
  rw [e1,JA,Ha,G9 hv,JA];omega
def sG (n:Net) (t:aV) (s:BA):Nat:=xt t (pos n s)
theorem vS {n:Net}{t:aV} (ht:pV n t) {s:BA} (hs:s ∈ n.bJ):jP n t s=some (sG n t s:Int)∧sG n t s<t.bA.length:=by
 obtain ⟨p1,p2⟩:=LA hs;obtain ⟨v,v1,v2,v3,v4⟩:=zO ht p2;refine ⟨?_,v4⟩;rw [← Gd.eq];unfold jP;exact Gd.bind_eq p1 (Gd.ix (by omega) (by rw [Ha]; exact v1) (Gd.ix (by omega) (by rw [Ha]; exact v3) (Gd.ret rfl)))
theorem Bo {n:Net}{t:aV} (hg:cV n=some t) (ht:pV n t):∃ N:Nat,ju n=some (N:Int)∧N≤24∧∀ s ∈ n.bJ,sG n t s<N:=by
 obtain ⟨c,hc⟩:=ht.comp;have hm:=hc.mN;have hII:uE t.bA.length t.bA:=fun a ha=>by
  obtain ⟨k,hk,rfl⟩:=IN.1 ha;have:=hc.all (k:Int) (by omega) (by omega)
  rw [vx hk] at this;omega
 have h:Gd (ju n) (fun r=>∃ N:Nat,r=N∧N≤24∧uE N t.bA):=by
  unfold ju;refine Gd.bind_eq hg (Ej t.bA.length ht.DG _ (fun k y n nx=>by unfold mP; rfl) _ t.bA hII (fun m hm hbm=>Gd.ret ⟨m,rfl,by have:=ht.DG; omega,hbm⟩))
 obtain ⟨r,hr,N,rfl,h1,h2⟩:=h;refine ⟨N,hr,h1,fun s hs=>?_⟩;obtain ⟨v,_,_,v3,_⟩:=zO ht (LA hs).2;have:=h2 _ (Hu v3);show xt t (pos n s)<N;omega
abbrev A7 (n:Net) (t:aV) (k:Nat):Int:=acc aK.bL (fun l:aK=>sG n t l.Node) k n.bQ
theorem Ci {n:Net} (hn:ly n) (t:aV) (k:Nat):0≤A7 n t k∧A7 n t k≤1200000:=by
 have h1:=wY (f:=aK.bL) (p:=fun l:aK=>sG n t l.Node) (k:=k) (l:=n.bQ) (fun l hl=>(hn.ld l hl).2.1);have h2:=y6 (f:=aK.bL) (p:=fun l:aK=>sG n t l.Node) (k:=k) (B:=100000) (by omega) (l:=n.bQ) (fun l hl=>(hn.ld l hl).2.2)
 have:=hn.l5;have h3:A7 n t k≤100000*(n.bQ.length:Int):=h2;exact ⟨h1,by omega⟩
theorem CH {n:Net}{t:aV} (hn:ly n) (hg:cV n=some t) (ht:pV n t) {N:Nat} (hN:ju n=some (N:Int)) (h24:N≤24) (hpl:∀ s ∈ n.bJ,sG n t s<N):
  Gd (mw n) (fun r=>r.length=N∧∀ k (hk:k<r.length),r[k].bL=A7 n t k):=by
 have h4:=hn.l4;have h5:=hn.l5;unfold mw;refine Gd.bind_eq hg (Gd.bind_eq hN (Gd.nd ⟨by omega,by omega⟩ ?_))
 rw [Ha];refine Gd.dW (fun i ys s=>(∀ y ∈ ys,y ∈ n.dR)∧s.length=N∧∀ k (hk:k<s.length),s[k].bL=0) ?_ ?_ _ _ _ ⟨fun _ h=>h,by simp,?_⟩
 ·rintro i y ys s nx ⟨hm,hl,hk⟩ hnx
  have hy:=hm y (He ..);obtain ⟨hp,_⟩:=vS ht (hn.gn y hy).1;have hlt:sG n t y.Node<s.length:=by have:=hpl _ (hn.gn y hy).1; omega
  unfold nW;refine Gd.bind_eq hp (Gd.iU hlt ?_);rw [Ha,List.set_set];refine hnx _ ⟨fun z hz=>hm z (Ho _ hz),by simp [hl],fun k hkl=>?_⟩
  rw [Hw] at hkl;rw [ML]
  split
  ·exact hk _ hlt
  ·exact hk k hkl
 ·rintro i s ⟨_,hl,hk⟩
  refine Gd.dW (fun i ys s=>∃ pre,n.bQ=pre++ys∧s.length=N∧∀ k (hk:k<s.length),s[k].bL=acc aK.bL (fun l:aK=>sG n t l.Node) k pre) ?_ ?_ _ _ _ ⟨[],rfl,hl,hk⟩
  ·rintro i y ys s nx ⟨pre,hp,hl,hk⟩ hnx
   have hy:y ∈ n.bQ:=by rw [hp]; simp
   obtain ⟨hpp,_⟩:=vS ht (hn.ld y hy).1;have hlt:sG n t y.Node<s.length:=by have:=hpl _ (hn.ld y hy).1; omega
   have hyd:=hn.ld y hy;have hb1:=wY (f:=aK.bL) (p:=fun l:aK=>sG n t l.Node) (k:=sG n t y.Node) (l:=pre) (fun l hl=>(hn.ld l (by rw [hp]; simp [hl])).2.1)
   have hb2:=y6 (f:=aK.bL) (p:=fun l:aK=>sG n t l.Node) (k:=sG n t y.Node) (B:=100000) (by omega) (l:=pre) (fun l hl=>(hn.ld l (by rw [hp]; simp [hl])).2.2)
   have hpre:pre.length≤12:=by
    have:n.bQ.length=pre.length+(ys.length+1):=by rw [hp]; simp
    omega
   have hkk:=hk _ hlt;have hw1:i64.wrap (s[sG n t y.Node].bL+y.bL)=s[sG n t y.Node].bL+y.bL:=bP ⟨by omega,by omega⟩
   unfold nX;refine Gd.bind_eq hpp (Gd.iU hlt (Gd.iU hlt ?_));rw [hw1,Ha];refine hnx _ ⟨pre++[y],by rw [hp]; simp,by simp [hl],fun k hkl=>?_⟩
   rw [Hw] at hkl;rw [ML,tf]
   by_cases e:sG n t y.Node=k
   ·subst e
    rw [Hl rfl,Hl rfl,hkk]
   ·rw [Hh e,Hh e,hk k hkl]; omega
  ·rintro i s ⟨pre,hp,hl,hk⟩
   rw [Ia] at hp;subst hp;exact Gd.ret ⟨hl,hk⟩
 ·intro k hk
  have e:(List.replicate N ({ c_:=0,gK:=0,bL:=0 }:aL))[k]={ c_:=0,gK:=0,bL:=0 }:=List.getElem_replicate _;rw [e]
theorem D6 (l:List Int):Gd (cP l) (fun b=>b=true↔∃ v ∈ l,0<v):=by
 unfold cP dL;refine Gd.eJ (P:=fun r=>0≤r↔∃ v ∈ l,0<v) ?_ (fun r hr=>Gd.ret (by simpa using hr))
 refine Gd.jT (fun m i _=>i+m=l.length∧∀ v ∈ l.take i,v≤0) ?_ ?_ (l.length:Int).toNat 0 () ⟨by omega,by simp⟩
 ·intro m i _ nx ⟨hi,hno⟩ hnx
  unfold eC kS;refine Gd.iU (by omega) (Gd.ite (fun h=>Gd.ret ⟨fun _=>⟨l[i],Iy _,by simpa using h⟩,fun _=>by omega⟩) (fun h=>hnx () ⟨by omega,?_⟩))
  rw [Ig (by omega)]
  intro v hv;rcases HV.1 hv with hv | hv
  ·exact hno v hv
  ·simp at hv; subst hv; simpa using h
 ·intro i _ ⟨hi,hno⟩
  rw [HN (by omega)] at hno
  exact Gd.ret ⟨fun h=>by omega,fun ⟨v,hv,h⟩=>by have:=hno v hv; omega⟩
abbrev yk (n:Net) (t:aV) (k:Nat) (l:List (cR×Int)):Int:=acc (fun z:cR×Int=>z.2) (fun z:cR×Int=>sG n t z.1.Node) k l
structure Gh (n:Net) (t:aV) (p:List Int):Prop where
 len:p.length=n.dR.length
 each:∀ z ∈ n.dR.zip p,0≤z.2∧z.2≤100000∧(z.2=0∨z.1.c_≤z.2∧z.2≤z.1.gK)
 Gl:∀ k,yk n t k (n.dR.zip p)=A7 n t k
theorem Bi {n:Net}{t:aV} (hn:ly n) (hg:cV n=some t) (ht:pV n t) (hc:cI n=some 0):
  Gd (jO n) (fun x=>(x.2=14∧x.1=[])∨(x.2=0∧Gh n t x.1)):=by
 obtain ⟨N,hN,h24,hpl⟩:=Bo hg ht;have h4:=hn.l4;have h5:=hn.l5;obtain ⟨r,hr,hlen,hk⟩:=CH hn hg ht hN h24 hpl;unfold jO;refine Gd.bind_eq hc (Gd.ite (fun h=>by simp at h) (fun _=>Gd.bind_eq hg (Gd.bind_eq hr ?_)))
 refine Gd.dW (fun i ys s=>i+ys.length=r.length∧ys=r.drop i∧s=(r.take i).map aL.bL) ?_ ?_ _ _ _ ⟨by simp,by simp,by simp⟩
 ·rintro i y ys s nx ⟨hi,hys,rfl⟩ hnx
  simp only [Hz] at hi;have hlt:i<r.length:=by omega
  rw [Il hlt] at hys;obtain ⟨rfl,rfl⟩:=MG hys;unfold nC;refine Gd.nd (by simp; omega) (hnx _ ⟨by omega,rfl,?_⟩)
  rw [Ig hlt,I4]; rfl
 rintro i s ⟨hi,_,rfl⟩;rw [HN (by simp at hi; omega)]
 refine Gd.dW (fun i ys (s:List Int×List Int)=>∃ pre,n.dR=pre++ys∧pre.length=i∧s.1.length=N∧s.2.length=pre.length∧(∀ v ∈ s.1,0≤v)∧(∀ z ∈ pre.zip s.2,0≤z.2∧z.2≤100000∧(z.2=0∨z.1.c_≤z.2∧z.2≤z.1.gK)) ∧
   (∀ k (hk:k<s.1.length),s.1[k]+yk n t k (pre.zip s.2)=A7 n t k)) ?_ ?_ _ _ _
  ⟨[],rfl,rfl,by simp [hlen],rfl,?_,by simp,?_⟩
 ·rintro i y ys ⟨rest,out⟩ nx ⟨pre,hp,hpi,hl1,hl2,h0,he,hb⟩ hnx
  simp only at hl1 hl2 h0 he hb;have hy:y ∈ n.dR:=by rw [hp]; simp
  obtain ⟨hpp,_⟩:=vS ht (hn.gn y hy).1;have hlp:sG n t y.Node<rest.length:=by have:=hpl _ (hn.gn y hy).1; omega
  have hgy:=hn.gn y hy;have hr0:=h0 rest[sG n t y.Node] (Iy _);have hb0:=hb _ hlp;have hd:=Ci hn t (sG n t y.Node);have hge:0≤yk n t (sG n t y.Node) (pre.zip out):=wY (fun z hz=>(he z hz).1);have hpl10:pre.length<10:=by
   have:n.dR.length=pre.length+(ys.length+1):=by rw [hp]; simp
   omega
  have step:∀ p:Int,0≤p→p≤rest[sG n t y.Node]→p≤y.gK→(p=0∨y.c_≤p∧p≤y.gK) →
    Gd (jv rest out nx (sG n t y.Node:Int) rest[sG n t y.Node] p) (fun x=>(x.2=14∧x.1=[])∨(x.2=0∧Gh n t x.1)):=by
   intro p p0 pr pm pe;have hw:i64.wrap (rest[sG n t y.Node]-p)=rest[sG n t y.Node]-p:=bP ⟨by omega,by omega⟩
   have hz:(pre++[y]).zip (out++[p])=pre.zip out++[(y,p)]:=by rw [List.zip_append hl2.symm]; rfl
   unfold jv;rw [hw,Ha];refine Gd.nd (by simp; omega) (hnx _ ⟨pre++[y],by rw [hp]; simp,by simp [hpi],by simp [hl1],by simp [hl2],?_,?_,?_⟩)
   ·intro v hv
    rcases MR hv with hv | rfl
    ·exact h0 v hv
    ·omega
   ·simp only
    rw [hz];intro z hzz;rcases HV.1 hzz with h1 | h1
    ·exact he z h1
    ·rw [IJ] at h1
     subst h1;exact ⟨p0,by simp only; omega,pe⟩
   ·intro k hkl
    simp only [Hw] at hkl;simp only;rw [hz];unfold yk;rw [tf,ML];have hbk:=hb k hkl;unfold yk at hbk
    by_cases e:sG n t y.Node=k
    ·subst e
     rw [Hl rfl,Hl rfl];simp only; omega
    ·rw [Hh e,Hh e]; omega
  unfold nD;refine Gd.bind_eq hpp (Gd.iU hlp (Gd.ite (fun hle=>?_) (fun _=>step 0 (by omega) (by omega) (by omega) (.inl rfl))))
  have hle:y.c_≤rest[sG n t y.Node]:=by simpa using hle
  exact step (min y.gK rest[sG n t y.Node]) (by omega) (by omega) (by omega) (.inr ⟨by omega,by omega⟩)
 ·rintro i ⟨rest,out⟩ ⟨pre,hp,hpi,hl1,hl2,h0,he,hb⟩
  simp only at hl1 hl2 h0 he hb;rw [Ia] at hp;subst hp;refine Gd.eJ (D6 rest) (fun b hb2=>Gd.ite (fun _=>Gd.ret (.inl ⟨rfl,rfl⟩)) (fun h=>Gd.ret (.inr ⟨rfl,hl2,he,fun k=>?_⟩)));have hno:∀ v ∈ rest,v=0:=fun v hv=>by
   have h1:=h0 v hv
   by_cases e:0<v
   ·have:=hb2.2 ⟨v,hv,e⟩
    rw [this] at h; cases h
   ·omega
  by_cases hkN:k<rest.length
  ·have:=hb k hkN
   rw [hno _ (Iy _)] at this;show yk n t k (n.dR.zip out)=_;omega
  ·have none:∀ {α:Type} (f:α→Int) (p:α→Nat) (l:List α),(∀ x ∈ l,p x<N)→acc f p k l=0:=by
    intro α f p l
    induction l with
    | nil=>intro _; rfl
    | cons x l ih=>
     intro hx;have h1:=hx x (He ..);have h2:=ih (fun x h=>hx x (Ho _ h));show (if p x=k then f x else 0)+acc f p k l=0
     rw [Hh (by omega),h2]; rfl
   rw [show A7 n t k=0 from none _ _ _ (fun l hl=>hpl _ (hn.ld l hl).1)];exact none _ _ _ (fun z hz=>hpl _ (hn.gn _ (List.of_mem_zip hz).1).1)
 ·intro v hv
  obtain ⟨s,hs,rfl⟩:=II.1 hv;obtain ⟨k,hk2,rfl⟩:=IN.1 hs;rw [hk k hk2]; exact (Ci hn t k).1
 ·intro k hkl
  simp only [JN] at hkl;simp only [JH];rw [hk k hkl];show A7 n t k+0=_;omega
theorem yT {α β:Type}{y:α}{v:β}:∀ {pre:List α}{p:List β},p[pre.length]? = some v→(pre++[y]).zip p=pre.zip p++[(y,v)]
 | [],[],h=>by simp at h
 | [],b::p,h=>by
  have:b=v:=by simpa using h
  subst this;simp
 | a::pre,[],h=>by simp at h
 | a::pre,b::p,h=>by
  have h2:p[pre.length]? = some v:=by simpa using h
  have:=yT (y:=y) h2;simp [this]
structure BK (n:Net) (t:aV) (p:List Int):Prop where
 len:p.length=n.bJ.length
 DH:∀ z ∈ p,-100000≤z∧z≤100000
 Gl:∀ k,oO (xt t) k 0 p=0
theorem zx {n:Net}{t:aV} (h:og n) (hn:ly n) (hg:cV n=some t) (ht:pV n t) (hc:cI n=some 0) {p:List Int} (hp:Gh n t p):
  Gd (nb n p (List.replicate n.bY.length 0)) (fun x=>(x.2=4∧x.1=[])∨(x.2=0∧BK n t x.1)):=by
 have l1:=hn.l1;have l4:=hn.l4;have l5:=hn.l5;have l6:=h.l6;unfold nb;refine Gd.bind_eq hc (Gd.ite (fun h=>by simp at h) (fun _=>?_))
 refine Gd.ite (fun h=>absurd h (by simp [hp.len])) (fun _=>Gd.nd (by omega) ?_)
 rw [Ha];refine Gd.dW (fun i ys s=>∃ pre,n.dR=pre++ys∧pre.length=i∧s.length=n.bJ.length∧(∀ k,oO (xt t) k 0 s=yk n t k (pre.zip p))∧∀ z ∈ s,-(100000*(i:Int))≤z∧z≤100000*(i:Int)) ?_ ?_ n.dR 0 _
  ⟨[],rfl,rfl,by simp,fun k=>yy _ _ _ _,fun z hz=>by have:=MJ hz; omega⟩
 ·rintro i y ys s nx ⟨pre,hpp,hpi,hsl,hb,hs⟩ hnx
  have hy:y ∈ n.dR:=by rw [hpp]; simp
  obtain ⟨q1,q2⟩:=LA (hn.gn y hy).1;have hil:i<n.dR.length:=by rw [hpp]; simp; omega
  have hip:i<p.length:=by rw [hp.len]; exact hil
  have hpi2:=G9 hip;have hzip:=yT (y:=y) (pre:=pre) (p:=p) (v:=p[i]) (by rw [hpi]; exact hpi2)
  have hmem:(y,p[i]) ∈ n.dR.zip p:=by
   refine IN.2 ⟨i,by simp [hp.len]; omega,?_⟩
   rw [List.getElem_zip]
   congr 1
   have:n.dR[i]? = some y:=by rw [hpp,HY (by omega),hpi,IT]; rfl
   rw [G9 hil] at this;exact G7 this
  have he:=hp.each _ hmem;simp only at he;have hps:pos n y.Node<s.length:=by omega
  have hz:=hs _ (Iy hps);have fin:Gd (nx (s.set ((pos n y.Node:Int)).toNat (i64.wrap (s[pos n y.Node]+p[i])))) (fun x=>(x.2=4∧x.1=[])∨(x.2=0∧BK n t x.1)):=by
   have hw:i64.wrap (s[pos n y.Node]+p[i])=s[pos n y.Node]+p[i]:=bP ⟨by omega,by omega⟩
   rw [hw,Ha];refine hnx _ ⟨pre++[y],by rw [hpp]; simp,by simp [hpi],by simp [hsl],fun k=>?_,fun z hz2=>?_⟩
   ·rw [vG _ _ _ _ _ _ hps,hb k,hzip]
    unfold yk;rw [tf,H_];show _+(if sG n t y.Node=k then _ else _)=_
    split <;> omega
   ·rcases MR hz2 with h1 | h1
    ·have:=hs z h1; omega
    ·subst h1; omega
  unfold oD;refine Gd.iU hip (Gd.ite (fun h0=>?_) (fun h0=>?_))
  ·exact Gd.bind_eq q1 (Gd.iU hps (Gd.iU hip (Gd.iU hps fin)))
  ·have h0:p[i]≠0:=Hv h0
   refine Gd.iU hip (Gd.ite (fun h1=>?_) (fun _=>Gd.iU hip (Gd.ite (fun h1=>?_) (fun _=>Gd.bind_eq q1 (Gd.iU hps (Gd.iU hip (Gd.iU hps fin)))))))
   ·have:=Hk h1; omega
   ·have:=Hk h1; omega
 ·rintro i s ⟨pre,hpp,hpi,hsl,hb,hs⟩
  rw [Ia] at hpp;subst hpp;have hb2:∀ k,oO (xt t) k 0 s=A7 n t k:=fun k=>(hb k).trans (hp.Gl k);have hs2:∀ z ∈ s,-1000000≤z∧z≤1000000:=fun z hz=>by have:=hs z hz; omega
  clear hb hs;refine Gd.dW (fun i ys s'=>∃ pre,n.bY=pre++ys∧pre.length=i∧s'=s) ?_ ?_ n.bY 0 _ ⟨[],rfl,rfl,rfl⟩
  ·rintro i y ys s nx ⟨pre,hpp,hpi,rfl⟩ hnx
   have hy:y ∈ n.bY:=by rw [hpp]; simp
   obtain ⟨_,v2,v3⟩:=h.vt y hy;obtain ⟨q1,q2⟩:=LA v2;have hil:i<n.bY.length:=by rw [hpp]; simp; omega
   have hst:(List.replicate n.bY.length (0:Int))[i]? = some 0:=by rw [JX,Hl hil]
   have hps:pos n y.Node<s.length:=by omega
   have hz:=hs2 _ (Iy hps);have hch:0≤y.lg∧y.lg≤100000∧0≤y.Discharge∧y.Discharge≤100000:=by
    simp [wP,aX,bI] at v3;omega
   have hw:i64.wrap (0-y.lg)=0-y.lg:=bP ⟨by omega,by omega⟩
   have hw2:i64.wrap (s[pos n y.Node]+0)=s[pos n y.Node]:=by rw [bP ⟨by omega,by omega⟩]; omega
   unfold oE;rw [hw];refine Gd.ix (by omega) (by rw [Ha]; exact hst) (Gd.ite (fun h1=>?_) (fun _=>Gd.ix (by omega) (by rw [Ha]; exact hst) (Gd.ite (fun h1=>?_) (fun _=>Gd.bind_eq q1 (Gd.iU hps (Gd.ix (by omega) (by rw [Ha]; exact hst) (Gd.iU hps ?_)))))))
   ·have:=Hk h1; omega
   ·have:=Hk h1; omega
   ·rw [hw2,Ha]
    exact hnx _ ⟨pre++[y],by rw [hpp]; simp,by simp [hpi],vX (G9 hps)⟩
  ·rintro i _ ⟨_,_,_,rfl⟩
   refine Gd.dW (fun i ys s'=>∃ pre,n.bQ=pre++ys∧pre.length=i∧s'.length=n.bJ.length∧(∀ k,oO (xt t) k 0 s'=A7 n t k-acc aK.bL (fun l:aK=>sG n t l.Node) k pre)∧∀ z ∈ s',-(1000000+100000*(i:Int))≤z∧z≤1000000) ?_ ?_ n.bQ 0 _
    ⟨[],rfl,rfl,hsl,fun k=>by rw [hb2 k]; show _=A7 n t k-0; omega,fun z hz=>by have:=hs2 z hz; omega⟩
   ·rintro i y ys s' nx ⟨pre,hpp,hpi,hsl',hb',hs'⟩ hnx
    have hy:y ∈ n.bQ:=by rw [hpp]; simp
    obtain ⟨q1,q2⟩:=LA (hn.ld y hy).1;have hd:=(hn.ld y hy).2;have hil:i<n.bQ.length:=by rw [hpp]; simp; omega
    have hps:pos n y.Node<s'.length:=by omega
    have hz:=hs' _ (Iy hps);have hw:i64.wrap (s'[pos n y.Node]-y.bL)=s'[pos n y.Node]-y.bL:=bP ⟨by omega,by omega⟩
    unfold oF;refine Gd.bind_eq q1 (Gd.iU hps (Gd.iU hps ?_));rw [hw,Ha];refine hnx _ ⟨pre++[y],by rw [hpp]; simp,by simp [hpi],by simp [hsl'],fun k=>?_,fun z hz2=>?_⟩
    ·rw [vG _ _ _ _ _ _ hps,hb' k,tf,H_]
     show _+(if sG n t y.Node=k then _ else _)=_
     split <;> omega
    ·rcases MR hz2 with h1 | h1
     ·have:=hs' z h1; omega
     ·subst h1; omega
   ·rintro i s' ⟨pre,hpp,hpi,hsl',hb',hs'⟩
    rw [Ia] at hpp;subst hpp;refine Gd.dW (fun i ys _=>∃ pre,s'=pre++ys∧∀ z ∈ pre,-100000≤z∧z≤100000) ?_ ?_ s' 0 _ ⟨[],rfl,fun z hz=>by simp at hz⟩
    ·rintro i y ys _ nx ⟨pre,hpp,hr⟩ hnx
     unfold oG;refine Gd.ite (fun _=>Gd.ret (.inl ⟨rfl,rfl⟩)) (fun h1=>hnx () ⟨pre++[y],by rw [hpp]; simp,fun z hz=>?_⟩)
     simp only [Mv,NC] at h1;rcases HV.1 hz with h2 | h2
     ·exact hr z h2
     ·rw [IJ] at h2
      subst h2; omega
    ·rintro i _ ⟨pre,hpp,hr⟩
     rw [Ia] at hpp;subst hpp;exact Gd.ret (.inr ⟨rfl,hsl',hr,fun k=>by rw [hb' k]; show A7 n t k-A7 n t k=0; omega⟩)
theorem Bg {n:Net}{t:aV} (h:og n) (hn:ly n) (hg:cV n=some t) (ht:pV n t) (hc:cI n=some 0):
  Gd (gS n) (fun x=>(x.2≠0∧x.1=[])∨(x.2=0∧BK n t x.1)):=by
 have l6:=h.l6;unfold gS;refine Gd.eJ (Bi hn hg ht hc) (fun x hx=>?_);rcases hx with ⟨e,_⟩ | ⟨e,hb⟩
 ·rw [e]
  exact Gd.ite (fun _=>Gd.ret (.inl ⟨by simp,rfl⟩)) (fun h=>by simp at h)
 ·rw [e]
  refine Gd.ite (fun h=>by simp at h) (fun _=>Gd.nd (by omega) ?_)
  rw [Ha];refine Gd.eJ (zx h hn hg ht hc hb) (fun y hy=>Gd.ret ?_);rcases hy with ⟨e1,e2⟩ | hy
  ·exact .inl ⟨by simp only; omega,e2⟩
  ·exact .inr hy
theorem Ba {n:Net}{t:aV} (hg:cV n=some t) (ht:pV n t) (hn:ly n) (hc:cI n=some 0) {p:List Int} (hp:BK n t p):kd n p=some 0:=by
 have l1:=hn.l1;rw [← Gd.eq];unfold kd;refine Gd.bind_eq hc (Gd.ite (fun h=>by simp at h) (fun _=>Gd.ite (fun h=>absurd h (by simp [hp.len])) (fun _=>Gd.bind_eq hg ?_)))
 refine Gd.dW (fun i ys (l:List (Int×Int))=>∃ pre,p=pre++ys∧pre.length=i∧xE l∧(∀ z ∈ l,∃ k:Nat,z.1=(k:Int))∧∀ k:Nat,(mW l (k:Int)).getD 0=oO (xt t) k 0 pre) ?_ ?_ p 0 _ ⟨[],rfl,rfl,xE.nil,fun z hz=>by simp at hz,fun k=>by simp [mW,re,oO]⟩
 ·rintro i y ys l nx ⟨pre,hpp,hpi,hk,hkey,hs⟩ hnx
  have hy:=hp.DH y (by rw [hpp]; simp)
  have hpl:p.length=pre.length+(ys.length+1):=by rw [hpp]; simp
  have hpn:=hp.len;obtain ⟨v,v1,v2,v3,v4⟩:=zO ht (show i<n.bJ.length by omega)
  have hbd:=Az (xt t) (xt t i) (B:=100000) (by omega) pre 0 (fun z hz=>hp.DH z (by rw [hpp]; simp [hz]))
  have hw:i64.wrap ((mW l (xt t i:Int)).getD 0+y)=(mW l (xt t i:Int)).getD 0+y:=by
   rw [hs (xt t i)];exact bP ⟨by omega,by omega⟩
  unfold pg;refine Gd.ite (fun h=>?_) (fun _=>Gd.ix (by omega) (by rw [Ha]; exact v1) (Gd.ix (by omega) (by rw [Ha]; exact v3) ?_))
  ·exfalso
   simp only [Jd,IF] at h;omega
  ·rw [hw]
   refine hnx _ ⟨pre++[y],by rw [hpp]; simp,by simp [hpi],(hk.put _ _).1,fun z hz=>?_,fun k=>?_⟩
   ·rcases ((hk.put _ _).2 z).1 hz with h1 | h1
    ·exact ⟨xt t i,by rw [h1]⟩
    ·exact hkey z h1.1
   ·rw [hk.Ao,yx]
    show _=_+((if xt t (0+pre.length)=k then y else 0)+0)
    rw [H_,hpi]
    by_cases e:xt t i=k
    ·subst e
     rw [Hl rfl,Hl rfl,JA,hs]; omega
    ·rw [Hh (by omega),Hh e,hs]; omega
 ·rintro i l ⟨pre,hpp,hpi,hk,hkey,hs⟩
  rw [Ia] at hpp;subst hpp;have:(l.any fun p=>!decide (p.2=0))=false:=by
   rw [List.any_eq_false];intro z hz;obtain ⟨k,hk2⟩:=hkey z hz;have h1:mW l (k:Int)=some z.2:=hk.find.2 (by rw [← hk2]; exact hz)
   have h2:=hs k;rw [h1,JA,hp.Gl k] at h2;simp [h2]
  rw [this];exact Gd.ret rfl
theorem DB (l:List ByteArray):gB l l=some true:=by
 rw [← Gd.eq];unfold gB;refine Gd.ite (fun h=>by simp at h) (fun _=>?_)
 refine Gd.jT (Q:=fun x=>x=true) (fun m i (_:Unit)=>i+m=l.length) ?_ (fun _ _ _=>Gd.ret rfl) ((l.length:Int)).toNat 0 () (by omega)
 intro m i _ nx hi hnx;unfold kE;exact Gd.iU (by omega) (Gd.iU (by omega) (Gd.ite (fun h=>by simp at h) (fun _=>hnx () (by omega))))
theorem Cg {s:ByteArray} (h:∃ q,fits q∧s=ctext q):s.size≤maxLen:=by
 obtain ⟨q,hq,rfl⟩:=h;have:=zq hq;unfold maxLen; omega
theorem BF {n:Net}{p:List Int} (h:og n) (hn:ly n) {t:aV} (hg:cV n=some t) (ht:pV n t) (hc:kd n p=some 0) {s:fB} (hs:Fe n t s) (hr:kR n p=some (s,0)):qI n p s=some 0:=by
 have hN:=ht.DG;have h24:=h.l3;rw [← Gd.eq];unfold qI;refine Gd.bind_eq hc (Gd.ite (fun h=>by simp at h) (fun _=>?_))
 refine Gd.eJ (yw h hn hg ht) ?_;rintro _ ⟨M,rfl,hM⟩;simp only [Bp];unfold dJ;rw [hM.top,hs.al,hs.fl];refine Gd.ite (fun _=>Gd.ite (fun h=>by simp at h) (fun _=>?_)) (fun h=>by simp at h)
 refine Gd.seen (l:=[s.pR,s.pT]) (fun _ _=>True) ?_ ?_ () G_
 ·rintro i y _ nx pre hpre _ hnx
  have hy:=(qP hpre).2.1;unfold qZ;have hcv:n7 y=some 0:=by
   rw [← Gd.eq];have hlen:y.length≤24∧∀ x ∈ y,∃ q,fits q∧x=ctext q:=by
    rcases Ik.1 hy with rfl | hy
    ·exact ⟨by rw [hs.al]; exact hN,hs.a⟩
    ·rw [IJ] at hy
     subst hy;exact ⟨by rw [hs.fl]; exact h24,hs.f⟩
   unfold n7;refine Gd.ite (fun h=>absurd (Hk h) (by omega)) (fun _=>Gd.eJ (ya (fun x hx=>Cg (hlen.2 x hx))) (fun c hc=>Gd.ret (hc.2 hlen.2)))
  exact Gd.bind_eq hcv (Gd.ite (fun h=>by simp at h) (fun _=>hnx () G_))
 ·rintro _ _
  refine Gd.bind_eq hr (Gd.ite (fun _=>?_) (fun h=>by simp at h))
  exact Gd.bind_eq (DB _) (Gd.ite (fun _=>Gd.bind_eq (DB _) (Gd.ite (fun h=>by simp at h) (fun _=>Gd.ret rfl))) (fun h=>by simp at h))
theorem na.Gq {n:Net} (h:na n) (a b:Nat):na (aC.mk n.bJ n.bM n.aS (nr n.dR 0 a) (nr n.bQ 0 b) n.bY):=
 ⟨h.nd,h.sw,h.br,fun x hx=>h.gn x (by unfold nr at hx; simp at hx; exact JV hx),fun x hx=>h.ld x (by unfold nr at hx; simp at hx; exact JV hx),h.st⟩
theorem xh (n:Net) (hz:na n):(∃ e,e≠0∧gS n=some ([],e)) ∨
  (∃ t p s,og n∧ly n∧cV n=some t∧pV n t∧BK n t p∧gS n=some (p,0)∧kd n p=some 0∧kR n p=some (s,0)∧Fe n t s∧qI n p s=some 0):=by
 obtain ⟨e,he,hok⟩:=check_sound n hz
 by_cases h0:e=0
 ·subst h0
  have hV:=hok rfl;have hn:=hV.ok hz;obtain ⟨t,hg,ht⟩:=EF hn;obtain ⟨⟨p,x⟩,hi,hx⟩:=Bg hV hn hg ht he;rcases hx with ⟨hne,hp⟩ | ⟨hx,hb⟩
  ·left
   simp only at hne hp;subst hp;exact ⟨x,hne,hi⟩
  ·right
   simp only at hx hb;subst hx;have hc:=Ba hg ht hn he hb;obtain ⟨⟨s,y⟩,hs,hy,hst⟩:=Dt hV hn hg ht hb.len hb.DH hc;simp only at hy hst;subst hy;exact ⟨t,p,s,hV,hn,hg,ht,hb,hi,hc,hs,hst,BF hV hn hg ht hc hst hs⟩
 ·left
  refine ⟨e,h0,?_⟩;have hsh:jO n=some ([],e):=by
   rw [← Gd.eq];unfold jO;exact Gd.bind_eq he (Gd.ite (fun _=>Gd.ret rfl) (fun h=>absurd (by simpa using h) h0))
  rw [← Gd.eq];unfold gS;exact Gd.bind_eq hsh (Gd.ite (fun _=>Gd.ret rfl) (fun h=>absurd (by simpa using h) h0))
instance Gw (p:ByteArray) (l:List ByteArray):Decidable (p ∈ l):=@List.instDecidableMemOfLawfulBEq _ instBEqOfDecidableEq inferInstance p l
theorem vT (l:List ByteArray) (p:ByteArray):cJ l p=some (decide (p ∈ l)):=by
 obtain ⟨b,e,h⟩:=pH l p;rw [e]
 congr 1
 cases b <;> simp_all
def qx (W:List BA) (x:aK):Bool:=decide (x.Name ∈ W)
theorem del_eq (W:List BA) (x:aK):ku x W=some (!qx W x):=by
 unfold ku;rw [vT]; rfl
theorem zr (W:List BA) (A:List aK) (hA:A.length≤1000):Gd (cD A W) (fun r=>r=A.filter (qx W)):=by
 unfold cD;refine Gd.eJ (P:=fun r=>(r = -1∧∀ x ∈ A,qx W x=true)∨∃ (i:Nat) (h:i<A.length),r=i∧qx W A[i]=false∧∀ x ∈ A.take i,qx W x=true) ?_ (fun r hr=>?_)
 ·unfold cW
  refine Gd.jT (fun m i _=>i+m=A.length∧∀ x ∈ A.take i,qx W x=true) ?_ ?_ (A.length:Int).toNat 0 () ⟨by omega,by simp⟩
  ·intro m i _ nx ⟨hi,hno⟩ hnx
   have hlt:i<A.length:=by omega
   unfold dE;refine Gd.iU hlt ?_;rw [del_eq];refine Gd.ite (fun h=>Gd.ret (.inr ⟨i,hlt,rfl,by simpa using h,hno⟩)) (fun h=>hnx () ⟨by omega,?_⟩)
   rw [Ig hlt];intro x hx;rcases HV.1 hx with hx | hx
   ·exact hno x hx
   ·simp at hx; subst hx; simpa using h
  ·intro i _ ⟨hi,hno⟩
   rw [HN (by omega)] at hno
   exact Gd.ret (.inl ⟨rfl,hno⟩)
 ·rcases hr with ⟨rfl,hall⟩ | ⟨i,hi,rfl,hki,hpre⟩
  ·exact Gd.ite (fun _=>Gd.ret (Mk.2 hall).symm) (fun h=>by simp at h)
  ·refine Gd.ite (fun h=>by simp at h) (fun _=>?_)
   have hw0:i64.wrap ((i:Int)+1)=((i+1:Nat):Int):=by rw [bP ⟨by omega,by omega⟩]; omega
   rw [hw0];have hinit:A.take i=(A.take (i+1)).filter (qx W):=by
    rw [Ig hi,KC,Mk.2 hpre];simp [MK,hki]
   refine Gd.fD (fun (s:List aK×Int×Int)=>∃ p q:Nat,s.2.1=p∧s.2.2=q∧p<q∧q≤A.length∧s.1.length=A.length∧s.1.take p=(A.take q).filter (qx W)∧s.1.drop q=A.drop q) (fun s=>A.length-s.2.2.toNat) ?_ eB _ ⟨i,i+1,rfl,rfl,by omega,by omega,rfl,hinit,rfl⟩ (by unfold eB; omega)
   rintro ⟨l,n1,n2⟩ nx ⟨p,q,h1,h2,hpq,hqA,hl,htk,hdr⟩ hn;simp only at h1 h2 hl htk hdr;subst h1; subst h2
   unfold dC b_;have hwq:i64.wrap ((q:Int)+1)=((q+1:Nat):Int):=by rw [bP ⟨by omega,by omega⟩]; omega
   have hwp:i64.wrap ((p:Int)+1)=((p+1:Nat):Int):=by rw [bP ⟨by omega,by omega⟩]; omega
   rw [hwq];refine Gd.ite (fun h=>?_) (fun h=>?_)
   ·have hq:q<l.length:=by
     have:(q:Int)<((l.length:Nat):Int):=by simpa using h
     omega
    have hqa:q<A.length:=by omega
    have hv:l[q]=A[q]:=by
     have e1:=Il hq;have e2:=Il hqa;rw [hdr,e2] at e1;exact (MG e1).1.symm
    have hd2:l.drop (q+1)=A.drop (q+1):=by
     have:=HB (List.drop 1) hdr;simpa [Jt] using this
    have htk2:(A.take (q+1)).filter (qx W)=(A.take q).filter (qx W)++(if qx W A[q] then [A[q]] else []):=by
     rw [Ig hqa,KC]
     congr 1
     simp only [MK,List.filter_nil]
    refine Gd.iU hq ?_;rw [del_eq,hv];refine Gd.ite (fun hk=>Gd.iU (show p<l.length by omega) ?_) (fun hk=>?_)
    ·have hk:qx W A[q]=true:=by simpa using hk
     rw [hwp,Ha];refine hn _ ⟨p+1,q+1,rfl,rfl,by omega,by omega,by simpa using hl,?_,?_⟩ (by simp only [Ha]; omega)
     ·simp only
      have hp:p<(l.set p A[q]).length:=by simp; omega
      rw [Ig hp,List.getElem_set_self,htk2,Hl hk,J6 (HH p),htk]
     ·simp only
      rw [J4 (by omega),hd2]
    ·have hk:qx W A[q]=false:=by simpa using hk
     refine hn _ ⟨p,q+1,rfl,rfl,by omega,by omega,hl,?_,hd2⟩ (by simp only [Ha]; omega)
     simp only;rw [htk2,Hh (by simp [hk]),Ia,htk]
   ·have hq:l.length≤q:=by
     have:((l.length:Nat):Int)≤(q:Int):=by simpa using h
     omega
    have hqe:q=A.length:=by omega
    refine Gd.nd ⟨MC p,show (p:Int)≤((l.length:Nat):Int) by omega⟩ (Gd.nd ⟨MC p,?_⟩ (Gd.ret ?_))
    ·simp only [Ha,HQ,HT,IS]; omega
    ·unfold nr
     rw [Jg,Lh,Ha,K_ (by simp; omega),Le,Nat.min_self,htk,hqe,I5]
theorem wO {l:List ByteArray}{k:Nat}:nr l 0 k=l.take k:=by unfold nr; simp
def wR (n:Net) (on:List ByteArray):Net:=aC.mk n.bJ n.bM n.aS n.dR (n.bQ.filter (qx on)) n.bY
theorem AT {n:Net} (h:og n) (on:List ByteArray):kB n on=some (wR n on):=by
 have:=h.l1; have:=h.l2; have:=h.l3; have:=h.l4; have:=h.l5; have:=h.l6
 rw [← Gd.eq];unfold kB nq;refine Gd.eJ (P:=fun r=>r=n) (Gd.nd (by omega) (Gd.nd (by omega) (Gd.nd (by omega) (Gd.nd (by omega) (Gd.nd (by omega) (Gd.nd (by omega) (Gd.ret rfl))))))) (fun r hr=>?_)
 subst hr;refine Gd.eJ (zr on r.bQ (by omega)) (fun l hl=>Gd.ret ?_)
 rw [hl]; rfl
theorem na.wR {n:Net} (h:na n) (on:List ByteArray):na (wR n on):=
 ⟨h.nd,h.sw,h.br,h.gn,fun x hx=>h.ld x (IX.1 hx).1,h.st⟩
def xi (z:bH×Rat):Prop:=(z.1.jS:Rat)<FD z.2
open Classical in
noncomputable def vR (z:bH×Rat):List ByteArray:=if xi z then [z.1.Name] else []
theorem Br {z:bH×Rat} (h:xi z):vR z=[z.1.Name]:=Hl h
theorem C6 {z:bH×Rat} (h:¬ xi z):vR z=[]:=Hh h
theorem E7:∀ {l:List ByteArray},(∀ x ∈ l,∃ q,fits q∧x=ctext q)→∃ qs:List Rat,l=qs.map ctext∧∀ q ∈ qs,fits q
 | [],_=>⟨[],rfl,fun q h=>by cases h⟩
 | x::l,h=>by
  obtain ⟨q,hq,rfl⟩:=h x (He ..);obtain ⟨qs,rfl,hf⟩:=E7 (l:=l) (fun y hy=>h y (Ho _ hy));refine ⟨q::qs,rfl,fun p hp=>?_⟩;rcases Ik.1 hp with rfl | hp
  ·exact hq
  ·exact hf p hp
theorem DE {bs:List bH}{qs:List Rat}{i:Nat} (h:i<bs.length) (h':i<qs.length):
  ((bs.zip qs).take (i+1)).flatMap vR=((bs.zip qs).take i).flatMap vR++vR (bs[i],qs[i]):=by
 have hz:i<(bs.zip qs).length:=by simp; omega
 rw [Ig hz,Ml,List.getElem_zip];simp
theorem Eo {n:Net} (hV:og n) {qs:List Rat} (hl:qs.length=n.aS.length) (hf:∀ q ∈ qs,fits q):
  my n (qs.map ctext)=some ((n.aS.zip qs).flatMap vR):=by
 have h3:=hV.l3;rw [← Gd.eq];unfold my;refine Gd.dW (fun i (ys:List bH) (w:List ByteArray)=>i+ys.length=n.aS.length∧n.aS.drop i=ys∧w.length≤i∧w=((n.aS.zip qs).take i).flatMap vR) ?_ ?_ n.aS 0 [] ⟨by simp,rfl,by simp,by simp⟩
 ·rintro i y ys w nx ⟨hi,hd,hw,hv⟩ hnx
  simp only [Hz] at hi;have hib:i<n.aS.length:=by omega
  have hiq:i<qs.length:=by omega
  have hy:n.aS[i]=y:=by
   have e:=Il hib;rw [hd] at e; exact (MG e).1.symm
  have hd':n.aS.drop (i+1)=ys:=by
   have:=HB (List.drop 1) hd;simpa [Jt] using this
  have hL:=(B9 hV (Iy hib)).l;have hst:=DE hib hiq;rw [← hv] at hst;unfold n8 k_;refine Gd.iU (by simpa using hiq) ?_
  rw [JH];refine Gd.eJ (C8 (hf _ (Iy hiq))) (fun a ha=>Gd.eJ (Ey ha.1 ha.2.1 (by omega)) (fun b hb=>?_))
  rw [← hy];refine Gd.eJ (sh ⟨by omega,by omega⟩) (fun c hc=>Gd.eJ (EA hb.1 hc.1 hb.2.1 hc.2.1 (by omega)) (fun d hd2=>?_))
  rw [hb.2.2,hc.2.2,ha.2.2] at hd2;have hov:0<d↔xi (n.aS[i],qs[i]):=hd2.1;clear hd2;refine Gd.ite (fun h=>Gd.nd ?_ (hnx _ ⟨by omega,hd',?_,?_⟩)) (fun h=>hnx _ ⟨by omega,hd',by omega,?_⟩)
  ·simp only [Hz,MP]; omega
  ·simp; omega
  ·rw [hst,Br (hov.1 (Hk h))]
  ·rw [hst,C6 (fun k=>Hv h (hov.2 k)),Ia]
 ·rintro i w ⟨hi,_,_,hv⟩
  rw [HN (by simp at hi ⊢; omega)] at hv
  exact Gd.ret hv
theorem vQ {c:Net} (hz:na c):∃ e,iS c=some e:=by
 suffices h:Gd (iS c) (fun _=>True) by
  obtain ⟨e,he,_⟩:=h;exact ⟨e,he⟩
 unfold iS;refine Gd.eJ (P:=fun _=>True) ?_ (fun r _=>Gd.ite (fun _=>Gd.ret G_) (fun _=>Gd.ret G_));unfold lW;rcases xh c hz with ⟨x,hx,hi⟩ | ⟨t,p,s,hV,hn,hg,ht,hb,hi,hfc,hs,hst,hv⟩
 ·exact Gd.bind_eq hi (Gd.ite (fun _=>Gd.ret G_) (fun k=>absurd (by simpa using k) hx))
 ·obtain ⟨qs,hq,hqf⟩:=E7 hst.f
  have hql:qs.length=c.aS.length:=by
   have:=hst.fl;rw [hq,JN] at this;exact this
  have ho:=Eo hV (qs:=qs) hql hqf;rw [← hq] at ho;exact Gd.bind_eq hi (Gd.ite (fun k=>by simp at k) (fun _=>Gd.bind_eq hs (Gd.ite (fun k=>by simp at k) (fun _=>Gd.bind_eq ho (Gd.ret G_)))))
def sL (n:Net) (l:List ByteArray):Prop:=iS (wR n l)=some 0
def nm (n:Net):List ByteArray:=n.bQ.map (·.Name)
theorem yB {n:Net} (h:og n):(nm n).Nodup:=by
 have:=h.nd;unfold names at this;exact (IK.1 (IK.1 this).1).2.1
theorem zM (n:Net):(nm n).length=n.bQ.length:=by simp [nm]
theorem Dq (l:List ByteArray):nr l 0 ((l.length:Int)).toNat=l:=by simp [nr]
structure Found (n:Net) (l out:List ByteArray):Prop where
 ext:out.take l.length=l
 len:out.length=n.bQ.length
 ok:∀ k,l.length≤k→k≤out.length→sL n (out.take k)
 set:l.Nodup→(∀ x ∈ l,x ∈ nm n)→out.Nodup∧∀ x ∈ out,x ∈ nm n
theorem um {n:Net} (hz:na n) (hV:og n):∀ (m:Nat) (l:List ByteArray),l.length+m=n.bQ.length→∀ f,m<f →
  Gd (fQ f n l) (fun r=>(r.2=true→Found n l r.1)∧(r.2=false→r.1=[]) ∧
   (l=(nm n).take l.length→(∀ j,l.length≤j→j≤n.bQ.length→sL n ((nm n).take j))→r=(nm n,true)))
 | m,l,hm,0,hf=>by omega
 | m,l,hm,f+1,hf=>by
  have h5:=hV.l5;have hnd:=yB hV;have hnl:=zM n;show Gd (gZ (fQ f) n l) _;unfold gZ;obtain ⟨e,he⟩:=vQ (hz.wR l);refine Gd.bind_eq (AT hV l) (Gd.bind_eq he (Gd.ite (fun h=>Gd.ret ⟨fun h=>by simp at h,fun _=>rfl,fun h1 h2=>?_⟩) (fun h=>?_)))
  ·have:=h2 l.length (HH _) (by omega)
   rw [← h1] at this;unfold sL at this;rw [he] at this;have:=G7 this;subst this;simp at h
  have h0:e=0:=by simpa using h
  subst h0;refine Gd.ite (fun h=>Gd.ret ⟨fun _=>⟨I5,?_,fun k h1 h2=>?_,fun a b=>⟨a,b⟩⟩,fun h=>by simp at h,fun h1 _=>?_⟩) (fun h=>?_)
  ·have h3:(l.length:Int)=n.bQ.length:=Hk h
   show l.length=n.bQ.length;omega
  ·rw [HN h1]; exact he
  ·have hl:l.length=n.bQ.length:=by have:=Hk h; omega
   rw [hl,← hnl,I5] at h1;rw [h1]
  have hl:l.length≠n.bQ.length:=fun e=>Hv h (by rw [e])
  obtain ⟨m',rfl⟩:∃ m',m=m'+1:=⟨m-1,by omega⟩
  refine Gd.dW (fun i (ys:List aK) (_:Unit)=>i+ys.length=n.bQ.length∧n.bQ.drop i=ys∧(l=(nm n).take l.length→(∀ j,l.length≤j→j≤n.bQ.length→sL n ((nm n).take j))→i≤l.length)) ?_ ?_ n.bQ 0 () ⟨by simp,rfl,fun _ _=>Nat.zero_le _⟩
  ·rintro i y ys _ nx ⟨hi,hd,hI⟩ hnx
   simp only [Hz] at hi;have hil:i<n.bQ.length:=by omega
   have hy:n.bQ[i]=y:=by
    have e:=Il hil;rw [hd] at e; exact (MG e).1.symm
   have hd':n.bQ.drop (i+1)=ys:=by
    have:=HB (List.drop 1) hd;simpa [Jt] using this
   have rS:i<(nm n).length:=by omega
   have hny:(nm n)[i]=y.Name:=by simp [nm,hy]
   have hmem:y.Name ∈ nm n:=hny▸Iy rS;unfold mb iZ;rw [vT];refine Gd.ite (fun h=>hnx () ⟨by omega,hd',fun h1 h2=>?_⟩) (fun h=>?_)
   ·have hle:=hI h1 h2
    refine Nat.lt_of_le_of_ne hle (fun e=>?_);have hy2:y.Name ∈ l:=Hk h;rw [h1,← e] at hy2;obtain ⟨q,hq,hq2⟩:=MT.1 hy2;rw [← hny] at hq2;have:q=i:=by first | exact (List.getElem_inj hnd).1 hq2 | exact hnd.getElem_inj_iff.1 hq2
    omega
   ·have hno:y.Name ∉ l:=Hv h
    rw [Dq];refine Gd.nd (by omega) (Gd.nd (by simp only [Hz,MP]; omega) ?_)
    have hlt:(l++[y.Name]).length=l.length+1:=by simp
    refine Gd.eJ (um hz hV m' (l++[y.Name]) (by omega) f (by omega)) (fun r hr=>Gd.ite (fun h=>Gd.ret ⟨fun _=>?_,fun h=>by simp at h,fun h1 h2=>?_⟩) (fun h=>hnx () ⟨by omega,hd',fun h1 h2=>?_⟩))
    ·have hF:=hr.1 h
     have hx:r.1.take l.length=l:=by
      have:=HB (List.take l.length) hF.ext;rw [hlt,Le,Ix (by omega),K_ (HH _),I5] at this
      exact this
     refine ⟨hx,hF.len,fun k h1 h2=>?_,fun a b=>hF.set ?_ ?_⟩
     ·by_cases e:k=l.length
      ·subst e; rw [hx]; exact he
      ·exact hF.ok k (by omega) h2
     ·exact IK.2 ⟨a,by simp,fun x hx z hz e=>by simp at hz; subst hz; exact hno (e▸hx)⟩
     ·intro x hx
      rcases HV.1 hx with hx | hx
      ·exact b x hx
      ·simp at hx; subst hx; exact hmem
    ·have key:i=l.length:=by
      have hle:=hI h1 h2;refine Nat.le_antisymm hle (Nat.not_lt.1 (fun hlt'=>hno ?_));rw [h1];exact MT.2 ⟨i,by omega,hny⟩
     have h1':l++[y.Name]=(nm n).take (l++[y.Name]).length:=by
      rw [hlt,Ig (by omega),← h1]
      congr 2
      rw [← hny]; simp only [key]
     have:=hr.2.2 h1' (fun j a b=>h2 j (by omega) b)
     rw [this]
    ·have key:i=l.length:=by
      have hle:=hI h1 h2;refine Nat.le_antisymm hle (Nat.not_lt.1 (fun hlt'=>hno ?_));rw [h1];exact MT.2 ⟨i,by omega,hny⟩
     have h1':l++[y.Name]=(nm n).take (l++[y.Name]).length:=by
      rw [hlt,Ig (by omega),← h1]
      congr 2
      rw [← hny]; simp only [key]
     have:=hr.2.2 h1' (fun j a b=>h2 j (by omega) b)
     rw [this] at h;simp at h
  ·rintro i _ ⟨hi,_,hI⟩
   simp only [MP] at hi;refine Gd.ret ⟨fun h=>by simp at h,fun _=>rfl,fun h1 h2=>?_⟩
   have hle:=hI h1 h2;omega
def FO (l:List BA):Prop:=∀ (p q:Nat) (a b:BA),p<q→l[p]? = some a→l[q]? = some b→Bk a b
theorem CT:(List.range 25).all (fun n=>(lV (u64.wrap ((n:Nat):Int))).isSome)=true:=by kernel_rfl
theorem swap_perm (l:List BA) (j:Nat) (h:j+1<l.length):((l.set (j+1) l[j]).set j l[j+1]).Perm l:=by
 have e:(l.set (j+1) l[j]).set j l[j+1]=l.take j++(l[j+1]::l[j]::l.drop (j+2)):=by
  apply Ji;intro q;rw [Lb,Lb,Jv];simp only [Hw,HT,Ix (show j≤l.length by omega),It]
  by_cases h1:j=q
  ·subst h1; simp; omega
  ·rw [Hh h1]
   by_cases h2:j+1=q
   ·subst h2
    rw [Hl rfl,Hl h,Hh (by omega)]
    rw [show j+1-j=1 by omega]; rfl
   ·rw [Hh h2]
    by_cases h3:q<j
    ·rw [Hl h3,Hl h3]
    ·rw [Hh h3]
     obtain ⟨d,rfl⟩:∃ d,q=j+2+d:=⟨q-(j+2),by omega⟩
     rw [show j+2+d-j=d+2 by omega]
     simp [Ib]
 have e2:l=l.take j++(l[j]::l[j+1]::l.drop (j+2)):=by
  rw [← Il (show j+1<l.length from h),← Il (show j<l.length by omega),I2]
 rw [e]
 conv=>rhs; rw [e2]
 exact L3 _ (List.Perm.swap _ _ _)
def Fc (l:List BA) (i j:Nat):Prop:=∀ (p q:Nat) (a b:BA),p<q→q≤i→q≠j→l[p]? = some a→l[q]? = some b→Bk a b
theorem CG (l:List BA) (hl:l.length≤12):Gd (dM l 0 l.length) (fun r=>r.Perm l∧FO r):=by
 unfold dM;have h01:i64.wrap (0+1)=((1:Nat):Int):=rfl;rw [h01];refine Gd.fD (fun (s:List BA×Int)=>∃ i:Nat,s.2=i∧1≤i∧s.1.Perm l∧∀ (p q:Nat) (a b:BA),p<q→q<i→s.1[p]? = some a→s.1[q]? = some b→Bk a b) (fun s=>100-s.2.toNat) ?_ eB _ ⟨1,rfl,by omega,ME _,fun p q a b h1 h2=>by omega⟩ (by simp; unfold eB; omega)
 rintro ⟨d,i'⟩ nx ⟨i,hi,h1i,hpm,hs⟩ hn;simp only at hi hpm hs;subst hi;have hdl:d.length=l.length:=hpm.length_eq;unfold fL;refine Gd.ite (fun h=>?_) (fun h=>?_)
 ·have hil:i<l.length:=by
   have:(i:Int)<((l.length:Nat):Int):=by simpa using h
   omega
  have hwi:i64.wrap ((i:Int)+1)=((i+1:Nat):Int):=by rw [bP ⟨by omega,by omega⟩]; omega
  refine Gd.fD (fun (s:List BA×Int)=>∃ j:Nat,s.2=j∧j≤i∧s.1.Perm l∧Fc s.1 i j) (fun s=>s.2.toNat) ?_ eB _ ⟨i,rfl,HH _,hpm,fun p q a b hpq hq hqj=>hs p q a b hpq (by omega)⟩ (by simp; unfold eB; omega)
  rintro ⟨e,j'⟩ nx2 ⟨j,hj,hji,hpe,hb⟩ hn2;simp only at hj hpe hb;subst hj;have hel:e.length=l.length:=hpe.length_eq;unfold fM;rw [hwi];refine Gd.ite (fun h0=>?_) (fun h0=>?_)
  ·obtain ⟨k,rfl⟩:∃ k,j=k+1:=⟨j-1,by
    have:(0:Int)<(j:Int):=by simpa using h0
    omega⟩
   have hwj:i64.wrap (((k+1:Nat):Int)-1)=(k:Int):=by rw [bP ⟨by omega,by omega⟩]; omega
   have hk1:k+1<e.length:=by omega
   have hk0:k<e.length:=by omega
   rw [hwj];refine Gd.iU hk1 (Gd.iU hk0 (Gd.ite (fun hlt=>?_) (fun hge=>?_)))
   ·have hlt:xm e[k+1] e[k]=true:=by simpa [jH,dI] using hlt
    refine Gd.iU hk0 (Gd.iU hk1 (Gd.iU hk1 (Gd.iU (by simp; omega) ?_)))
    rw [Ha,Ha];refine hn2 _ ⟨k,rfl,by omega,(swap_perm e k hk1).trans hpe,?_⟩ (by simp)
    have g1:e[k]? = some e[k]:=G9 hk0;have g2:e[k+1]? = some e[k+1]:=G9 hk1;have val:∀ q:Nat,((e.set (k+1) e[k]).set k e[k+1])[q]? = if q=k then some e[k+1] else if q=k+1 then some e[k] else e[q]? := by
     intro q;rw [Lb,Lb]
     by_cases h1:k=q
     ·subst h1; simp; omega
     ·rw [Hh h1,Hh (Ne.symm h1)]
      by_cases h2:k+1=q
      ·subst h2; simp; omega
      ·rw [Hh h2,Hh (Ne.symm h2)]
    intro p q a b hpq hqi hqk ha hb';simp only at ha hb';rw [val] at ha hb';rw [Hh hqk] at hb'
    by_cases q1:q=k+1
    ·rw [Hl q1] at hb'
     cases hb'
     by_cases p1:p=k
     ·rw [Hl p1] at ha; cases ha
      exact CU hlt
     ·rw [Hh p1,Hh (by omega)] at ha
      exact hb p k a e[k] (by omega) (by omega) (by omega) ha g1
    ·rw [Hh q1] at hb'
     by_cases p1:p=k
     ·rw [Hl p1] at ha; cases ha
      exact hb (k+1) q _ b (by omega) hqi q1 g2 hb'
     ·rw [Hh p1] at ha
      by_cases p2:p=k+1
      ·rw [Hl p2] at ha; cases ha
       exact hb k q _ b (by omega) hqi q1 g1 hb'
      ·rw [Hh p2] at ha
       exact hb p q a b hpq hqi q1 ha hb'
   ·have hge:xm e[k+1] e[k]=false:=by simpa [jH,dI] using hge
    refine hn _ ⟨i+1,rfl,by omega,hpe,?_⟩ (by simp only [Ha]; omega)
    intro p q a b hpq hqi ha hb';simp only at ha hb'
    by_cases q1:q=k+1
    ·subst q1
     rw [G9 hk1] at hb'; cases hb'
     by_cases p1:p=k
     ·subst p1
      rw [G9 hk0] at ha; cases ha
      exact hge
     ·exact Bl (hb p k a e[k] (by omega) (by omega) (by omega) ha (G9 hk0)) hge
    ·exact hb p q a b hpq (by omega) q1 ha hb'
  ·have hj0:j=0:=by
    have:(j:Int)≤0:=by simpa using h0
    omega
   subst hj0;refine hn _ ⟨i+1,rfl,by omega,hpe,fun p q a b hpq hqi ha hb'=>hb p q a b hpq (by omega) (by omega) ha hb'⟩ (by simp only [Ha]; omega)
 ·have hil:l.length≤i:=by
   have:((l.length:Nat):Int)≤(i:Int):=by simpa using h
   omega
  refine Gd.ret ⟨hpm,fun p q a b hpq ha hb=>hs p q a b hpq ?_ ha hb⟩;have hq:q<d.length:=(G6.1 hb).1;omega
theorem AS (l:List BA) (hl:l.length≤12):Gd (eF l) (fun r=>r.Perm l∧FO r):=by
 unfold eF;have hlen:∃ z,lV (u64.wrap ((l.length:Nat):Int))=some z:=by
  have:=IG.1 CT l.length (Io.2 (by omega))
  exact Option.isSome_iff_exists.1 this
 obtain ⟨z,hz⟩:=hlen;refine Gd.bind_eq hz (Gd.eJ (P:=fun r=>r.Perm l∧FO r) ?_ (fun r hr=>Gd.ret hr));unfold gC;refine Gd.fD (fun _=>True) (fun _=>0) ?_ eB () G_ (by unfold eB; omega)
 intro _ nx _ _;unfold iC;refine Gd.ite (fun _=>Gd.eJ (CG l hl) (fun r hr=>Gd.ret hr)) (fun h=>?_);rw [bP ⟨by omega,by omega⟩] at h
 simp at h; omega
theorem FO.pw {l:List BA} (h:FO l):l.Pairwise Bk:=by
 rw [Ki];intro i j hi hj hij;exact h i j _ _ hij (G9 hi) (G9 hj)
theorem v_:∀ {a b:List BA},a.Pairwise Bk→b.Pairwise Bk→a.Perm b→a=b
 | [],b,_,_,h=>(List.Perm.nil_eq h)
 | x::xs,[],_,_,h=>absurd h.length_eq (by simp)
 | x::xs,y::ys,ha,hb,h=>by
  rw [List.pairwise_cons] at ha hb;have hxy:x=y:=by
   have h1:x ∈ y::ys:=h.mem_iff.1 (He ..);have h2:y ∈ x::xs:=h.mem_iff.2 (He ..);rcases Ik.1 h1 with e | h1
   ·exact e
   ·rcases Ik.1 h2 with e | h2
    ·exact e.symm
    ·exact CQ (ha.1 y h2) (hb.1 x h1)
  subst hxy;rw [v_ ha.2 hb.2 ((List.perm_cons x).1 h)]
theorem oQ:fI=some true:=by kernel_rfl
theorem seq_eq (l:List ByteArray):dK l l=some true:=by
 rw [← Gd.eq];unfold dK;refine Gd.ite (fun h=>by simp at h) (fun _=>?_)
 refine Gd.jT (Q:=fun x=>x=true) (fun m i (_:Unit)=>i+m=l.length) ?_ (fun _ _ _=>Gd.ret rfl) ((l.length:Int)).toNat 0 () (by omega)
 intro m i _ nx hi hnx;unfold iV;exact Gd.iU (by omega) (Gd.iU (by omega) (Gd.ite (fun h=>by simp at h) (fun _=>hnx () (by omega))))
theorem wQ {n:Net} (hc:cI n=some 0) (l:List ByteArray) (hl:l.length≤1000) (hnd:l.Nodup) (hs:∀ x ∈ l,x ∈ nm n):iR n l=some 0:=by
 rw [← Gd.eq];unfold iR;refine Gd.bind_eq hc (Gd.ite (fun h=>by simp at h) (fun _=>?_))
 refine Gd.dW (Q:=fun e=>e=0) (fun i (ys:List ByteArray) (_:Unit)=>i+ys.length=l.length∧l.drop i=ys) ?_ (fun _ _ _=>Gd.ret rfl) l 0 () ⟨by simp,rfl⟩
 rintro i y ys _ nx ⟨hi,hd⟩ hnx;simp only [Hz] at hi;have hil:i<l.length:=by omega
 have hy:l[i]=y:=by
  have e:=Il hil;rw [hd] at e; exact (MG e).1.symm
 have hd':l.drop (i+1)=ys:=by
  have:=HB (List.drop 1) hd;simpa [Jt] using this
 have hmem:y ∈ nm n:=hs y (hy▸Iy hil);obtain ⟨q,hq,hqy⟩:=IN.1 hmem;rw [zM] at hq;have hqy:n.bQ[q].Name=y:=by simpa [nm] using hqy
 unfold nJ;refine Gd.eJ (P:=fun b=>b=true) ?_ (fun b hb=>?_)
 ·unfold cO cU
  refine Gd.eJ (P:=fun r=>(0:Int)≤r) ?_ (fun r hr=>Gd.ret (by simpa using hr))
  refine Gd.jT (Q:=fun r=>(0:Int)≤r) (fun m i (_:Unit)=>i+m=n.bQ.length∧i≤q) ?_ (fun i _ h=>by omega) ((n.bQ.length:Int)).toNat 0 () ⟨by omega,by omega⟩
  rintro m i _ nx ⟨hi,hiq⟩ hnx;unfold dD;refine Gd.iU (by omega) (Gd.ite (fun _=>Gd.ret (by omega)) (fun h=>hnx () ⟨by omega,?_⟩))
  refine Nat.lt_of_le_of_ne hiq (fun e=>?_);subst e;simp [k9,hqy] at h
 ·subst hb
  refine Gd.ite (fun h=>by simp at h) (fun _=>Gd.nd (by omega) ?_)
  rw [vT,wO,Ha];refine Gd.ite (fun h=>?_) (fun _=>hnx () ⟨by omega,hd'⟩)
  exfalso;have h:=Hk h;obtain ⟨p,hp,hp2⟩:=MT.1 h;rw [← hy] at hp2;have:p=i:=(List.getElem_inj hnd).1 hp2;omega
theorem wz {n:Net} (hz:na n) (hV:og n) {l:List ByteArray} (hl:l.length≤1000) (hc:iR n l=some 0):
  Gd (gY n l) (fun r=>(r=(0,0)∧∀ k,k≤l.length→sL n (l.take k))∨(r.2≠0∧0≤r.1∧¬ ∀ k,k≤l.length→sL n (l.take k))):=by
 unfold gY;refine Gd.bind_eq hc (Gd.ite (fun h=>by simp at h) (fun _=>?_))
 refine Gd.fD (fun (s:Int)=>∃ k:Nat,s=k∧k≤l.length+1∧∀ j,j<k→sL n (l.take j)) (fun s=>l.length+1-s.toNat) ?_ eB 0 ⟨0,rfl,by omega,fun j h=>by omega⟩ (by unfold eB; simp; omega)
 rintro s nx ⟨k,rfl,hk,hok⟩ hn;unfold mV;refine Gd.ite (fun h=>?_) (fun h=>Gd.ret (.inl ⟨rfl,fun j hj=>hok j ?_⟩))
 ·have hkl:k≤l.length:=by have:=Hk h; omega
  obtain ⟨e,he⟩:=vQ (hz.wR (l.take k));rw [wO,Ha];refine Gd.nd (by omega) (Gd.bind_eq (AT hV _) (Gd.bind_eq he (Gd.ite (fun h=>Gd.ret (.inr ⟨by simpa using h,by simp,fun hall=>?_⟩)) (fun h=>?_))))
  ·have:=hall k hkl
   unfold sL at this;rw [he] at this;simp [G7 this] at h
  ·have h0:e=0:=by simpa using h
   subst h0;have hw:i64.wrap ((k:Int)+1)=((k+1:Nat):Int):=by rw [bP ⟨by omega,by omega⟩]; omega
   rw [hw];refine hn _ ⟨k+1,rfl,by omega,fun j hj=>?_⟩ (by simp only [Ha]; omega)
   by_cases hjk:j=k
   ·subst hjk; exact he
   ·exact hok j (by omega)
 ·have:=Hv h
  omega
theorem DM {n:Net}{e:Int} (h:cI n=some e) (h0:e≠0):jE n=some ([],e):=by
 rw [← Gd.eq];unfold jE;exact Gd.bind_eq h (Gd.ite (fun _=>Gd.ret rfl) (fun k=>absurd (by simpa using k) h0))
theorem DL {n:Net} (hz:na n) (hV:og n) (hc:cI n=some 0) (hl:n.bQ.length≤5):
  Gd (jE n) (fun r=>(r.2=0∧Found n [] r.1∨r.2=8∧r.1=[])∧((∀ j,j≤n.bQ.length→sL n ((nm n).take j))→r=(nm n,0))):=by
 unfold jE;refine Gd.bind_eq hc (Gd.ite (fun h=>by simp at h) (fun _=>Gd.ite (fun h=>?_) (fun _=>?_)))
 ·have:=Hk h
  omega
 ·refine Gd.eJ (um hz hV n.bQ.length [] (by simp) eB (by unfold eB; omega)) (fun r hr=>Gd.ite (fun h=>Gd.ret ⟨.inr ⟨rfl,rfl⟩,fun hall=>?_⟩) (fun h=>Gd.ret ⟨.inl ⟨rfl,hr.1 (by simpa using h)⟩,fun hall=>?_⟩))
  ·have:=hr.2.2 (by simp) (fun j _ hj=>hall j hj)
   rw [this] at h; simp at h
  ·have:=hr.2.2 (by simp) (fun j _ hj=>hall j hj)
   rw [this]
theorem AH:∀ {a b:List BA},a.Nodup→(∀ x ∈ a,x ∈ b)→a.length=b.length→a.Perm b
 | [],b,_,_,hl=>by
  cases b with
  | nil=>exact ME _
  | cons y ys=>simp at hl
 | x::xs,b,ha,hs,hl=>by
  letI:BEq BA:=instBEqOfDecidableEq
  rw [Km] at ha;have hx:x ∈ b:=hs x (He ..);have hp:=List.perm_cons_erase hx;refine ((List.perm_cons x).2 (AH ha.2 (fun y hy=>?_) ?_)).trans hp.symm
  ·have hne:y≠x:=fun e=>ha.1 (e▸hy)
   exact (List.mem_erase_of_ne hne).2 (hs y (Ho _ hy))
  ·have:=hp.length_eq
   simp only [Hz] at this hl;omega
theorem tc (n:Net) (hz:na n):dY n=some true:=by
 rw [← Gd.eq];unfold dY lu;refine Gd.eJ (P:=fun r=>na r∧r.bQ.length≤4) (Gd.nd (by omega) (Gd.nd (by omega) (Gd.ret ⟨hz.Gq _ _,by unfold nr; simp; omega⟩))) (fun n ⟨hz,hl⟩=>?_)
 have loop:∀ {Q:Bool→Prop}{K:List ByteArray→Option Bool},Gd (K (nm n)) Q→Gd (dW (fun k y s n=>fR k y s n) K 0 n.bQ ([]:List ByteArray)) Q:=by
  intro Q K hK;refine Gd.dW (fun i (ys:List aK) (w:List ByteArray)=>i+ys.length=n.bQ.length∧w.length=i∧w++ys.map (·.Name)=nm n) ?_ ?_ n.bQ 0 [] ⟨by simp,rfl,rfl⟩
  ·rintro i y ys w nx ⟨hi,hw,he⟩ hnx
   simp only [Hz] at hi;unfold fR;refine Gd.nd (by simp only [Hz,MP]; omega) (hnx _ ⟨by omega,by simp; omega,?_⟩)
   rw [← he]; simp
  ·rintro i w ⟨_,_,he⟩
   simp only [Ma,Ia] at he;rw [he]; exact hK
 obtain ⟨e,he,hv⟩:=check_sound n hz
 by_cases hz0:e=0
 ·subst hz0
  have hV:=hv rfl;have hnd:=yB hV;have hnl:=zM n;have hca:=wQ he (nm n) (by omega) hnd (fun x h=>h)
  obtain ⟨r,hr,h1,h2⟩:=DL hz hV he (by omega)
  obtain ⟨v,hv1,hv2⟩:=wz hz hV (by omega) hca
  refine Gd.bind_eq hr (loop (Gd.bind_eq hv1 ?_));rcases h1 with ⟨hr0,hF⟩ | ⟨hr8,hr1⟩
  ·obtain ⟨hd,hs⟩:=hF.set (by simp) (by simp)
   have hlen:=hF.len;have hcl:=wQ he r.1 (by omega) hd hs
   have hsz:r.1.Perm (nm n):=AH hd hs (by omega)
   obtain ⟨u,hu1,hu2⟩:=wz hz hV (l:=r.1) (by omega) hcl
   have hu:u=(0,0):=by
    rcases hu2 with ⟨h,_⟩ | ⟨_,_,h⟩
    ·exact h
    ·exact absurd (fun k hk=>hF.ok k (by simp) hk) h
   subst hu;refine Gd.ite (fun h=>by simp [hr0] at h) (fun _=>Gd.bind_eq hu1 (Gd.nd (by omega) (Gd.nd (by omega) ?_)))
   obtain ⟨a,ha,hap,has⟩:=AS r.1 (by omega)
   obtain ⟨b,hb,hbp,hbs⟩:=AS (nm n) (by omega)
   have hab:a=b:=v_ has.pw hbs.pw (hap.trans (hsz.trans hbp.symm));subst hab;refine Gd.bind_eq ha (Gd.bind_eq hb (Gd.bind_eq oQ (Gd.ite (fun _=>Gd.ite (fun _=>Gd.ite (fun _=>Gd.bind_eq (seq_eq _) (Gd.ite (fun _=>Gd.ite (fun h=>?_) (fun _=>Gd.ret rfl)) (fun h=>by simp at h))) (fun h=>by simp at h)) (fun h=>by simp at h)) (fun h=>by simp at h))))
   have hv0:v.2=0:=Hk h;have hall:∀ k,k≤(nm n).length→sL n ((nm n).take k):=by
    rcases hv2 with ⟨_,h⟩ | ⟨h,_,_⟩
    ·exact h
    ·exact absurd hv0 h
   have:=h2 (fun j hj=>hall j (by omega))
   rw [this];exact Gd.bind_eq (seq_eq _) (Gd.ret rfl)
  ·refine Gd.ite (fun _=>Gd.bind_eq oQ ?_) (fun h=>by simp [hr8] at h)
   have hne:v.2≠0∧0≤v.1:=by
    rcases hv2 with ⟨_,h⟩ | ⟨h,h',_⟩
    ·have:=h2 (fun j hj=>h j (by omega))
     rw [this] at hr8; simp at hr8
    ·exact ⟨h,h'⟩
   refine Gd.ret ?_;rw [hr1];simp [hne.1,hne.2]
 ·have hca:gY n (nm n)=some (0,e):=by
   rw [← Gd.eq];unfold gY iR;exact Gd.eJ (P:=fun x=>x=e) (Gd.bind_eq he (Gd.ite (fun _=>Gd.ret rfl) (fun k=>absurd (by simpa using k) hz0))) (fun x hx=>by subst hx; exact Gd.ite (fun _=>Gd.ret rfl) (fun k=>absurd (by simpa using k) hz0))
  refine Gd.bind_eq (DM he hz0) (loop (Gd.bind_eq hca (Gd.ite (fun _=>Gd.bind_eq oQ (Gd.ret (by simp [hz0]))) (fun h=>absurd (by simpa using h) hz0))))
end Go.Sim
