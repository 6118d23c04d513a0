/-
  The proof, part F2.
-/
import Derived.Test.YtcfeheigjjnpnaaGreatDoorSqF1
set_option linter.unusedVariables false
set_option linter.unusedSimpArgs false
set_option linter.unusedSectionVars false
set_option linter.unnecessarySimpa false
namespace Go.Sim
abbrev MG := @Int.natCast_nonneg
abbrev MJ := @List.Sublist.refl
abbrev MK := @List.cons.inj
abbrev MN := @List.eq_of_mem_replicate
abbrev MO := @List.filter_cons
abbrev MP := @List.getElem_set
abbrev MT := @List.length_filter_le
abbrev MZ := @List.set_append_right
abbrev Nu := @Rat.intCast_le_intCast
end Go.Sim
namespace Go.Sim
open Go
open _root_.Go.IntKind (i64 u64 u32 u8)
abbrev xR:=(List Nat×List (List LR))×List Int
theorem sO {j w:Nat} (hj:j≤w) (hw:w≤1000):i64.wrap ((j:Int)+1)=((j+1:Nat):Int):=by
 rw [bR ⟨by omega,by omega⟩]; omega
theorem GJ {n w W k i:Nat}{l:List Int}{sg:List Nat}{p:Int}{k1 k2:Nat}{nxO:List (List LR)→Option xR}{f:LR}{rows:List (List LR)}{m:Mt}{F:Rat}{Q:xR→Prop}
  (hSG:(sg.set ((l.length:Int):Int).toNat k1).set (p:Int).toNat k2=s7 n) (hl:l.length=k) (hk:k<n) (hi:i<n) (hw:w≤1000) (hkw:k≤w) (hW:W≤100000) (hik:i≠k)
  (hf:lG f) (hfl:RL f W) (fv:rv f=F) (hM:pY rows n w W m) (hb:∀ c,k≤c→c<w→RB (m i c-F*m k c) W)
  (hnx:∀ rows',pY rows' n w W (fun i' c=>if i'=i∧k≤c then m i c-F*m k c else m i' c)→Gd (nxO ([]::rows')) Q):
  Gd (fV (fun s n'=>lA l sg p k1 k2 nxO i f s.1 s.2 n') eT ((k:Int),[]::rows)) Q:=by
 refine Gd.fV (fun s=>∃ (j:Nat) (rows':List (List LR)),s=((j:Int),[]::rows')∧k≤j∧j≤w∧pY rows' n w W (fun i' c=>if i'=i∧k≤c∧c<j then m i c-F*m k c else m i' c)) (fun s=>((w:Int)-s.1).toNat) ?_ eT _
  ⟨k,rows,rfl,HQ _,hkw,hM.congr (fun i' c _ _=>by rw [Hs (by omega)])⟩ (by simp only [eT]; omega)
 rintro _ nx ⟨j,rows',rfl,hkj,hjw,hM'⟩ hnext;show Gd (lA l sg p k1 k2 nxO i f (j:Int) ([]::rows') nx) Q;unfold lA;simp only [hSG];refine lZ hi ?_;rw [hM'.Dt hi]
 by_cases hj:j<w
 ·refine Gd.ite (fun _=>?_) (fun h=>absurd (NH.1 h) (by simp; omega))
  rw [hl];refine lZ hk (oM hM' hk hj (fun y hy hyl hyv=>?_));rw [Hs (by omega)] at hyv
  refine Gd.ite (fun hs=>?_) (fun hs=>?_)
  ·refine lZ hi (lZ hi (oM hM' hi hj (fun yi gi gil giv=>lZ hk (oM hM' hk hj (fun yr gr grl grv=>?_)))))
   rw [Hs (by omega)] at giv grv
   refine Gd.eV (tZ hf gr hfl grl (by omega)) (fun mm hmm=>Gd.eV (sM gi hmm.1 gil hmm.2.1 (by omega)) (fun r hr=>oM hM' hi hj (fun _ _ _ _=>?_)))
   have hv:rv r=m i j-F*m k j:=by rw [hr.2.2,hmm.2.2,giv,grv,fv]
   have hrl:RL r W:=hr.1.rb (by rw [hv]; exact hb j hkj hj)
   unfold ka;rw [sO hjw hw];have h2:=hM'.set hi hj hr.1 hrl;refine hnext _ ⟨j+1,_,rfl,by omega,by omega,h2.congr (fun i' c _ _=>?_)⟩ (by simp only; omega)
   by_cases e:i'=i∧c=j
   ·obtain ⟨rfl,rfl⟩:=e
    rw [Hv ⟨rfl,rfl⟩,Hv (by omega),hv]
   ·rw [Hs e]
    by_cases e2:i'=i∧k≤c∧c<j
    ·rw [Hv e2,Hv (by omega)]
    ·rw [Hs e2,Hs (by omega)]
  ·have h0:m k j=0:=by
    have:=sE hy;rw [hyv] at this;have hs2:decide (cK y=0)=true:=by simpa using hs
    rw [this] at hs2;exact Ht hs2
   unfold ka;rw [sO hjw hw];refine hnext _ ⟨j+1,rows',rfl,by omega,by omega,hM'.congr (fun i' c _ _=>?_)⟩ (by simp only; omega)
   by_cases e:i'=i∧c=j
   ·obtain ⟨rfl,rfl⟩:=e
    rw [if_neg (by omega),if_pos (by omega),h0]; grind
   ·by_cases e2:i'=i∧k≤c∧c<j
    ·rw [Hv e2,Hv (by omega)]
    ·rw [Hs e2,Hs (by omega)]
 ·refine Gd.ite (fun h=>absurd (Ht h) (by omega)) (fun _=>?_)
  unfold gY;refine hnx rows' (hM'.congr (fun i' c _ hc=>?_))
  by_cases e:i'=i∧k≤c
  ·rw [Hv e,Hv (by omega)]
  ·rw [Hs e,Hs (by omega)]
theorem GI {n w W k:Nat}{l:List Int}{sg:List Nat}{p:Int}{k1 k2:Nat}{K:List (List LR)→Option xR}{rows:List (List LR)}{m:Mt}{Q:xR→Prop}
  (hSG:(sg.set ((l.length:Int):Int).toNat k1).set (p:Int).toNat k2=s7 n) (hl:l.length=k) (hk:k<n) (hw:w≤1000) (hkw:k<w) (hW:W≤100000)
  (hM:pY rows n w W m) (hz:∀ c,c<k→m k c=0) (hb:∀ i c,i<n→i≠k→k≤c→c<w→RB (m i c-m i k*m k c) W)
  (hK:∀ rows',pY rows' n w W (fun i c=>if i=k then m k c else m i c-m i k*m k c)→Gd (K ([]::rows')) Q):
  Gd (jH (fun kk s n'=>mM l (k:Int) sg p k1 k2 kk s n') K n 0 ([]::rows)) Q:=by
 refine Gd.jH (fun M i s=>i+M=n∧∃ rows':List (List LR),s=[]::rows'∧pY rows' n w W (fun i' c=>if i'<i∧i'≠k then m i' c-m i' k*m k c else m i' c)) ?_ ?_ n 0 _
  ⟨by omega,rows,rfl,hM.congr (fun i' c _ _=>by rw [Hs (by omega)])⟩
 ·rintro M i _ nx ⟨hiM,rows',rfl,hM'⟩ hnx
  have hi:i<n:=by omega
  unfold mM;simp only [hSG];rw [hl];refine Gd.ite (fun h=>?_) (fun h=>?_)
  ·have e:i=k:=by have:=Ht h; omega
   subst e;unfold gY;refine hnx _ ⟨by omega,rows',rfl,hM'.congr (fun i' c _ _=>?_)⟩
   by_cases e:i'<i∧i'≠i
   ·rw [Hv e,Hv (by omega)]
   ·rw [Hs e,Hs (by omega)]
  ·have hik:i≠k:=fun e=>by rw [e] at h; simp at h
   refine lZ hi (oM hM' hi hkw (fun y hy hyl hyv=>?_));rw [Hs (by omega)] at hyv
   refine Gd.ite (fun hs=>?_) (fun hs=>?_)
   ·have h0:m i k=0:=by
     have:=sE hy;rw [hyv] at this;rw [this] at hs;exact Ht hs
    unfold gY;refine hnx _ ⟨by omega,rows',rfl,hM'.congr (fun i' c _ _=>?_)⟩
    by_cases e:i'=i
    ·subst e
     rw [if_neg (by omega),if_pos ⟨by omega,hik⟩,h0]; grind
    ·by_cases e2:i'<i∧i'≠k
     ·rw [Hv e2,Hv (by omega)]
     ·rw [Hs e2,Hs (by omega)]
   ·refine lZ hi (oM hM' hi hkw (fun f hf hfl hfv=>?_))
    rw [Hs (by omega)] at hfv
    refine GJ (m:=fun i' c=>if i'<i∧i'≠k then m i' c-m i' k*m k c else m i' c) hSG hl hk hi hw (by omega) hW hik hf hfl hfv hM' (fun c h1 h2=>?_) (fun rows'' hM''=>?_)
    ·rw [Hs (by omega),Hs (by omega)]
     exact hb i c hi hik h1 h2
    ·refine hnx _ ⟨by omega,rows'',rfl,hM''.congr (fun i' c _ _=>?_)⟩
     by_cases e:i'=i
     ·subst e
      rw [Hv (show i'<i'+1∧i'≠k from ⟨by omega,hik⟩),Hs (show ¬ (i'<i'∧i'≠k) by omega),Hs (show ¬ (k<i'∧k≠k) by omega)]
      by_cases e3:k≤c
      ·rw [Hv ⟨rfl,e3⟩]
      ·rw [if_neg (by omega),hz c (by omega)]; grind
     ·rw [Hs (show ¬ (i'=i∧k≤c) from fun hh=>e hh.1)]
      by_cases e2:i'<i∧i'≠k
      ·rw [Hv e2,Hv (by omega)]
      ·rw [Hs e2,Hs (by omega)]
 ·rintro i _ ⟨hi,rows',rfl,hM'⟩
  refine hK rows' (hM'.congr (fun i' c hi' _=>?_))
  by_cases e:i'=k
  ·subst e; rw [Hs (by omega),Hv rfl]
  ·rw [Hv ⟨by omega,e⟩,Hs e]
def CF (k:Nat) (m:Mt):Mt:=fun i c=>if i=k∧k≤c then m k c / m k k else m i c
theorem xg {k i:Nat} (h:i≠k) (m:Mt) (c:Nat):CF k m i c=m i c:=Hs (fun hh=>h hh.1)
theorem zC {k c:Nat} (h:k≤c) (m:Mt):CF k m k c=m k c / m k k:=Hv ⟨rfl,h⟩
theorem zD {k c:Nat} (h:c<k) (m:Mt):CF k m k c=m k c:=Hs (fun hh=>by omega)
theorem GH {n w W k:Nat}{l:List Int}{sg:List Nat}{p:Int}{k1 k2:Nat}{nx:(List Int×Int×List Nat×List (List LR))→Option xR}{d:LR}{rows:List (List LR)}{m:Mt}{Q:xR→Prop}
  (hSG:(sg.set ((l.length:Int):Int).toNat k1).set (p:Int).toNat k2=s7 n) (hl:l.length=k) (hk:k<n) (hn:n≤1000) (hw:w≤1000) (hkw:k<w) (hW:W≤100000)
  (hd:lG d) (hdl:RL d W) (hdv:rv d=m k k) (hd0:m k k≠0) (hM:pY rows n w W m) (hz:∀ c,c<k→m k c=0) (hb:∀ i c,i<n→c<w→RB (qj k m i c) W)
  (hnx:∀ rows',pY rows' n w W (qj k m)→Gd (nx (l++[(k:Int)],((k+1:Nat):Int),s7 n,[]::rows')) Q):
  Gd (fV (fun s n'=>lz l (k:Int) sg nx p k1 k2 d s.1 s.2 n') eT ((k:Int),[]::rows)) Q:=by
 refine Gd.fV (fun s=>∃ (j:Nat) (rows':List (List LR)),s=((j:Int),[]::rows')∧k≤j∧j≤w∧pY rows' n w W (fun i' c=>if i'=k∧k≤c∧c<j then m k c / m k k else m i' c)) (fun s=>((w:Int)-s.1).toNat) ?_ eT _
  ⟨k,rows,rfl,HQ _,by omega,hM.congr (fun i' c _ _=>by rw [Hs (by omega)])⟩ (by simp only [eT]; omega)
 rintro _ nxL ⟨j,rows',rfl,hkj,hjw,hM'⟩ hnext;show Gd (lz l (k:Int) sg nx p k1 k2 d (j:Int) ([]::rows') nxL) Q;have hdiv:m k k / m k k=1:=by rw [Nt]; exact NA _ hd0
 unfold lz;simp only [hSG];rw [hl];refine lZ hk ?_;rw [hM'.Dt hk]
 by_cases hj:j<w
 ·refine Gd.ite (fun _=>?_) (fun h=>absurd (NH.1 h) (by simp; omega))
  refine lZ hk (lZ hk (oM hM' hk hj (fun y hy hyl hyv=>?_)));rw [Hs (by omega)] at hyv
  refine Gd.eV (EJ hy hd (by rw [hdv]; exact hd0) hyl hdl (by omega)) (fun r hr=>oM hM' hk hj (fun _ _ _ _=>?_))
  have hv:rv r=m k j / m k k:=by rw [hr.2.2,hyv,hdv]
  have hrl:RL r W:=hr.1.rb (by
   rw [hv];have:=hb k j hk hj;unfold qj at this;rw [Hv rfl] at this;exact this)
  rw [sO hjw hw];refine hnext _ ⟨j+1,_,rfl,by omega,by omega,(hM'.set hk hj hr.1 hrl).congr (fun i' c _ _=>?_)⟩ (by simp only; omega)
  by_cases e:i'=k∧c=j
  ·obtain ⟨rfl,rfl⟩:=e
   rw [Hv ⟨rfl,rfl⟩,Hv (by omega),hv]
  ·rw [Hs e]
   by_cases e2:i'=k∧k≤c∧c<j
   ·rw [Hv e2,Hv (by omega)]
   ·rw [Hs e2,Hs (by omega)]
 ·refine Gd.ite (fun h=>absurd (Ht h) (by omega)) (fun _=>?_)
  rw [rJ,Hj];refine Gd.nd (by omega) ?_
  refine GI (m:=CF k m) hSG hl hk hw hkw hW (hM'.congr (fun i' c _ hc=>?_)) (fun c hc=>(zD hc m).trans (hz c hc)) (fun i c hi hik h1 h2=>?_) (fun rows'' hM''=>?_)
  ·unfold CF
   by_cases e:i'=k∧k≤c
   ·rw [Hv e,Hv (by omega)]
   ·rw [Hs e,Hs (by omega)]
  ·rw [xg hik,xg hik,zC h1]
   have:=hb i c hi h2;unfold qj at this;rw [Hs hik] at this;exact this
  ·refine Gd.nd (by rw [show ([(k:Int)]:List Int).length=1 from rfl]; omega) ?_
   unfold ly;rw [sO (show k≤w by omega) hw]
   refine hnx rows'' (hM''.congr (fun i c _ _=>?_));unfold qj
   by_cases e:i=k
   ·subst e
    rw [Hv rfl,Hv rfl]
    by_cases e2:i≤c
    ·rw [zC e2]
    ·rw [zD (by omega),hz c (by omega),Rat.div_def]; grind
   ·rw [Hs e,Hs e,xg e,xg e]
    by_cases e2:k≤c
    ·rw [zC e2]
    ·rw [zD (by omega),hz c (by omega),Rat.div_def]; grind
theorem BE {n w W k:Nat}{cols:Int}{l:List Int}{nx:(List Int×Int×List Nat×List (List LR))→Option xR}{rows:List (List LR)}{m:Mt}{Q:xR→Prop}
  (hl:l.length=k) (hk:k<n) (hc:(k:Int)<cols) (hn:n≤1000) (hw:w≤1000) (hkw:k<w) (hW:W≤100000)
  (hd0:m k k≠0) (hM:pY rows n w W m) (hz:∀ c,c<k→m k c=0) (hb:∀ i c,i<n→c<w→RB (qj k m i c) W)
  (hnx:∀ rows',pY rows' n w W (qj k m)→Gd (nx (l++[(k:Int)],((k+1:Nat):Int),s7 n,[]::rows')) Q):
  Gd (jZ cols l (k:Int) (s7 n) ([]::rows) nx) Q:=by
 unfold jZ;rw [hl,rJ];refine Gd.ite (fun _=>?_) (fun h=>absurd h (by simp; omega))
 refine Gd.fV (fun s=>s=(k:Int)) (fun _=>0) ?_ eT _ rfl (by simp only [eT]; omega)
 rintro _ nx2 rfl _;unfold oB;rw [rJ];refine Gd.ite (fun _=>?_) (fun h=>absurd (NH.1 h) (by simp; omega))
 refine lZ hk (oM hM hk hkw (fun y hy hyl hyv=>?_));rw [sE hy,hyv];refine Gd.ite (fun h=>absurd (Ht h) hd0) (fun _=>?_);unfold lB;rw [rJ,hl];refine Gd.ite (fun h=>absurd (Ht h) (by omega)) (fun _=>?_)
 refine lZ hk (lZ hk (lZ hk ?_));rw [yR hk,Hj,uY hk];refine lZ hk (lZ hk (oM hM hk hkw (fun d hd hdl hdv=>?_)));exact GH (by rw [hl]; exact yR hk) hl hk hn hw hkw hW hd hdl hdv hd0 hM hz hb hnx
def yZ (n i:Nat):List Nat:=(List.range i).map (·+1)++List.replicate (n-i) 0
theorem vp (n:Nat):yZ n 0=List.replicate n 0:=by simp [yZ]
theorem vo (n:Nat):yZ n n=s7 n:=by simp [yZ,s7]
theorem zj {n i:Nat} (hi:i<n):(yZ n i)[i]? = some 0:=by
 unfold yZ;rw [H_ (by simp),J_,Hv (by simp; omega)]
theorem uU {n i:Nat} (hi:i<n):(yZ n i).set i (i+1)=yZ n (i+1):=by
 unfold yZ;rw [MZ _ _ (by simp)]
 have e:n-i=(n-(i+1))+1:=by omega
 rw [e,Kh,K9];simp
theorem D2 {n i:Nat} (hi:i<n):(yZ n (i+1))[i]? = some (i+1):=by
 rw [← uU hi,H7 (by simp [yZ]; omega)]
theorem wy {n:Nat}{rows:List (List LR)} (h:rows.length=n):nB (s7 n) ([]::rows)=rows:=by
 apply Jx;intro i;unfold nB;rw [Ib]
 by_cases hi:i<n
 ·rw [xF hi,Je,AH,Hi (by omega)]; rfl
 ·rw [IC (by rw [rJ]; omega),IC (by omega)]; rfl
theorem D7 {rows:List (List LR)}{n:Nat} (hl:rows.length=n) (hn:n≤1000) (hr:∀ y ∈ rows,y.length≤1000):Gd (qu rows) (fun r=>r=(s7 n,[]::rows)):=by
 unfold qu;rw [hl];refine Gd.nd (by omega) ?_
 rw [Hj];refine Gd.eE (fun i l s=>∃ pre,rows=pre++l∧pre.length=i∧s=(yZ n i,[]::pre)) ?_ ?_ rows 0 _ ⟨[],rfl,rfl,by rw [vp]⟩
 ·rintro i y ys _ nx ⟨pre,hp,hpl,rfl⟩ hnx
  have hi:i<n:=by rw [← hl,hp,HZ,HD]; omega
  have hy:=hr y (by rw [hp]; simp)
  unfold qX;refine Gd.nd (by simp; omega) (Gd.ix (by omega) (by rw [Hj]; exact zj hi) (hnx _ ⟨pre++[y],by rw [hp]; simp,by simp [hpl],?_⟩))
  rw [Hj,HD,hpl,uU hi];simp
 ·rintro i _ ⟨pre,hp,hpl,rfl⟩
  rw [Ij] at hp;subst hp;refine Gd.ret ?_;rw [← hpl,hl,vo]
theorem pY.short {rows:List (List LR)}{n w W:Nat}{m:Mt} (h:pY rows n w W m) (hw:w≤1000):∀ y ∈ rows,y.length≤1000:=by
 intro y hy;obtain ⟨i,hi,he⟩:=IW.1 hy;obtain ⟨l,h1,h2,_⟩:=h.row i (by rw [← h.len]; exact hi)
 rw [Hi hi] at h1;have:=Hc h1;rw [← he,this]; omega
theorem BF {rows:List (List LR)}{n W:Nat}{A m0:Mt} (hn:n≤400) (hW:W≤100000) (hp:Pd n A) (h0:Gj n A 0 m0) (hM:pY rows n (2*n) W m0)
  (hB:∀ k m,k≤n→Gj n A k m→∀ i c,i<n→c<2*n→RB (m i c) W):
  Gd (m_ rows (n:Int)) (fun r=>∃ rows' m,r.1=(s7 n,[]::rows')∧r.2.length=n∧Gj n A n m∧pY rows' n (2*n) W m):=by
 unfold m_;refine Gd.eV (D7 hM.len (by omega) (hM.short (by omega))) (fun r hr=>?_)
 subst hr;refine Gd.fV (fun s=>∃ (k:Nat) (l:List Int) (rows':List (List LR)) (m:Mt),s=(l,(k:Int),s7 n,[]::rows')∧l.length=k∧k≤n∧Gj n A k m∧pY rows' n (2*n) W m) (fun s=>((n:Int)-s.2.1).toNat) ?_ eT _
  ⟨0,[],rows,m0,rfl,rfl,by omega,h0,hM⟩ (by simp only [eT]; omega)
 rintro _ nx ⟨k,l,rows',m,rfl,hl,hk,hG,hM'⟩ hnext;show Gd (jZ (n:Int) l (k:Int) (s7 n) ([]::rows') nx) _
 by_cases h:k<n
 ·have hd:=hG.Fc hp h
  refine BE hl h (by omega) (by omega) (by omega) (by omega) hW hd hM' (fun c hc=>?_) (fun i c hi hc=>hB (k+1) _ (by omega) (hG.step h hd) i c hi hc) (fun rows'' hM''=>?_)
  ·rw [hG.left k c h (by omega) hc,mj (by omega)]
  ·exact hnext _ ⟨k+1,_,rows'',_,rfl,by simp [hl],by omega,hG.step h hd,hM''⟩ (by simp only; omega)
 ·obtain rfl:k=n:=by omega
  unfold jZ;refine Gd.ite (fun h=>absurd h (by simp)) (fun _=>Gd.ret ⟨rows',m,rfl,hl,hG,hM'⟩)
theorem wA {n:Nat} (hn:n≤1000):Gd (lI (n:Int)) (fun r=>∃ z,r=List.replicate n z∧lG z∧RL z 2∧rv z=0):=by
 unfold lI;refine Gd.eV (sG (n:=0) (by omega)) (fun z hz=>Gd.nd (by simp; omega) (Gd.ret ⟨z,sB _ _,hz.1,hz.2.1,by rw [hz.2.2]; rfl⟩))
theorem pY.snoc {rows:List (List LR)}{n w W:Nat}{m:Mt} (h:pY rows n w W m) {l:List LR} (h2:l.length=w) (h3:∀ c,c<w→∃ y,l[c]? = some y∧lG y∧RL y W∧rv y=m n c):pY (rows++[l]) (n+1) w W m:=by
 refine ⟨by simp [h.len],fun i hi=>?_⟩
 by_cases e:i<n
 ·obtain ⟨l',a,b,c⟩:=h.row i e
  exact ⟨l',by rw [IV (by rw [h.len]; exact e)]; exact a,b,c⟩
 ·obtain rfl:i=n:=by omega
  exact ⟨l,by rw [H_ (by rw [h.len]; omega),h.len,I3]; rfl,h2,h3⟩
def xh (n:Nat) (A:Mt):Mt:=fun i c=>if c<n then A i c else dl i (c-n)
theorem CH (n:Nat) (A:Mt):Gj n A 0 (xh n A):=by
 have e:∀ i j,xh n A i (n+j)=dl i j:=fun i j=>by unfold xh; rw [Hs (by omega)]; congr 1; omega
 refine ⟨fun i c hi hc=>?_,fun i j _ _ _=>e i j,fun i c _ _ h=>by omega⟩
 have h1:sm n (fun j=>xh n A i (n+j)*A j c)=xh n A i (n+i)*A i c:=wu (p:=i) hi (fun j hj hne=>by rw [e,mj (fun x=>hne x.symm)]; grind)
 rw [h1,e,mV];unfold xh;rw [if_pos hc]; grind
theorem Ee {n k W:Nat}{y:List LR}{z one:LR}{A:Mt} (hk:k<n) (hy:y.length=n) (hyc:∀ c,c<n→∃ v,y[c]? = some v∧lG v∧RL v W∧rv v=A k c) (hz:lG z∧RL z 2∧rv z=0) (ho:lG one∧RL one 2∧rv one=1) (hW:2≤W):
  ((([]++y)++List.replicate n z).set (n+k) one).length=2*n∧∀ c,c<2*n→∃ v,((([]++y)++List.replicate n z).set (n+k) one)[c]? = some v∧lG v∧RL v W∧rv v=xh n A k c:=by
 refine ⟨by simp [hy]; omega,fun c hc=>?_⟩
 rw [Ju];unfold xh
 by_cases h1:c<n
 ·obtain ⟨v,a,b,d,e⟩:=hyc c h1
  refine ⟨v,?_,b,d,by rw [Hv h1]; exact e⟩
  rw [HV (by omega),IV (by omega)]; exact a
 ·by_cases h2:c=n+k
  ·subst h2
   refine ⟨one,by rw [H7 (by simp [hy]; omega)],ho.1,ho.2.1.mono hW,?_⟩
   rw [Hs h1,ho.2.2,JV,mV]
  ·refine ⟨z,?_,hz.1,hz.2.1.mono hW,?_⟩
   ·rw [HV (by omega),H_ (by omega),J_,Hv (by omega)]
   ·rw [Hs h1,hz.2.2,mj (by omega)]
theorem zJ {rows:List (List LR)}{n W:Nat}{A:Mt} (hn:n≤400) (hW:W≤100000) (hW2:2≤W) (hp:Pd n A) (hM:pY rows n n W A)
  (hB:∀ k m,k≤n→Gj n A k m→∀ i c,i<n→c<2*n→RB (m i c) W):
  Gd (mz rows) (fun r=>r.2=true∧∃ m,Gj n A n m∧pY r.1 n n W (fun i c=>m i (n+c))):=by
 unfold mz;rw [hM.len];refine Gd.nd (by omega) ?_
 rw [Hj];refine Gd.jH (fun M i s=>i+M=n∧∃ pre:List (List LR),s=(yZ n i,[]::pre)∧pY pre i (2*n) W (xh n A)) ?_ ?_ n 0 _ ⟨by omega,[],by rw [vp],⟨rfl,fun i hi=>by omega⟩⟩
 ·rintro M i _ nx ⟨hiM,pre,rfl,hpre⟩ hnx
  have hi:i<n:=by omega
  obtain ⟨y,y1,y2,y3⟩:=hM.row i hi;unfold pa;rw [hM.len];refine Gd.ix (y:=y) (by omega) (by rw [Hj]; exact y1) (Gd.nd (by simp; omega) (Gd.eV (wA (by omega)) ?_))
  rintro _ ⟨z,rfl,hz⟩;refine Gd.nd (by simp; omega) (Gd.ix (by omega) (by rw [Hj]; exact zj hi) ?_)
  have hlen:([]::pre:List (List LR)).length=i+1:=by simp [hpre.len]
  rw [hlen,Hj,uU hi];refine Gd.ix (by omega) (by rw [Hj]; exact D2 hi) (Gd.eV (sG (n:=1) (by omega)) (fun one ho=>?_))
  have ho2:lG one∧RL one 2∧rv one=1:=⟨ho.1,ho.2.1,by rw [ho.2.2]; rfl⟩
  have hrow:=Ee hi y2 y3 hz ho2 hW2;have hat:((([]::pre++[([]++y)++List.replicate n z]:List (List LR))[i+1]?).getD [])=([]++y)++List.replicate n z:=by
   rw [J4,List.getElem?_cons_succ,H_ (by rw [hpre.len]; omega),hpre.len,I3]; rfl
  rw [hat];have hwr:i64.wrap ((n:Int)+(i:Int))=((n+i:Nat):Int):=by rw [bR ⟨by omega,by omega⟩]; omega
  rw [hwr];refine Gd.ix (y:=z) (by omega) ?_ (hnx _ ⟨by omega,pre++[(([]++y)++List.replicate n z).set (n+i) one],?_,hpre.snoc hrow.1 hrow.2⟩)
  ·rw [Hj,Ju,H_ (by omega),J_,Hv (by omega)]
  ·rw [Hj,J4,List.set_cons_succ,MZ _ _ (by rw [hpre.len]; omega),hpre.len,I3]
   rfl
 ·rintro i _ ⟨hi,pre,rfl,hpre⟩
  obtain rfl:i=n:=by omega
  show Gd ((m_ (nB (yZ i i) ([]::pre)) (i:Int)).bind _) _;rw [vo,wy hpre.len];refine Gd.eV (BF hn hW hp (CH i A) hpre hB) ?_;rintro ⟨⟨sg,ls⟩,pv⟩ ⟨rows',m,he,hpl,hG,hM'⟩;obtain ⟨rfl,rfl⟩:=Prod.mk.inj he;simp only at hpl ⊢;rw [hpl];refine Gd.ite (fun h=>absurd (Ht h) (by omega)) (fun _=>?_)
  rw [rJ];refine Gd.nd (by omega) ?_
  rw [Hj];refine Gd.jH (fun M k s=>k+M=i∧∃ rs:List (List LR),s=(s7 i,[]::rs)∧rs.length=i∧∀ q,q<i→rs[q]? = if q<k then (rows'[q]?).map (·.drop i) else rows'[q]?) ?_ ?_ i 0 _
   ⟨by omega,rows',rfl,hM'.len,fun q _=>by rw [Hs (by omega)]⟩
  ·rintro M k _ nx ⟨hkM,rs,rfl,hrl,hrs⟩ hnx
   have hk:k<i:=by omega
   obtain ⟨l,l1,l2,l3⟩:=hM'.row k hk;have hat:rs[k]? = some l:=by rw [hrs k hk,Hs (by omega),l1]
   unfold pb;rw [hM.len];refine lZ hk ?_;rw [AH,hat,JK];refine Gd.nd (by omega) (lZ hk (Gd.nd ?_ ?_))
   ·rw [Hj]
    refine Ep (fun j hj=>?_);have hjn:j<i:=by
     have:=(He.1 hj).1
     rwa [rJ] at this
    rw [xF hjn] at hj;have:=Hc hj;omega
   ·rw [Hj,Hj,uY hk,FF]
    refine hnx _ ⟨by omega,_,rfl,by rw [HI]; exact hrl,fun q hq=>?_⟩
    by_cases e:k=q
    ·subst e
     rw [H7 (by omega),Hv (by omega),l1]; rfl
    ·rw [HV e,hrs q hq]
     by_cases e2:q<k
     ·rw [Hv e2,Hv (by omega)]
     ·rw [Hs e2,Hs (by omega)]
  ·rintro k _ ⟨hk,rs,rfl,hrl,hrs⟩
   refine Gd.ret ⟨rfl,m,hG,?_⟩;show pY (nB (s7 i) ([]::rs)) i i W _;rw [wy hrl];refine ⟨hrl,fun q hq=>?_⟩;obtain ⟨l,l1,l2,l3⟩:=hM'.row q hq;refine ⟨l.drop i,by rw [hrs q hq,Hv (by omega),l1]; rfl,by rw [Jq]; omega,fun c hc=>?_⟩
   obtain ⟨v,a,b,d,e⟩:=l3 (i+c) (by omega)
   exact ⟨v,by rw [Ir]; exact a,b,d,e⟩
def wq (k:Nat):Rat:=(((WB ^ k:Nat):Int):Rat)
theorem q9 (a b:Nat):wq a*wq b=wq (a+b):=by unfold wq; rw [Ng,Iw,Nv]
theorem q_ (a:Nat):1≤wq a:=by
 unfold wq;have h:(1:Nat)≤WB ^ a:=Nat.one_le_pow _ _ (by decide)
 have h2:(1:Int)≤((WB ^ a:Nat):Int):=by omega
 have:=Nu.2 h2
 rwa [Rat.intCast_one] at this
theorem sN {a b:Nat} (h:a≤b):wq a≤wq b:=by
 unfold wq;have h:WB ^ a≤WB ^ b:=Ni (by decide) h
 exact Nu.2 (by omega)
theorem vi {x y a b:Rat} (h1:-a≤x) (h2:x≤a) (h3:-b≤y) (h4:y≤b):-(a*b)≤x*y∧x*y≤a*b:=by
 have e1:=Rat.mul_nonneg (show 0≤a-x by grind) (show 0≤b+y by grind)
 have e2:=Rat.mul_nonneg (show 0≤a+x by grind) (show 0≤b-y by grind)
 have e3:=Rat.mul_nonneg (show 0≤a-x by grind) (show 0≤b-y by grind)
 have e4:=Rat.mul_nonneg (show 0≤a+x by grind) (show 0≤b+y by grind)
 constructor <;> grind
theorem C7 {z:Int}{k:Nat} (h1:-wq k≤(z:Rat)) (h2:(z:Rat)≤wq k):z.natAbs<WB ^ (k+1):=by
 unfold wq at h1 h2;rw [← Nw] at h1;have a1:=Nu.1 h1;have a2:=Nu.1 h2;have a3:WB ^ k<WB ^ (k+1):=Nat.pow_lt_pow_right (by decide) (by omega)
 omega
theorem tY {p q:Rat}{k:Nat} (hp:pU p) (hq:pU q) (p1:-wq k≤p) (p2:p≤wq k) (q1:-wq k≤q) (q2:q≤wq k) (q0:q≠0) (hk:k≤186):RB (p / q) (k+1):=by
 obtain ⟨a,rfl⟩:=hp;obtain ⟨b,rfl⟩:=hq;exact RB.ratio (C7 p1 p2) (C7 q1 q2) (fun e=>q0 (by rw [e]; rfl)) (by omega)
theorem RB.zero:RB 0 1:=by
 have:=RB.small (m:=0) (by decide)
 simpa using this
theorem RB.one:RB 1 1:=by
 have:=RB.small (m:=1) (by decide)
 simpa using this
theorem RB.dl (i j:Nat):RB (dl i j) 1:=by
 rcases rM i j with h | h <;> rw [h]
 ·exact RB.zero
 ·exact RB.one
theorem RB.sm {f:Nat→Rat}{a:Nat}:∀ {n:Nat},n*(a+1)+1≤700000→(∀ j,j<n→RB (f j) a)→RB (sm n f) (n*(a+1)+1)
 | 0,_,_=>RB.zero.mono (by omega)
 | n+1,hn,h=>by
  have e:(n+1)*(a+1)=n*(a+1)+(a+1):=Nat.succ_mul _ _;have h1:=RB.sm (n:=n) (by omega) (fun j hj=>h j (by omega))
  exact (h1.add (h n (by omega)) (by omega)).mono (by omega)
structure Nb (n:Nat) (A:Mt) (L:Nat→Rat) (B:Mt) (R:Nat→Rat):Prop where
 s:BY n A L B R
 hP:pr n R≤wq 60
 hL:∀ i,i<n→L i≤wq 18
theorem Nb.R {n:Nat}{A B:Mt}{L R:Nat→Rat} (h:Nb n A L B R) {i:Nat} (hi:i<n):R i≤wq 60:=by
 have key:∀ {m:Nat},(∀ j,j<m→1≤R j)→i<m→R i≤pr m R:=by
  intro m
  induction m with
  | zero=>intro _ h; omega
  | succ m ih=>
   intro h1 hi;have p1:1≤pr m R:=xB (fun j hj=>h1 j (by omega))
   show R i≤pr m R*R m
   by_cases e:i=m
   ·subst e
    have:=Rat.mul_le_mul_of_nonneg_right p1 (show 0≤R i by have:=h1 i hi; grind)
    grind
   ·have a:=ih (fun j hj=>h1 j (by omega)) (by omega)
    have:=Rat.mul_le_mul_of_nonneg_left (h1 m (by omega)) (show 0≤pr m R by grind)
    grind
 exact Ny (key (fun j hj=>h.s.R1 hj) hi) h.hP
theorem Nb.L0 {n:Nat}{A B:Mt}{L R:Nat→Rat} (h:Nb n A L B R) {i:Nat} (hi:i<n):L i≠0:=fun e=>by
 have:=h.s.l1 i hi; rw [e] at this; exact absurd this (by decide)
theorem Nb.ab {n:Nat}{A B:Mt}{L R:Nat→Rat} (h:Nb n A L B R) {i c:Nat} (hi:i<n) (hc:c<n):-wq 60≤L i*A i c∧L i*A i c≤wq 60:=by
 have h1:=h.s.ab i c hi hc;have h2:=Fh (f:=B i) (h.s.b0 i) hc;have h3:=h.s.rs i hi;have h4:=h.R hi;constructor <;> grind
theorem Nb.A {n:Nat}{A B:Mt}{L R:Nat→Rat} (h:Nb n A L B R) {i c:Nat} (hi:i<n) (hc:c<n):RB (A i c) 61:=by
 have e:A i c=(L i*A i c) / L i:=by
  rw [Nt];have:=NA (L i) (h.L0 hi)
  grind
 rw [e];have l1:=h.s.l1 i hi;have l2:=h.hL i hi;have l3:=sN (show 18≤60 by omega)
 have w:=q_ 60;exact tY (h.s.ai i c hi hc) (h.s.li i hi) (h.ab hi hc).1 (h.ab hi hc).2 (by grind) (by grind) (h.L0 hi) (by omega)
def Dk (A:Mt) (L:Nat→Rat) (k:Nat):Rat:=mP k (fun r c=>L r*A r c)
theorem Nb.D0 {n:Nat}{A B:Mt}{L R:Nat→Rat} (h:Nb n A L B R) (hp:Pd n A):∀ {k:Nat},k≤n→Dk A L k≠0∧∃ m,Gj n A k m
 | 0,_=>⟨by show (1:Rat)≠0; decide,_,CH n A⟩
 | k+1,hk=>by
  obtain ⟨d,m,hG⟩:=h.D0 hp (k:=k) (by omega)
  have hd:=hG.Fc hp (by omega)
  refine ⟨?_,_,hG.step (by omega) hd⟩
  have e:=hG.mP (k:=k) (by omega) (L:=L) (fun i hi=>h.L0 hi)
  show Sim.mP (k+1) (fun r c=>L r*A r c)≠0;rw [e];intro h0;rcases Nz.1 h0 with h1 | h1
  ·rcases Nz.1 h1 with h2 | h2
   ·exact h.L0 (by omega) h2
   ·exact hd h2
  ·exact d h1
theorem Nb.Db {n:Nat}{A B:Mt}{L R:Nat→Rat} (h:Nb n A L B R) {k:Nat} (hk:k≤n):pU (Dk A L k)∧-wq 60≤Dk A L k∧Dk A L k≤wq 60:=by
 obtain ⟨a,b,c⟩:=h.s.mP hk;have:=h.hP;refine ⟨a,?_,?_⟩ <;> unfold Dk <;> grind
theorem Nb.num {n:Nat}{A B m:Mt}{L R:Nat→Rat} (h:Nb n A L B R) (hp:Pd n A) {k:Nat} (hG:Gj n A k m) (hk:k≤n) {i p:Nat} (hi:i<n) (hpk:p<k):RB (m i (n+p)) 140:=by
 obtain ⟨N,n1,n2,n3,e⟩:=hG.num h.s hk hi hpk;obtain ⟨d1,d2,d3⟩:=h.Db hk;have d0:=(h.D0 hp hk).1;have hP:=h.hP;have p1:1≤pr n R:=xB (fun j hj=>h.s.R1 hj);have r1:=h.s.R1 hi;have r2:=h.R hi;have hNb:pr n R*R i≤wq 120:=by
  rw [← q9 60 60];exact mC hP r2 (by grind) (by grind)
 have lp:=h.s.l1 p (by omega)
 have lp2:=h.hL p (by omega)
 have t:=vi (x:=N) (y:=L p) (a:=wq 120) (b:=wq 18) (by grind) (by grind) (by have:=q_ 18; grind) lp2
 rw [q9] at t;have s0:(if k≤i then L i else 1)≠0:=by
  split
  ·exact h.L0 hi
  ·decide
 have s1:pU (if k≤i then L i else 1):=by
  split
  ·exact h.s.li i hi
  ·exact ⟨1,rfl⟩
 have s2:1≤(if k≤i then L i else 1)∧(if k≤i then L i else 1)≤wq 18:=by
  split
  ·exact ⟨h.s.l1 i hi,h.hL i hi⟩
  ·exact ⟨Nx,q_ 18⟩
 generalize (if k≤i then L i else 1)=s at e s0 s1 s2
 have u:=vi (x:=s) (y:=Dk A L k) (a:=wq 18) (b:=wq 60) (by have:=q_ 18; grind) s2.2 d2 d3
 rw [q9] at u;have e2:m i (n+p)=(N*L p) / (s*Dk A L k):=by
  have e3:s*m i (n+p)*Dk A L k=N*L p:=e;rw [← e3,Nt];have h3:s*Dk A L k≠0:=fun hh=>by
   rcases Nz.1 hh with h1 | h1
   ·exact s0 h1
   ·exact d0 h1
  have:=NA _ h3
  grind
 rw [e2];have w1:=sN (show 18+60≤139 by omega)
 have w2:=sN (show 120+18≤139 by omega)
 refine tY (ou n1 (h.s.li p (by omega))) (ou s1 d1) (by grind) (by grind) (by grind) (by grind) ?_ (by omega)
 intro hh;rcases Nz.1 hh with h1 | h1
 ·exact s0 h1
 ·exact d0 h1
theorem Nb.rb {n:Nat}{A B:Mt}{L R:Nat→Rat} (h:Nb n A L B R) (hp:Pd n A) (hn:n≤24) (k:Nat) (m:Mt) (hk:k≤n) (hG:Gj n A k m) (i c:Nat) (hi:i<n) (hc:c<2*n):RB (m i c) 6000:=by
 have right:∀ p,p<n→RB (m i (n+p)) 140:=fun p hpn=>by
  by_cases e:p<k
  ·exact h.num hp hG hk hi e
  ·rw [hG.right i p hi hpn (by omega)]
   exact (RB.dl i p).mono (by omega)
 by_cases hcn:c<n
 ·rw [hG.Fs hk hi hcn]
  have h1:RB (sm k (fun j=>m i (n+j)*A j c)) (k*202+1):=RB.sm (a:=201) (by omega) (fun j hj=>(right j (by omega)).mul (h.A (by omega) hcn) (by omega))
  have h2:RB (if k≤i then A i c else 0) 61:=by
   split
   ·exact h.A hi hcn
   ·exact RB.zero.mono (by omega)
  exact (h1.add h2 (by omega)).mono (by omega)
 ·have e:c=n+(c-n):=by omega
  rw [e];exact (right (c-n) (by omega)).mono (by omega)
theorem Bm (l:List Int) (p:Int):Gd (iY l p) (fun r=>(r = -1∧p ∉ l)∨∃ (k:Nat) (h:k<l.length),r=k∧l[k]=p):=by
 unfold iY;refine Gd.jH (fun m i _=>i+m=l.length∧p ∉ l.take i) ?_ ?_ (l.length:Int).toNat 0 () ⟨by omega,by simp⟩
 ·intro m i _ nx ⟨hi,hno⟩ hnx
  unfold k4;refine Gd.ks (by omega) (Gd.ite (fun h=>Gd.ret (.inr ⟨i,by omega,rfl,?_⟩)) (fun h=>hnx () ⟨by omega,?_⟩))
  ·have:p=l[i]:=by simpa using h
   exact this.symm
  ·rw [Ie (by omega),Ih,IS]
   rintro (h' | h')
   ·exact hno h'
   ·simp [h'] at h
 ·intro i _ ⟨hi,hno⟩
  rw [HR (by omega)] at hno
  exact Gd.ret (.inl ⟨rfl,hno⟩)
structure BX (M:aW) (n N:Nat) (F:Nat→Nat) (l:List (Rat×Nat×Nat)) (t:Rat):Prop where
 hn:n≤23
 free:M.mh=(List.range n).map (fun i=>(F i:Int))
 inj:∀ i j,i<n→j<n→F i=F j→i=j
 lt:∀ i,i<n→F i<N
 hN:N≤24
 ll:l.length≤24
 el:∀ e ∈ l,e.2.1<N∧e.2.2<N
 fr:M.jB=l.map (fun e=>(e.2.1:Int))
 to:M.To=l.map (fun e=>(e.2.2:Int))
 bl:M.B_.length=l.length
 b:∀ (k:Nat) (y:LR),M.B_[k]? = some y→∃ e,l[k]? = some e∧lG y∧RL y 2∧rv y=t / e.1
def EB:Option Nat→Int
 | none=>-1
 | some i=>(i:Int)
def eo (o:Option Nat) (r:Nat):Rat:=if o=some r then 1 else 0
theorem pS (i r:Nat):eo (some i) r=dl i r:=by
 unfold eo dl
 by_cases e:i=r
 ·subst e; rw [Hv rfl,Hv rfl]
 ·rw [Hs (fun h=>e (Hc h)),Hs e]
theorem pR (r:Nat):eo none r=0:=Hs (by simp)
theorem yJ {M:aW}{n N:Nat}{F:Nat→Nat}{l:List (Rat×Nat×Nat)}{t:Rat} (h:BX M n N F l t) (u:Nat):
  Gd (jI M (u:Int)) (fun r=>∃ o:Option Nat,r=EB o∧(∀ i,o=some i→i<n∧F i=u)∧∀ r,r<n→eo o r=dl (F r) u):=by
 unfold jI;refine Gd.eV (Bm _ _) (fun r hr=>Gd.ret ?_);rw [h.free] at hr;rcases hr with ⟨rfl,hno⟩ | ⟨k,hk,rfl,e⟩
 ·refine ⟨none,rfl,fun i hi=>by simp at hi,fun r hr=>?_⟩
  rw [pR,mj];intro e;exact hno (IQ.2 ⟨r,IA.2 hr,by rw [e]⟩)
 ·have hkn:k<n:=by simpa using hk
  have e2:F k=u:=by simp at e; omega
  refine ⟨some k,rfl,fun i hi=>by obtain rfl:=Hc hi; exact ⟨hkn,e2⟩,fun r hr=>?_⟩
  rw [pS]
  by_cases e3:k=r
  ·subst e3; rw [mV,e2,mV]
  ·rw [mj e3,mj]
   intro e4;exact e3 (h.inj k r hkn hr (by omega))
theorem pY.xM {rows:List (List LR)}{n w W:Nat}{m:Mt} (h:pY rows n w W m) {p q:Nat} (hp:p<n) (hq:q<w) {e:LR}{d:Rat} (he:lG e) (hW:RL e W) (hv:rv e=m p q+d):
  pY (rows.set p (((rows[p]?).getD []).set q e)) n w W (fun r c=>m r c+d*(dl p r*dl q c)):=by
 refine (h.set hp hq he hW).congr (fun r c _ _=>?_)
 by_cases e1:r=p∧c=q
 ·obtain ⟨rfl,rfl⟩:=e1
  rw [if_pos ⟨rfl,rfl⟩,mV,mV,hv]; grind
 ·rw [Hs e1]
  by_cases e2:p=r
  ·rw [mj (i:=q) (fun e=>e1 ⟨e2.symm,e.symm⟩)]; grind
  ·rw [mj e2]; grind
abbrev BW:=List (List LR)→Option aW
theorem E_ {n W:Nat}{nx:BW}{b:LR}{oi oj:Option Nat}{rows:List (List LR)}{m:Mt}{Q:aW→Prop} (hM:pY rows n n W m) (hW:W≤1000) (hb:lG b) (hbl:RL b 2)
  (hi:∀ i,oi=some i→i<n) (hj:∀ j,oj=some j→j<n) (hne:∀ i,oi=some i→oj≠some i)
  (hnx:∀ rows',pY rows' n n (W+3) (fun r c=>m r c-rv b*(eo oi r*eo oj c)-rv b*(eo oj r*eo oi c))→Gd (nx ([]::rows')) Q):
  Gd (f_ (s7 n) nx b (EB oi) (EB oj) ([]::rows)) Q:=by
 unfold f_ eZ;cases oi with
 | none=>
  refine Gd.ite (fun h=>absurd h (by simp [EB])) (fun _=>hnx rows ((hM.mono (by omega)).congr (fun r c _ _=>?_)))
  rw [pR,pR]; grind
 | some i=>
  cases oj with
  | none=>
   refine Gd.ite (fun h=>absurd h (by simp [EB])) (fun _=>hnx rows ((hM.mono (by omega)).congr (fun r c _ _=>?_)))
   rw [pR,pR]; grind
  | some j=>
   have hi:=hi i rfl;have hj:=hj j rfl;have hij:i≠j:=fun e=>hne i rfl (by rw [e])
   show Gd (if ((decide (0≤(i:Int)) && decide (0≤(j:Int)))=true) then _ else _) Q
   refine Gd.ite (fun _=>?_) (fun h=>absurd h (by simp))
   show Gd (idx (s7 n) (i:Int) _) Q;refine lZ hi (lZ hj (lZ hi (oM hM hi hj (fun y1 a1 a2 a3=>Gd.eV (sM a1 hb a2 hbl (by omega)) (fun r1 b1=>?_)))))
   show Gd (idx (s7 n) (j:Int) _) Q;refine lZ hj (oM hM hj hi (fun y2 c1 c2 c3=>Gd.eV (sM c1 hb c2 hbl (by omega)) (fun r2 d1=>?_)))
   show Gd (idx ((([]::rows:List (List LR))[i+1]?).getD []) (j:Int) _) Q;refine oM hM hi hj (fun _ _ _ _=>?_);have h2:=(hM.mono (show W≤W+3 by omega)).xM hi hj (d:=-rv b) b1.1 (b1.2.1.mono (by omega)) (by rw [b1.2.2,a3]; grind)
   show Gd (idx ((([]::(rows.set i (((rows[i]?).getD []).set j r1)):List (List LR))[j+1]?).getD []) (i:Int) _) Q;refine oM h2 hj hi (fun _ _ _ _=>?_);have h3:=h2.xM hj hi (d:=-rv b) d1.1 (d1.2.1.mono (by omega)) (by
    rw [d1.2.2,c3,mj hij]; grind)
   refine hnx _ (h3.congr (fun r c _ _=>?_));rw [pS,pS,pS,pS]; grind
theorem Fa {n W:Nat}{nx:BW}{b:LR}{oi oj:Option Nat}{rows:List (List LR)}{m:Mt}{Q:aW→Prop} (hM:pY rows n n W m) (hW:W≤900) (hb:lG b) (hbl:RL b 2)
  (hi:∀ i,oi=some i→i<n) (hj:∀ j,oj=some j→j<n) (hne:∀ i,oi=some i→oj≠some i)
  (hnx:∀ rows',pY rows' n n (W+6) (fun r c=>m r c+rv b*(eo oj r*eo oj c)-rv b*(eo oi r*eo oj c)-rv b*(eo oj r*eo oi c))→Gd (nx ([]::rows')) Q):
  Gd (gA (s7 n) nx b (EB oi) (EB oj) ([]::rows)) Q:=by
 unfold gA;cases oj with
 | none=>
  refine Gd.ite (fun h=>absurd h (by simp [EB])) (fun _=>E_ (oj:=none) (hM.mono (show W≤W+3 by omega)) (by omega) hb hbl hi hj hne (fun rows' h'=>hnx rows' (h'.congr (fun r c _ _=>?_))))
  rw [pR,pR]; grind
 | some j=>
  have hj':=hj j rfl;show Gd (if (decide (0≤(j:Int))=true) then _ else _) Q
  refine Gd.ite (fun _=>?_) (fun h=>absurd h (by simp))
  show Gd (idx (s7 n) (j:Int) _) Q;refine lZ hj' (lZ hj' (oM hM hj' hj' (fun y1 a1 a2 a3=>Gd.eV (rH a1 hb a2 hbl (by omega)) (fun r1 b1=>oM hM hj' hj' (fun _ _ _ _=>?_)))))
  have h2:=(hM.mono (show W≤W+3 by omega)).xM hj' hj' (d:=rv b) b1.1 (b1.2.1.mono (by omega)) (by rw [b1.2.2,a3])
  refine E_ (oj:=some j) h2 (by omega) hb hbl hi hj hne (fun rows' h'=>hnx rows' (h'.congr (fun r c _ _=>?_)))
  rw [pS,pS]
theorem zL (l:List (Rat×(Nat→Rat))) (e:Rat×(Nat→Rat)) (r c:Nat):fK (l++[e]) r c=fK l r c+e.1*e.2 r*e.2 c:=by
 induction l with
 | nil=>show e.1*e.2 r*e.2 c+0=0+_; grind
 | cons a l ih=>show a.1*a.2 r*a.2 c+fK (l++[e]) r c=a.1*a.2 r*a.2 c+fK l r c+_; rw [ih]; grind
theorem w_ {α:Type}{l:List α}{k:Nat}{e:α} (f:α→Int) (h:l[k]? = some e):(l.map f)[k]? = some (f e):=by rw [Ib,h]; rfl
theorem F2 {M:aW}{n N:Nat}{F:Nat→Nat}{l:List (Rat×Nat×Nat)}{t:Rat} (h:BX M n N F l t) {k W:Nat}{e:Rat×Nat×Nat} (he:l[k]? = some e) {b:LR} (hb:lG b) (hbl:RL b 2) (hbv:rv b=t / e.1)
  {nx:BW}{rows:List (List LR)}{pre:List (Rat×Nat×Nat)}{Q:aW→Prop} (hW:W≤800) (hM:pY rows n n W (fK ((pre.map (wt t)).map (kD F))))
  (hnx:∀ rows',pY rows' n n (W+9) (fK (((pre++[e]).map (wt t)).map (kD F)))→Gd (nx ([]::rows')) Q):
  Gd (iK M (s7 n) k b ([]::rows) nx) Q:=by
 obtain ⟨q,u,v⟩:=e;unfold iK;rw [h.fr,h.to];have f1:=w_ (fun e:Rat×Nat×Nat=>(e.2.1:Int)) he;have f2:=w_ (fun e:Rat×Nat×Nat=>(e.2.2:Int)) he;have new:∀ r c,fK (((pre++[(q,u,v)]).map (wt t)).map (kD F)) r c=fK ((pre.map (wt t)).map (kD F)) r c+rv b*(dl (F r) u-dl (F r) v)*(dl (F c) u-dl (F c) v):=fun r c=>by
  rw [Jc,Jc];show fK (_++[_]) r c=_;rw [zL,hbv]; rfl
 refine Gd.ix (by omega) (by rw [Hj]; exact f1) ?_
 refine Gd.eV (yJ h u) ?_;rintro _ ⟨oi,rfl,i1,i2⟩;refine Gd.ix (by omega) (by rw [Hj]; exact f2) ?_
 refine Gd.eV (yJ h v) ?_;rintro _ ⟨oj,rfl,j1,j2⟩;refine Gd.ix (by omega) (by rw [Hj]; exact f1) (Gd.ix (by omega) (by rw [Hj]; exact f2) ?_)
 refine Gd.ite (fun huv=>?_) (fun huv=>?_)
 ·have e1:u=v:=by have:=Ht huv; simp only at this; omega
  subst e1;unfold eZ;refine hnx rows ((hM.mono (by omega)).congr (fun r c _ _=>?_))
  rw [new]; grind
 ·have e1:u≠v:=fun e=>by subst e; simp at huv
  have hne:∀ i,oi=some i→oj≠some i:=fun i hi hj=>by
   have:=(i1 i hi).2;have:=(j1 i hj).2;omega
  have fin:∀ rows',pY rows' n n (W+9) (fun r c=>fK ((pre.map (wt t)).map (kD F)) r c+rv b*(eo oi r*eo oi c)+rv b*(eo oj r*eo oj c)-rv b*(eo oi r*eo oj c)-rv b*(eo oj r*eo oi c))→Gd (nx ([]::rows')) Q:=fun rows' h'=>
   hnx rows' (h'.congr (fun r c hr hc=>by rw [new,i2 r hr,i2 c hc,j2 r hr,j2 c hc]; grind))
  cases oi with
  | none=>
   refine Gd.ite (fun h=>absurd h (by simp [EB])) (fun _=>Fa (oi:=none) (hM.mono (show W≤W+3 by omega)) (by omega) hb hbl (fun i hi=>(i1 i hi).1) (fun j hj=>(j1 j hj).1) hne (fun rows' h'=>fin rows' ((h'.mono (by omega)).congr (fun r c _ _=>?_))))
   rw [pR,pR]; grind
  | some i=>
   have hi:=(i1 i rfl).1;show Gd (if (decide (0≤(i:Int))=true) then _ else _) Q
   refine Gd.ite (fun _=>?_) (fun h=>absurd h (by simp))
   show Gd (idx (s7 n) (i:Int) _) Q;refine lZ hi (lZ hi (oM hM hi hi (fun y1 a1 a2 a3=>Gd.eV (rH a1 hb a2 hbl (by omega)) (fun r1 b1=>oM hM hi hi (fun _ _ _ _=>?_)))))
   have h2:=(hM.mono (show W≤W+3 by omega)).xM hi hi (d:=rv b) b1.1 (b1.2.1.mono (by omega)) (by rw [b1.2.2,a3])
   refine Fa (oi:=some i) h2 (by omega) hb hbl (fun i hi=>(i1 i hi).1) (fun j hj=>(j1 j hj).1) hne (fun rows' h'=>fin rows' ((h'.mono (by omega)).congr (fun r c _ _=>?_)))
   rw [pS,pS]
structure E2 (rows:List (List LR)) (n:Nat) (A:Mt):Prop where
 ex:∃ m,Gj n A n m∧pY rows n n 6000 (fun i c=>m i (n+c))
theorem Bo {M:aW}{n N:Nat}{F:Nat→Nat}{l:List (Rat×Nat×Nat)}{t:Rat} (h:BX M n N F l t) {B:Mt}{L R:Nat→Rat} (hp:Pd n (fK ((l.map (wt t)).map (kD F)))) (hB:Nb n (fK ((l.map (wt t)).map (kD F))) L B R):
  Gd (kv M) (fun M'=>∃ rows,M'={ M with mX:=rows }∧E2 rows n (fK ((l.map (wt t)).map (kD F)))):=by
 have hn:=h.hn;have hfl:M.mh.length=n:=by rw [h.free]; simp
 unfold kv;rw [hfl,Hj,I0];refine Gd.nd (by omega) (Gd.nd (by omega) ?_)
 rw [Hj];refine Gd.jH (fun m i s=>i+m=n∧∃ pre:List (List LR),s=(yZ n i,[]::pre)∧pY pre i n 2 (fun _ _=>0)) ?_ ?_ n 0 _ ⟨by omega,[],by rw [vp],⟨rfl,fun i hi=>by omega⟩⟩
 ·rintro m i _ nx ⟨him,pre,rfl,hpre⟩ hnx
  have hi:i<n:=by omega
  unfold mf;rw [hfl];refine Gd.eV (wA (by omega)) ?_
  rintro _ ⟨z,rfl,hz⟩;refine Gd.ix (by omega) (by rw [Hj]; exact zj hi) (hnx _ ⟨by omega,pre++[List.replicate n z],?_,hpre.snoc (by simp) (fun c hc=>⟨z,by rw [J_,Hv hc],hz.1,hz.2.1,hz.2.2⟩)⟩)
  rw [Hj,HD,hpre.len,uU hi]; rfl
 ·rintro i _ ⟨hi,pre,rfl,hpre⟩
  obtain rfl:i=n:=by omega
  show Gd (eE (fun k y s1523 n=>iK M (yZ i i) k y s1523 n) _ 0 M.B_ ([]::pre)) _;rw [vo];refine Gd.eE (fun k ys s=>∃ (bs:List LR) (rows:List (List LR)),M.B_=bs++ys∧bs.length=k∧s=[]::rows∧pY rows i i (2+9*k) (fK (((l.take k).map (wt t)).map (kD F)))) ?_ ?_ M.B_ 0 _ ⟨[],pre,rfl,rfl,rfl,by rw [LU]; exact hpre⟩
  ·rintro k y ys _ nx ⟨bs,rows,hbs,hbk,rfl,hM⟩ hnx
   have hy:M.B_[k]? = some y:=by rw [hbs,H_ (by omega),hbk,I3]; rfl
   obtain ⟨e,he,y1,y2,y3⟩:=h.b k y hy;have hkl:=(He.1 he).1;have hll:=h.ll;have e2:l.take (k+1)=l.take k++[e]:=by
    rw [Ie hkl,(He.1 he).2]
   refine F2 h he y1 y2 y3 (by omega) hM (fun rows' h'=>hnx _ ⟨bs++[y],rows',by rw [hbs]; simp,by simp [hbk],rfl,?_⟩)
   rw [e2];exact h'.mono (by omega)
  ·rintro k _ ⟨bs,rows,hbs,hbk,rfl,hM⟩
   have hll:=h.ll;have hbl:=h.bl;rw [Ij] at hbs;have hkl:k=l.length:=by rw [← hbl,hbs,hbk]
   rw [hkl,JA] at hM;show Gd ((mz (nB (s7 i) ([]::rows))).bind _) _;rw [wy hM.len];refine Gd.eV (zJ (by omega) (by omega) (by omega) hp (hM.mono (by omega)) (hB.rb hp (by omega))) (fun r hr=>Gd.ret ⟨r.1,rfl,⟨hr.2⟩⟩)
abbrev Net:=aC
theorem Gd.forAll {R α σ:Type}{Q:R→Prop}{body:Nat→α→σ→(σ→Option R)→Option R}{k:σ→Option R}{l:List α} (P:α→Prop) (J:σ→Prop)
  (hb:∀ i y s n,y ∈ l→J s→(P y→∀ s',J s'→Gd (n s') Q)→Gd (body i y s n) Q) (hk:(∀ x ∈ l,P x)→∀ s,J s→Gd (k s) Q) (s:σ) (hs:J s):Gd (Sim.eE body k 0 l s) Q:=by
 have key:∀ (ys pre:List α) (i:Nat) (s:σ),l=pre++ys→(∀ x ∈ pre,P x)→J s→Gd (Sim.eE body k i ys s) Q:=by
  intro ys
  induction ys with
  | nil=>intro pre i s hl hp hs; exact hk (by rw [hl,Ij]; exact hp) s hs
  | cons y ys ih=>
   intro pre i s hl hp hs;refine hb i y s _ (by rw [hl]; exact IP _ (Hm ..)) hs (fun hP s' hs'=>?_)
   exact ih (pre++[y]) (i+1) s' (by rw [hl]; simp) (fun x hx=>by
    rcases Ih.1 hx with hx | hx
    ·exact hp x hx
    ·simp at hx; subst hx; exact hP) hs'
 exact key l [] 0 s rfl (by simp) hs
theorem yF (s:ByteArray) (h:s.size≤maxLen):Gd (cN s) (fun _=>True):=by
 unfold cN;refine Gd.nd h (Gd.eE (fun _ _ _=>True) (fun i y ys s n _ hn=>?_) (fun i s _=>Gd.ret Hh) _ _ _ Hh);unfold nZ;exact Gd.ite (fun _=>Gd.ret Hh) (fun _=>hn _ Hh)
theorem wS (l:List ByteArray) (p:ByteArray):Gd (bE l p) (fun r=>(r = -1∧p ∉ l)∨∃ (k:Nat) (h:k<l.length),r=k∧l[k]=p):=by
 unfold bE;refine Gd.jH (fun m i _=>i+m=l.length∧p ∉ l.take i) ?_ ?_ (l.length:Int).toNat 0 () ⟨by omega,by simp⟩
 ·intro m i _ nx ⟨hi,hno⟩ hnx
  unfold jC;refine Gd.ks (by omega) (Gd.ite (fun h=>Gd.ret (.inr ⟨i,by omega,rfl,?_⟩)) (fun h=>hnx () ⟨by omega,?_⟩))
  ·have:p=l[i]:=by simpa using h
   exact this.symm
  ·rw [Ie (by omega),Ih,IS]
   rintro (h' | h')
   ·exact hno h'
   ·simp [h'] at h
 ·intro i _ ⟨hi,hno⟩
  rw [HR (by omega)] at hno
  exact Gd.ret (.inl ⟨rfl,hno⟩)
theorem tm {l:List ByteArray}{p:ByteArray} (h:p ∈ l):∃ k:Nat,bE l p=some (k:Int)∧∃ hk:k<l.length,l[k]=p:=by
 obtain ⟨r,hr,h2⟩:=wS l p;rcases h2 with ⟨_,hno⟩ | ⟨k,hk,rfl,e⟩
 ·exact absurd h hno
 ·exact ⟨k,hr,hk,e⟩
theorem pW (l:List ByteArray) (p:ByteArray):Gd (bU l p) (fun b=>b=true↔p ∈ l):=by
 unfold bU;refine Gd.eV (wS l p) (fun r hr=>Gd.ret ?_);rcases hr with ⟨rfl,hno⟩ | ⟨k,hk,rfl,e⟩
 ·simp [hno]
 ·have:p ∈ l:=e▸IG _
  simp [this]
theorem p5 (c:aS) (name:ByteArray) (nodes:List ByteArray) (h:name.size≤maxLen):
  Gd (cB c name nodes) (fun r=>r.1=0→∀ x ∈ nodes,x ∈ c.nodes):=by
 unfold cB;refine Gd.eV (yF name h) (fun a _=>Gd.ite (fun _=>Gd.ret (fun h=>by simp at h)) (fun _=>Gd.ite (fun _=>Gd.ret (fun h=>by simp at h)) (fun _=>?_)))
 refine Gd.forAll (fun x=>x ∈ c.nodes) (fun _=>True) ?_ ?_ () Hh
 ·intro i y s n hy _ hn
  unfold fP;refine Gd.eV (pW c.nodes y) (fun b hb=>Gd.ite (fun _=>Gd.ret (fun h=>by simp at h)) (fun h=>hn (hb.1 (by simpa using h)) _ Hh))
 ·intro hall s _
  refine Gd.ite (fun h=>?_) (fun _=>Gd.ret (fun _=>hall));have h2:nodes.length=2:=by
   have:((nodes.length:Nat):Int)=2:=by simpa using h
   omega
  have e1:(0:Int)=((0:Nat):Int):=rfl;have e2:(1:Int)=((1:Nat):Int):=rfl;rw [e1,e2];exact Gd.ks (by omega) (Gd.ks (by omega) (Gd.ite (fun _=>Gd.ret (fun h=>by simp at h)) (fun _=>Gd.ret (fun _=>hall))))
structure mE (n:Net):Prop where
 nd:∀ x ∈ n.bJ,x.size≤maxLen
 sw:∀ x ∈ n.bF,x.Name.size≤maxLen
 br:∀ x ∈ n.aN,x.Name.size≤maxLen
 gn:∀ x ∈ n.dM,x.Name.size≤maxLen
 ld:∀ x ∈ n.bK,x.Name.size≤maxLen
 st:∀ x ∈ n.bQ,x.Name.size≤maxLen
structure lP (n:Net):Prop where
 l1:n.bJ.length≤24
 l2:n.bF.length≤32
 l3:n.aN.length≤24
 l4:n.dM.length≤10
 l5:n.bK.length≤12
 sw:∀ x ∈ n.bF,x.A ∈ n.bJ∧x.B_ ∈ n.bJ
 br:∀ x ∈ n.aN,x.jB ∈ n.bJ∧x.To ∈ n.bJ
 gn:∀ x ∈ n.dM,x.Node ∈ n.bJ∧0≤x.dI∧x.dI≤x.g_∧x.g_≤100000
 ld:∀ x ∈ n.bK,x.Node ∈ n.bJ∧0≤x.bN∧x.bN≤100000
theorem D_ (c:aS) (n:Net) (hz:mE n):
  Gd (e_ c n) (fun r=>r.1=0→(∀ x ∈ n.dM,x.Node ∈ c.nodes∧0≤x.dI∧x.dI≤x.g_∧x.g_≤100000)∧(∀ x ∈ n.bK,x.Node ∈ c.nodes∧0≤x.bN∧x.bN≤100000)):=by
 unfold e_;refine Gd.forAll (fun x=>x.Node ∈ c.nodes∧0≤x.dI∧x.dI≤x.g_∧x.g_≤100000) (fun _=>True) ?_ ?_ _ Hh
 ·intro i y s nx hy _ hn
  unfold gG;refine Gd.eV (p5 _ _ _ (hz.gn y hy)) (fun r hr=>Gd.ite (fun h=>Gd.ret (fun h2=>absurd h2 (by simpa using h))) (fun h=>Gd.ite (fun _=>Gd.ret (fun h2=>by simp at h2)) (fun h2=>hn ?_ _ Hh)))
  have h0:r.1=0:=by simpa using h
  have:=hr h0 y.Node (by simp)
  simp [aX,bM] at h2;exact ⟨this,by omega,by omega,by omega⟩
 ·intro hg s _
  refine Gd.forAll (fun x=>x.Node ∈ c.nodes∧0≤x.bN∧x.bN≤100000) (fun _=>True) ?_ ?_ _ Hh
  ·intro i y s nx hy _ hn
   unfold gH;refine Gd.eV (p5 _ _ _ (hz.ld y hy)) (fun r hr=>Gd.ite (fun h=>Gd.ret (fun h2=>absurd h2 (by simpa using h))) (fun h=>Gd.ite (fun _=>Gd.ret (fun h2=>by simp at h2)) (fun h2=>hn ?_ _ Hh)))
   have h0:r.1=0:=by simpa using h
   have:=hr h0 y.Node (by simp)
   simp [aX,bM] at h2;exact ⟨this,by omega,by omega⟩
  ·intro hl s _
   refine Gd.forAll (fun _=>True) (fun _=>True) ?_ ?_ _ Hh
   ·intro i y s nx hy _ hn
    unfold gI;refine Gd.eV (p5 _ _ _ (hz.st y hy)) (fun r hr=>Gd.ite (fun h=>Gd.ret (fun h2=>absurd h2 (by simpa using h))) (fun h=>Gd.ite (fun _=>Gd.ret (fun h2=>by simp at h2)) (fun _=>hn Hh _ Hh)))
   ·intro _ s _
    exact Gd.ret fun _=>⟨hg,hl⟩
theorem Cm (n:Net) (hz:mE n):Gd (cG n) (fun e=>e=0→lP n):=by
 unfold cG;refine Gd.ite (fun _=>Gd.ret (fun h=>by simp at h)) (fun hl=>?_)
 simp only [MA,NH,Int.not_lt] at hl;refine Gd.forAll (fun _=>True) (fun _=>True) ?_ ?_ _ Hh
 ·intro i y s nx hy _ hn
  unfold kx;exact Gd.eV (p5 _ _ _ (hz.nd y hy)) (fun r hr=>Gd.ite (fun h=>Gd.ret (fun h2=>absurd h2 (by simpa using h))) (fun h=>hn Hh _ Hh))
 intro _ s _;refine Gd.forAll (fun x=>x.A ∈ n.bJ∧x.B_ ∈ n.bJ) (fun _=>True) ?_ ?_ _ Hh
 ·intro i y s nx hy _ hn
  unfold ky;refine Gd.eV (p5 _ _ _ (hz.sw y hy)) (fun r hr=>Gd.ite (fun h=>Gd.ret (fun h2=>absurd h2 (by simpa using h))) (fun h=>hn ?_ _ Hh))
  have h0:r.1=0:=by simpa using h
  exact ⟨hr h0 y.A (by simp),hr h0 y.B_ (by simp)⟩
 intro hsw s _;refine Gd.forAll (fun x=>x.jB ∈ n.bJ∧x.To ∈ n.bJ) (fun _=>True) ?_ ?_ _ Hh
 ·intro i y s nx hy _ hn
  unfold kz;refine Gd.eV (p5 _ _ _ (hz.br y hy)) (fun r hr=>Gd.ite (fun h=>Gd.ret (fun h2=>absurd h2 (by simpa using h))) (fun h=>Gd.ite (fun h=>Gd.ret (fun h2=>absurd h2 (by simpa using h))) (fun _=>hn ?_ _ Hh)))
  have h0:r.1=0:=by simpa using h
  exact ⟨hr h0 y.jB (by simp),hr h0 y.To (by simp)⟩
 intro hbr s _;refine Gd.eV (D_ _ n hz) (fun r hr=>Gd.ret (fun h=>?_));obtain ⟨hg,hl2⟩:=hr h;exact ⟨by omega,by omega,by omega,by omega,by omega,hsw,hbr,hg,hl2⟩
def xO (N:Nat) (l:List bW):Prop:=∀ e ∈ l,0≤e.a0∧e.a0<N∧0≤e.a1∧e.a1<N
structure tx (N:Nat) (many:Int) (out:List Int):Prop where
 len:out.length=N
 DQ:∀ v ∈ out,-1≤v∧v<many
def uT (N:Nat) (l:List Int):Prop:=∀ a ∈ l,0≤a∧a<(N:Int)
def n8 (out:List Int):Nat:=out.countP (fun v=>decide (v<0))
theorem tx.set {N:Nat}{many:Int}{out:List Int} (h:tx N many out) {v:Int} (hv:0≤v∧v<many) (i:Nat):tx N many (out.set i v):=
 ⟨by simp [h.len],fun x hx=>by
  rcases MX hx with hx | rfl
  ·exact h.DQ x hx
  ·omega⟩
theorem yC {out:List Int}{i:Nat} (hi:i<out.length) (hn:out[i]<0) {v:Int} (hv:0≤v):n8 (out.set i v)+1=n8 out:=by
 unfold n8;rw [List.countP_set hi];have h1:decide (out[i]<0)=true:=NI hn;have h2:decide (v<0)=false:=NG (by omega)
 rw [h1,h2];have hpos:0<out.countP (fun v=>decide (v<0)):=List.countP_pos_iff.2 ⟨_,IG hi,h1⟩;simp;omega
def sZ (a b:List Int):Prop:=∀ (i:Nat) (v:Int),a[i]? = some v→0≤v→∃ w,b[i]? = some w∧0≤w
theorem sZ.refl (a:List Int):sZ a a:=fun i v h h0=>⟨v,h,h0⟩
theorem sZ.set {a b:List Int} (h:sZ a b) (i:Nat) {v:Int} (hv:0≤v):sZ a (b.set i v):=by
 intro j w hj hw;obtain ⟨u,hu,hu0⟩:=h j w hj hw
 by_cases e:i=j
 ·subst e
  exact ⟨v,by simp [(He.1 hu).1],hv⟩
 ·exact ⟨u,by rw [HV e]; exact hu,hu0⟩
theorem Dg (N:Nat) (hN:N≤24) (l:List bW) (hl:xO N l) (hll:l.length≤64) (wo:Int):Gd (lH N l wo) (fun r=>r.length=N∧∀ v ∈ r,0≤v∧v<N):=by
 unfold lH;refine Gd.nd ⟨rfl,by omega,by omega⟩ (Gd.nd (by omega) ?_)
 rw [sB];refine Gd.jH (fun m i s=>i+m=N∧0≤s.2∧s.2≤(i:Int)∧tx N s.2 s.1∧∀ (j:Nat) (v:Int),j<i→s.1[j]? = some v→0≤v) ?_ ?_ (N:Int).toNat 0 (List.replicate N (-1),0) ⟨by omega,by simp,by simp,⟨by simp,by simp⟩,by simp⟩
 ·rintro m i ⟨out,many⟩ nx ⟨hi,h0,hmi,hp,hk⟩ hn
  simp only at h0 hmi hp hk;have hilt:i<out.length:=by rw [hp.len]; omega
  unfold mG;refine Gd.ks hilt (Gd.ite (fun h=>?_) (fun h=>?_))
  ·have hge:0≤out[i]:=by simpa using h
   unfold gX;refine hn _ ⟨by omega,h0,by show many≤((i+1:Nat):Int); omega,hp,fun j v hj hv=>?_⟩
   by_cases e:j=i
   ·subst e
    rw [Hi hilt] at hv;cases hv; exact hge
   ·exact hk j v (by omega) hv
  ·have hneg:out[i]<0:=by simpa using h
   refine Gd.ks hilt ?_;rw [Hj];have hw:i64.wrap (many+1)=many+1:=bR ⟨by omega,by omega⟩
   have hp1:tx N (many+1) out:=⟨hp.len,fun v hv=>by have:=hp.DQ v hv; omega⟩
   have hbase0:2*n8 (out.set i many)+[(i:Int)].length≤2*N+1:=by
    have hc:n8 (out.set i many)≤N:=by unfold n8; rw [← hp.len,← HI (as:=out) (i:=i) (a:=many)]; exact Kq
    simp only [Iz]; omega
   refine Gd.fV (fun (s:List Int×List Int)=>tx N (many+1) s.1∧sZ (out.set i many) s.1∧uT N s.2∧2*n8 s.1+s.2.length≤2*N+1) (fun s=>2*n8 s.1+s.2.length) ?_ eT _ ⟨hp1.set ⟨h0,by omega⟩ i,sZ.refl _,by intro a ha; simp at ha; omega,hbase0⟩ ?_
   ·rintro ⟨o,todo⟩ nx2 ⟨hq,hkp,htd,htot⟩ hn2
    simp only at hq hkp htd htot;unfold mH;refine Gd.ite (fun hne=>?_) (fun _=>?_)
    ·have hne:0<todo.length:=by
      have:(0:Int)<((todo.length:Nat):Int):=by simpa using hne
      omega
     obtain ⟨at_,ts,rfl⟩:∃ a ts,todo=a::ts:=by
      cases todo with
      | nil=>simp at hne
      | cons a ts=>exact ⟨a,ts,rfl⟩
     refine Gd.ix (y:=at_) (by decide) rfl (Gd.nd ⟨by omega,by simp only [HD]; omega⟩ ?_)
     have hat:=htd at_ (Hm ..);have hsl:lK (at_::ts) (1:Int).toNat (at_::ts).length=ts:=by
      unfold lK;rw [show (1:Int).toNat=1 from rfl,Mo,Jb,HR (by simp)]
     rw [hsl];simp only [HD] at htot;have push:∀ (b:List Int) (td:List Int) (q:Int) (nn:(List Int×List Int)→Option (List Int)),0≤q→q<N→tx N (many+1) b→sZ (out.set i many) b→uT N td→2*n8 b+td.length≤2*n8 o+ts.length →
       (∀ s',(tx N (many+1) s'.1∧sZ (out.set i many) s'.1∧uT N s'.2∧2*n8 s'.1+s'.2.length≤2*n8 o+ts.length)→Gd (nn s') (fun r=>r.length=N∧∀ v ∈ r,0≤v∧v<N)) →
       Gd (Sim.idx b q fun y7689=>if decide (y7689<0) then (Sim.idx b q fun y7694=>dH ((td.length+([q]).length)*8≤140737488355328) (dL nn (b.set (q:Int).toNat many) (td++([q])))) else (dL nn b td)) (fun r=>r.length=N∧∀ v ∈ r,0≤v∧v<N):=by
      intro b td q nn q0 qN hb hkb htd2 hms hnn;have hql:q.toNat<b.length:=by rw [hb.len]; omega
      have hget:b[q.toNat]? = some b[q.toNat]:=Hi hql;unfold dL;refine Gd.ix q0 hget (Gd.ite (fun h=>Gd.ix q0 hget (Gd.nd ?_ (hnn _ ⟨hb.set ⟨h0,by omega⟩ _,hkb.set _ h0,?_,?_⟩))) (fun h=>hnn _ ⟨hb,hkb,htd2,hms⟩))
      ·have h1:b[q.toNat]<0:=by simpa using h
       have hc:n8 o≤N:=by unfold n8; rw [← hq.len]; exact Kq
       simp;omega
      ·intro a ha
       rcases Ih.1 ha with ha | ha
       ·exact htd2 a ha
       ·simp at ha; omega
      ·have h1:b[q.toNat]<0:=by simpa using h
       have:=yC hql h1 h0;simp;omega
     have hc:n8 o≤N:=by unfold n8; rw [← hq.len]; exact Kq
     ·refine Gd.forAll (fun _=>True) (fun (s:List Int×List Int)=>tx N (many+1) s.1∧sZ (out.set i many) s.1∧uT N s.2∧2*n8 s.1+s.2.length≤2*n8 o+ts.length) ?_ ?_ _ ⟨hq,hkp,(fun a ha=>htd a (HB _ ha):uT N ts),HQ (2*n8 o+ts.length)⟩
      ·rintro k e ⟨b,td⟩ nn he ⟨hb,hkb,htd2,hms⟩ hnn
       simp only at hb hkb htd2 hms;obtain ⟨e1,e2,e3,e4⟩:=hl e he;have hw1:i64.wrap (e.a0+e.a1)=e.a0+e.a1:=bR ⟨by omega,by omega⟩
       have hw2:i64.wrap (e.a0+e.a1-at_)=e.a0+e.a1-at_:=bR ⟨by omega,by omega⟩
       unfold mI;rw [hw1,hw2];refine Gd.ite (fun _=>hnn Hh _ ⟨hb,hkb,htd2,hms⟩) (fun _=>Gd.ite (fun h=>?_) (fun _=>Gd.ite (fun _=>hnn Hh _ ⟨hb,hkb,htd2,hms⟩) (fun h=>?_)))
       ·have h:e.a0=at_:=by simpa using h
        exact push b td _ nn (by omega) (by omega) hb hkb htd2 hms (fun s' hs'=>hnn Hh s' hs')
       ·have h:e.a1=at_:=by simpa using h
        exact push b td _ nn (by omega) (by omega) hb hkb htd2 hms (fun s' hs'=>hnn Hh s' hs')
      ·rintro _ ⟨b,td⟩ ⟨hb,hkb,htd2,hms⟩
       simp only at hb hkb htd2 hms;exact hn2 _ ⟨hb,hkb,htd2,by show 2*n8 b+td.length≤2*N+1; omega⟩ (by simp only [HD]; omega)
    ·unfold gX
     rw [hw];refine hn _ ⟨by omega,by show (0:Int)≤many+1; omega,by show many+1≤((i+1:Nat):Int); omega,hq,fun j v hj hv=>?_⟩
     have hjl:j<out.length:=by omega
     have hbase:∃ w,(out.set i many)[j]? = some w∧0≤w:=by
      by_cases e:i=j
      ·subst e; exact ⟨many,by simp [hilt],h0⟩
      ·exact ⟨out[j],by rw [HV e]; exact Hi hjl,hk j _ (by omega) (Hi hjl)⟩
     obtain ⟨w,hw1,hw0⟩:=hbase;obtain ⟨u,hu,hu0⟩:=hkp j w hw1 hw0;simp only at hv;rw [hu] at hv; cases hv; exact hu0
   ·refine KM hbase0 ?_
    unfold eT; omega
 ·rintro i ⟨out,many⟩ ⟨hi,h0,hmi,hp,hk⟩
  simp only at h0 hmi hp hk;refine Gd.ret ⟨hp.len,fun v hv=>?_⟩;obtain ⟨j,hj,hje⟩:=IW.1 hv;have hj:j<out.length:=hj;have h1:=hp.DQ v hv;have h2:=hk j v (by have:=hp.len; omega) (by rw [Hi hj]; exact HH some hje)
  omega
theorem wQ (N:Nat) (hN:N≤24) (l:List bW) (hl:xO N l) (hll:l.length≤64):nH N l=some 0:=by
 rw [← Gd.eq];unfold nH;refine Gd.ite (fun h=>?_) (fun _=>Gd.forAll (Q:=fun x=>x=0) (fun _=>True) (fun _=>True) ?_ (fun _ _ _=>Gd.ret rfl) _ Hh)
 ·simp at h; omega
 ·intro i e s n he _ hn
  obtain ⟨e1,e2,e3,e4⟩:=hl e he;unfold oZ;exact Gd.ite (fun h=>by simp at h; omega) (fun _=>Gd.ite (fun h=>by simp at h; omega) (fun _=>Gd.ite (fun h=>by simp at h; omega) (fun _=>Gd.ite (fun h=>by simp at h; omega) (fun _=>hn Hh _ Hh))))
theorem Co (N:Nat) (hN:N≤24) (l:List bW) (hl:xO N l) (hll:l.length≤64):Gd (gC N l) (fun r=>r.1.length=N∧uT N r.1):=by
 unfold gC;refine Gd.bind_eq (wQ N hN l hl hll) (Gd.ite (fun h=>by simp at h) (fun _=>Gd.eV (Dg N hN l hl hll (-1)) (fun r hr=>Gd.ret hr)))
theorem CG (n:Net) (hn:lP n) (o:Bool):Gd (mu n o) (fun r=>r.1.length≤32∧xO n.bJ.length r.1):=by
 unfold mu;refine Gd.eE (fun i ys s=>i+ys.length=n.bF.length∧(∀ y ∈ ys,y ∈ n.bF)∧s.1.length≤i∧s.2.length≤i∧xO n.bJ.length s.1) ?_ ?_ _ _ _ ⟨by simp,fun _ h=>h,by simp,by simp,by intro e he; simp at he⟩
 ·rintro i y ys ⟨a,b⟩ nx ⟨hi,hm,ha,hb,he⟩ hnx
  simp only [HD] at hi ha hb he;have h2:=hn.l2;have hys:∀ z ∈ ys,z ∈ n.bF:=fun z hz=>hm z (HB _ hz);unfold n7 kW;refine Gd.ite (fun _=>?_) (fun _=>hnx _ ⟨by omega,hys,by simp only; omega,by simp only; omega,he⟩)
  obtain ⟨h1,h2'⟩:=hn.sw y (hm y (Hm ..));obtain ⟨p,hp,hpl,_⟩:=tm h1;obtain ⟨q,hq,hql,_⟩:=tm h2';refine Gd.bind_eq hp (Gd.bind_eq hq (Gd.nd (by simp; omega) (Gd.nd (by simp; omega) (hnx _ ⟨by omega,hys,by simp; omega,by simp; omega,?_⟩))))
  intro e hme;rcases Ih.1 hme with hme | hme
  ·exact he e hme
  ·simp at hme; subst hme
   exact ⟨by simp only; omega,by simp only; omega,by simp only; omega,by simp only; omega⟩
 ·rintro i ⟨a,b⟩ ⟨hi,hm,ha,hb,he⟩
  have h2:=hn.l2;simp only [MU] at hi ha;exact Gd.ret ⟨by simp only; omega,he⟩
theorem Cl (n:Net) (hn:lP n):Gd (k_ n) (fun r=>r.length=n.bJ.length∧uT n.bJ.length r):=by
 unfold k_;refine Gd.eV (CG n hn false) (fun r hr=>?_);have h1:=hn.l1;exact Gd.eV (Co n.bJ.length hn.l1 r.1 hr.2 (by omega)) (fun r hr=>Gd.ret hr)
structure GM (n:Net) (t:aV):Prop where
 bl:t.kC.length=n.bJ.length
 bi:uT t.bA.length t.kC
 ii:uT t.bA.length t.bA
 il:t.bA.length≤24
theorem Et {R:Type}{Q:R→Prop} (N:Nat) (hN:N≤24) (body:Nat→Int→Int→(Int→Option R)→Option R) (hb:∀ k y n nx,body k y n nx=nx (max n (i64.wrap (y+1)))) (K:Int→Option R) (l:List Int) (hl:uT N l)
  (hk:∀ m:Nat,m≤N→uT m l→Gd (K (m:Int)) Q):Gd (eE body K 0 l 0) Q:=by
 have key:∀ (ys pre:List Int) (i m:Nat),l=pre++ys→m≤N→uT m pre→Gd (eE body K i ys (m:Int)) Q:=by
  intro ys
  induction ys with
  | nil=>intro pre i m e hm hp; rw [Ij] at e; subst e; exact hk m hm hp
  | cons y ys ih=>
   intro pre i m e hm hp;have hy:=hl y (by rw [e]; exact IP _ (Hm ..))
   show Gd (body i y (m:Int) (fun s=>eE body K (i+1) ys s)) Q;rw [hb,bR ⟨by omega,by omega⟩]
   have hmx:max (m:Int) (y+1)=((max m (y+1).toNat:Nat):Int):=by omega
   rw [hmx];refine ih (pre++[y]) (i+1) _ (by rw [e]; simp) (by omega) (fun a ha=>?_)
   rcases Ih.1 ha with ha | ha
   ·have:=hp a ha; omega
   ·simp at ha; subst ha; omega
 have:=key l [] 0 0 rfl (by omega) (by intro a ha; simp at ha)
 exact this
abbrev BA:=ByteArray
abbrev Seen:=List (ByteArray×Bool)
theorem C4 (l:List (ByteArray×Bool)) (k k':ByteArray):(nA (qF l k true) k').getD false=((nA l k').getD false || decide (k=k')):=by
 have key:∀ (l:List (ByteArray×Bool)) (i:Nat),(∀ p,ru l k' i=some p→ru (l++[(k,true)]) k' i=some p)∧(ru l k' i=none→ru (l++[(k,true)]) k' i=if k=k' then some (i+l.length,true) else none):=by
  intro l
  induction l with
  | nil=>intro i; refine ⟨fun p h=>by simp [ru] at h,fun _=>?_⟩; simp [ru]
  | cons q l ih=>
   obtain ⟨a,b⟩:=q;intro i;simp only [J4,ru]
   by_cases h:a=k'
   ·simp [h]
   ·simp only [h,J2]
    refine ⟨(ih (i+1)).1,fun hn=>?_⟩;rw [(ih (i+1)).2 hn];simp; split
    ·simp; omega
    ·rfl
 have set_ne:∀ (l:List (ByteArray×Bool)) (i j:Nat) (v:Bool),ru l k i=some (j,v)→nA (l.set (j-i) (k,true)) k'=if k=k' then some true else nA l k':=by
  intro l;unfold nA;have:∀ (l:List (ByteArray×Bool)) (i j:Nat) (v:Bool) (q:Nat),ru l k i=some (j,v)→((ru (l.set (j-i) (k,true)) k' q).map (·.2))=if k=k' then some true else (ru l k' q).map (·.2):=by
   intro l
   induction l with
   | nil=>intro i j v q h; simp [ru] at h
   | cons p l ih=>
    obtain ⟨a,b⟩:=p;intro i j v q h;simp only [ru] at h
    split at h
    ·rename_i e
     simp only [Im,K7] at h;obtain ⟨rfl,rfl⟩:=h;subst e;rw [I3,List.set_cons_zero];simp only [ru]
     by_cases e:a=k' <;> simp [e]
    ·rename_i e
     obtain ⟨h1,h2,_⟩:=zO h;rw [show j-i=(j-(i+1))+1 by omega,List.set_cons_succ]
     simp only [ru];have:=ih (i+1) j v (q+1) h
     by_cases e2:a=k'
     ·subst e2
      have hk:k≠a:=fun x=>e x.symm;simp [hk]
     ·simp only [e2,J2]; exact this
  intro i j v h;exact this l i j v 0 h
 unfold qF;cases h:ru l k 0 with
 | none=>
  simp only;unfold nA;cases h2:ru l k' 0 with
  | none=>
   rw [(key l 0).2 h2]
   by_cases e:k=k' <;> simp [e]
  | some p=>
   rw [(key l 0).1 p h2]
   by_cases e:k=k'
   ·subst e; rw [h] at h2; cases h2
   ·simp [e]
 | some p=>
  obtain ⟨j,v⟩:=p;simp only;have:=set_ne l 0 j v h;rw [Lp] at this;rw [this]
  by_cases e:k=k' <;> simp [e]
def l_ (P:List BA) (s:Seen):Prop:=∀ k:BA,(nA s k).getD false=true↔k ∈ P
theorem l_.nil:l_ [] ([]:Seen):=fun k=>by simp [nA,ru]
theorem l_.put {P:List BA}{s:Seen} (h:l_ P s) (k:BA):l_ (P++[k]) (qF s k true):=fun k'=>by
 rw [C4,Jl,h k',Ih,IS,IN];exact or_congr Iff.rfl ⟨fun e=>e.symm,fun e=>e.symm⟩
structure FV (ns P:List BA) (name:BA) (nodes:List BA):Prop where
 nm:cN name=some true
 nw:name ∉ P
 at_:∀ x ∈ nodes,x ∈ ns
 two:∀ a b,nodes=[a,b]→a≠b
theorem pZ {c:aS}{P:List BA} (hs:l_ P c.seen) {name:BA} (nodes:List BA) (h:name.size≤maxLen):
  Gd (cB c name nodes) (fun r=>r.1=0→FV c.nodes P name nodes∧l_ (P++[name]) r.2.seen):=by
 unfold cB;obtain ⟨b,hb,_⟩:=yF name h;refine Gd.bind_eq hb (Gd.ite (fun _=>Gd.ret (fun h=>by simp at h)) (fun hbt=>Gd.ite (fun _=>Gd.ret (fun h=>by simp at h)) (fun hsn=>?_)))
 have hbt:b=true:=by simpa using hbt
 subst hbt;have hnw:name ∉ P:=fun hm=>by rw [(hs name).2 hm] at hsn; cases hsn
 refine Gd.forAll (fun x=>x ∈ c.nodes) (fun _=>True) ?_ ?_ () Hh
 ·intro i y s n hy _ hn
  unfold fP;refine Gd.eV (pW c.nodes y) (fun b hb=>Gd.ite (fun _=>Gd.ret (fun h=>by simp at h)) (fun h=>hn (hb.1 (by simpa using h)) _ Hh))
 ·intro hall s _
  refine Gd.ite (fun h=>?_) (fun h2=>Gd.ret (fun _=>⟨⟨hb,hnw,hall,fun a b e=>?_⟩,hs.put name⟩))
  ·have h2:nodes.length=2:=by
    have:((nodes.length:Nat):Int)=2:=by simpa using h
    omega
   obtain ⟨a,b,rfl⟩:∃ a b,nodes=[a,b]:=by
    match nodes,h2 with
    | [a,b],_=>exact ⟨a,b,rfl⟩
   refine Gd.ix (y:=a) (by decide) rfl (Gd.ix (y:=b) (by decide) rfl (Gd.ite (fun _=>Gd.ret (fun h=>by simp at h)) (fun hne=>Gd.ret (fun _=>⟨⟨hb,hnw,hall,fun p q e=>?_⟩,hs.put name⟩))))
   have hne:a≠b:=by simpa using hne
   simp at e;rw [← e.1,← e.2]; exact hne
  ·subst e
   simp at h2
theorem re {c:aS}{P:List BA} (hs:l_ P c.seen) {name:BA}{nodes:List BA} (h:FV c.nodes P name nodes):
  cB c name nodes=some (0,⟨qF c.seen name true,c.nodes⟩):=by
 rw [← Gd.eq];unfold cB;refine Gd.bind_eq h.nm (Gd.ite (fun h=>by simp at h) (fun _=>Gd.ite (fun hsn=>absurd ((hs name).1 hsn) h.nw) (fun _=>?_)))
 refine Gd.forAll (fun _=>True) (fun _=>True) ?_ ?_ () Hh
 ·intro i y s n hy _ hn
  unfold fP;refine Gd.eV (pW c.nodes y) (fun b hb=>Gd.ite (fun hn2=>?_) (fun _=>hn Hh _ Hh));have:=hb.2 (h.at_ y hy);simp [this] at hn2
 ·intro _ s _
  refine Gd.ite (fun h2=>?_) (fun _=>Gd.ret rfl);have h2:nodes.length=2:=by
   have:((nodes.length:Nat):Int)=2:=by simpa using h2
   omega
  obtain ⟨a,b,rfl⟩:∃ a b,nodes=[a,b]:=by
   match nodes,h2 with
   | [a,b],_=>exact ⟨a,b,rfl⟩
  have hne:=h.two a b rfl;exact Gd.ix (y:=a) (by decide) rfl (Gd.ix (y:=b) (by decide) rfl (Gd.ite (fun e=>absurd (by simpa using e) hne) (fun _=>Gd.ret rfl)))
def names (n:Net):List BA:=n.bJ++n.bF.map (·.Name)++n.aN.map (·.Name)++n.dM.map (·.Name)++n.bK.map (·.Name)++n.bQ.map (·.Name)
theorem p7 {R α:Type}{Q:R→Prop}{body:Nat→α→Seen→(Seen→Option R)→Option R}{k:Seen→Option R}{l:List α} (nm:α→BA) (P:List BA)
  (hb:∀ (i:Nat) (y:α) (s:Seen) (n:Seen→Option R) (pre:List α),(∃ post,l=pre++y::post)→l_ (P++pre.map nm) s→Gd (n (qF s (nm y) true)) Q→Gd (body i y s n) Q) (hk:∀ s,l_ (P++l.map nm) s→Gd (k s) Q) (s:Seen) (hs:l_ P s):Gd (eE body k 0 l s) Q:=by
 refine Gd.seen (fun pre s=>l_ (P++pre.map nm) s) ?_ hk s (by simpa using hs)
 intro i y s n pre hpre hs hn;refine hb i y s n pre hpre hs (hn _ ?_);have:=hs.put (nm y);rw [Jc,← Ia]; exact this
theorem oU {R α:Type}{Q:R→Prop}{body:Nat→α→Seen→(Seen→Option R)→Option R}{k:Seen→Option R}{l:List α} (nm:α→BA) (P:List BA) (C:α→Prop)
  (hb:∀ (i:Nat) (y:α) (s:Seen) (n:Seen→Option R) (pre:List α),y ∈ l→l_ (P++pre.map nm) s→(nm y ∉ P++pre.map nm→C y→∀ s',l_ (P++pre.map nm++[nm y]) s'→Gd (n s') Q)→Gd (body i y s n) Q)
  (hk:∀ s,l_ (P++l.map nm) s→(∀ x ∈ l,C x)→(P.Nodup→(P++l.map nm).Nodup)→Gd (k s) Q) (s:Seen) (hs:l_ P s):Gd (eE body k 0 l s) Q:=by
 refine Gd.seen (fun pre s=>l_ (P++pre.map nm) s∧(∀ x ∈ pre,C x)∧(P.Nodup→(P++pre.map nm).Nodup)) ?_ (fun s h=>hk s h.1 h.2.1 h.2.2) s ⟨by simpa using hs,by simp,fun h=>by simpa using h⟩
 rintro i y s n pre hpre ⟨h1,h2,h3⟩ hn;refine hb i y s n pre (q8 hpre).2.1 h1 (fun hnew hC s' hs'=>hn s' ⟨by rw [Jc,← Ia]; exact hs',fun x hx=>?_,fun hP=>?_⟩)
 ·rcases Ih.1 hx with hx | hx
  ·exact h2 x hx
  ·simp at hx; subst hx; exact hC
 ·rw [Jc,← Ia,I1]
  refine ⟨h3 hP,by simp,fun a ha b hb=>?_⟩
  simp at hb; subst hb
  intro e; subst e; exact hnew ha
def yo (g:cP):Bool:=!(((!(aX g.dI)) || (bM g.g_ g.dI 100000)) || (!(aX g.tz)))
def wY (s:dC):Bool:=!(((!(aX s.lF)) || (!(aX s.Discharge))) || (!(aX s.nF)))
structure od (n:Net):Prop where
 l1:n.bJ.length≤24
 l2:n.bF.length≤32
 l3:n.aN.length≤24
 l4:n.dM.length≤10
 l5:n.bK.length≤12
 l6:n.bQ.length≤4
 nd:(names n).Nodup
 vn:∀ x ∈ n.bJ,cN x=some true
 vs:∀ x ∈ n.bF,cN x.Name=some true∧x.A ∈ n.bJ∧x.B_ ∈ n.bJ∧x.A≠x.B_
 vb:∀ x ∈ n.aN,cN x.Name=some true∧x.jB ∈ n.bJ∧x.To ∈ n.bJ∧x.jB≠x.To∧gZ x=0
 vg:∀ x ∈ n.dM,cN x.Name=some true∧x.Node ∈ n.bJ∧yo x=true
 vl:∀ x ∈ n.bK,cN x.Name=some true∧x.Node ∈ n.bJ∧aX x.bN=true
 vt:∀ x ∈ n.bQ,cN x.Name=some true∧x.Node ∈ n.bJ∧wY x=true
theorem check_sound (n:Net) (hz:mE n):Gd (cG n) (fun e=>e=0→od n):=by
 unfold cG;refine Gd.ite (fun _=>Gd.ret (fun h=>by simp at h)) (fun hl=>?_)
 simp only [MA,NH,Int.not_lt] at hl;refine oU (id:BA→BA) [] (fun x=>cN x=some true) ?_ ?_ _ l_.nil
 ·intro i y s nx pre hy hs hn
  unfold kx;exact Gd.eV (pZ (c:=⟨s,n.bJ⟩) hs [] (hz.nd y hy)) (fun r hr=>Gd.ite (fun h=>Gd.ret (fun h2=>absurd h2 (by simpa using h))) (fun h=>by
   obtain ⟨h1,h2⟩:=hr (by simpa using h)
   exact hn h1.nw h1.nm _ h2))
 intro s hs hvn hnd1;simp only [List.map_id,Ju] at hs hnd1;refine oU (fun x:cE=>x.Name) _ (fun x=>cN x.Name=some true∧x.A ∈ n.bJ∧x.B_ ∈ n.bJ∧x.A≠x.B_) ?_ ?_ _ hs
 ·intro i y s nx pre hy hs hn
  unfold ky;exact Gd.eV (pZ (c:=⟨s,n.bJ⟩) hs [y.A,y.B_] (hz.sw y hy)) (fun r hr=>Gd.ite (fun h=>Gd.ret (fun h2=>absurd h2 (by simpa using h))) (fun h=>by
   obtain ⟨h1,h2⟩:=hr (by simpa using h)
   exact hn h1.nw ⟨h1.nm,h1.at_ _ (by simp),h1.at_ _ (by simp),h1.two _ _ rfl⟩ _ h2))
 intro s hs hvs hnd2;refine oU (fun x:bH=>x.Name) _ (fun x=>cN x.Name=some true∧x.jB ∈ n.bJ∧x.To ∈ n.bJ∧x.jB≠x.To∧gZ x=0) ?_ ?_ _ hs
 ·intro i y s nx pre hy hs hn
  unfold kz;exact Gd.eV (pZ (c:=⟨s,n.bJ⟩) hs [y.jB,y.To] (hz.br y hy)) (fun r hr=>Gd.ite (fun h=>Gd.ret (fun h2=>absurd h2 (by simpa using h))) (fun h=>Gd.ite (fun h3=>Gd.ret (fun h2=>absurd h2 (by simpa using h3))) (fun h3=>by
   obtain ⟨h1,h2⟩:=hr (by simpa using h)
   exact hn h1.nw ⟨h1.nm,h1.at_ _ (by simp),h1.at_ _ (by simp),h1.two _ _ rfl,by simpa using h3⟩ _ h2)))
 intro s hs hvb hnd3;refine Gd.eV (P:=fun r=>r.1=0→(∀ x ∈ n.dM,cN x.Name=some true∧x.Node ∈ n.bJ∧yo x=true)∧(∀ x ∈ n.bK,cN x.Name=some true∧x.Node ∈ n.bJ∧aX x.bN=true) ∧
  (∀ x ∈ n.bQ,cN x.Name=some true∧x.Node ∈ n.bJ∧wY x=true)∧(names n).Nodup) ?_ (fun r hr=>Gd.ret (fun h=>by
   obtain ⟨a,b,c,d⟩:=hr h;exact ⟨by omega,by omega,by omega,by omega,by omega,by omega,d,hvn,hvs,hvb,a,b,c⟩))
 unfold e_;refine oU (fun x:cP=>x.Name) _ (fun x=>cN x.Name=some true∧x.Node ∈ n.bJ∧yo x=true) ?_ ?_ _ hs
 ·intro i y s nx pre hy hs hn
  unfold gG;exact Gd.eV (pZ (c:=⟨s,n.bJ⟩) hs [y.Node] (hz.gn y hy)) (fun r hr=>Gd.ite (fun h=>Gd.ret (fun h2=>absurd h2 (by simpa using h))) (fun h=>Gd.ite (fun _=>Gd.ret (fun h2=>by simp at h2)) (fun h3=>by
   obtain ⟨h1,h2⟩:=hr (by simpa using h)
   exact hn h1.nw ⟨h1.nm,h1.at_ _ (by simp),by unfold yo; rw [h3]; rfl⟩ _ h2)))
 intro s hs hvg hnd4;refine oU (fun x:aK=>x.Name) _ (fun x=>cN x.Name=some true∧x.Node ∈ n.bJ∧aX x.bN=true) ?_ ?_ _ hs
 ·intro i y s nx pre hy hs hn
  unfold gH;exact Gd.eV (pZ (c:=⟨s,n.bJ⟩) hs [y.Node] (hz.ld y hy)) (fun r hr=>Gd.ite (fun h=>Gd.ret (fun h2=>absurd h2 (by simpa using h))) (fun h=>Gd.ite (fun _=>Gd.ret (fun h2=>by simp at h2)) (fun h3=>by
   obtain ⟨h1,h2⟩:=hr (by simpa using h)
   exact hn h1.nw ⟨h1.nm,h1.at_ _ (by simp),by simpa using h3⟩ _ h2)))
 intro s hs hvl hnd5;refine oU (fun x:dC=>x.Name) _ (fun x=>cN x.Name=some true∧x.Node ∈ n.bJ∧wY x=true) ?_ ?_ _ hs
 ·intro i y s nx pre hy hs hn
  unfold gI;exact Gd.eV (pZ (c:=⟨s,n.bJ⟩) hs [y.Node] (hz.st y hy)) (fun r hr=>Gd.ite (fun h=>Gd.ret (fun h2=>absurd h2 (by simpa using h))) (fun h=>Gd.ite (fun _=>Gd.ret (fun h2=>by simp at h2)) (fun h3=>by
   obtain ⟨h1,h2⟩:=hr (by simpa using h)
   exact hn h1.nw ⟨h1.nm,h1.at_ _ (by simp),by unfold wY; rw [h3]; rfl⟩ _ h2)))
 intro s hs hvt hnd6;exact Gd.ret fun _=>⟨hvg,hvl,hvt,hnd6 (hnd5 (hnd4 (hnd3 (hnd2 (hnd1 List.nodup_nil)))))⟩
theorem Bv {A B C:List BA}{x:BA} (h:(A++(B++x::C)).Nodup):x ∉ A++B:=by
 rw [← Ia,I1] at h;exact fun hm=>h.2.2 x hm x (Hm ..) rfl
theorem fresh {P:List BA}{α:Type}{nm:α→BA}{l pre:List α}{y:α} (h:(P++l.map nm).Nodup) (hp:∃ post,l=pre++y::post):nm y ∉ P++pre.map nm:=by
 obtain ⟨post,rfl⟩:=hp;rw [Jc,KT] at h;exact Bv h
theorem zn (n:Net) (h:od n):cG n=some 0:=by
 have hnd:=h.nd;unfold names at hnd;have n5:=(I1.1 hnd).1;have n4:=(I1.1 n5).1;have n3:=(I1.1 n4).1;have n2:=(I1.1 n3).1;have n1:=(I1.1 n2).1;have g1:=h.l1; have g2:=h.l2; have g3:=h.l3; have g4:=h.l4; have g5:=h.l5; have g6:=h.l6
 rw [← Gd.eq];unfold cG;refine Gd.ite (fun hl=>?_) (fun _=>?_)
 ·simp only [Jl,IN] at hl
  omega
 refine p7 (id:BA→BA) [] ?_ ?_ _ l_.nil
 ·intro i y s nx pre hpre hs hn
  have hy:=(q8 hpre).2.1;have hf:=fresh (P:=[]) (nm:=id) (by simpa using n1) hpre
  unfold kx;exact Gd.bind_eq (re (c:=⟨s,n.bJ⟩) hs ⟨h.vn y hy,hf,by simp,by simp⟩) (Gd.ite (fun h=>by simp at h) (fun _=>hn))
 intro s hs;simp only [List.map_id,Ju] at hs;refine p7 (fun x:cE=>x.Name) _ ?_ ?_ _ hs
 ·intro i y s nx pre hpre hs hn
  obtain ⟨a,b,c,d⟩:=h.vs y (q8 hpre).2.1;unfold ky;exact Gd.bind_eq (re (c:=⟨s,n.bJ⟩) hs ⟨a,fresh n2 hpre,by simp [b,c],fun p q e=>by simp at e; rw [← e.1,← e.2]; exact d⟩) (Gd.ite (fun h=>by simp at h) (fun _=>hn))
 intro s hs;refine p7 (fun x:bH=>x.Name) _ ?_ ?_ _ hs
 ·intro i y s nx pre hpre hs hn
  obtain ⟨a,b,c,d,e⟩:=h.vb y (q8 hpre).2.1;unfold kz;exact Gd.bind_eq (re (c:=⟨s,n.bJ⟩) hs ⟨a,fresh n3 hpre,by simp [b,c],fun p q e=>by simp at e; rw [← e.1,← e.2]; exact d⟩) (Gd.ite (fun h=>by simp at h) (fun _=>Gd.ite (fun h=>by simp [e] at h) (fun _=>hn)))
 intro s hs;refine Gd.eV (P:=fun r=>r.1=0) ?_ (fun r hr=>Gd.ret hr);unfold e_;refine p7 (fun x:cP=>x.Name) _ ?_ ?_ _ hs
 ·intro i y s nx pre hpre hs hn
  obtain ⟨a,b,c⟩:=h.vg y (q8 hpre).2.1;unfold yo at c;unfold gG;exact Gd.bind_eq (re (c:=⟨s,n.bJ⟩) hs ⟨a,fresh n4 hpre,by simp [b],by simp⟩) (Gd.ite (fun h=>by simp at h) (fun _=>Gd.ite (fun h=>by rw [h] at c; cases c) (fun _=>hn)))
 intro s hs;refine p7 (fun x:aK=>x.Name) _ ?_ ?_ _ hs
 ·intro i y s nx pre hpre hs hn
  obtain ⟨a,b,c⟩:=h.vl y (q8 hpre).2.1;unfold gH;exact Gd.bind_eq (re (c:=⟨s,n.bJ⟩) hs ⟨a,fresh n5 hpre,by simp [b],by simp⟩) (Gd.ite (fun h=>by simp at h) (fun _=>Gd.ite (fun h=>by simp [c] at h) (fun _=>hn)))
 intro s hs;refine p7 (fun x:dC=>x.Name) _ ?_ ?_ _ hs
 ·intro i y s nx pre hpre hs hn
  obtain ⟨a,b,c⟩:=h.vt y (q8 hpre).2.1;unfold wY at c;unfold gI;exact Gd.bind_eq (re (c:=⟨s,n.bJ⟩) hs ⟨a,fresh hnd hpre,by simp [b],by simp⟩) (Gd.ite (fun h=>by simp at h) (fun _=>Gd.ite (fun h=>by rw [h] at c; cases c) (fun _=>hn)))
 intro s hs;exact Gd.ret rfl
def D8 (n:Net) (q:Nat):Net:={ n with aN:=n.aN.take q++n.aN.drop (q+1) }
theorem At {α:Type} (l:List α) (q:Nat):(l.take q++l.drop (q+1)).Sublist l:=by
 have h1:(l.drop (q+1)).Sublist (l.drop q):=by rw [← Jt]; exact List.drop_sublist _ _
 have:=(MJ (l.take q)).append h1
 rwa [Ji] at this
theorem od.cut {n:Net} (h:od n) (q:Nat):od (D8 n q):=by
 have hs:=At n.aN q;have hnm:(names (D8 n q)).Sublist (names n):=by
  unfold names D8;exact ((((MJ _).append (hs.map _)).append (MJ _)).append (MJ _)).append (MJ _)
 exact ⟨h.l1,h.l2,I2 hs.length_le h.l3,h.l4,h.l5,h.l6,hnm.nodup h.nd,h.vn,h.vs,fun x hx=>h.vb x (hs.subset hx),h.vg,h.vl,h.vt⟩
theorem od.ok {n:Net} (h:od n) (hz:mE n):lP n:=by
 obtain ⟨e,he,hok⟩:=Cm n hz;rw [zn n h] at he;exact hok (Hc he).symm
theorem mE.cut {n:Net} (h:mE n) (q:Nat):mE (D8 n q):=
 ⟨h.nd,h.sw,fun x hx=>h.br x ((At n.aN q).subset hx),h.gn,h.ld,h.st⟩
abbrev Ed:=bW
def lb (o:List Int) (u:Int):Int:=if 0≤u then (o[u.toNat]?).getD (-1) else -1
theorem CY {o:List Int}{u:Int} (h:0≤lb o u):0≤u∧u<o.length:=by
 unfold lb at h
 split at h
 ·rename_i h0
  refine ⟨h0,?_⟩
  by_cases e:u.toNat<o.length
  ·omega
  ·rw [IC (by omega)] at h; simp at h
 ·omega
theorem vJ {o:List Int}{k:Nat} (h:k<o.length):lb o (k:Int)=o[k]:=by
 unfold lb; rw [Hv (by omega),Hj,Hi h]; rfl
theorem CX {o:List Int}{u:Int} (h0:0≤u) (h:u.toNat<o.length):lb o u=o[u.toNat]:=by
 unfold lb; rw [Hv h0,Hi h]; rfl
theorem sk {o:List Int}{q:Int} (h0:0≤q) (h:q.toNat<o.length) (m u:Int):lb (o.set q.toNat m) u=if u=q then m else lb o u:=by
 unfold lb
 by_cases e:u=q
 ·subst e
  rw [Hv h0,Hv rfl,H7 h]; rfl
 ·rw [Hs e]
  by_cases hu:0≤u
  ·rw [Hv hu,Hv hu,HV (by omega)]
  ·rw [Hs hu,Hs hu]
def DO (l:List Ed) (u v:Int):Prop:=∃ e ∈ l,(e.a0=u∧e.a1=v)∨(e.a1=u∧e.a0=v)
theorem DO.symm {l:List Ed}{u v:Int} (h:DO l u v):DO l v u:=by
 obtain ⟨e,he,h | h⟩:=h
 ·exact ⟨e,he,.inr ⟨h.2,h.1⟩⟩
 ·exact ⟨e,he,.inl ⟨h.2,h.1⟩⟩
inductive rW (l:List Ed) (u:Int):Int→Prop
 | refl:rW l u u
 | snoc {v w:Int}:rW l u v→DO l v w→rW l u w
theorem rW.trans {l:List Ed}{u v w:Int} (h1:rW l u v) (h2:rW l v w):rW l u w:=by
 induction h2 with
 | refl=>exact h1
 | snoc _ h ih=>exact .snoc ih h
theorem rW.symm {l:List Ed}{u v:Int} (h:rW l u v):rW l v u:=by
 induction h with
 | refl=>exact .refl
 | snoc _ h ih=>exact (rW.snoc .refl h.symm).trans ih
structure Gc (N:Nat) (l:List Ed) (many:Int) (out:List Int):Prop where
 pt:tx N many out
 cls:∀ u v,DO l u v→0≤lb out u→lb out v=lb out u
 GN:∀ u v,0≤lb out u→lb out u=lb out v→rW l u v
 Gy:∀ c,0≤c→c<many→∃ u,lb out u=c
theorem tx.lt {N:Nat}{many:Int}{out:List Int} (h:tx N many out) (hm:0≤many) (u:Int):-1≤lb out u∧lb out u<many:=by
 by_cases h0:0≤lb out u
 ·obtain ⟨a,b⟩:=CY h0
  have:u.toNat<out.length:=by omega
  rw [CX a this];exact h.DQ _ (IG _)
 ·refine ⟨?_,by omega⟩
  unfold lb
  split
  ·by_cases e:u.toNat<out.length
   ·rw [Hi e]
    exact (h.DQ _ (IG e)).1
   ·rw [IC (by omega)]; simp
  ·omega
structure wC (N:Nat) (l:List Ed) (m:Int) (i:Int) (out o:List Int):Prop where
 pt:tx N (m+1) o
 qC:∀ u,0≤lb out u→lb o u=lb out u
 new:∀ u,lb out u<0→0≤lb o u→lb o u=m∧rW l i u
 st:lb o i=m
theorem wC.put {N:Nat}{l:List Ed}{m i:Int}{out o:List Int} (h:wC N l m i out o) (hc:Gc N l m out) (h0:0≤m) {a q:Int} (ha:lb o a=m) (hadj:DO l a q) (q0:0≤q) (qN:q<N) (hq:lb o q<0):wC N l m i out (o.set q.toNat m):=by
 have hql:q.toNat<o.length:=by rw [h.pt.len]; omega
 have ca:rW l i a:=by
  by_cases e:0≤lb out a
  ·have h1:=h.qC a e
   have h2:=(hc.pt.lt h0 a).2;omega
  ·exact (h.new a (by omega) (by omega)).2
 refine ⟨h.pt.set ⟨h0,by omega⟩ _,fun u hu=>?_,fun u hu hn=>?_,?_⟩
 ·rw [sk q0 hql]
  have h1:=h.qC u hu;rw [Hs (fun e=>by subst e; omega)]
  exact h1
 ·rw [sk q0 hql] at hn ⊢
  by_cases e:u=q
  ·subst e
   rw [Hv rfl];exact ⟨rfl,ca.snoc hadj⟩
  ·rw [Hs e] at hn ⊢
   exact h.new u hu hn
 ·rw [sk q0 hql]
  split
  ·rfl
  ·exact h.st
theorem wC.mono {N:Nat}{m:Int}{o:List Int} (hl:o.length=N) (h0:0≤m) {q:Int} (q0:0≤q) (qN:q<N) {u:Int} (hu:0≤lb o u):0≤lb (o.set q.toNat m) u:=by
 rw [sk q0 (by omega)]
 split
 ·exact h0
 ·exact hu
theorem wC.done {N:Nat}{l:List Ed}{m i:Int}{out o:List Int} (h:wC N l m i out o) (hc:Gc N l m out) (h0:0≤m) (hp:∀ u,lb o u=m→∀ v,DO l u v→0≤lb o v):Gc N l (m+1) o:=by
 refine ⟨h.pt,fun u v huv hu=>?_,fun u v hu huv=>?_,fun c c0 c1=>?_⟩
 ·by_cases e:0≤lb out u
  ·have h1:=h.qC u e
   have h2:=hc.cls u v huv e;have h3:=h.qC v (by omega)
   omega
  ·obtain ⟨h1,_⟩:=h.new u (by omega) hu
   have h2:=hp u h1 v huv
   by_cases e2:0≤lb out v
   ·have:=hc.cls v u huv.symm e2
    omega
   ·have:=(h.new v (by omega) h2).1
    omega
 ·by_cases e:0≤lb out u
  ·have h1:=h.qC u e
   have h2:=(hc.pt.lt h0 u).2
   by_cases e2:0≤lb out v
   ·exact hc.GN u v e (by have:=h.qC v e2; omega)
   ·have:=(h.new v (by omega) (by omega)).1
    omega
  ·obtain ⟨h1,h2⟩:=h.new u (by omega) hu
   by_cases e2:0≤lb out v
   ·have h3:=h.qC v e2
    have h4:=(hc.pt.lt h0 v).2;omega
   ·exact h2.symm.trans (h.new v (by omega) (by omega)).2
 ·by_cases e:c<m
  ·obtain ⟨u,hu⟩:=hc.Gy c c0 e
   exact ⟨u,by rw [h.qC u (by omega)]; exact hu⟩
  ·exact ⟨i,by rw [h.st]; omega⟩
structure A4 (N:Nat) (l:List Ed) (r:List Int) (many:Nat):Prop where
 len:r.length=N
 all:∀ u:Int,0≤u→u<N→0≤lb r u∧lb r u<many
 mN:many≤N
 iff:∀ u v:Int,0≤u→u<N→0≤v→v<N→(lb r u=lb r v↔rW l u v)
 Gy:∀ c:Int,0≤c→c<many→∃ u:Int,0≤u∧u<N∧lb r u=c
theorem zU (N:Nat) (hN:N≤24) (l:List Ed) (hl:xO N l) (hll:l.length≤64):Gd (lH N l (-1)) (fun r=>∃ many:Nat,A4 N l r many):=by
 unfold lH;refine Gd.nd ⟨rfl,by omega,by omega⟩ (Gd.nd (by omega) ?_)
 rw [sB];have hrep:∀ u,lb (List.replicate N (-1)) u = -1:=fun u=>by
  unfold lb
  split
  ·by_cases e:u.toNat<N
   ·rw [Hi (by simpa using e)]; simp
   ·rw [IC (by simpa using e)]; rfl
  ·rfl
 refine Gd.jH (fun m i (s:List Int×Int)=>i+m=N∧0≤s.2∧s.2≤(i:Int)∧Gc N l s.2 s.1∧∀ j:Nat,j<i→0≤lb s.1 (j:Int)) ?_ ?_ (N:Int).toNat 0 (List.replicate N (-1),0)
  ⟨by omega,by simp,by simp,⟨⟨by simp,by simp⟩,fun u v _ h=>by rw [hrep] at h; omega,fun u v h _=>by rw [hrep] at h; omega,fun c h1 h2=>by omega⟩,by simp⟩
 ·rintro m i ⟨out,many⟩ nx ⟨hi,h0,hmi,hc,hk⟩ hn
  simp only at h0 hmi hc hk;have hilt:i<out.length:=by rw [hc.pt.len]; omega
  have hwm:i64.wrap (many+1)=many+1:=bR ⟨by omega,by omega⟩
  unfold mG;refine Gd.ks hilt (Gd.ite (fun h=>?_) (fun h=>?_))
  ·have hge:0≤out[i]:=by simpa using h
   unfold gX;refine hn _ ⟨by omega,h0,by show many≤((i+1:Nat):Int); omega,hc,fun j hj=>?_⟩
   by_cases e:j=i
   ·subst e; simp only; rw [vJ hilt]; exact hge
   ·exact hk j (by omega)
  ·have hneg:out[i]<0:=by simpa using h
   refine Gd.ks hilt ?_;rw [Hj];have hnegl:lb out (i:Int)<0:=by rw [vJ hilt]; exact hneg
   have hset:∀ u,lb (out.set i many) u=if u=(i:Int) then many else lb out u:=fun u=>by
    have:=sk (o:=out) (q:=(i:Int)) (by omega) (by simpa using hilt) many u
    rwa [Hj] at this
   have hp1:tx N (many+1) out:=⟨hc.pt.len,fun v hv=>by have:=hc.pt.DQ v hv; omega⟩
   have hbase:2*n8 (out.set i many)+[(i:Int)].length≤2*N+1:=by
    have hcn:n8 (out.set i many)≤N:=by unfold n8; rw [← hc.pt.len,← HI (as:=out) (i:=i) (a:=many)]; exact Kq
    simp only [Iz]; omega
   have hf0:wC N l many (i:Int) out (out.set i many):=by
    refine ⟨hp1.set ⟨h0,by omega⟩ i,fun u hu=>?_,fun u hu hn2=>?_,by rw [hset,Hv rfl]⟩
    ·rw [hset,Hs (fun e=>by subst e; omega)]
    ·rw [hset] at hn2 ⊢
     by_cases e:u=(i:Int)
     ·subst e; rw [Hv rfl]; exact ⟨rfl,.refl⟩
     ·rw [Hs e] at hn2; omega
   refine Gd.fV (fun (s:List Int×List Int)=>wC N l many (i:Int) out s.1∧(∀ a ∈ s.2,lb s.1 a=many)∧(∀ u,lb s.1 u=many→u ∉ s.2→∀ v,DO l u v→0≤lb s.1 v)∧2*n8 s.1+s.2.length≤2*N+1)
    (fun s=>2*n8 s.1+s.2.length) ?_ eT _ ⟨hf0,fun a ha=>?_,fun u hu hnu=>?_,hbase⟩ ?_
   ·rintro ⟨o,todo⟩ nx2 ⟨hf,htd,hpr,htot⟩ hn2
    simp only at hf htd hpr htot;have hol:=hf.pt.len;unfold mH;refine Gd.ite (fun hne=>?_) (fun hze=>?_)
    ·obtain ⟨at_,ts,rfl⟩:∃ a ts,todo=a::ts:=by
      cases todo with
      | nil=>simp at hne
      | cons a ts=>exact ⟨a,ts,rfl⟩
     simp only [HD] at htot;refine Gd.ix (y:=at_) (by decide) rfl (Gd.nd ⟨by omega,by simp only [HD]; omega⟩ ?_)
     have hat:=htd at_ (Hm ..);obtain ⟨at0,atN⟩:=CY (by omega:0≤lb o at_)
     have hsl:lK (at_::ts) (1:Int).toNat (at_::ts).length=ts:=by
      unfold lK;rw [show (1:Int).toNat=1 from rfl,Mo,Jb,HR (by simp)]
     rw [hsl]
     let J:List Ed→List Int×List Int→Prop:=fun pre s=>wC N l many (i:Int) out s.1∧(∀ a ∈ s.2,lb s.1 a=many)∧lb s.1 at_=many∧(∀ u,lb s.1 u=many→u ∉ s.2→u≠at_→∀ v,DO l u v→0≤lb s.1 v) ∧
      (∀ e ∈ pre,(e.a0=at_→0≤lb s.1 e.a1)∧(e.a1=at_→0≤lb s.1 e.a0))∧2*n8 s.1+s.2.length≤2*n8 o+ts.length
     have push:∀ (pre:List Ed) (e:Ed) (b td:List Int) (q:Int) (nn:List Int×List Int→Option (List Int)),e ∈ l→J pre (b,td)→DO l at_ q→0≤q→q<N→((e.a0=at_∧e.a1=q)∨(e.a1=at_∧e.a0=q)) →
       (∀ s',J (pre++[e]) s'→Gd (nn s') (fun r=>∃ many:Nat,A4 N l r many)) →
       Gd (Sim.idx b q fun y7689=>if decide (y7689<0) then (Sim.idx b q fun y7694=>dH ((td.length+([q]).length)*8≤140737488355328) (dL nn (b.set (q:Int).toNat many) (td++([q])))) else (dL nn b td)) (fun r=>∃ many:Nat,A4 N l r many):=by
      intro pre e b td q nn hel ⟨j1,j2,j3,j4,j5,j6⟩ hadj q0 qN hends hnn;simp only at j1 j2 j3 j4 j5 j6;have hbl:=j1.pt.len;have hql:q.toNat<b.length:=by omega
      have hget:b[q.toNat]? = some b[q.toNat]:=Hi hql;have hlq:lb b q=b[q.toNat]:=CX q0 hql;have hno:n8 o≤N:=by unfold n8; rw [← hol]; exact Kq
      unfold dL;refine Gd.ix q0 hget (Gd.ite (fun h=>Gd.ix q0 hget (Gd.nd ?_ (hnn _ ?_))) (fun h=>hnn _ ⟨j1,j2,j3,j4,fun d hd=>?_,j6⟩))
      ·simp; omega
      ·have h1:b[q.toNat]<0:=by simpa using h
       have hlt:lb b q<0:=by omega
       have up:∀ {u:Int},0≤lb b u→0≤lb (b.set q.toNat many) u:=fun {u} hu=>wC.mono hbl h0 q0 qN hu;have hqs:lb (b.set q.toNat many) q=many:=by rw [sk q0 hql,Hv rfl]
       have same:∀ {u:Int},lb b u=many→lb (b.set q.toNat many) u=many:=fun {u} hu=>by
        rw [sk q0 hql]; split
        ·rfl
        ·exact hu
       refine ⟨j1.put hc h0 j3 hadj q0 qN hlt,fun a ha=>?_,same j3,fun u hu hnu hua v hv=>?_,fun d hd=>?_,?_⟩
       ·rcases Ih.1 ha with ha | ha
        ·exact same (j2 a ha)
        ·simp at ha; subst ha; exact hqs
       ·simp only at hu hnu
        by_cases e2:u=q
        ·subst e2
         exact absurd (IP _ (List.mem_singleton_self _)) hnu
        ·rw [sk q0 hql,Hs e2] at hu
         exact up (j4 u hu (fun hm=>hnu (Hk _ hm)) hua v hv)
       ·rcases Ih.1 hd with hd | hd
        ·obtain ⟨x1,x2⟩:=j5 d hd
         exact ⟨fun hh=>up (x1 hh),fun hh=>up (x2 hh)⟩
        ·simp at hd; subst hd
         have hat2:0≤lb (b.set q.toNat many) at_:=up (by omega)
         have hq2:0≤lb (b.set q.toNat many) q:=by omega
         rcases hends with ⟨x1,x2⟩ | ⟨x1,x2⟩
         ·exact ⟨fun _=>by rw [x2]; exact hq2,fun _=>by rw [x1]; exact hat2⟩
         ·exact ⟨fun _=>by rw [x1]; exact hat2,fun _=>by rw [x2]; exact hq2⟩
       ·have:=yC hql h1 h0
        simp only [HZ,Iz];omega
      ·have h1:0≤b[q.toNat]:=by simpa using h
       rcases Ih.1 hd with hd | hd
       ·exact j5 d hd
       ·simp at hd; subst hd
        rcases hends with ⟨x1,x2⟩ | ⟨x1,x2⟩
        ·exact ⟨fun _=>by rw [x2]; simp only; omega,fun _=>by rw [x1]; simp only; omega⟩
        ·exact ⟨fun _=>by rw [x1]; simp only; omega,fun _=>by rw [x2]; simp only; omega⟩
     refine Gd.seen J ?_ ?_ _ ⟨hf,fun a ha=>htd a (HB _ ha),hat,fun u hu hnu hua v hv=>hpr u hu (fun hm=>(Ix.1 hm).elim hua hnu) v hv,by simp,HQ (2*n8 o+ts.length)⟩
     ·rintro k e ⟨b,td⟩ nn pre hpre hJ hnn
      obtain ⟨_,hel,_⟩:=q8 hpre;obtain ⟨e1,e2,e3,e4⟩:=hl e hel;have hw1:i64.wrap (e.a0+e.a1)=e.a0+e.a1:=bR ⟨by omega,by omega⟩
      have hw2:i64.wrap (e.a0+e.a1-at_)=e.a0+e.a1-at_:=bR ⟨by omega,by omega⟩
      unfold mI;rw [hw1,hw2];refine Gd.ite (fun h=>by simp at h) (fun _=>Gd.ite (fun h=>?_) (fun h=>Gd.ite (fun h2=>?_) (fun h2=>?_)))
      ·have h:e.a0=at_:=by simpa using h
       have hq:e.a0+e.a1-at_=e.a1:=by omega
       rw [hq];exact push pre e b td _ nn hel hJ ⟨e,hel,.inl ⟨h,rfl⟩⟩ e3 e4 (.inl ⟨h,rfl⟩) hnn
      ·have h1:e.a0≠at_:=by simpa using h
       have h2:e.a1≠at_:=by simpa using h2
       obtain ⟨j1,j2,j3,j4,j5,j6⟩:=hJ;refine hnn _ ⟨j1,j2,j3,j4,fun d hd=>?_,j6⟩;rcases Ih.1 hd with hd | hd
       ·exact j5 d hd
       ·simp at hd; subst hd
        exact ⟨fun hh=>absurd hh h1,fun hh=>absurd hh h2⟩
      ·have h2:e.a1=at_:=by simpa using h2
       have hq:e.a0+e.a1-at_=e.a0:=by omega
       rw [hq];exact push pre e b td _ nn hel hJ ⟨e,hel,.inr ⟨h2,rfl⟩⟩ e1 e2 (.inr ⟨h2,rfl⟩) hnn
     ·rintro ⟨b,td⟩ ⟨j1,j2,j3,j4,j5,j6⟩
      simp only at j1 j2 j3 j4 j5 j6;refine hn2 _ ⟨j1,j2,fun u hu hnu v hv=>?_,by show 2*n8 b+td.length≤2*N+1; omega⟩ (by simp only [HD]; omega)
      by_cases e:u=at_
      ·subst e
       obtain ⟨d,hd,hh | hh⟩:=hv
       ·have:=(j5 d hd).1 hh.1
        rw [hh.2] at this; exact this
       ·have:=(j5 d hd).2 hh.1
        rw [hh.2] at this; exact this
      ·exact j4 u hu hnu e v hv
    ·have htn:todo=[]:=by
      cases todo with
      | nil=>rfl
      | cons a ts=>simp at hze
     subst htn;unfold gX;rw [hwm];refine hn _ ⟨by omega,by show (0:Int)≤many+1; omega,by show many+1≤((i+1:Nat):Int); omega,hf.done hc h0 (fun u hu v hv=>hpr u hu (by simp) v hv),fun j hj=>?_⟩
     by_cases e:j=i
     ·subst e; show 0≤lb o (j:Int); rw [hf.st]; exact h0
     ·have h1:=hk j (by omega)
      show 0≤lb o (j:Int);rw [hf.qC _ h1]; exact h1
   ·simp only [IS] at ha
    subst ha;exact hf0.st
   ·exfalso
    rw [hset] at hu
    by_cases e:u=(i:Int)
    ·subst e; simp at hnu
    ·rw [Hs e] at hu
     have:=(hc.pt.lt h0 u).2;omega
   ·refine KM hbase ?_
    unfold eT; omega
 ·rintro i ⟨out,many⟩ ⟨hi,h0,hmi,hc,hk⟩
  simp only at h0 hmi hc hk;have hge:∀ u:Int,0≤u→u<N→0≤lb out u:=fun u u0 uN=>by
   have:=hk u.toNat (by omega)
   rwa [show ((u.toNat:Nat):Int)=u by omega] at this
  refine Gd.ret ⟨many.toNat,hc.pt.len,fun u u0 uN=>⟨hge u u0 uN,by have h1:=hge u u0 uN; have h2:=(hc.pt.lt h0 u).2; show lb out u<((many.toNat:Nat):Int); omega⟩,by omega,fun u v u0 uN v0 vN=>⟨fun e=>hc.GN u v (hge u u0 uN) e,fun e=>?_⟩,fun c c0 c1=>?_⟩
  ·clear vN v0
   induction e with
   | refl=>rfl
   | snoc _ h ih=>
    rename_i p q _
    have ih:lb out u=lb out p:=ih;have hp:0≤lb out p:=by have:=hge u u0 uN; omega
    show lb out u=lb out q;rw [ih];exact (hc.cls p q h hp).symm
  ·obtain ⟨u,hu⟩:=hc.Gy c c0 (by omega)
   obtain ⟨a,b⟩:=CY (by omega:0≤lb out u)
   exact ⟨u,a,by have:=hc.pt.len; omega,hu⟩
theorem zv (N:Nat) (hN:N≤24) (l:List Ed) (hl:xO N l) (hll:l.length≤64):Gd (gC N l) (fun r=>r.2=0∧∃ many:Nat,A4 N l r.1 many):=by
 unfold gC;refine Gd.bind_eq (wQ N hN l hl hll) (Gd.ite (fun h=>by simp at h) (fun _=>Gd.eV (zU N hN l hl hll) (fun r hr=>Gd.ret ⟨rfl,hr⟩)))
theorem Er (N:Nat) (hN:N≤24) (l:List Int) (hl:uT N l):∃ m:Nat,m≤N∧uT m l∧(∀ c:Nat,uT c l→m≤c) ∧
  ∀ {R:Type} (body:Nat→Int→Int→(Int→Option R)→Option R) (hb:∀ k y n nx,body k y n nx=nx (max n (i64.wrap (y+1)))) (K:Int→Option R),eE body K 0 l 0=K (m:Int):=by
 have key:∀ (ys pre:List Int) (m:Nat),l=pre++ys→m≤N→uT m pre→(∀ c:Nat,uT c pre→m≤c)→∃ m2:Nat,m2≤N∧uT m2 l∧(∀ c:Nat,uT c l→m2≤c) ∧
   ∀ {R:Type} (body:Nat→Int→Int→(Int→Option R)→Option R) (hb:∀ k y n nx,body k y n nx=nx (max n (i64.wrap (y+1)))) (K:Int→Option R) (i:Nat),eE body K i ys (m:Int)=K (m2:Int):=by
  intro ys
  induction ys with
  | nil=>
   intro pre m e hm hp hmin;rw [Ij] at e; subst e
   exact ⟨m,hm,hp,hmin,fun _ _ _ _=>rfl⟩
  | cons y ys ih=>
   intro pre m e hm hp hmin;have hy:=hl y (by rw [e]; exact IP _ (Hm ..))
   have hw:i64.wrap (y+1)=y+1:=bR ⟨by omega,by omega⟩
   have hmx:max (m:Int) (y+1)=((max m (y+1).toNat:Nat):Int):=by omega
   obtain ⟨m2,h1,h2,h3,h4⟩:=ih (pre++[y]) (max m (y+1).toNat) (by rw [e]; simp) (by omega) (fun a ha=>by
    rcases Ih.1 ha with ha | ha
    ·have:=hp a ha; omega
    ·simp at ha; subst ha; omega) (fun c hc=>by
     have c1:=hmin c (fun a ha=>hc a (Hk _ ha));have c2:=hc y (IP _ (List.mem_singleton_self _));omega)
   refine ⟨m2,h1,h2,h3,fun {R} body hb K i=>?_⟩;show body i y (m:Int) (fun s=>eE body K (i+1) ys s)=_;rw [hb,hw,hmx];exact h4 body hb K (i+1)
 obtain ⟨m2,h1,h2,h3,h4⟩:=key l [] 0 rfl (by omega) (by intro a ha; simp at ha) (fun c _=>by omega)
 exact ⟨m2,h1,h2,h3,fun {R} body hb K=>h4 body hb K 0⟩
def pos (n:Net) (s:BA):Nat:=((bE n.bJ s).getD 0).toNat
theorem LM {n:Net}{s:BA} (h:s ∈ n.bJ):bE n.bJ s=some (pos n s:Int)∧pos n s<n.bJ.length:=by
 obtain ⟨k,hk,hl,_⟩:=tm h;unfold pos;rw [hk];exact ⟨rfl,hl⟩
def Cd (n:Net) (bus:List Int) (b:bH):Ed:=⟨bus.getD (pos n b.jB) 0,bus.getD (pos n b.To) 0⟩
theorem Ce {n:Net} (hn:lP n) {bus:List Int}{m:Nat} (hbl:bus.length=n.bJ.length) (hm:uT m bus):xO m (n.aN.map (Cd n bus)):=fun e he=>by
 obtain ⟨b,hb,rfl⟩:=IQ.1 he;obtain ⟨h1,h2⟩:=hn.br b hb;have p1:=(LM h1).2;have p2:=(LM h2).2;have q:∀ k,k<bus.length→0≤bus.getD k 0∧bus.getD k 0<m:=fun k hk=>by
  rw [H9,Hi hk];exact hm _ (IG hk)
 exact ⟨(q _ (by omega)).1,(q _ (by omega)).2,(q _ (by omega)).1,(q _ (by omega)).2⟩
theorem Ec {n:Net} (hn:lP n) {bus:List Int} (hbus:k_ n=some bus) (hbl:bus.length=n.bJ.length) {m:Nat} (hm24:m≤24) (hm:uT m bus)
  (hmost:∀ {R:Type} (body:Nat→Int→Int→(Int→Option R)→Option R) (hb:∀ k y n nx,body k y n nx=nx (max n (i64.wrap (y+1)))) (K:Int→Option R),eE body K 0 bus 0=K (m:Int)):
  Gd (dE n) (fun t=>t.kC=bus∧∃ c:Nat,A4 m (n.aN.map (Cd n bus)) t.bA c):=by
 have l3:=hn.l3;unfold dE;refine Gd.bind_eq hbus ?_;rw [hmost _ (fun k y n nx=>by unfold oG; rfl)]
 refine Gd.seen (fun pre out=>out=pre.map (Cd n bus)) ?_ ?_ _ rfl
 ·rintro i y out nn pre hpre rfl hnx
  obtain ⟨hpl,hyl,_⟩:=q8 hpre;obtain ⟨h1,h2⟩:=hn.br y hyl;obtain ⟨p1,p2⟩:=LM h1;obtain ⟨q1,q2⟩:=LM h2;have g:∀ k (hk:k<bus.length),bus[k]=bus.getD k 0:=fun k hk=>by
   rw [H9,Hi hk]; rfl
  unfold oH;refine Gd.bind_eq p1 (Gd.ks (by omega) (Gd.bind_eq q1 (Gd.ks (by omega) (Gd.nd ?_ (hnx _ ?_)))))
  ·simp only [JQ,Iz]; omega
  ·rw [Jc,g _ (by omega),g _ (by omega)]; rfl
 ·rintro out rfl
  exact Gd.eV (zv m hm24 _ (Ce hn hbl hm) (by simp; omega)) (fun r ⟨_,hr⟩=>Gd.ret ⟨rfl,hr⟩)
section
variable {ν:Type}
def CT (l:List (Int×ν)) (k:Int):Option ν:=(l.find? (fun p=>p.1=k)).map (·.2)
theorem zP (l:List (Int×ν)) (k:Int):nA l k=CT l k:=by
 unfold nA CT;have:∀ (l:List (Int×ν)) (i:Nat),(ru l k i).map (·.2)=(l.find? (fun p=>p.1=k)).map (·.2):=by
  intro l
  induction l with
  | nil=>intro i; rfl
  | cons p l ih=>
   obtain ⟨a,v⟩:=p;intro i;simp only [ru,List.find?_cons]
   by_cases e:a=k
   ·simp [e]
   ·simp only [e,J2,LK]; exact ih (i+1)
 exact this l 0
theorem C3 {l:List (Int×ν)}{k:Int}:∀ {i j:Nat}{v:ν},ru l k i=some (j,v)→∃ q,j=i+q∧l[q]? = some (k,v):=by
 induction l with
 | nil=>intro i j v h; simp [ru] at h
 | cons p l ih=>
  obtain ⟨a,u⟩:=p;intro i j v h;simp only [ru] at h
  split at h
  ·rename_i e
   simp only [Im,K7] at h;obtain ⟨rfl,rfl⟩:=h;exact ⟨0,rfl,by rw [e]; rfl⟩
  ·obtain ⟨q,rfl,h2⟩:=ih h
   exact ⟨q+1,by omega,h2⟩
theorem C2 {l:List (Int×ν)}{k:Int}:∀ {i:Nat},ru l k i=none→∀ p ∈ l,p.1≠k:=by
 induction l with
 | nil=>intro i _ p hp; cases hp
 | cons p l ih=>
  obtain ⟨a,u⟩:=p;intro i h;simp only [ru] at h
  split at h
  ·cases h
  ·rename_i e
   intro q hq;rcases Ix.1 hq with rfl | hq
   ·exact e
   ·exact ih h q hq
def xK (l:List (Int×ν)):Prop:=(l.map (·.1)).Nodup
theorem xK.find {l:List (Int×ν)} (h:xK l) {k:Int}{v:ν}:nA l k=some v↔(k,v) ∈ l:=by
 rw [zP];unfold CT xK at *
 induction l with
 | nil=>simp
 | cons p l ih=>
  obtain ⟨a,u⟩:=p;simp only [KT,Kw] at h;rw [List.find?_cons]
  by_cases e:a=k
  ·subst e
   simp only [decide_true,Je,Im,Ix,K7,true_and];constructor
   ·intro h1; exact .inl h1.symm
   ·rintro (h1 | h1)
    ·exact h1.symm
    ·exact absurd (IQ.2 ⟨_,h1,rfl⟩) h.1
  ·simp only [e,LK,Ix,K7]
   rw [ih h.2];constructor
   ·exact fun h1=>.inr h1
   ·rintro (⟨h1,_⟩ | h1)
    ·exact absurd h1.symm e
    ·exact h1
theorem xK.put {l:List (Int×ν)} (h:xK l) (k:Int) (v:ν):xK (qF l k v)∧∀ p,p ∈ qF l k v↔p=(k,v)∨(p ∈ l∧p.1≠k):=by
 unfold qF;cases hm:ru l k 0 with
 | none=>
  have hno:=C2 hm;refine ⟨?_,fun p=>?_⟩
  ·show ((l++[(k,v)]).map (·.1)).Nodup
   rw [Jc,I1];refine ⟨h,by simp,?_⟩
   intro a ha b hb;obtain ⟨p,hp,rfl⟩:=IQ.1 ha;simp at hb;subst hb;exact hno p hp
  ·simp only [Ih,IS]
   constructor
   ·rintro (h1 | h1)
    ·exact .inr ⟨h1,hno p h1⟩
    ·exact .inl h1
   ·rintro (h1 | ⟨h1,_⟩)
    ·exact .inr h1
    ·exact .inl h1
 | some q=>
  obtain ⟨j,u⟩:=q;obtain ⟨i,rfl,hi⟩:=C3 hm;obtain ⟨hil,hie⟩:=He.1 hi;simp only [Ii];have hmap:(l.set i (k,v)).map (·.1)=l.map (·.1):=by
   rw [List.map_set];apply wi;rw [Ib,hi]; rfl
  refine ⟨by unfold xK; rw [hmap]; exact h,fun p=>?_⟩
  have huniq:∀ (a:Nat) (x:Int×ν),l[a]? = some x→x.1=k→a=i:=fun a x ha hx=>by
   obtain ⟨hal,hae⟩:=He.1 ha;unfold xK at h;rw [List.nodup_iff_pairwise_ne,KX] at h;rcases KV a i with hlt | heq | hgt
   ·exact (h a i (by simpa using hal) (by simpa using hil) hlt (by rw [JX,JX,hae,hie,hx])).elim
   ·exact heq
   ·exact (h i a (by simpa using hil) (by simpa using hal) hgt (by rw [JX,JX,hae,hie,hx])).elim
  constructor
  ·intro hp
   obtain ⟨a,ha,hae⟩:=IW.1 hp;rw [MP] at hae
   split at hae
   ·exact .inl hae.symm
   ·rename_i hne
    have hal:a<l.length:=by simpa using ha
    refine .inr ⟨by rw [← hae]; exact IG hal,fun hk=>?_⟩
    exact hne (huniq a p (by rw [Hi hal,hae]) hk).symm
  ·rintro (rfl | ⟨hp,hk⟩)
   ·exact IW.2 ⟨i,by simpa using hil,by simp⟩
   ·obtain ⟨a,ha,hae⟩:=IW.1 hp
    have hne:i≠a:=fun e=>by
     subst e;rw [hie] at hae;exact hk (by rw [← hae])
    exact IW.2 ⟨a,by simpa using ha,by rw [List.getElem_set_ne hne]; exact hae⟩
theorem xK.Aw {l:List (Int×ν)} (h:xK l) (k k':Int) (v:ν):nA (qF l k v) k'=if k'=k then some v else nA l k':=by
 obtain ⟨h1,h2⟩:=h.put k v
 split
 ·rename_i e
  rw [h1.find,h2]; exact .inl (by rw [e])
 ·rename_i e
  cases hg:nA l k' with
  | some u=>
   rw [h1.find,h2];exact .inr ⟨h.find.1 hg,e⟩
  | none=>
   cases hg2:nA (qF l k v) k' with
   | none=>rfl
   | some u=>
    rcases (h2 _).1 (h1.find.1 hg2) with h3 | ⟨h3,_⟩
    ·exact absurd (Prod.mk.inj h3).1 e
    ·rw [h.find.2 h3] at hg; cases hg
theorem xK.nil:xK ([]:List (Int×ν)):=by unfold xK; simp
end
structure qd (n:Net) (t:aV):Prop where
 bl:t.kC.length=n.bJ.length
 DP:t.bA.length≤24
 bi:uT t.bA.length t.kC
 comp:∃ c:Nat,A4 t.bA.length (n.aN.map (Cd n t.kC)) t.bA c
theorem EN {n:Net} (hn:lP n):∃ t,dE n=some t∧qd n t:=by
 have g1:=hn.l1;obtain ⟨bus,hbus,hbl,hbin⟩:=Cl n hn;obtain ⟨m,hm1,hmin,_,hmost⟩:=Er n.bJ.length hn.l1 bus hbin;obtain ⟨t,ht,htb,c,hc⟩:=Ec hn hbus hbl (by omega) hmin hmost
 have hl:=hc.len;refine ⟨t,ht,⟨by rw [htb]; exact hbl,by omega,by rw [htb,hl]; exact hmin,c,?_⟩⟩
 rw [htb,hl];exact hc
def fr (isl:List Int):List Nat:=(List.range isl.length).filter (fun i=>(List.range i).any (fun j=>decide (isl[j]? = isl[i]?)))
theorem zF {isl:List Int}{i:Nat}:i ∈ fr isl↔i<isl.length∧∃ j:Nat,j<i∧isl[j]? = isl[i]? := by
 unfold fr;simp
theorem CJ (isl:List Int):(fr isl).Nodup:=List.Pairwise.filter _ List.nodup_range
theorem xl {isl:List Int} (h:isl.length≤24):(fr isl).length≤23:=by
 have h1:(fr isl).length≤((List.range isl.length).filter (fun i=>decide (0<i))).length:=by
  unfold fr;rw [← List.countP_eq_length_filter,← List.countP_eq_length_filter];refine List.countP_mono_left (fun i _ hi=>?_);simp at hi;obtain ⟨j,hj,_⟩:=hi;simp; omega
 have h2:∀ m,((List.range m).filter (fun i=>decide (0<i))).length≤m-1:=by
  intro m
  induction m with
  | zero=>simp
  | succ m ih=>
   rw [K9,JS,HZ];cases m with
   | zero=>simp
   | succ m=>simp at ih ⊢; omega
 have:=h2 isl.length;omega
def wB (isl:List Int) (i:Nat):Nat:=(fr isl).getD i 0
theorem xj {isl:List Int}{i:Nat} (h:i<(fr isl).length):(fr isl)[i]? = some (wB isl i):=by
 unfold wB;rw [H9,Hi h]; rfl
theorem xk {isl:List Int}{i:Nat} (h:i<(fr isl).length):wB isl i ∈ fr isl:=HE (xj h)
theorem tH {isl:List Int}{i j:Nat} (hi:i<(fr isl).length) (hj:j<(fr isl).length) (e:wB isl i=wB isl j):i=j:=by
 have a:=xj hi;have b:=xj hj;rw [e] at a;have nd:=CJ isl;obtain ⟨_,ha⟩:=He.1 a;obtain ⟨_,hb⟩:=He.1 b;exact (List.getElem_inj nd).1 (ha.trans hb.symm)
theorem F1 (isl:List Int):(fr isl).map (fun x:Nat=>(x:Int))=(List.range (fr isl).length).map (fun i=>(wB isl i:Int)):=by
 apply Jx;intro i;rw [Ib,Ib]
 by_cases h:i<(fr isl).length
 ·rw [xj h,JN h]; rfl
 ·rw [IC (by omega),IC (by simp; omega)]; rfl
def Ar (n:Net) (bus:List Int) (b:bH):Rat×Nat×Nat:=(((b.X*b.rL:Int):Rat),(Cd n bus b).a0.toNat,(Cd n bus b).a1.toNat)
def uG (n:Net) (bus:List Int):List (Rat×Nat×Nat):=n.aN.map (Ar n bus)
structure Gk (b:bH):Prop where
 x:1≤b.X∧b.X≤10000
 t:500≤b.rL∧b.rL≤1500
 s:-1000≤b.Shift∧b.Shift≤1000
 l:0≤b.kr∧b.kr≤100000
theorem Cj {n:Net} (h:od n) {b:bH} (hb:b ∈ n.aN):Gk b:=by
 obtain ⟨_,_,_,_,h5⟩:=h.vb b hb;unfold gZ at h5
 split at h5
 ·omega
 ·rename_i h6
  simp [bM] at h6;exact ⟨by omega,by omega,by omega,by omega⟩
theorem Gk.q {b:bH} (h:Gk b):500≤b.X*b.rL∧b.X*b.rL≤15000000:=by
 have h1:=h.x; have h2:=h.t
 have a:1*500≤b.X*b.rL:=Int.mul_le_mul h1.1 h2.1 (by omega) (by omega)
 have c:b.X*b.rL≤10000*1500:=Int.mul_le_mul h1.2 h2.2 (by omega) (by omega)
 omega
structure Ge (N:Nat) (l:List (Rat×Nat×Nat)):Prop where
 ll:l.length≤24
 el:∀ e ∈ l,e.2.1<N∧e.2.2<N
 q:∀ e ∈ l,∃ z:Int,e.1=(z:Rat)∧500≤z∧z≤15000000
theorem vA {n:Net} (h:od n) (hn:lP n) {t:aV} (ht:qd n t):Ge t.bA.length (uG n t.kC):=by
 refine ⟨by unfold uG; rw [JQ]; exact h.l3,fun e he=>?_,fun e he=>?_⟩
 ·obtain ⟨b,hb,rfl⟩:=IQ.1 he
  have:=Ce hn ht.bl ht.bi (Cd n t.kC b) (IQ.2 ⟨b,hb,rfl⟩);show (Cd n t.kC b).a0.toNat<_∧(Cd n t.kC b).a1.toNat<_;omega
 ·obtain ⟨b,hb,rfl⟩:=IQ.1 he
  exact ⟨_,rfl,(Cj h hb).q.1,(Cj h hb).q.2⟩
theorem tX {N:Nat}{l:List (Rat×Nat×Nat)} (h:Ge N l) {e:Rat×Nat×Nat} (he:e ∈ l):pU e.1∧500≤e.1∧e.1≤15000000:=by
 obtain ⟨z,hz,h1,h2⟩:=h.q e he;have a:=Nu.2 h1;have b:=Nu.2 h2;rw [← hz] at a b;exact ⟨⟨z,hz⟩,a,b⟩
abbrev tq:Rat:=((1000000:Int):Rat)
abbrev Ei (F:Nat→Nat) (l:List (Rat×Nat×Nat)):Mt:=fK ((l.map (wt tq)).map (kD F))
theorem DG:0<tq:=by
 have:((0:Int):Rat)<((1000000:Int):Rat):=Rat.intCast_lt_intCast.2 (by decide)
 simpa using this
theorem Di {a:Nat}{c:Rat} (h0:0≤c) (h:c≤(((2 ^ a:Nat):Int):Rat)):∀ k:Nat,0≤pr k (fun _=>c)∧pr k (fun _=>c)≤(((2 ^ (a*k):Nat):Int):Rat)
 | 0=>by
  refine ⟨by show (0:Rat)≤1; decide,?_⟩
  show (1:Rat)≤_;rw [Nf,No];exact Nx
 | k+1=>by
  obtain ⟨h1,h2⟩:=Di h0 h k;refine ⟨NB h1 h0,?_⟩;show pr k (fun _=>c)*c≤_;have e:a*(k+1)=a*k+a:=Nat.mul_succ a k;rw [e,Ng,Iw,Nv];exact mC h2 h h1 h0
theorem FQ {a b:Nat} (h:a≤32*b):(((2 ^ a:Nat):Int):Rat)≤wq b:=by
 unfold wq;rw [u_];have:2 ^ a≤2 ^ (32*b):=Ni (by decide) h
 exact Nu.2 (by omega)
theorem Fe {a c:Nat}{x:Rat} (h0:0≤x) (h:x≤(((2 ^ a:Nat):Int):Rat)) (k:Nat) (hk:a*k≤32*c):pr k (fun _=>x)≤wq c:=
 Ny (Di h0 h k).2 (FQ hk)
theorem Ao {N:Nat}{l:List (Rat×Nat×Nat)} (h:Ge N l):1≤ra l∧ra l≤wq 18:=by
 have h1:=h.ll;refine ⟨vj (fun e he=>by have:=tX h he; grind),?_⟩
 refine Rat.le_trans (Am (q:=15000000) (fun e he=>by have:=tX h he; constructor <;> grind)) (Fe (a:=24) (by decide) ?_ l.length (by omega))
 have:((15000000:Int):Rat)≤(((2 ^ 24:Nat):Int):Rat):=Nu.2 (by decide)
 exact this
theorem yP {u:Nat}:∀ {l:List (Rat×Nat×Nat)},(∀ e ∈ l,1≤e.1)→pO u l≤ra l
 | [],_=>Nx
 | e::l,h=>by
  have ih:=yP (u:=u) (l:=l) (fun e he=>h e (List.mem_cons_of_mem _ he));have h1:=h e (List.mem_cons_self ..);have h2:=ua (u:=u) (l:=l) (fun e he=>h e (List.mem_cons_of_mem _ he));unfold pO ra;refine mC ?_ ih ?_ (by grind)
  ·split <;> grind
  ·split <;> grind
theorem A2 {N:Nat}:∀ {l:List (Rat×Nat×Nat)},(∀ e ∈ l,500≤e.1)→0≤wz (l.map (wt tq))∧wz (l.map (wt tq))≤2000*(((l.length:Nat):Int):Rat)
 | [],_=>⟨Nx,by
  show (0:Rat)≤2000*((((0:Nat):Int)):Rat);simp⟩
 | e::l,h=>by
  obtain ⟨a,b⟩:=A2 (N:=N) (l:=l) (fun e he=>h e (List.mem_cons_of_mem _ he));have h1:=h e (List.mem_cons_self ..);have e1:wz ((e::l).map (wt tq))=tq / e.1+wz (l.map (wt tq)):=rfl;have p:0<e.1⁻¹:=Rat.inv_pos.2 (by grind)
  have i1:=Rat.mul_inv_cancel e.1 (by grind)
  have i2:=Rat.mul_le_mul_of_nonneg_right h1 (Rat.le_of_lt p);have t1:tq=1000000:=rfl;have e2:(((e::l).length:Nat):Int)=(((l.length:Nat):Int))+1:=by simp
  rw [e1,Rat.div_def,t1,e2,Rat.intCast_add,Rat.intCast_one];constructor <;> grind
theorem zR {N n:Nat}{F:Nat→Nat}{l:List (Rat×Nat×Nat)} (h:Ge N l) (hn:n≤23) (hF:∀ i j,i<n→j<n→F i=F j→i=j):
  Nb n (Ei F l) (fun i=>pO (F i) l) (fun i c=>pO (F i) l*fK ((l.map (wt tq)).map (lM F)) i c+dl i c) (fun i=>pO (F i) l*(4*wz (l.map (wt tq)))+1):=by
 have h1:=h.ll;have hq1:∀ e ∈ l,1≤e.1:=fun e he=>by have:=tX h he; grind
 have ws:=A2 (N:=N) (fun e he=>(tX h he).2.1);have hlc:(((l.length:Nat):Int):Rat)≤24:=Nu.2 (show ((l.length:Nat):Int)≤24 by omega)
 refine ⟨Ew hF ⟨_,rfl⟩ DG (fun e he=>⟨(tX h he).1,hq1 e he⟩),?_,fun i _=>Rat.le_trans (yP hq1) (Ao h).2⟩;have a:=F6 (n:=n) (F:=F) (l:=l) (s:=4*wz (l.map (wt tq))) (w:=192000) hF hq1 (by grind) (by grind)
 have b:=Ao h;have c:pr n (fun _=>(192000:Rat)+1)≤wq 13:=Fe (a:=18) (by grind) (by
  have:((192001:Int):Rat)≤(((2 ^ 18:Nat):Int):Rat):=Nu.2 (by decide)
  have e:(192000:Rat)+1=((192001:Int):Rat):=by grind
  rw [e]; exact this) n (by omega)
 have d:ra l*ra l≤wq 36:=by
  rw [← q9 18 18];exact mC b.2 b.2 (by grind) (by grind)
 have c0:0≤pr n (fun _=>(192000:Rat)+1):=kd (fun _ _=>by grind)
 have f:ra l*ra l*pr n (fun _=>(192000:Rat)+1)≤wq 49:=by
  rw [← q9 36 13];exact mC d c (Rat.mul_nonneg (by grind) (by grind)) c0
 exact Ny a (Ny f (sN (by omega)))
theorem CI (isl:List Int):∀ i:Nat,∃ r,r≤i∧isl[r]? = isl[i]? ∧ ∀ j,j<r→isl[j]? ≠ isl[i]? := by
 intro i
 induction i using Nat.strongRecOn with
 | ind i ih=>
  by_cases h:∃ j,j<i∧isl[j]? = isl[i]?
  ·obtain ⟨j,hj,e⟩:=h
   obtain ⟨r,h1,h2,h3⟩:=ih j hj;exact ⟨r,by omega,h2.trans e,fun q hq hh=>h3 q hq (hh.trans e.symm)⟩
  ·exact ⟨i,HQ _,rfl,fun j hj e=>h ⟨j,hj,e⟩⟩
theorem D6 {n:Net}{t:aV}{u v:Int} (h:rW (n.aN.map (Cd n t.kC)) u v):Lk ((uG n t.kC).map (wt tq)) u.toNat v.toNat:=by
 induction h with
 | refl=>exact .refl
 | snoc _ ha ih=>
  obtain ⟨e,he,hh⟩:=ha;obtain ⟨b,hb,rfl⟩:=IQ.1 he;have hm:wt tq (Ar n t.kC b) ∈ (uG n t.kC).map (wt tq):=IQ.2 ⟨_,IQ.2 ⟨b,hb,rfl⟩,rfl⟩;rcases hh with ⟨rfl,rfl⟩ | ⟨rfl,rfl⟩
  ·exact .step ih (.inl hm)
  ·exact .step ih (.inr hm)
theorem zS {n:Net} (h:od n) (hn:lP n) {t:aV} (ht:qd n t):Pd (fr t.bA).length (Ei (wB t.bA) (uG n t.kC)):=by
 have hE:=vA h hn ht;obtain ⟨c,hc⟩:=ht.comp;refine F8 (fun e he=>?_) (fun i j hi hj e=>tH hi hj e) (fun i hi=>?_)
 ·obtain ⟨d,hd,rfl⟩:=IQ.1 he
  have:=tX hE hd;show 0<tq / d.1;rw [Rat.div_def];exact Rat.mul_pos DG (Rat.inv_pos.2 (by grind))
 ·have hm:=zF.1 (xk hi)
  obtain ⟨r,h1,h2,h3⟩:=CI t.bA (wB t.bA i);refine ⟨r,fun j hj e=>?_,?_⟩
  ·have hm2:=zF.1 (xk hj)
   rw [e] at hm2;obtain ⟨_,q,hq,hqe⟩:=hm2;exact h3 q hq (hqe.trans h2)
  ·have hl:∀ (a:Nat),a<t.bA.length→lb t.bA (a:Int)=t.bA[a]! := fun a ha=>by
    rw [vJ ha]; simp [ha]
   have hcon:rW (n.aN.map (Cd n t.kC)) ((wB t.bA i:Nat):Int) ((r:Nat):Int):=by
    refine (hc.iff _ _ (by omega) (by omega) (by omega) (by omega)).1 ?_
    have hr:r<t.bA.length:=by omega
    rw [vJ hm.1,vJ hr];rw [Hi hr,Hi hm.1] at h2;exact (Hc h2).symm
   have:=D6 hcon;simpa using this
structure Md (n:Net) (t:aV) (M:aW):Prop where
 top:M.qV=t
 md:BX M (fr t.bA).length t.bA.length (wB t.bA) (uG n t.kC) tq
 cl:M.C.length=n.aN.length
 c:∀ (k:Nat) (y:LR),M.C[k]? = some y→∃ b,n.aN[k]? = some b∧lG y∧RL y 4∧rv y=(tq / ((b.X*b.rL:Int):Rat))*(((0-b.Shift:Int):Rat) / ((1000:Int):Rat))
 inv:E2 M.mX (fr t.bA).length (Ei (wB t.bA) (uG n t.kC))
theorem A0 {α β:Type}{P:α→β→Prop}{l:List α}{m:List β} (hl:l.length=m.length) (h:∀ (k:Nat) (y:α),l[k]? = some y→∃ b,m[k]? = some b∧P y b) {x:α}{b:β} (hx:P x b):∀ (k:Nat) (y:α),(l++[x])[k]? = some y→∃ b',(m++[b])[k]? = some b'∧P y b':=by
 intro k y hk
 by_cases e:k<l.length
 ·rw [IV e] at hk
  obtain ⟨b',h1,h2⟩:=h k y hk;exact ⟨b',by rw [IV (by omega)]; exact h1,h2⟩
 ·have hk2:=(He.1 hk).1
  rw [HZ,Iz] at hk2;obtain rfl:k=l.length:=by omega
  rw [H_ (HQ _),I3] at hk;obtain rfl:=Hc hk;exact ⟨b,by rw [hl,H_ (HQ _),I3]; rfl,hx⟩
theorem zk {n:Net} (hn:lP n) {t:aV} (ht:qd n t) {k:Nat} (hk:k<n.bJ.length):∃ v:Nat,t.kC[k]? = some (v:Int)∧v=(t.kC.getD k 0).toNat:=by
 have hkl:k<t.kC.length:=by rw [ht.bl]; exact hk
 have h1:=ht.bi _ (IG hkl);refine ⟨(t.kC[k]).toNat,?_,?_⟩
 ·rw [Hi hkl]; congr 1; omega
 ·rw [H9,Hi hkl]; rfl
theorem yz {n:Net} (h:od n) (hn:lP n) {t:aV} (hg:dE n=some t) (ht:qd n t):Gd (p8 n) (fun o=>∃ M,o=some M∧Md n t M):=by
 have hE:=vA h hn ht;have hll:=h.l3;have hN:=ht.DP;unfold p8;refine Gd.bind_eq hg ?_;refine Gd.eE (fun k ys s=>∃ pre,n.aN=pre++ys∧pre.length=k∧s.1=pre.map (fun b=>((Ar n t.kC b).2.1:Int))∧s.2.1=pre.map (fun b=>((Ar n t.kC b).2.2:Int))∧s.2.2.1.length=pre.length∧s.2.2.2.length=pre.length ∧
  (∀ (k:Nat) (y:LR),s.2.2.1[k]? = some y→∃ b,pre[k]? = some b∧(lG y∧RL y 2∧rv y=tq / ((b.X*b.rL:Int):Rat))) ∧
  (∀ (k:Nat) (y:LR),s.2.2.2[k]? = some y→∃ b,pre[k]? = some b∧(lG y∧RL y 4∧rv y=(tq / ((b.X*b.rL:Int):Rat))*(((0-b.Shift:Int):Rat) / ((1000:Int):Rat))))) ?_ ?_ n.aN 0 _
  ⟨[],rfl,rfl,rfl,rfl,rfl,rfl,fun k y hy=>by simp at hy,fun k y hy=>by simp at hy⟩
 ·rintro k b ys ⟨l1,l2,l3,l4⟩ nx ⟨pre,hp,hpk,e1,e2,e3,e4,hB,hC⟩ hnx
  simp only at e1 e2 e3 e4 hB hC;subst e1 e2;have hb:b ∈ n.aN:=by rw [hp]; simp
  have hkl:pre.length<24:=by
   have:n.aN.length=pre.length+(ys.length+1):=by rw [hp]; simp
   omega
  obtain ⟨_,m1,m2,_⟩:=h.vb b hb;obtain ⟨p1,p2⟩:=LM m1;obtain ⟨q1,q2⟩:=LM m2;obtain ⟨u,u1,u2⟩:=zk hn ht p2;obtain ⟨v,v1,v2⟩:=zk hn ht q2;have V:=Cj h hb;have hq:=V.q;have hx:=V.x; have htp:=V.t; have hs:=V.s
  unfold rA;have w1:i64.wrap (b.X*b.rL)=b.X*b.rL:=bR ⟨by omega,by omega⟩
  have w2:i64.wrap (0-b.Shift)=0-b.Shift:=bR ⟨by omega,by omega⟩
  rw [w1,w2];refine Gd.bind_eq p1 (Gd.ix (by omega) (by rw [Hj]; exact u1) (Gd.nd (by simp; omega) (Gd.bind_eq q1 (Gd.ix (by omega) (by rw [Hj]; exact v1) (Gd.nd (by simp; omega) ?_)))))
  refine Gd.eV (Av (by omega) (by omega) (by omega)) (fun s hs'=>Gd.nd (by simp; omega) (Gd.eV (Av (by omega) (by omega) (by omega)) (fun f hf=>Gd.eV (tZ hs'.1 hf.1 hs'.2.1 hf.2.1 (by omega)) (fun c hc=>Gd.nd (by simp; omega) ?_))))
  refine hnx _ ⟨pre++[b],by rw [hp]; simp,by simp [hpk],?_,?_,by simp [e3],by simp [e4],?_,?_⟩
  ·simp only [Jc,KT,Mj]
   rw [u2]; rfl
  ·simp only [Jc,KT,Mj]
   rw [v2]; rfl
  ·exact A0 e3 hB ⟨hs'.1,hs'.2.1,hs'.2.2⟩
  ·exact A0 e4 hC ⟨hc.1,hc.2.1,by rw [hc.2.2,hs'.2.2,hf.2.2]⟩
 ·rintro k ⟨l1,l2,l3,l4⟩ ⟨pre,hp,hpk,e1,e2,e3,e4,hB,hC⟩
  simp only at e1 e2 e3 e4 hB hC;rw [Ij] at hp;subst hp;subst e1 e2;refine Gd.eE (fun i ys s=>∃ pre,t.bA=pre++ys∧pre.length=i∧xK s.1∧(∀ k:Int,(nA s.1 k).getD false=true↔k ∈ pre) ∧
   s.2=((List.range i).filter (fun i=>(List.range i).any (fun j=>decide (t.bA[j]? = t.bA[i]?)))).map (fun x:Nat=>(x:Int))) ?_ ?_ t.bA 0 _
   ⟨[],rfl,rfl,xK.nil,fun k=>by simp [nA,ru],rfl⟩
  ·rintro i y ys ⟨seen,free⟩ nx ⟨pre,hp,hpi,hk,hs,e⟩ hnx
   simp only at hk hs e;subst e;have hi:t.bA[i]? = some y:=by rw [hp,H_ (by omega),hpi,I3]; rfl
   have hil:=(He.1 hi).1;have hmem:y ∈ pre↔(List.range i).any (fun j=>decide (t.bA[j]? = t.bA[i]?))=true:=by
    rw [List.any_eq_true];constructor
    ·intro hy
     obtain ⟨j,hj,he⟩:=IW.1 hy;refine ⟨j,IA.2 (by omega),?_⟩
     rw [hi,hp,IV hj,Hi hj,he]; simp
    ·rintro ⟨j,hj,he⟩
     have hj:=IA.1 hj;have he:=Ht he;rw [hi,hp,IV (by omega)] at he
     exact HE he
   have hfl:((List.range i).filter (fun i=>(List.range i).any (fun j=>decide (t.bA[j]? = t.bA[i]?)))).length≤i:=by
    have:=MT (fun i=>(List.range i).any (fun j=>decide (t.bA[j]? = t.bA[i]?))) (List.range i);simpa using this
   have hput:xK (qF seen y true)∧∀ k:Int,(nA (qF seen y true) k).getD false=true↔k ∈ pre++[y]:=by
    refine ⟨(hk.put y true).1,fun k=>?_⟩;rw [hk.Aw,Ih,IS]
    split
    ·rename_i e; simp [e]
    ·rename_i e; rw [hs k]; simp [e]
   unfold rB;refine Gd.ite (fun hc=>?_) (fun hc=>?_)
   ·have hc2:=hmem.1 ((hs y).1 hc)
    unfold mY;refine Gd.nd (by simp only [JQ,Iz]; omega) (hnx _ ⟨pre++[y],by rw [hp]; simp,by simp [hpi],hput.1,hput.2,?_⟩)
    simp only;rw [K9,JS,Jc,MO,Hv hc2]
    rfl
   ·have hc2:¬ (List.range i).any (fun j=>decide (t.bA[j]? = t.bA[i]?))=true:=fun hh=>by
     have:=(hs y).2 (hmem.2 hh);rw [this] at hc; cases hc
    unfold mY;refine hnx _ ⟨pre++[y],by rw [hp]; simp,by simp [hpi],hput.1,hput.2,?_⟩
    simp only;rw [K9,JS,Jc,MO,Hs hc2];simp
  ·rintro i ⟨seen,free⟩ ⟨pre,hp,hpi,hk,hs,e⟩
   simp only at e;rw [Ij] at hp;subst e;have hi:i=t.bA.length:=by rw [← hpi,← hp]
   subst hi;have hmd:BX (aW.mk t (n.aN.map (fun b=>((Ar n t.kC b).2.1:Int))) (n.aN.map (fun b=>((Ar n t.kC b).2.2:Int))) l3 l4 ((fr t.bA).map (fun x:Nat=>(x:Int))) []) (fr t.bA).length t.bA.length (wB t.bA) (uG n t.kC) tq:=by
    refine ⟨xl hN,F1 _,fun i j hi hj e=>tH hi hj e,fun i hi=>(zF.1 (xk hi)).1,hN,hE.ll,hE.el,?_,?_,by show l3.length=_; rw [e3]; simp [uG],fun k y hy=>?_⟩
    ·simp [uG]
    ·simp [uG]
    ·obtain ⟨b,hb,y1,y2,y3⟩:=hB k y hy
     exact ⟨Ar n t.kC b,by unfold uG; rw [Ib,hb]; rfl,y1,y2,y3⟩
   have hinv:=Bo hmd (zS h hn ht) (zR hE (xl hN) (fun i j hi hj e=>tH hi hj e));refine Gd.eV hinv ?_;rintro _ ⟨rows,rfl,hI⟩;refine Gd.ret ⟨_,rfl,⟨rfl,?_,e4,hC,hI⟩⟩;exact ⟨hmd.hn,hmd.free,hmd.inj,hmd.lt,hmd.hN,hmd.ll,hmd.el,hmd.fr,hmd.to,hmd.bl,hmd.b⟩
def NL (l:List LR) (N:Nat) (P:Nat→LR→Prop):Prop:=l.length=N∧∀ (b:Nat) (y:LR),l[b]? = some y→P b y
theorem NL.mono {l:List LR}{N:Nat}{P P':Nat→LR→Prop} (h:NL l N P) (k:∀ b y,b<N→P b y→P' b y):NL l N P':=
 ⟨h.1,fun b y hb=>k b y (by rw [← h.1]; exact (He.1 hb).1) (h.2 b y hb)⟩
theorem NL.set {l:List LR}{N:Nat}{P:Nat→LR→Prop} (h:NL l N P) {b:Nat}{y:LR} (hy:P b y):NL (l.set b y) N P:=by
 refine ⟨by rw [HI]; exact h.1,fun b' y' hb=>?_⟩
 by_cases e:b=b'
 ·subst e
  have hl:b<l.length:=by
   have:=(He.1 hb).1
   rwa [HI] at this
  rw [H7 hl] at hb;obtain rfl:=Hc hb;exact hy
 ·rw [HV e] at hb
  exact h.2 b' y' hb
theorem NL.snoc {l:List LR}{N:Nat}{P:Nat→LR→Prop} (h:NL l N P) {y:LR} (hy:P N y):NL (l++[y]) (N+1) P:=by
 refine ⟨by simp [h.1],fun b y' hb=>?_⟩
 by_cases e:b<l.length
 ·rw [IV e] at hb
  exact h.2 b y' hb
 ·have hk2:=(He.1 hb).1
  rw [HZ,Iz] at hk2;obtain rfl:b=l.length:=by omega
  rw [H_ (HQ _),I3] at hb;obtain rfl:=Hc hb;rw [h.1]; exact hy
theorem NL.get {R:Type}{Q:R→Prop}{l:List LR}{N:Nat}{P:Nat→LR→Prop} (h:NL l N P) {b:Nat} (hb:b<N) {f:LR→Option R} (hk:∀ y,P b y→Gd (f y) Q):Gd (idx l (b:Int) f) Q:=by
 have hl:b<l.length:=by rw [h.1]; exact hb
 exact Gd.ks hl (hk _ (h.2 b _ (Hi hl)))
theorem EL {n:Net}{t:aV}{M:aW} (hM:Md n t M) (ht:qd n t) (hn:lP n) {p:List Int} (hp:p.length=n.bJ.length) (hb:∀ z ∈ p,-100000≤z∧z≤100000):
  Gd (lg M p) (fun r=>NL r t.bA.length (fun _ y=>lG y∧RL y 2∧∃ z:Int,rv y=(z:Rat)∧-2400000≤z∧z≤2400000)):=by
 have h24:=hn.l1;have hN:=ht.DP;unfold lg dV;rw [hM.top];refine Gd.nd (by omega) ?_
 rw [Hj];refine Gd.eE (fun i ys s=>∃ pre,p=pre++ys∧pre.length=i∧s.length=t.bA.length∧∀ z ∈ s,-100000*(i:Int)≤z∧z≤100000*(i:Int)) ?_ ?_ p 0 _ ⟨[],rfl,rfl,by simp,fun z hz=>by
  have:=MN hz;omega⟩
 ·rintro i y ys s nx ⟨pre,hpp,hpi,hsl,hs⟩ hnx
  have hi:i<n.bJ.length:=by rw [← hp,hpp]; simp; omega
  have hy:=hb y (by rw [hpp]; simp)
  obtain ⟨v,v1,v2⟩:=zk hn ht hi;have hv:v<t.bA.length:=by
   have:=ht.bi _ (HE v1);omega
  have hvs:v<s.length:=by omega
  unfold mQ;rw [hM.top];refine Gd.ix (by omega) (by rw [Hj]; exact v1) (Gd.ks hvs (Gd.ks hvs ?_))
  have hz:=hs _ (IG hvs);have hw:i64.wrap (s[v]+y)=s[v]+y:=bR ⟨by omega,by omega⟩
  rw [hw,Hj];refine hnx _ ⟨pre++[y],by rw [hpp]; simp,by simp [hpi],by rw [HI]; exact hsl,fun z hz'=>?_⟩
  rcases MX hz' with h1 | h1
  ·have:=hs z h1; omega
  ·subst h1; omega
 ·rintro i s ⟨pre,hpp,hpi,hsl,hs⟩
  rw [Ij] at hpp;have hil:i≤24:=by rw [← hpi,← hpp,hp]; exact h24
  refine Gd.eE (fun k ys r=>∃ pre,s=pre++ys∧pre.length=k∧NL r k (fun _ y=>lG y∧RL y 2∧∃ z:Int,rv y=(z:Rat)∧-2400000≤z∧z≤2400000)) ?_ ?_ s 0 _ ⟨[],rfl,rfl,rfl,fun b y hb=>by simp at hb⟩
  ·rintro k y ys r nx ⟨pre,hps,hpk,hr⟩ hnx
   have hy:=hs y (by rw [hps]; simp)
   have hkl:s.length=pre.length+(ys.length+1):=by rw [hps]; simp
   have hrl:=hr.1;unfold mR;refine Gd.eV (sG (by omega)) (fun w hw=>Gd.nd (by simp; omega) (hnx _ ⟨pre++[y],by rw [hps]; simp,by simp [hpk],hr.snoc ⟨hw.1,hw.2.1,y,hw.2.2,by omega,by omega⟩⟩))
  ·rintro k r ⟨pre,hps,hpk,hr⟩
   rw [Ij] at hps;have hkn:k=t.bA.length:=by rw [← hpk,← hps,hsl]
   subst hkn;exact Gd.ret hr
theorem Ft {a b:List LR}{n W:Nat}{A B:Nat→Rat} (hn:n≤24) (hW:W≤6000) (ha:NL a n (fun j y=>lG y∧RL y W∧rv y=A j)) (hb:NL b n (fun j y=>lG y∧RL y W∧rv y=B j)):
  Gd (pD a b) (fun r=>lG r∧rv r=sm n (fun j=>A j*B j)):=by
 unfold pD;refine Gd.eV (sG (n:=0) (by omega)) (fun z hz=>?_)
 rw [ha.1,Hj];refine Gd.jH (fun m k s=>k+m=n∧∃ r:LR,s=(r.N.minus,r.N.words,r.D.minus,r.D.words)∧lG r∧RL r (2+(2*W+1)*k)∧rv r=sm k (fun j=>A j*B j)) ?_ ?_ n 0 _ ⟨by omega,z,rfl,hz.1,hz.2.1,by rw [hz.2.2]; rfl⟩
 ·rintro m k _ nx ⟨hk,r,rfl,hr,hrl,hv⟩ hnx
  have hkn:k<n:=by omega
  have hbig:(2*W+1)*k≤(2*W+1)*23:=Nd _ (by omega)
  have hsucc:(2*W+1)*(k+1)=(2*W+1)*k+(2*W+1):=Nat.mul_succ _ _;unfold qk;refine ha.get hkn (fun y hy=>?_);have skip:A k*B k=0→Gd (jQ nx r.N.minus r.N.words r.D.minus r.D.words) (fun r=>lG r∧rv r=sm n (fun j=>A j*B j)):=fun h0=>by
   unfold jQ;refine hnx _ ⟨by omega,r,rfl,hr,hrl.mono (by omega),?_⟩
   rw [hv];show _=sm k (fun j=>A j*B j)+A k*B k;rw [h0]; grind
  rw [sE hy.1,hy.2.2];refine Gd.ite (fun h=>skip (by rw [of_decide_eq_true h]; grind)) (fun _=>hb.get hkn (fun u hu=>?_))
  rw [sE hu.1,hu.2.2];refine Gd.ite (fun _=>ha.get hkn (fun y2 hy2=>hb.get hkn (fun u2 hu2=>?_))) (fun h=>skip (by
   have h1:decide (B k=0)=true:=by simpa using h
   rw [of_decide_eq_true h1]; grind))
  refine Gd.eV (tZ hy2.1 hu2.1 hy2.2.1 hu2.2.1 (by omega)) (fun c hc=>Gd.eV (rH (a:=⟨⟨r.N.minus,r.N.words⟩,⟨r.D.minus,r.D.words⟩⟩) hr hc.1 hrl hc.2.1 (by omega)) (fun d hd=>?_))
  unfold jQ;refine hnx _ ⟨by omega,d,rfl,hd.1,hd.2.1.mono (by omega),?_⟩
  rw [hd.2.2,hc.2.2,hy2.2.2,hu2.2.2];show rv r+_=sm k (fun j=>A j*B j)+A k*B k;rw [hv]
 ·rintro k _ ⟨hk,r,rfl,hr,hrl,hv⟩
  obtain rfl:k=n:=by omega
  exact Gd.ret ⟨hr,hv⟩
theorem D3 {q s:Int} (hq:500≤q) (hs:-1000≤s∧s≤1000):-2000≤(tq / (q:Rat))*((s:Rat) / ((1000:Int):Rat))∧(tq / (q:Rat))*((s:Rat) / ((1000:Int):Rat))≤2000∧(tq / (q:Rat))*((s:Rat) / ((1000:Int):Rat))=(((1000*s:Int):Rat)) / (q:Rat):=by
 have h1:((500:Int):Rat)≤(q:Rat):=Nu.2 hq;have h2:((-1000:Int):Rat)≤(s:Rat):=Nu.2 hs.1;have h3:(s:Rat)≤((1000:Int):Rat):=Nu.2 hs.2;have e1:((500:Int):Rat)=500:=rfl;have e2:((-1000:Int):Rat) = -1000:=by rw [Nw]; rfl
 have e3:((1000:Int):Rat)=1000:=rfl;have e4:tq=1000000:=rfl;rw [e1] at h1; rw [e2] at h2; rw [e3] at h3 ⊢
 have p:0<((q:Rat))⁻¹:=Rat.inv_pos.2 (by grind)
 have i1:=Rat.mul_inv_cancel (q:Rat) (by grind)
 have i2:=Rat.mul_le_mul_of_nonneg_right h1 (Rat.le_of_lt p);have i3:(q:Rat)⁻¹≤1 / 500:=by grind
 have e5:(tq / (q:Rat))*((s:Rat) / 1000)=(1000*(s:Rat))*(q:Rat)⁻¹:=by rw [e4,Rat.div_def,Rat.div_def]; grind
 have m:=vi (x:=1000*(s:Rat)) (y:=(q:Rat)⁻¹) (a:=1000000) (b:=1 / 500) (by grind) (by grind) (by grind) i3
 refine ⟨by rw [e5]; grind,by rw [e5]; grind,?_⟩
 rw [e5,Nv,e3,Nt]
def Lg (l:List (Rat×Nat×Nat)) (W:Nat) (C:Rat) (b:Nat) (y:LR):Prop:=lG y∧RL y W∧pU (pO b l*rv y)∧-C≤rv y∧rv y≤C
theorem Lg.mono {l:List (Rat×Nat×Nat)}{W W':Nat}{C C':Rat}{b:Nat}{y:LR} (h:Lg l W C b y) (hW:W≤W') (hC:C≤C'):Lg l W' C' b y:=
 ⟨h.1,h.2.1.mono hW,h.2.2.1,by have:=h.2.2.2.1; grind,by have:=h.2.2.2.2; grind⟩
theorem Ay {a:Rat} (h:pU a):pU (-a):=by
 obtain ⟨z,rfl⟩:=h;exact ⟨-z,by rw [Nw]⟩
theorem Lg.sub {l:List (Rat×Nat×Nat)}{W:Nat}{C:Rat}{b:Nat}{y c:LR} (h:Lg l W C b y) (hc:Lg l 4 2000 b c) (hW:W≤1000):Gd (gM y c) (Lg l (W+5) (C+2000) b):=by
 obtain ⟨a1,a2,a3,a4,a5⟩:=h;obtain ⟨c1,c2,c3,c4,c5⟩:=hc;refine (sM a1 c1 a2 c2 (by omega)).mono (fun r hr=>⟨hr.1,hr.2.1.mono (by omega),?_,?_,?_⟩)
 ·rw [hr.2.2]
  have e:pO b l*(rv y-rv c)=pO b l*rv y+-(pO b l*rv c):=by grind
  rw [e]; exact tJ a3 (Ay c3)
 ·rw [hr.2.2]; grind
 ·rw [hr.2.2]; grind
theorem Lg.add {l:List (Rat×Nat×Nat)}{W:Nat}{C:Rat}{b:Nat}{y c:LR} (h:Lg l W C b y) (hc:Lg l 4 2000 b c) (hW:W≤1000):Gd (fO y c) (Lg l (W+5) (C+2000) b):=by
 obtain ⟨a1,a2,a3,a4,a5⟩:=h;obtain ⟨c1,c2,c3,c4,c5⟩:=hc;refine (rH a1 c1 a2 c2 (by omega)).mono (fun r hr=>⟨hr.1,hr.2.1.mono (by omega),?_,?_,?_⟩)
 ·rw [hr.2.2]
  have e:pO b l*(rv y+rv c)=pO b l*rv y+pO b l*rv c:=by grind
  rw [e]; exact tJ a3 c3
 ·rw [hr.2.2]; grind
 ·rw [hr.2.2]; grind
theorem C1 {n:Net}{t:aV}{M:aW} (hM:Md n t M) {k:Nat}{b:bH} (hb:n.aN[k]? = some b):
  M.jB[k]? = some ((Ar n t.kC b).2.1:Int)∧M.To[k]? = some ((Ar n t.kC b).2.2:Int)∧(uG n t.kC)[k]? = some (Ar n t.kC b):=by
 have e:(uG n t.kC)[k]? = some (Ar n t.kC b):=by unfold uG; rw [Ib,hb]; rfl
 refine ⟨?_,?_,e⟩
 ·rw [hM.md.fr]; exact w_ (fun e:Rat×Nat×Nat=>(e.2.1:Int)) e
 ·rw [hM.md.to]; exact w_ (fun e:Rat×Nat×Nat=>(e.2.2:Int)) e
theorem Gw {n:Net}{t:aV}{M:aW} (h:od n) (hn:lP n) (hM:Md n t M) (ht:qd n t) {k:Nat}{c:LR} (hc:M.C[k]? = some c):
  ∃ b,n.aN[k]? = some b∧Lg (uG n t.kC) 4 2000 (Ar n t.kC b).2.1 c∧Lg (uG n t.kC) 4 2000 (Ar n t.kC b).2.2 c:=by
 obtain ⟨b,hb,c1,c2,c3⟩:=hM.c k c hc;have V:=Cj h (HE hb);have hE:=vA h hn ht;obtain ⟨_,_,e⟩:=C1 hM hb;have hm:=HE e;have hs:=V.s;obtain ⟨d1,d2,d3⟩:=D3 (q:=b.X*b.rL) (s:=0-b.Shift) V.q.1 (by omega)
 rw [← c3] at d1 d2 d3;have I:=fun (u:Nat) hu=>xE (u:=u) (l:=uG n t.kC) (fun e he=>⟨(tX hE he).1,by have:=(tX hE he).2.1; grind⟩) _ hm hu (((1000*(0-b.Shift):Int)):Rat) ⟨_,rfl⟩
 refine ⟨b,hb,⟨c1,c2,?_,d1,d2⟩,⟨c1,c2,?_,d1,d2⟩⟩
 ·rw [d3]; exact I _ (.inl rfl)
 ·rw [d3]; exact I _ (.inr rfl)
theorem ug (k:Nat):(((k+1:Nat):Int):Rat)=((k:Int):Rat)+1:=by rw [MF,Rat.intCast_add]; rfl
theorem En {n:Net}{t:aV}{M:aW} (h:od n) (hn:lP n) (hM:Md n t M) (ht:qd n t) {p:List LR}
  (hp:NL p t.bA.length (fun _ y=>lG y∧RL y 2∧∃ z:Int,rv y=(z:Rat)∧-2400000≤z∧z≤2400000)) {Q:List LR→Prop}{K:List LR→Option (List LR)} (hK:∀ s,NL s t.bA.length (Lg (uG n t.kC) 300 2500000)→Gd (K s) Q):
  Gd (eE (fun k y s n=>kF M k y s n) K 0 M.C p) Q:=by
 have hE:=vA h hn ht;have hcl:=hM.cl;have h24:=h.l3;refine Gd.eE (fun k ys s=>∃ pre,M.C=pre++ys∧pre.length=k∧NL s t.bA.length (Lg (uG n t.kC) (2+10*k) (2400000+4000*((k:Int):Rat)))) ?_ ?_ M.C 0 p ⟨[],rfl,rfl,hp.mono (fun b y hb hy=>?_)⟩
 ·rintro k c ys s nx ⟨pre,hpc,hpk,hs⟩ hnx
  have hck:M.C[k]? = some c:=by rw [hpc,H_ (by omega),hpk,I3]; rfl
  obtain ⟨b,hb,g1,g2⟩:=Gw h hn hM ht hck;obtain ⟨f1,f2,f3⟩:=C1 hM hb;have hlt:=hE.el _ (HE f3);have hk24:k<24:=by have:=(He.1 hck).1; omega
  generalize Ar n t.kC b=e at g1 g2 f1 f2 f3 hlt;unfold kF;refine Gd.ix (by omega) (by rw [Hj]; exact f1) (Gd.ix (by omega) (by rw [Hj]; exact f1) (hs.get hlt.1 (fun y hy=>Gd.eV (hy.sub g1 (by omega)) (fun r hr=>hs.get hlt.1 (fun _ _=>?_)))))
  have c0:(2400000+4000*((k:Int):Rat))≤(2400000+4000*((k:Int):Rat))+2000:=by grind
  have hs2:=(hs.mono (P':=Lg (uG n t.kC) (2+10*k+5) (2400000+4000*((k:Int):Rat)+2000)) (fun b y _ hy=>hy.mono (by omega) c0)).set (b:=e.2.1) hr
  refine Gd.ix (by omega) (by rw [Hj]; exact f2) (Gd.ix (by omega) (by rw [Hj]; exact f2) ?_)
  rw [Hj,Hj];refine hs2.get hlt.2 (fun y2 hy2=>Gd.eV (hy2.add g2 (by omega)) (fun r2 hr2=>hs2.get hlt.2 (fun _ _=>?_)))
  have c1:(2400000+4000*((k:Int):Rat))+2000≤2400000+4000*(((k+1:Nat):Int):Rat):=by rw [ug]; grind
  have c2:(2400000+4000*((k:Int):Rat))+2000+2000≤2400000+4000*(((k+1:Nat):Int):Rat):=by rw [ug]; grind
  exact hnx _ ⟨pre++[c],by rw [hpc]; simp,by simp [hpk],(hs2.mono (fun b y _ hy=>hy.mono (by omega) c1)).set (hr2.mono (by omega) c2)⟩
 ·rintro k s ⟨pre,hpc,hpk,hs⟩
  rw [Ij] at hpc;have hk24:k≤24:=by rw [← hpk,← hpc]; omega
  have hc:((k:Int):Rat)≤((24:Int):Rat):=Nu.2 (by omega)
  have e24:((24:Int):Rat)=24:=rfl;rw [e24] at hc;exact hK s (hs.mono (fun b y _ hy=>hy.mono (by omega) (by grind)))
 ·obtain ⟨y1,y2,z,y3,y4,y5⟩:=hy
  have e0:(((0:Nat):Int):Rat)=0:=rfl;have a:=Nu.2 y4;have b:=Nu.2 y5;have e1:((2400000:Int):Rat)=2400000:=rfl;rw [Nw,e1] at a;rw [e1] at b;refine ⟨y1,y2,?_,?_,?_⟩
  ·rw [y3]
   exact ou (uX (fun e he=>(tX hE he).1)) ⟨z,rfl⟩
  ·rw [y3,e0]; grind
  ·rw [y3,e0]; grind
def An (D:Rat) (y:LR):Prop:=lG y∧∃ T,pU T∧-wq 140≤T∧T≤wq 140∧rv y=T / D
structure Dv (D:Rat):Prop where
 i:pU D
 z:D≠0
 a:-wq 60≤D
 b:D≤wq 60
theorem CP:pU 0:=⟨0,rfl⟩
theorem An.rb {D:Rat} (hD:Dv D) {y:LR} (h:An D y):RB (rv y) 141:=by
 obtain ⟨_,T,t1,t2,t3,e⟩:=h;rw [e];have:=sN (show 60≤140 by omega)
 have h1:=hD.a;have h2:=hD.b;exact tY t1 hD.i t2 t3 (by grind) (by grind) hD.z (by omega)
theorem An.zero {D:Rat}{y:LR} (hy:lG y) (h0:rv y=0):An D y:=⟨hy,0,CP,by have:=q_ 140; grind,by have:=q_ 140; grind,by rw [h0,Rat.div_def]; grind⟩
theorem Fg {f:Nat→Rat}{b:Rat} (hb:0≤b):∀ {n:Nat},(∀ i,i<n→-b≤f i∧f i≤b)→-(((n:Int):Rat)*b)≤sm n f∧sm n f≤((n:Int):Rat)*b
 | 0,_=>by
  show -((((0:Nat):Int):Rat)*b)≤0∧0≤((((0:Nat):Int):Rat)*b);have e:((((0:Nat):Int)):Rat)=0:=rfl;rw [e]; grind
 | n+1,h=>by
  have h1:=Fg hb (n:=n) (fun i hi=>h i (by omega))
  have h2:=h n (by omega)
  rw [ug];show _≤sm n f+f n∧sm n f+f n≤_
  grind
theorem Ca {n:Nat}{A B m:Mt}{L R:Nat→Rat} (h:Nb n A L B R) (hp:Pd n A) (hn:n≤23) (hG:Gj n A n m) {i:Nat} (hi:i<n) {x:Nat→Rat} (hx:∀ p,p<n→pU (L p*x p)∧-2500000≤x p∧x p≤2500000) {y:LR} (hy:lG y)
  (e:rv y=sm n (fun p=>m i (n+p)*x p)):An (Dk A L n) y:=by
 have d0:=(h.D0 hp (HQ n)).1;have key:∀ p,p<n→∃ T,pU T∧-wq 139≤T∧T≤wq 139∧m i (n+p)*x p=T*(Dk A L n)⁻¹:=fun p hpn=>by
  obtain ⟨N,n1,n2,n3,e1⟩:=hG.num h.s (HQ n) hi hpn;rw [Hs (by omega)] at e1
  have e1':m i (n+p)*Dk A L n=N*L p:=by
   have e2:1*m i (n+p)*Dk A L n=N*L p:=e1
   grind
  obtain ⟨x1,x2,x3⟩:=hx p hpn;have hP:=h.hP;have p1:1≤pr n R:=xB (fun j hj=>h.s.R1 hj);have r1:=h.s.R1 hi;have r2:=h.R hi;have hNb:pr n R*R i≤wq 120:=by
   rw [← q9 60 60];exact mC hP r2 (by grind) (by grind)
  have l1:=h.s.l1 p hpn;have l2:=h.hL p hpn;have w1:(2500000:Rat)≤wq 1:=by
   have:((2500000:Int):Rat)≤(((WB ^ 1:Nat):Int):Rat):=Nu.2 (by decide)
   exact this
  have q1:=vi (x:=L p) (y:=x p) (a:=wq 18) (b:=wq 1) (by have:=q_ 18; grind) l2 (by grind) (by grind)
  rw [q9] at q1;have q2:=vi (x:=N) (y:=L p*x p) (a:=wq 120) (b:=wq (18+1)) (by grind) (by grind) q1.1 q1.2
  rw [q9] at q2;refine ⟨N*(L p*x p),ou n1 x1,q2.1,q2.2,?_⟩;have i1:=Rat.mul_inv_cancel _ d0;have e3:m i (n+p)=N*L p*(Dk A L n)⁻¹:=by rw [← e1']; grind
  rw [e3]; grind
 have:∃ T:Nat→Rat,∀ p,p<n→pU (T p)∧-wq 139≤T p∧T p≤wq 139∧m i (n+p)*x p=(Dk A L n)⁻¹*T p:=by
  refine ⟨fun p=>m i (n+p)*x p*Dk A L n,fun p hpn=>?_⟩;obtain ⟨T,t1,t2,t3,t4⟩:=key p hpn;have i1:=Rat.mul_inv_cancel _ d0;have e2:m i (n+p)*x p*Dk A L n=T:=by rw [t4]; grind
  simp only;rw [e2];exact ⟨t1,t2,t3,by rw [t4]; grind⟩
 obtain ⟨T,hT⟩:=this;have hs:sm n (fun p=>m i (n+p)*x p)=(Dk A L n)⁻¹*sm n T:=by
  rw [← nD];exact lE (fun p hp=>(hT p hp).2.2.2)
 have hb:=Fg (f:=T) (b:=wq 139) (by have:=q_ 139; grind) (n:=n) (fun p hp=>⟨(hT p hp).2.1,(hT p hp).2.2.1⟩)
 have hn2:((n:Int):Rat)*wq 139≤wq 140:=by
  have e1:wq 1*wq 139=wq 140:=q9 1 139;rw [← e1];have h1:((n:Int):Rat)≤wq 1:=Nu.2 (show (n:Int)≤((WB ^ 1:Nat):Int) by
   have:((WB ^ 1:Nat):Int)=4294967296:=by decide
   rw [this]; omega)
  exact Rat.mul_le_mul_of_nonneg_right h1 (by have:=q_ 139; grind)
 refine ⟨hy,sm n T,zK (fun p hp=>(hT p hp).1),by grind,by grind,?_⟩
 rw [e,hs,Rat.div_def]; grind
theorem An.mk' {D:Rat} (hD:Dv D) {y z:LR} (h:An D y) (k:An D z):RB (rv y-rv z) 142:=by
 obtain ⟨_,T,t1,t2,t3,e⟩:=h;obtain ⟨_,U,u1,u2,u3,f⟩:=k;have e1:rv y-rv z=(T+-U) / D:=by rw [e,f,Rat.div_def,Rat.div_def,Rat.div_def]; grind
 have w:wq 140+wq 140≤wq 141:=by
  have e2:wq 1*wq 140=wq 141:=q9 1 140;rw [← e2];have h1:((2:Int):Rat)≤wq 1:=Nu.2 (by decide)
  have h2:((2:Int):Rat)=2:=rfl;rw [h2] at h1;have:=Rat.mul_le_mul_of_nonneg_right h1 (show 0≤wq 140 by have:=q_ 140; grind)
  grind
 rw [e1];have w2:=sN (show 60≤141 by omega)
 have d1:=hD.a;have d2:=hD.b;exact tY (tJ t1 (Ay u1)) hD.i (by grind) (by grind) (by grind) (by grind) hD.z (by omega)
def FZ (n:Net) (t:aV):Rat:=Dk (Ei (wB t.bA) (uG n t.kC)) (fun i=>pO (wB t.bA i) (uG n t.kC)) (fr t.bA).length
theorem Cr {n:Net} (h:od n) (hn:lP n) {t:aV} (ht:qd n t):Dv (FZ n t):=by
 have hE:=vA h hn ht;have hNb:=zR hE (xl ht.DP) (fun i j hi hj e=>tH hi hj e);have hp:=zS h hn ht;obtain ⟨a,b,c⟩:=hNb.Db (HQ _);exact ⟨a,(hNb.D0 hp (HQ _)).1,b,c⟩
theorem Ba {n:Net}{t:aV}{M:aW} (h:od n) (hn:lP n) (hM:Md n t M) (ht:qd n t) {s:List LR} (hs:NL s t.bA.length (Lg (uG n t.kC) 300 2500000)):
  Gd (ku M s) (fun r=>NL r t.bA.length (fun _ y=>An (FZ n t) y)):=by
 have hE:=vA h hn ht;have hnf:=xl ht.DP;have hNb:=zR hE hnf (fun i j hi hj e=>tH hi hj e);have hp:=zS h hn ht;have hfl:M.mh.length=(fr t.bA).length:=by rw [hM.md.free]; simp
 have hfr:∀ k (y:Int),M.mh[k]? = some y→k<(fr t.bA).length∧y=(wB t.bA k:Int):=fun k y hk=>by
  have hk1:=(He.1 hk).1;rw [hM.md.free,Ib,JN (by omega)] at hk
  exact ⟨by omega,(Hc hk).symm⟩
 obtain ⟨m,hG,hR⟩:=hM.inv.ex;unfold ku;rw [hfl,Hj];refine Gd.nd (by omega) ?_
 refine Gd.eE (fun k ys r=>∃ pre,M.mh=pre++ys∧pre.length=k∧r.length=(fr t.bA).length∧∀ j,j<k→r[j]? = s[wB t.bA j]?) ?_ ?_ M.mh 0 _ ⟨[],rfl,rfl,by simp,fun j hj=>by omega⟩
 ·rintro k y ys r nx ⟨pre,hpf,hpk,hrl,hr⟩ hnx
  obtain ⟨hk,rfl⟩:=hfr k y (by rw [hpf,H_ (by omega),hpk,I3]; rfl)
  have hlt:=hM.md.lt k hk;unfold mc;refine Gd.ks (by rw [hs.1]; exact hlt) (Gd.ks (by omega) ?_)
  rw [Hj];refine hnx _ ⟨pre++[(wB t.bA k:Int)],by rw [hpf]; simp,by simp [hpk],by rw [HI]; exact hrl,fun j hj=>?_⟩
  by_cases e:k=j
  ·subst e
   rw [H7 (by omega),Hi]
  ·rw [HV e]; exact hr j (by omega)
 ·rintro k r ⟨pre,hpf,hpk,hrl,hr⟩
  rw [Ij] at hpf;have hk:k=(fr t.bA).length:=by rw [← hpk,← hpf,hfl]
  subst hk;unfold dV;rw [hM.top];refine Gd.eV (wA (by have:=ht.DP; omega)) ?_
  rintro _ ⟨z,rfl,z1,z2,z3⟩;have hx:∀ j,j<(fr t.bA).length→∃ y,r[j]? = some y∧Lg (uG n t.kC) 300 2500000 (wB t.bA j) y:=fun j hj=>by
   have hlt:=hM.md.lt j hj;have hl:wB t.bA j<s.length:=by rw [hs.1]; exact hlt
   have hsj:=Hi hl;exact ⟨s[wB t.bA j],by rw [hr j hj,hsj],hs.2 _ _ hsj⟩
  have hb:NL r (fr t.bA).length (fun j y=>lG y∧RL y 6000∧rv y=((r[j]?).map rv).getD 0):=⟨hrl,fun j y hj=>by
   have hj1:=(He.1 hj).1;obtain ⟨y2,e,g⟩:=hx j (by omega)
   rw [hj] at e;obtain rfl:=Hc e;exact ⟨g.1,g.2.1.mono (by omega),by rw [hj]; rfl⟩⟩
  have hxx:∀ p,p<(fr t.bA).length→pU (pO (wB t.bA p) (uG n t.kC)*((r[p]?).map rv).getD 0)∧-2500000≤((r[p]?).map rv).getD 0∧((r[p]?).map rv).getD 0≤2500000:=fun p hp=>by
   obtain ⟨y2,e,g⟩:=hx p hp;rw [e];exact ⟨g.2.2.1,g.2.2.2.1,g.2.2.2.2⟩
  refine Gd.eE (fun k ys o=>∃ pre,M.mh=pre++ys∧pre.length=k∧NL o t.bA.length (fun _ y=>An (FZ n t) y)) ?_ ?_ M.mh 0 _ ⟨[],rfl,rfl,⟨by simp,fun b y hb=>by
   have:=MN (HE hb);subst this;exact An.zero z1 z3⟩⟩
  ·rintro k y ys o nx ⟨pre,hpf,hpk,ho⟩ hnx
   obtain ⟨hk,rfl⟩:=hfr k y (by rw [hpf,H_ (by omega),hpk,I3]; rfl)
   have hlt:=hM.md.lt k hk;obtain ⟨row,w1,w2,w3⟩:=hR.row k hk;have ha:NL row (fr t.bA).length (fun j y=>lG y∧RL y 6000∧rv y=m k ((fr t.bA).length+j)):=⟨w2,fun j y hj=>by
    have hj1:=(He.1 hj).1;obtain ⟨y2,e,g⟩:=w3 j (by omega)
    rw [hj] at e;obtain rfl:=Hc e;exact g⟩
   unfold me;refine Gd.ix (by omega) (by rw [Hj]; exact w1) (Gd.eV (Ft (by omega) (by omega) ha hb) (fun d hd=>ho.get hlt (fun _ _=>?_)))
   rw [Hj];exact hnx _ ⟨pre++[(wB t.bA k:Int)],by rw [hpf]; simp,by simp [hpk],ho.set (Ca hNb hp hnf hG hk hxx hd.1 hd.2)⟩
  ·rintro k o ⟨_,_,_,ho⟩
   exact Gd.ret ho
theorem A3 {n:Net}{t:aV}{M:aW} (h:od n) (hn:lP n) (hM:Md n t M) (ht:qd n t) {p:List LR}
  (hp:NL p t.bA.length (fun _ y=>lG y∧RL y 2∧∃ z:Int,rv y=(z:Rat)∧-2400000≤z∧z≤2400000)):Gd (kt M p) (fun r=>NL r t.bA.length (fun _ y=>An (FZ n t) y)):=by
 have h1:=ht.DP;have h2:=hp.1;unfold kt;exact Gd.nd (by omega) (En h hn hM ht hp (fun s hs=>Gd.eV (Ba h hn hM ht hs) (fun r hr=>Gd.ret hr)))
theorem BU {n:Net}{t:aV}{M:aW} (h:od n) (hn:lP n) (hM:Md n t M) (ht:qd n t) {a:List LR} (ha:NL a t.bA.length (fun _ y=>An (FZ n t) y)):
  Gd (kR M a) (fun r=>NL r n.aN.length (fun _ y=>lG y∧fits (rv y))):=by
 have hE:=vA h hn ht;have hD:=Cr h hn ht;have hcl:=hM.cl;have h24:=h.l3;unfold kR;refine Gd.eE (fun k ys r=>∃ pre,M.C=pre++ys∧pre.length=k∧NL r k (fun _ y=>lG y∧fits (rv y))) ?_ ?_ M.C 0 _ ⟨[],rfl,rfl,rfl,fun b y hb=>by simp at hb⟩
 ·rintro k c ys r nx ⟨pre,hpc,hpk,hr⟩ hnx
  have hck:M.C[k]? = some c:=by rw [hpc,H_ (by omega),hpk,I3]; rfl
  have hk24:k<24:=by have:=(He.1 hck).1; omega
  obtain ⟨b,hb,c1,c2,c3⟩:=hM.c k c hck;obtain ⟨f1,f2,f3⟩:=C1 hM hb;have hlt:=hE.el _ (HE f3);have hbl:k<M.B_.length:=by rw [hM.md.bl]; exact (He.1 f3).1
  obtain ⟨e,e1,b1,b2,b3⟩:=hM.md.b k M.B_[k] (Hi hbl);rw [f3] at e1;obtain rfl:=Hc e1;obtain ⟨q,q1,q2,q3⟩:=hE.q _ (HE f3);have hBR:RB (rv M.B_[k]) 1:=by
   rw [b3,q1];exact RB.GA (by decide) (by omega) (by omega)
  have hrl:=hr.1;unfold mB;refine Gd.ix (by omega) (by rw [Hj]; exact Hi hbl) (Gd.ix (by omega) (by rw [Hj]; exact f1) (ha.get hlt.1 (fun y hy=>Gd.ix (by omega) (by rw [Hj]; exact f2) (ha.get hlt.2 (fun z hz=>?_)))))
  refine Gd.eV (sM hy.1 hz.1 (hy.1.rb (hy.rb hD)) (hz.1.rb (hz.rb hD)) (by omega)) (fun d hd=>?_)
  have hdR:RB (rv d) 142:=by rw [hd.2.2]; exact hy.mk' hD hz
  refine Gd.eV (tZ b1 hd.1 (b1.rb hBR) (hd.1.rb hdR) (by omega)) (fun f hf=>?_)
  refine Gd.eV (rH hf.1 c1 hf.2.1 c2 (by omega)) (fun g hg=>Gd.nd (by simp; omega) (hnx _ ⟨pre++[c],by rw [hpc]; simp,by simp [hpk],hr.snoc ⟨hg.1,?_⟩⟩))
  exact RB.fits ⟨g,hg.1,hg.2.1,rfl⟩ (by omega)
 ·rintro k r ⟨pre,hpc,hpk,hr⟩
  rw [Ij] at hpc;have hk:k=n.aN.length:=by rw [← hpk,← hpc,hcl]
  subst hk;exact Gd.ret hr
theorem yV {l:List LR} (hl:l.length≤1000) (h:∀ y ∈ l,lG y∧fits (rv y)):Gd (kO l) (fun r=>r=(l.map (fun y=>ctext (rv y)),0)):=by
 unfold kO;refine Gd.eV (P:=fun r=>r=(l.map (fun y=>ctext (rv y)),true)) ?_ (fun r hr=>by subst hr; exact Gd.ite (fun h=>by simp at h) (fun _=>Gd.ret rfl))
 unfold po;refine Gd.nd (by omega) ?_
 rw [Hj];refine Gd.eE (fun k ys s=>∃ pre,l=pre++ys∧pre.length=k∧s=pre.map (fun y=>ctext (rv y))++List.replicate ys.length (⟨#[]⟩:ByteArray)) ?_ ?_ l 0 _ ⟨[],rfl,rfl,by simp⟩
 ·rintro k y ys _ nx ⟨pre,hp,hpk,rfl⟩ hnx
  obtain ⟨y1,y2⟩:=h y (by rw [hp]; simp)
  unfold o_;refine Gd.eV (Du y1) (fun r hr=>?_);have h2:=hr.1.2 y2;refine Gd.ite (fun hh=>by rw [h2] at hh; simp at hh) (fun _=>?_)
  refine Gd.ix (y:=⟨#[]⟩) (by omega) ?_ (hnx _ ⟨pre++[y],by rw [hp]; simp,by simp [hpk],?_⟩)
  ·rw [Hj,H_ (by simp [hpk]),JQ,hpk,I3,HD,Kh]; rfl
  ·rw [Hj,MZ _ _ (by simp [hpk]),JQ,hpk,I3,HD,Kh,List.set_cons_zero,hr.2 h2]
   simp
 ·rintro k _ ⟨pre,hp,hpk,rfl⟩
  rw [Ij] at hp;subst hp;exact Gd.ret (by simp)
structure Fk (n:Net) (t:aV) (s:eM):Prop where
 al:s.nh.length=t.bA.length
 fl:s.mD.length=n.aN.length
 a:∀ x ∈ s.nh,∃ q,fits q∧x=ctext q
 f:∀ x ∈ s.mD,∃ q,fits q∧x=ctext q
theorem NL.all {l:List LR}{N:Nat}{P:LR→Prop} (h:NL l N (fun _ y=>P y)):∀ y ∈ l,P y:=fun y hy=>by
 obtain ⟨i,hi,rfl⟩:=IW.1 hy;exact h.2 i _ (Hi hi)
theorem DC {n:Net}{p:List Int} (h:od n) (hn:lP n) {t:aV} (hg:dE n=some t) (ht:qd n t) (hp:p.length=n.bJ.length) (hb:∀ z ∈ p,-100000≤z∧z≤100000) (hc:kE n p=some 0):
  Gd (lh n p) (fun r=>r.2=0∧Fk n t r.1):=by
 have hN:=ht.DP;have h24:=h.l3;unfold lh;refine Gd.bind_eq hc (Gd.ite (fun h=>by simp at h) (fun _=>?_))
 refine Gd.eV (yz h hn hg ht) ?_;rintro _ ⟨M,rfl,hM⟩;simp only [Bx];refine Gd.eV (EL hM ht hn hp hb) (fun sm hsm=>Gd.eV (A3 h hn hM ht hsm) (fun a ha=>?_));have hD:=Cr h hn ht;have hl1:=ha.1;refine Gd.eV (yV (by omega) (fun y hy=>⟨(ha.all y hy).1,(An.rb hD (ha.all y hy)).fits (by omega)⟩)) ?_
 rintro _ rfl;refine Gd.eV (BU h hn hM ht ha) (fun f hf=>?_);have hl2:=hf.1;refine Gd.eV (yV (by omega) (fun y hy=>hf.all y hy)) ?_
 rintro _ rfl;refine Gd.ite (fun h=>by simp at h) (fun _=>Gd.ret ⟨rfl,by simp [hl1],by simp [hl2],fun x hx=>?_,fun x hx=>?_⟩)
 ·obtain ⟨y,hy,rfl⟩:=IQ.1 hx
  exact ⟨_,(An.rb hD (ha.all y hy)).fits (by omega),rfl⟩
 ·obtain ⟨y,hy,rfl⟩:=IQ.1 hx
  exact ⟨_,(hf.all y hy).2,rfl⟩
def acc {α:Type} (f:α→Int) (p:α→Nat) (k:Nat):List α→Int
 | []=>0
 | x::xs=>(if p x=k then f x else 0)+acc f p k xs
theorem w9 {α:Type}{f:α→Int}{p:α→Nat}{k:Nat}:∀ {l:List α},(∀ x ∈ l,0≤f x)→0≤acc f p k l
 | [],_=>Kt _
 | x::xs,h=>by
  have h1:=h x (Hm ..);have h2:=w9 (f:=f) (p:=p) (k:=k) (l:=xs) fun y hy=>h y (HB _ hy);unfold acc
  split <;> omega
theorem zd {α:Type}{f:α→Int}{p:α→Nat}{k:Nat}{B:Int} (hB:0≤B):∀ {l:List α},(∀ x ∈ l,f x≤B)→acc f p k l≤B*l.length
 | [],_=>by simp [acc]
 | x::xs,h=>by
  have h1:=h x (Hm ..);have h2:=zd (f:=f) (p:=p) (k:=k) (B:=B) hB (l:=xs) fun y hy=>h y (HB _ hy);unfold acc;rw [HD,MF,MC]
  split <;> omega
theorem Al {α:Type}{f:α→Int}{p:α→Nat}{k:Nat}:∀ (a b:List α),acc f p k (a++b)=acc f p k a+acc f p k b
 | [],b=>by show acc f p k b=0+acc f p k b; omega
 | x::xs,b=>by
  have:=Al (f:=f) (p:=p) (k:=k) xs b;show (if p x=k then f x else 0)+acc f p k (xs++b)=(if p x=k then f x else 0)+acc f p k xs+acc f p k b
  omega
theorem tC {α:Type}{f:α→Int}{p:α→Nat}{k:Nat} (a:List α) (x:α):acc f p k (a++[x])=acc f p k a+(if p x=k then f x else 0):=by
 rw [Al];show _+((if p x=k then f x else 0)+0)=_
 omega
def pf (pl:Nat→Nat) (k:Nat):Nat→List Int→Int
 | _,[]=>0
 | i,x::xs=>(if pl i=k then x else 0)+pf pl k (i+1) xs
theorem yA (pl:Nat→Nat) (k:Nat):∀ (a b:List Int) (i:Nat),pf pl k i (a++b)=pf pl k i a+pf pl k (i+a.length) b
 | [],b,i=>by show pf pl k i b=0+pf pl k (i+0) b; rw [Jj]; omega
 | x::xs,b,i=>by
  have:=yA pl k xs b (i+1);have e:i+(x::xs).length=i+1+xs.length:=by simp; omega
  rw [e];show (if pl i=k then x else 0)+pf pl k (i+1) (xs++b)=(if pl i=k then x else 0)+pf pl k (i+1) xs+_
  omega
theorem vT (pl:Nat→Nat) (k:Nat) (y:Int):∀ (l:List Int) (i j:Nat) (h:j<l.length),pf pl k i (l.set j y)=pf pl k i l+(if pl (i+j)=k then y-l[j] else 0)
 | [],_,_,h=>by simp at h
 | x::xs,i,0,_=>by
  rw [List.set_cons_zero,Jj,List.getElem_cons_zero];show (if pl i=k then y else 0)+pf pl k (i+1) xs=(if pl i=k then x else 0)+pf pl k (i+1) xs+_
  split <;> omega
 | x::xs,i,j+1,h=>by
  have h':j<xs.length:=by simpa using h
  have:=vT pl k y xs (i+1) j h';have e:i+1+j=i+(j+1):=by omega
  rw [e] at this;rw [List.set_cons_succ,List.getElem_cons_succ];show (if pl i=k then x else 0)+pf pl k (i+1) (xs.set j y)=(if pl i=k then x else 0)+pf pl k (i+1) xs+_
  rw [this]; omega
theorem yB (pl:Nat→Nat) (k:Nat):∀ (m i:Nat),pf pl k i (List.replicate m 0)=0
 | 0,_=>rfl
 | m+1,i=>by
  show (if pl i=k then (0:Int) else 0)+pf pl k (i+1) (List.replicate m 0)=0
  rw [yB pl k m (i+1)]; split <;> rfl
theorem AI (pl:Nat→Nat) (k:Nat) {B:Int} (hB:0≤B):∀ (l:List Int) (i:Nat),(∀ z ∈ l,-B≤z∧z≤B)→-(B*l.length)≤pf pl k i l∧pf pl k i l≤B*l.length
 | [],_,_=>by simp [pf]
 | x::xs,i,h=>by
  have h1:=h x (Hm ..);have h2:=AI pl k hB xs (i+1) (fun z hz=>h z (HB _ hz));show -(B*(x::xs).length)≤(if pl i=k then x else 0)+pf pl k (i+1) xs∧(if pl i=k then x else 0)+pf pl k (i+1) xs≤B*(x::xs).length
  rw [HD,MF,MC]
  split <;> omega
def xz (t:aV) (i:Nat):Nat:=((t.bA[((t.kC[i]?).getD 0).toNat]?).getD 0).toNat
theorem zV {n:Net}{t:aV} (ht:qd n t) {i:Nat} (hi:i<n.bJ.length):∃ v:Nat,t.kC[i]? = some (v:Int)∧v<t.bA.length∧t.bA[v]? = some (xz t i:Int)∧xz t i<t.bA.length:=by
 have hil:i<t.kC.length:=by rw [ht.bl]; exact hi
 have h1:=ht.bi _ (IG hil);obtain ⟨c,hc⟩:=ht.comp;have hv:(t.kC[i]).toNat<t.bA.length:=by omega
 have e1:t.kC[i]? = some (((t.kC[i]).toNat:Nat):Int):=by rw [Hi hil]; congr 1; omega
 have h2:=hc.all ((t.kC[i]).toNat:Int) (by omega) (by omega)
 rw [vJ hv] at h2;have hm:=hc.mN;refine ⟨(t.kC[i]).toNat,e1,hv,?_,?_⟩
 ·unfold xz
  rw [e1,JK,Hj,Hi hv,JK]
  congr 1; omega
 ·unfold xz
  rw [e1,JK,Hj,Hi hv,JK];omega
def sW (n:Net) (t:aV) (s:BA):Nat:=xz t (pos n s)
theorem wc {n:Net}{t:aV} (ht:qd n t) {s:BA} (hs:s ∈ n.bJ):kg n t s=some (sW n t s:Int)∧sW n t s<t.bA.length:=by
 obtain ⟨p1,p2⟩:=LM hs;obtain ⟨v,v1,v2,v3,v4⟩:=zV ht p2;refine ⟨?_,v4⟩;rw [← Gd.eq];unfold kg;exact Gd.bind_eq p1 (Gd.ix (by omega) (by rw [Hj]; exact v1) (Gd.ix (by omega) (by rw [Hj]; exact v3) (Gd.ret rfl)))
theorem Bw {n:Net}{t:aV} (hg:dE n=some t) (ht:qd n t):∃ N:Nat,jJ n=some (N:Int)∧N≤24∧∀ s ∈ n.bJ,sW n t s<N:=by
 obtain ⟨c,hc⟩:=ht.comp;have hm:=hc.mN;have hII:uT t.bA.length t.bA:=fun a ha=>by
  obtain ⟨k,hk,rfl⟩:=IW.1 ha;have:=hc.all (k:Int) (by omega) (by omega)
  rw [vJ hk] at this;omega
 have h:Gd (jJ n) (fun r=>∃ N:Nat,r=N∧N≤24∧uT N t.bA):=by
  unfold jJ;refine Gd.bind_eq hg (Et t.bA.length ht.DP _ (fun k y n nx=>by unfold ni; rfl) _ t.bA hII (fun m hm hbm=>Gd.ret ⟨m,rfl,by have:=ht.DP; omega,hbm⟩))
 obtain ⟨r,hr,N,rfl,h1,h2⟩:=h;refine ⟨N,hr,h1,fun s hs=>?_⟩;obtain ⟨v,_,_,v3,_⟩:=zV ht (LM hs).2;have:=h2 _ (HE v3);show xz t (pos n s)<N;omega
abbrev Bf (n:Net) (t:aV) (k:Nat):Int:=acc aK.bN (fun l:aK=>sW n t l.Node) k n.bK
theorem Cs {n:Net} (hn:lP n) (t:aV) (k:Nat):0≤Bf n t k∧Bf n t k≤1200000:=by
 have h1:=w9 (f:=aK.bN) (p:=fun l:aK=>sW n t l.Node) (k:=k) (l:=n.bK) (fun l hl=>(hn.ld l hl).2.1);have h2:=zd (f:=aK.bN) (p:=fun l:aK=>sW n t l.Node) (k:=k) (B:=100000) (by omega) (l:=n.bK) (fun l hl=>(hn.ld l hl).2.2)
 have:=hn.l5;have h3:Bf n t k≤100000*(n.bK.length:Int):=h2;exact ⟨h1,by omega⟩
theorem CQ {n:Net}{t:aV} (hn:lP n) (hg:dE n=some t) (ht:qd n t) {N:Nat} (hN:jJ n=some (N:Int)) (h24:N≤24) (hpl:∀ s ∈ n.bJ,sW n t s<N):
  Gd (mS n) (fun r=>r.length=N∧∀ k (hk:k<r.length),r[k].bN=Bf n t k):=by
 have h4:=hn.l4;have h5:=hn.l5;unfold mS;refine Gd.bind_eq hg (Gd.bind_eq hN (Gd.nd ⟨by omega,by omega⟩ ?_))
 rw [Hj];refine Gd.eE (fun i ys s=>(∀ y ∈ ys,y ∈ n.dM)∧s.length=N∧∀ k (hk:k<s.length),s[k].bN=0) ?_ ?_ _ _ _ ⟨fun _ h=>h,by simp,?_⟩
 ·rintro i y ys s nx ⟨hm,hl,hk⟩ hnx
  have hy:=hm y (Hm ..);obtain ⟨hp,_⟩:=wc ht (hn.gn y hy).1;have hlt:sW n t y.Node<s.length:=by have:=hpl _ (hn.gn y hy).1; omega
  unfold oy;refine Gd.bind_eq hp (Gd.ks hlt ?_);rw [Hj,List.set_set];refine hnx _ ⟨fun z hz=>hm z (HB _ hz),by simp [hl],fun k hkl=>?_⟩
  rw [HI] at hkl;rw [MP]
  split
  ·exact hk _ hlt
  ·exact hk k hkl
 ·rintro i s ⟨_,hl,hk⟩
  refine Gd.eE (fun i ys s=>∃ pre,n.bK=pre++ys∧s.length=N∧∀ k (hk:k<s.length),s[k].bN=acc aK.bN (fun l:aK=>sW n t l.Node) k pre) ?_ ?_ _ _ _ ⟨[],rfl,hl,hk⟩
  ·rintro i y ys s nx ⟨pre,hp,hl,hk⟩ hnx
   have hy:y ∈ n.bK:=by rw [hp]; simp
   obtain ⟨hpp,_⟩:=wc ht (hn.ld y hy).1;have hlt:sW n t y.Node<s.length:=by have:=hpl _ (hn.ld y hy).1; omega
   have hyd:=hn.ld y hy;have hb1:=w9 (f:=aK.bN) (p:=fun l:aK=>sW n t l.Node) (k:=sW n t y.Node) (l:=pre) (fun l hl=>(hn.ld l (by rw [hp]; simp [hl])).2.1)
   have hb2:=zd (f:=aK.bN) (p:=fun l:aK=>sW n t l.Node) (k:=sW n t y.Node) (B:=100000) (by omega) (l:=pre) (fun l hl=>(hn.ld l (by rw [hp]; simp [hl])).2.2)
   have hpre:pre.length≤12:=by
    have:n.bK.length=pre.length+(ys.length+1):=by rw [hp]; simp
    omega
   have hkk:=hk _ hlt;have hw1:i64.wrap (s[sW n t y.Node].bN+y.bN)=s[sW n t y.Node].bN+y.bN:=bR ⟨by omega,by omega⟩
   unfold oz;refine Gd.bind_eq hpp (Gd.ks hlt (Gd.ks hlt ?_));rw [hw1,Hj];refine hnx _ ⟨pre++[y],by rw [hp]; simp,by simp [hl],fun k hkl=>?_⟩
   rw [HI] at hkl;rw [MP,tC]
   by_cases e:sW n t y.Node=k
   ·subst e
    rw [Hv rfl,Hv rfl,hkk]
   ·rw [Hs e,Hs e,hk k hkl]; omega
  ·rintro i s ⟨pre,hp,hl,hk⟩
   rw [Ij] at hp;subst hp;exact Gd.ret ⟨hl,hk⟩
 ·intro k hk
  have e:(List.replicate N ({ dI:=0,g_:=0,bN:=0 }:aO))[k]={ dI:=0,g_:=0,bN:=0 }:=List.getElem_replicate _;rw [e]
theorem Ef (l:List Int):Gd (cY l) (fun b=>b=true↔∃ v ∈ l,0<v):=by
 unfold cY dX;refine Gd.eV (P:=fun r=>0≤r↔∃ v ∈ l,0<v) ?_ (fun r hr=>Gd.ret (by simpa using hr))
 refine Gd.jH (fun m i _=>i+m=l.length∧∀ v ∈ l.take i,v≤0) ?_ ?_ (l.length:Int).toNat 0 () ⟨by omega,by simp⟩
 ·intro m i _ nx ⟨hi,hno⟩ hnx
  unfold eQ lj;refine Gd.ks (by omega) (Gd.ite (fun h=>Gd.ret ⟨fun _=>⟨l[i],IG _,by simpa using h⟩,fun _=>by omega⟩) (fun h=>hnx () ⟨by omega,?_⟩))
  rw [Ie (by omega)]
  intro v hv;rcases Ih.1 hv with hv | hv
  ·exact hno v hv
  ·simp at hv; subst hv; simpa using h
 ·intro i _ ⟨hi,hno⟩
  rw [HR (by omega)] at hno
  exact Gd.ret ⟨fun h=>by omega,fun ⟨v,hv,h⟩=>by have:=hno v hv; omega⟩
abbrev yn (n:Net) (t:aV) (k:Nat) (l:List (cP×Int)):Int:=acc (fun z:cP×Int=>z.2) (fun z:cP×Int=>sW n t z.1.Node) k l
structure Gr (n:Net) (t:aV) (p:List Int):Prop where
 len:p.length=n.dM.length
 each:∀ z ∈ n.dM.zip p,0≤z.2∧z.2≤100000∧(z.2=0∨z.1.dI≤z.2∧z.2≤z.1.g_)
 Gv:∀ k,yn n t k (n.dM.zip p)=Bf n t k
theorem Bp {n:Net}{t:aV} (hn:lP n) (hg:dE n=some t) (ht:qd n t) (hc:cG n=some 0):
  Gd (kf n) (fun x=>(x.2=14∧x.1=[])∨(x.2=0∧Gr n t x.1)):=by
 obtain ⟨N,hN,h24,hpl⟩:=Bw hg ht;have h4:=hn.l4;have h5:=hn.l5;obtain ⟨r,hr,hlen,hk⟩:=CQ hn hg ht hN h24 hpl;unfold kf;refine Gd.bind_eq hc (Gd.ite (fun h=>by simp at h) (fun _=>Gd.bind_eq hg (Gd.bind_eq hr ?_)))
 refine Gd.eE (fun i ys s=>i+ys.length=r.length∧ys=r.drop i∧s=(r.take i).map aO.bN) ?_ ?_ _ _ _ ⟨by simp,by simp,by simp⟩
 ·rintro i y ys s nx ⟨hi,hys,rfl⟩ hnx
  simp only [HD] at hi;have hlt:i<r.length:=by omega
  rw [Iu hlt] at hys;obtain ⟨rfl,rfl⟩:=MK hys;unfold nT;refine Gd.nd (by simp; omega) (hnx _ ⟨by omega,rfl,?_⟩)
  rw [Ie hlt,Jc]; rfl
 rintro i s ⟨hi,_,rfl⟩;rw [HR (by simp at hi; omega)]
 refine Gd.eE (fun i ys (s:List Int×List Int)=>∃ pre,n.dM=pre++ys∧pre.length=i∧s.1.length=N∧s.2.length=pre.length∧(∀ v ∈ s.1,0≤v)∧(∀ z ∈ pre.zip s.2,0≤z.2∧z.2≤100000∧(z.2=0∨z.1.dI≤z.2∧z.2≤z.1.g_)) ∧
   (∀ k (hk:k<s.1.length),s.1[k]+yn n t k (pre.zip s.2)=Bf n t k)) ?_ ?_ _ _ _
  ⟨[],rfl,rfl,by simp [hlen],rfl,?_,by simp,?_⟩
 ·rintro i y ys ⟨rest,out⟩ nx ⟨pre,hp,hpi,hl1,hl2,h0,he,hb⟩ hnx
  simp only at hl1 hl2 h0 he hb;have hy:y ∈ n.dM:=by rw [hp]; simp
  obtain ⟨hpp,_⟩:=wc ht (hn.gn y hy).1;have hlp:sW n t y.Node<rest.length:=by have:=hpl _ (hn.gn y hy).1; omega
  have hgy:=hn.gn y hy;have hr0:=h0 rest[sW n t y.Node] (IG _);have hb0:=hb _ hlp;have hd:=Cs hn t (sW n t y.Node);have hge:0≤yn n t (sW n t y.Node) (pre.zip out):=w9 (fun z hz=>(he z hz).1);have hpl10:pre.length<10:=by
   have:n.dM.length=pre.length+(ys.length+1):=by rw [hp]; simp
   omega
  have step:∀ p:Int,0≤p→p≤rest[sW n t y.Node]→p≤y.g_→(p=0∨y.dI≤p∧p≤y.g_) →
    Gd (jK rest out nx (sW n t y.Node:Int) rest[sW n t y.Node] p) (fun x=>(x.2=14∧x.1=[])∨(x.2=0∧Gr n t x.1)):=by
   intro p p0 pr pm pe;have hw:i64.wrap (rest[sW n t y.Node]-p)=rest[sW n t y.Node]-p:=bR ⟨by omega,by omega⟩
   have hz:(pre++[y]).zip (out++[p])=pre.zip out++[(y,p)]:=by rw [List.zip_append hl2.symm]; rfl
   unfold jK;rw [hw,Hj];refine Gd.nd (by simp; omega) (hnx _ ⟨pre++[y],by rw [hp]; simp,by simp [hpi],by simp [hl1],by simp [hl2],?_,?_,?_⟩)
   ·intro v hv
    rcases MX hv with hv | rfl
    ·exact h0 v hv
    ·omega
   ·simp only
    rw [hz];intro z hzz;rcases Ih.1 hzz with h1 | h1
    ·exact he z h1
    ·rw [IS] at h1
     subst h1;exact ⟨p0,by simp only; omega,pe⟩
   ·intro k hkl
    simp only [HI] at hkl;simp only;rw [hz];unfold yn;rw [tC,MP];have hbk:=hb k hkl;unfold yn at hbk
    by_cases e:sW n t y.Node=k
    ·subst e
     rw [Hv rfl,Hv rfl];simp only; omega
    ·rw [Hs e,Hs e]; omega
  unfold nU;refine Gd.bind_eq hpp (Gd.ks hlp (Gd.ite (fun hle=>?_) (fun _=>step 0 (by omega) (by omega) (by omega) (.inl rfl))))
  have hle:y.dI≤rest[sW n t y.Node]:=by simpa using hle
  exact step (min y.g_ rest[sW n t y.Node]) (by omega) (by omega) (by omega) (.inr ⟨by omega,by omega⟩)
 ·rintro i ⟨rest,out⟩ ⟨pre,hp,hpi,hl1,hl2,h0,he,hb⟩
  simp only at hl1 hl2 h0 he hb;rw [Ij] at hp;subst hp;refine Gd.eV (Ef rest) (fun b hb2=>Gd.ite (fun _=>Gd.ret (.inl ⟨rfl,rfl⟩)) (fun h=>Gd.ret (.inr ⟨rfl,hl2,he,fun k=>?_⟩)));have hno:∀ v ∈ rest,v=0:=fun v hv=>by
   have h1:=h0 v hv
   by_cases e:0<v
   ·have:=hb2.2 ⟨v,hv,e⟩
    rw [this] at h; cases h
   ·omega
  by_cases hkN:k<rest.length
  ·have:=hb k hkN
   rw [hno _ (IG _)] at this;show yn n t k (n.dM.zip out)=_;omega
  ·have none:∀ {α:Type} (f:α→Int) (p:α→Nat) (l:List α),(∀ x ∈ l,p x<N)→acc f p k l=0:=by
    intro α f p l
    induction l with
    | nil=>intro _; rfl
    | cons x l ih=>
     intro hx;have h1:=hx x (Hm ..);have h2:=ih (fun x h=>hx x (HB _ h));show (if p x=k then f x else 0)+acc f p k l=0
     rw [Hs (by omega),h2]; rfl
   rw [show Bf n t k=0 from none _ _ _ (fun l hl=>hpl _ (hn.ld l hl).1)];exact none _ _ _ (fun z hz=>hpl _ (hn.gn _ (List.of_mem_zip hz).1).1)
 ·intro v hv
  obtain ⟨s,hs,rfl⟩:=IQ.1 hv;obtain ⟨k,hk2,rfl⟩:=IW.1 hs;rw [hk k hk2]; exact (Cs hn t k).1
 ·intro k hkl
  simp only [JQ] at hkl;simp only [JX];rw [hk k hkl];show Bf n t k+0=_;omega
theorem yX {α β:Type}{y:α}{v:β}:∀ {pre:List α}{p:List β},p[pre.length]? = some v→(pre++[y]).zip p=pre.zip p++[(y,v)]
 | [],[],h=>by simp at h
 | [],b::p,h=>by
  have:b=v:=by simpa using h
  subst this;simp
 | a::pre,[],h=>by simp at h
 | a::pre,b::p,h=>by
  have h2:p[pre.length]? = some v:=by simpa using h
  have:=yX (y:=y) h2;simp [this]
structure BV (n:Net) (t:aV) (p:List Int):Prop where
 len:p.length=n.bJ.length
 DQ:∀ z ∈ p,-100000≤z∧z≤100000
 Gv:∀ k,pf (xz t) k 0 p=0
theorem zE {n:Net}{t:aV} (h:od n) (hn:lP n) (hg:dE n=some t) (ht:qd n t) (hc:cG n=some 0) {p:List Int} (hp:Gr n t p):
  Gd (nG n p (List.replicate n.bQ.length 0)) (fun x=>(x.2=4∧x.1=[])∨(x.2=0∧BV n t x.1)):=by
 have l1:=hn.l1;have l4:=hn.l4;have l5:=hn.l5;have l6:=h.l6;unfold nG;refine Gd.bind_eq hc (Gd.ite (fun h=>by simp at h) (fun _=>?_))
 refine Gd.ite (fun h=>absurd h (by simp [hp.len])) (fun _=>Gd.nd (by omega) ?_)
 rw [Hj];refine Gd.eE (fun i ys s=>∃ pre,n.dM=pre++ys∧pre.length=i∧s.length=n.bJ.length∧(∀ k,pf (xz t) k 0 s=yn n t k (pre.zip p))∧∀ z ∈ s,-(100000*(i:Int))≤z∧z≤100000*(i:Int)) ?_ ?_ n.dM 0 _
  ⟨[],rfl,rfl,by simp,fun k=>yB _ _ _ _,fun z hz=>by have:=MN hz; omega⟩
 ·rintro i y ys s nx ⟨pre,hpp,hpi,hsl,hb,hs⟩ hnx
  have hy:y ∈ n.dM:=by rw [hpp]; simp
  obtain ⟨q1,q2⟩:=LM (hn.gn y hy).1;have hil:i<n.dM.length:=by rw [hpp]; simp; omega
  have hip:i<p.length:=by rw [hp.len]; exact hil
  have hpi2:=Hi hip;have hzip:=yX (y:=y) (pre:=pre) (p:=p) (v:=p[i]) (by rw [hpi]; exact hpi2)
  have hmem:(y,p[i]) ∈ n.dM.zip p:=by
   refine IW.2 ⟨i,by simp [hp.len]; omega,?_⟩
   rw [List.getElem_zip]
   congr 1
   have:n.dM[i]? = some y:=by rw [hpp,H_ (by omega),hpi,I3]; rfl
   rw [Hi hil] at this;exact Hc this
  have he:=hp.each _ hmem;simp only at he;have hps:pos n y.Node<s.length:=by omega
  have hz:=hs _ (IG hps);have fin:Gd (nx (s.set ((pos n y.Node:Int)).toNat (i64.wrap (s[pos n y.Node]+p[i])))) (fun x=>(x.2=4∧x.1=[])∨(x.2=0∧BV n t x.1)):=by
   have hw:i64.wrap (s[pos n y.Node]+p[i])=s[pos n y.Node]+p[i]:=bR ⟨by omega,by omega⟩
   rw [hw,Hj];refine hnx _ ⟨pre++[y],by rw [hpp]; simp,by simp [hpi],by simp [hsl],fun k=>?_,fun z hz2=>?_⟩
   ·rw [vT _ _ _ _ _ _ hps,hb k,hzip]
    unfold yn;rw [tC,Ii];show _+(if sW n t y.Node=k then _ else _)=_
    split <;> omega
   ·rcases MX hz2 with h1 | h1
    ·have:=hs z h1; omega
    ·subst h1; omega
  unfold oV;refine Gd.ks hip (Gd.ite (fun h0=>?_) (fun h0=>?_))
  ·exact Gd.bind_eq q1 (Gd.ks hps (Gd.ks hip (Gd.ks hps fin)))
  ·have h0:p[i]≠0:=HG h0
   refine Gd.ks hip (Gd.ite (fun h1=>?_) (fun _=>Gd.ks hip (Gd.ite (fun h1=>?_) (fun _=>Gd.bind_eq q1 (Gd.ks hps (Gd.ks hip (Gd.ks hps fin)))))))
   ·have:=Ht h1; omega
   ·have:=Ht h1; omega
 ·rintro i s ⟨pre,hpp,hpi,hsl,hb,hs⟩
  rw [Ij] at hpp;subst hpp;have hb2:∀ k,pf (xz t) k 0 s=Bf n t k:=fun k=>(hb k).trans (hp.Gv k);have hs2:∀ z ∈ s,-1000000≤z∧z≤1000000:=fun z hz=>by have:=hs z hz; omega
  clear hb hs;refine Gd.eE (fun i ys s'=>∃ pre,n.bQ=pre++ys∧pre.length=i∧s'=s) ?_ ?_ n.bQ 0 _ ⟨[],rfl,rfl,rfl⟩
  ·rintro i y ys s nx ⟨pre,hpp,hpi,rfl⟩ hnx
   have hy:y ∈ n.bQ:=by rw [hpp]; simp
   obtain ⟨_,v2,v3⟩:=h.vt y hy;obtain ⟨q1,q2⟩:=LM v2;have hil:i<n.bQ.length:=by rw [hpp]; simp; omega
   have hst:(List.replicate n.bQ.length (0:Int))[i]? = some 0:=by rw [J_,Hv hil]
   have hps:pos n y.Node<s.length:=by omega
   have hz:=hs2 _ (IG hps);have hch:0≤y.lF∧y.lF≤100000∧0≤y.Discharge∧y.Discharge≤100000:=by
    simp [wY,aX,bM] at v3;omega
   have hw:i64.wrap (0-y.lF)=0-y.lF:=bR ⟨by omega,by omega⟩
   have hw2:i64.wrap (s[pos n y.Node]+0)=s[pos n y.Node]:=by rw [bR ⟨by omega,by omega⟩]; omega
   unfold oW;rw [hw];refine Gd.ix (by omega) (by rw [Hj]; exact hst) (Gd.ite (fun h1=>?_) (fun _=>Gd.ix (by omega) (by rw [Hj]; exact hst) (Gd.ite (fun h1=>?_) (fun _=>Gd.bind_eq q1 (Gd.ks hps (Gd.ix (by omega) (by rw [Hj]; exact hst) (Gd.ks hps ?_)))))))
   ·have:=Ht h1; omega
   ·have:=Ht h1; omega
   ·rw [hw2,Hj]
    exact hnx _ ⟨pre++[y],by rw [hpp]; simp,by simp [hpi],wi (Hi hps)⟩
  ·rintro i _ ⟨_,_,_,rfl⟩
   refine Gd.eE (fun i ys s'=>∃ pre,n.bK=pre++ys∧pre.length=i∧s'.length=n.bJ.length∧(∀ k,pf (xz t) k 0 s'=Bf n t k-acc aK.bN (fun l:aK=>sW n t l.Node) k pre)∧∀ z ∈ s',-(1000000+100000*(i:Int))≤z∧z≤1000000) ?_ ?_ n.bK 0 _
    ⟨[],rfl,rfl,hsl,fun k=>by rw [hb2 k]; show _=Bf n t k-0; omega,fun z hz=>by have:=hs2 z hz; omega⟩
   ·rintro i y ys s' nx ⟨pre,hpp,hpi,hsl',hb',hs'⟩ hnx
    have hy:y ∈ n.bK:=by rw [hpp]; simp
    obtain ⟨q1,q2⟩:=LM (hn.ld y hy).1;have hd:=(hn.ld y hy).2;have hil:i<n.bK.length:=by rw [hpp]; simp; omega
    have hps:pos n y.Node<s'.length:=by omega
    have hz:=hs' _ (IG hps);have hw:i64.wrap (s'[pos n y.Node]-y.bN)=s'[pos n y.Node]-y.bN:=bR ⟨by omega,by omega⟩
    unfold oX;refine Gd.bind_eq q1 (Gd.ks hps (Gd.ks hps ?_));rw [hw,Hj];refine hnx _ ⟨pre++[y],by rw [hpp]; simp,by simp [hpi],by simp [hsl'],fun k=>?_,fun z hz2=>?_⟩
    ·rw [vT _ _ _ _ _ _ hps,hb' k,tC,Ii]
     show _+(if sW n t y.Node=k then _ else _)=_
     split <;> omega
    ·rcases MX hz2 with h1 | h1
     ·have:=hs' z h1; omega
     ·subst h1; omega
   ·rintro i s' ⟨pre,hpp,hpi,hsl',hb',hs'⟩
    rw [Ij] at hpp;subst hpp;refine Gd.eE (fun i ys _=>∃ pre,s'=pre++ys∧∀ z ∈ pre,-100000≤z∧z≤100000) ?_ ?_ s' 0 _ ⟨[],rfl,fun z hz=>by simp at hz⟩
    ·rintro i y ys _ nx ⟨pre,hpp,hr⟩ hnx
     unfold oY;refine Gd.ite (fun _=>Gd.ret (.inl ⟨rfl,rfl⟩)) (fun h1=>hnx () ⟨pre++[y],by rw [hpp]; simp,fun z hz=>?_⟩)
     simp only [MA,NH] at h1;rcases Ih.1 hz with h2 | h2
     ·exact hr z h2
     ·rw [IS] at h2
      subst h2; omega
    ·rintro i _ ⟨pre,hpp,hr⟩
     rw [Ij] at hpp;subst hpp;exact Gd.ret (.inr ⟨rfl,hsl',hr,fun k=>by rw [hb' k]; show Bf n t k-Bf n t k=0; omega⟩)
theorem Bn {n:Net}{t:aV} (h:od n) (hn:lP n) (hg:dE n=some t) (ht:qd n t) (hc:cG n=some 0):
  Gd (iL n) (fun x=>(x.2≠0∧x.1=[])∨(x.2=0∧BV n t x.1)):=by
 have l6:=h.l6;unfold iL;refine Gd.eV (Bp hn hg ht hc) (fun x hx=>?_);rcases hx with ⟨e,_⟩ | ⟨e,hb⟩
 ·rw [e]
  exact Gd.ite (fun _=>Gd.ret (.inl ⟨by simp,rfl⟩)) (fun h=>by simp at h)
 ·rw [e]
  refine Gd.ite (fun h=>by simp at h) (fun _=>Gd.nd (by omega) ?_)
  rw [Hj];refine Gd.eV (zE h hn hg ht hc hb) (fun y hy=>Gd.ret ?_);rcases hy with ⟨e1,e2⟩ | hy
  ·exact .inl ⟨by simp only; omega,e2⟩
  ·exact .inr hy
theorem Bi {n:Net}{t:aV} (hg:dE n=some t) (ht:qd n t) (hn:lP n) (hc:cG n=some 0) {p:List Int} (hp:BV n t p):kE n p=some 0:=by
 have l1:=hn.l1;rw [← Gd.eq];unfold kE;refine Gd.bind_eq hc (Gd.ite (fun h=>by simp at h) (fun _=>Gd.ite (fun h=>absurd h (by simp [hp.len])) (fun _=>Gd.bind_eq hg ?_)))
 refine Gd.eE (fun i ys (l:List (Int×Int))=>∃ pre,p=pre++ys∧pre.length=i∧xK l∧(∀ z ∈ l,∃ k:Nat,z.1=(k:Int))∧∀ k:Nat,(nA l (k:Int)).getD 0=pf (xz t) k 0 pre) ?_ ?_ p 0 _ ⟨[],rfl,rfl,xK.nil,fun z hz=>by simp at hz,fun k=>by simp [nA,ru,pf]⟩
 ·rintro i y ys l nx ⟨pre,hpp,hpi,hk,hkey,hs⟩ hnx
  have hy:=hp.DQ y (by rw [hpp]; simp)
  have hpl:p.length=pre.length+(ys.length+1):=by rw [hpp]; simp
  have hpn:=hp.len;obtain ⟨v,v1,v2,v3,v4⟩:=zV ht (show i<n.bJ.length by omega)
  have hbd:=AI (xz t) (xz t i) (B:=100000) (by omega) pre 0 (fun z hz=>hp.DQ z (by rw [hpp]; simp [hz]))
  have hw:i64.wrap ((nA l (xz t i:Int)).getD 0+y)=(nA l (xz t i:Int)).getD 0+y:=by
   rw [hs (xz t i)];exact bR ⟨by omega,by omega⟩
  unfold pG;refine Gd.ite (fun h=>?_) (fun _=>Gd.ix (by omega) (by rw [Hj]; exact v1) (Gd.ix (by omega) (by rw [Hj]; exact v3) ?_))
  ·exfalso
   simp only [Jl,IN] at h;omega
  ·rw [hw]
   refine hnx _ ⟨pre++[y],by rw [hpp]; simp,by simp [hpi],(hk.put _ _).1,fun z hz=>?_,fun k=>?_⟩
   ·rcases ((hk.put _ _).2 z).1 hz with h1 | h1
    ·exact ⟨xz t i,by rw [h1]⟩
    ·exact hkey z h1.1
   ·rw [hk.Aw,yA]
    show _=_+((if xz t (0+pre.length)=k then y else 0)+0)
    rw [Ii,hpi]
    by_cases e:xz t i=k
    ·subst e
     rw [Hv rfl,Hv rfl,JK,hs]; omega
    ·rw [Hs (by omega),Hs e,hs]; omega
 ·rintro i l ⟨pre,hpp,hpi,hk,hkey,hs⟩
  rw [Ij] at hpp;subst hpp;have:(l.any fun p=>!decide (p.2=0))=false:=by
   rw [List.any_eq_false];intro z hz;obtain ⟨k,hk2⟩:=hkey z hz;have h1:nA l (k:Int)=some z.2:=hk.find.2 (by rw [← hk2]; exact hz)
   have h2:=hs k;rw [h1,JK,hp.Gv k] at h2;simp [h2]
  rw [this];exact Gd.ret rfl
theorem DK (l:List ByteArray):gT l l=some true:=by
 rw [← Gd.eq];unfold gT;refine Gd.ite (fun h=>by simp at h) (fun _=>?_)
 refine Gd.jH (Q:=fun x=>x=true) (fun m i (_:Unit)=>i+m=l.length) ?_ (fun _ _ _=>Gd.ret rfl) ((l.length:Int)).toNat 0 () (by omega)
 intro m i _ nx hi hnx;unfold kY;exact Gd.ks (by omega) (Gd.ks (by omega) (Gd.ite (fun h=>by simp at h) (fun _=>hnx () (by omega))))
theorem Cq {s:ByteArray} (h:∃ q,fits q∧s=ctext q):s.size≤maxLen:=by
 obtain ⟨q,hq,rfl⟩:=h;have:=zx hq;unfold maxLen; omega
theorem BO {n:Net}{p:List Int} (h:od n) (hn:lP n) {t:aV} (hg:dE n=some t) (ht:qd n t) (hc:kE n p=some 0) {s:eM} (hs:Fk n t s) (hr:lh n p=some (s,0)):qW n p s=some 0:=by
 have hN:=ht.DP;have h24:=h.l3;rw [← Gd.eq];unfold qW;refine Gd.bind_eq hc (Gd.ite (fun h=>by simp at h) (fun _=>?_))
 refine Gd.eV (yz h hn hg ht) ?_;rintro _ ⟨M,rfl,hM⟩;simp only [Bx];unfold dV;rw [hM.top,hs.al,hs.fl];refine Gd.ite (fun _=>Gd.ite (fun h=>by simp at h) (fun _=>?_)) (fun h=>by simp at h)
 refine Gd.seen (l:=[s.nh,s.mD]) (fun _ _=>True) ?_ ?_ () Hh
 ·rintro i y _ nx pre hpre _ hnx
  have hy:=(q8 hpre).2.1;unfold rj;have hcv:oC y=some 0:=by
   rw [← Gd.eq];have hlen:y.length≤24∧∀ x ∈ y,∃ q,fits q∧x=ctext q:=by
    rcases Ix.1 hy with rfl | hy
    ·exact ⟨by rw [hs.al]; exact hN,hs.a⟩
    ·rw [IS] at hy
     subst hy;exact ⟨by rw [hs.fl]; exact h24,hs.f⟩
   unfold oC;refine Gd.ite (fun h=>absurd (Ht h) (by omega)) (fun _=>Gd.eV (yd (fun x hx=>Cq (hlen.2 x hx))) (fun c hc=>Gd.ret (hc.2 hlen.2)))
  exact Gd.bind_eq hcv (Gd.ite (fun h=>by simp at h) (fun _=>hnx () Hh))
 ·rintro _ _
  refine Gd.bind_eq hr (Gd.ite (fun _=>?_) (fun h=>by simp at h))
  exact Gd.bind_eq (DK _) (Gd.ite (fun _=>Gd.bind_eq (DK _) (Gd.ite (fun h=>by simp at h) (fun _=>Gd.ret rfl))) (fun h=>by simp at h))
theorem mE.Gz {n:Net} (h:mE n) (a b:Nat):mE (aC.mk n.bJ n.bF n.aN (lK n.dM 0 a) (lK n.bK 0 b) n.bQ):=
 ⟨h.nd,h.sw,h.br,fun x hx=>h.gn x (by unfold lK at hx; simp at hx; exact JY hx),fun x hx=>h.ld x (by unfold lK at hx; simp at hx; exact JY hx),h.st⟩
theorem tI (n:Net) (hz:mE n):(∃ e,e≠0∧iL n=some ([],e)) ∨
  (∃ t p s,od n∧lP n∧dE n=some t∧qd n t∧BV n t p∧iL n=some (p,0)∧kE n p=some 0∧lh n p=some (s,0)∧Fk n t s∧qW n p s=some 0):=by
 obtain ⟨e,he,hok⟩:=check_sound n hz
 by_cases h0:e=0
 ·subst h0
  have hV:=hok rfl;have hn:=hV.ok hz;obtain ⟨t,hg,ht⟩:=EN hn;obtain ⟨⟨p,x⟩,hi,hx⟩:=Bn hV hn hg ht he;rcases hx with ⟨hne,hp⟩ | ⟨hx,hb⟩
  ·left
   simp only at hne hp;subst hp;exact ⟨x,hne,hi⟩
  ·right
   simp only at hx hb;subst hx;have hc:=Bi hg ht hn he hb;obtain ⟨⟨s,y⟩,hs,hy,hst⟩:=DC hV hn hg ht hb.len hb.DQ hc;simp only at hy hst;subst hy;exact ⟨t,p,s,hV,hn,hg,ht,hb,hi,hc,hs,hst,BO hV hn hg ht hc hst hs⟩
 ·left
  refine ⟨e,h0,?_⟩;have hsh:kf n=some ([],e):=by
   rw [← Gd.eq];unfold kf;exact Gd.bind_eq he (Gd.ite (fun _=>Gd.ret rfl) (fun h=>absurd (by simpa using h) h0))
  rw [← Gd.eq];unfold iL;exact Gd.bind_eq hsh (Gd.ite (fun _=>Gd.ret rfl) (fun h=>absurd (by simpa using h) h0))
instance GF (p:ByteArray) (l:List ByteArray):Decidable (p ∈ l):=@List.instDecidableMemOfLawfulBEq _ instBEqOfDecidableEq inferInstance p l
theorem sA (l:List ByteArray) (p:ByteArray):bU l p=some (decide (p ∈ l)):=by
 obtain ⟨b,e,h⟩:=pW l p;rw [e]
 congr 1
 cases b <;> simp_all
theorem zz {α:Type} (p:α→Option Bool) (kp:α→Bool) (hp:∀ x,p x=some (!kp x)) (z:α) (A:List α) (hA:A.length≤100000):
  Gd ((jH (fun k (_:Unit) n=>idx A (k:Int) fun y=>(p y).bind fun r=>if r then (some (k:Int)) else (n ())) (fun _=>some (-1)) ((A.length:Int)).toNat 0 ()).bind fun r=>
   if decide (r=(-1)) then (some A) else (fV (fun (s:List α×Int×Int) n=>if decide (s.2.2<(s.1.length:Int)) then (idx s.1 s.2.2 fun y=>(p y).bind fun r=>if !r then (idx s.1 s.2.1 fun _=>n (s.1.set (s.2.1).toNat y,i64.wrap (s.2.1+1),i64.wrap (s.2.2+1))) else (n (s.1,s.2.1,i64.wrap (s.2.2+1))))
    else (dH (0≤s.2.1∧s.2.1≤(s.1.length:Int)) (dH (0≤s.2.1∧s.2.1≤((s.1.take (s.2.1).toNat++List.replicate (s.1.length-(s.2.1).toNat) z).length:Int)) (some (lK (s.1.take (s.2.1).toNat++List.replicate (s.1.length-(s.2.1).toNat) z) 0 (s.2.1).toNat))))) eT (A,r,i64.wrap (r+1)))) (fun r=>r=A.filter kp):=by
 refine Gd.eV (P:=fun r=>(r = -1∧∀ x ∈ A,kp x=true)∨∃ (i:Nat) (h:i<A.length),r=i∧kp A[i]=false∧∀ x ∈ A.take i,kp x=true) ?_ (fun r hr=>?_)
 ·refine Gd.jH (fun m i _=>i+m=A.length∧∀ x ∈ A.take i,kp x=true) ?_ ?_ (A.length:Int).toNat 0 () ⟨by omega,by simp⟩
  ·intro m i _ nx ⟨hi,hno⟩ hnx
   have hlt:i<A.length:=by omega
   refine Gd.ks hlt ?_;rw [hp];refine Gd.ite (fun h=>Gd.ret (.inr ⟨i,hlt,rfl,by simpa using h,hno⟩)) (fun h=>hnx () ⟨by omega,?_⟩)
   rw [Ie hlt];intro x hx;rcases Ih.1 hx with hx | hx
   ·exact hno x hx
   ·simp at hx; subst hx; simpa using h
  ·intro i _ ⟨hi,hno⟩
   rw [HR (by omega)] at hno
   exact Gd.ret (.inl ⟨rfl,hno⟩)
 ·rcases hr with ⟨rfl,hall⟩ | ⟨i,hi,rfl,hki,hpre⟩
  ·exact Gd.ite (fun _=>Gd.ret (LA.2 hall).symm) (fun h=>by simp at h)
  ·refine Gd.ite (fun h=>by simp at h) (fun _=>?_)
   have hw0:i64.wrap ((i:Int)+1)=((i+1:Nat):Int):=by rw [bR ⟨by omega,by omega⟩]; omega
   rw [hw0];have hinit:A.take i=(A.take (i+1)).filter kp:=by
    rw [Ie hi,JS,LA.2 hpre];simp [MO,hki]
   refine Gd.fV (fun (s:List α×Int×Int)=>∃ p q:Nat,s.2.1=p∧s.2.2=q∧p<q∧q≤A.length∧s.1.length=A.length∧s.1.take p=(A.take q).filter kp∧s.1.drop q=A.drop q) (fun s=>A.length-s.2.2.toNat) ?_ eT _ ⟨i,i+1,rfl,rfl,by omega,by omega,rfl,hinit,rfl⟩ (by unfold eT; omega)
   rintro ⟨l,n1,n2⟩ nx ⟨p,q,h1,h2,hpq,hqA,hl,htk,hdr⟩ hn;simp only at h1 h2 hl htk hdr;subst h1; subst h2
   have hwq:i64.wrap ((q:Int)+1)=((q+1:Nat):Int):=by rw [bR ⟨by omega,by omega⟩]; omega
   have hwp:i64.wrap ((p:Int)+1)=((p+1:Nat):Int):=by rw [bR ⟨by omega,by omega⟩]; omega
   rw [hwq];refine Gd.ite (fun h=>?_) (fun h=>?_)
   ·have hq:q<l.length:=by
     have:(q:Int)<((l.length:Nat):Int):=by simpa using h
     omega
    have hqa:q<A.length:=by omega
    have hv:l[q]=A[q]:=by
     have e1:=Iu hq;have e2:=Iu hqa;rw [hdr,e2] at e1;exact (MK e1).1.symm
    have hd2:l.drop (q+1)=A.drop (q+1):=by
     have:=HH (List.drop 1) hdr;simpa [Jt] using this
    have htk2:(A.take (q+1)).filter kp=(A.take q).filter kp++(if kp A[q] then [A[q]] else []):=by
     rw [Ie hqa,JS]
     congr 1
     simp only [MO,List.filter_nil]
    refine Gd.ks hq ?_;rw [hp,hv];refine Gd.ite (fun hk=>Gd.ks (show p<l.length by omega) ?_) (fun hk=>?_)
    ·have hk:kp A[q]=true:=by simpa using hk
     rw [hwp,Hj];refine hn _ ⟨p+1,q+1,rfl,rfl,by omega,by omega,by simpa using hl,?_,?_⟩ (by simp only [Hj]; omega)
     ·simp only
      have hp:p<(l.set p A[q]).length:=by simp; omega
      rw [Ie hp,List.getElem_set_self,htk2,Hv hk,Ki (HQ p),htk]
     ·simp only
      rw [Kg (by omega),hd2]
    ·have hk:kp A[q]=false:=by simpa using hk
     refine hn _ ⟨p,q+1,rfl,rfl,by omega,by omega,hl,?_,hd2⟩ (by simp only [Hj]; omega)
     simp only;rw [htk2,Hs (by simp [hk]),Ij,htk]
   ·have hq:l.length≤q:=by
     have:((l.length:Nat):Int)≤(q:Int):=by simpa using h
     omega
    have hqe:q=A.length:=by omega
    refine Gd.nd ⟨MG p,show (p:Int)≤((l.length:Nat):Int) by omega⟩ (Gd.nd ⟨MG p,?_⟩ (Gd.ret ?_))
    ·simp only [Hj,HZ,Ic,I0]; omega
    ·unfold lK
     rw [Jb,Lp,Hj,List.take_append_of_le_length (by simp; omega),LS,Nat.min_self,htk,hqe,JA]
def AA (W:List BA) (x:aK):Bool:=decide (x.Name ∈ W)
theorem del_eq (W:List BA) (x:aK):jN x W=some (!AA W x):=by
 unfold jN;rw [sA]; rfl
theorem zy (W:List BA) (A:List aK) (hA:A.length≤1000):Gd (c_ A W) (fun r=>r=A.filter (AA W)):=
 zz (fun y=>jN y W) (AA W) (del_eq W) (aK.mk ⟨#[]⟩ ⟨#[]⟩ 0) A (by omega)
theorem BK {l:List ByteArray}{k:Nat}:lK l 0 k=l.take k:=by unfold lK; simp
def uc (n:Net) (on:List ByteArray):Net:=aC.mk n.bJ n.bF n.aN n.dM (n.bK.filter (AA on)) n.bQ
theorem A1 {n:Net} (h:od n) (on:List ByteArray):kV n on=some (uc n on):=by
 have:=h.l1; have:=h.l2; have:=h.l3; have:=h.l4; have:=h.l5; have:=h.l6
 rw [← Gd.eq];unfold kV nO;refine Gd.eV (P:=fun r=>r=n) (Gd.nd (by omega) (Gd.nd (by omega) (Gd.nd (by omega) (Gd.nd (by omega) (Gd.nd (by omega) (Gd.nd (by omega) (Gd.ret rfl))))))) (fun r hr=>?_)
 subst hr;refine Gd.eV (zy on r.bK (by omega)) (fun l hl=>Gd.ret ?_)
 rw [hl]; rfl
theorem mE.uc {n:Net} (h:mE n) (on:List ByteArray):mE (uc n on):=
 ⟨h.nd,h.sw,h.br,h.gn,fun x hx=>h.ld x (I6.1 hx).1,h.st⟩
theorem DX {n:Net}{on:List ByteArray}{e:Int} (h:dW n on=some e) (h0:e≠0):kU n on=some (aC.mk [] [] [] [] [] [],e):=by
 rw [← Gd.eq];unfold kU;exact Gd.bind_eq h (Gd.ite (fun _=>Gd.ret rfl) (fun k=>absurd (by simpa using k) h0))
theorem DY {n:Net} (hV:od n) {on:List ByteArray} (h:dW n on=some 0):kU n on=some (uc n on,0):=by
 rw [← Gd.eq];unfold kU;exact Gd.bind_eq h (Gd.ite (fun k=>by simp at k) (fun _=>Gd.bind_eq (A1 hV on) (Gd.ret rfl)))
def xo (z:bH×Rat):Prop:=(z.1.kr:Rat)<FM z.2
open Classical in
noncomputable def wb (z:bH×Rat):List ByteArray:=if xo z then [z.1.Name] else []
theorem Bz {z:bH×Rat} (h:xo z):wb z=[z.1.Name]:=Hv h
theorem Dd {z:bH×Rat} (h:¬ xo z):wb z=[]:=Hs h
theorem Dp:∀ {l:List ByteArray},(∀ x ∈ l,∃ q,fits q∧x=ctext q)→∃ qs:List Rat,l=qs.map ctext∧∀ q ∈ qs,fits q
 | [],_=>⟨[],rfl,fun q h=>by cases h⟩
 | x::l,h=>by
  obtain ⟨q,hq,rfl⟩:=h x (Hm ..);obtain ⟨qs,rfl,hf⟩:=Dp (l:=l) (fun y hy=>h y (HB _ hy));refine ⟨q::qs,rfl,fun p hp=>?_⟩;rcases Ix.1 hp with rfl | hp
  ·exact hq
  ·exact hf p hp
theorem DN {bs:List bH}{qs:List Rat}{i:Nat} (h:i<bs.length) (h':i<qs.length):
  ((bs.zip qs).take (i+1)).flatMap wb=((bs.zip qs).take i).flatMap wb++wb (bs[i],qs[i]):=by
 have hz:i<(bs.zip qs).length:=by simp; omega
 rw [Ie hz,Mp,List.getElem_zip];simp
theorem AP {n:Net} (hV:od n) {qs:List Rat} (hl:qs.length=n.aN.length) (hf:∀ q ∈ qs,fits q):
  mT n (qs.map ctext)=some ((n.aN.zip qs).flatMap wb):=by
 have h3:=hV.l3;rw [← Gd.eq];unfold mT;refine Gd.eE (fun i (ys:List bH) (w:List ByteArray)=>i+ys.length=n.aN.length∧n.aN.drop i=ys∧w.length≤i∧w=((n.aN.zip qs).take i).flatMap wb) ?_ ?_ n.aN 0 [] ⟨by simp,rfl,by simp,by simp⟩
 ·rintro i y ys w nx ⟨hi,hd,hw,hv⟩ hnx
  simp only [HD] at hi;have hib:i<n.aN.length:=by omega
  have hiq:i<qs.length:=by omega
  have hy:n.aN[i]=y:=by
   have e:=Iu hib;rw [hd] at e; exact (MK e).1.symm
  have hd':n.aN.drop (i+1)=ys:=by
   have:=HH (List.drop 1) hd;simpa [Jt] using this
  have hL:=(Cj hV (IG hib)).l;have hst:=DN hib hiq;rw [← hv] at hst;unfold oF lD;refine Gd.ks (by simpa using hiq) ?_
  rw [JX];refine Gd.eV (Df (hf _ (IG hiq))) (fun a ha=>Gd.eV (EG ha.1 ha.2.1 (by omega)) (fun b hb=>?_))
  rw [← hy];refine Gd.eV (sG ⟨by omega,by omega⟩) (fun c hc=>Gd.eV (EI hb.1 hc.1 hb.2.1 hc.2.1 (by omega)) (fun d hd2=>?_))
  rw [hb.2.2,hc.2.2,ha.2.2] at hd2;have hov:0<d↔xo (n.aN[i],qs[i]):=hd2.1;clear hd2;refine Gd.ite (fun h=>Gd.nd ?_ (hnx _ ⟨by omega,hd',?_,?_⟩)) (fun h=>hnx _ ⟨by omega,hd',by omega,?_⟩)
  ·simp only [HD,MU]; omega
  ·simp; omega
  ·rw [hst,Bz (hov.1 (Ht h))]
  ·rw [hst,Dd (fun k=>HG h (hov.2 k)),Ij]
 ·rintro i w ⟨hi,_,_,hv⟩
  rw [HR (by simp at hi ⊢; omega)] at hv
  exact Gd.ret hv
theorem zT {c:Net} (hz:mE c):∃ e,iF c=some e:=by
 suffices h:Gd (iF c) (fun _=>True) by
  obtain ⟨e,he,_⟩:=h;exact ⟨e,he⟩
 unfold iF;refine Gd.eV (P:=fun _=>True) ?_ (fun r _=>Gd.ite (fun _=>Gd.ret Hh) (fun _=>Gd.ret Hh));unfold gO;rcases tI c hz with ⟨x,hx,hi⟩ | ⟨t,p,s,hV,hn,hg,ht,hb,hi,hfc,hs,hst,hv⟩
 ·exact Gd.bind_eq hi (Gd.ite (fun _=>Gd.ret Hh) (fun k=>absurd (by simpa using k) hx))
 ·obtain ⟨qs,hq,hqf⟩:=Dp hst.f
  have hql:qs.length=c.aN.length:=by
   have:=hst.fl;rw [hq,JQ] at this;exact this
  have ho:=AP hV (qs:=qs) hql hqf;rw [← hq] at ho;exact Gd.bind_eq hi (Gd.ite (fun k=>by simp at k) (fun _=>Gd.bind_eq hs (Gd.ite (fun k=>by simp at k) (fun _=>Gd.bind_eq ho (Gd.ret Hh)))))
def yI (n:Net) (l:List ByteArray):Prop:=iF (uc n l)=some 0
def nm (n:Net):List ByteArray:=n.bK.map (·.Name)
theorem C8 {n:Net} (h:od n):(nm n).Nodup:=by
 have:=h.nd;unfold names at this;exact (I1.1 (I1.1 this).1).2.1
theorem xw (n:Net):(nm n).length=n.bK.length:=by simp [nm]
theorem Dz (l:List ByteArray):lK l 0 ((l.length:Int)).toNat=l:=by simp [lK]
structure Found (n:Net) (l out:List ByteArray):Prop where
 ext:out.take l.length=l
 len:out.length=n.bK.length
 ok:∀ k,l.length≤k→k≤out.length→yI n (out.take k)
 set:l.Nodup→(∀ x ∈ l,x ∈ nm n)→out.Nodup∧∀ x ∈ out,x ∈ nm n

theorem rm:eA=some true:=by kernel_rfl
theorem B0 {n:Net}{on:List ByteArray}{e:Int} (h:dW n on=some e) (h0:e≠0):eJ n on=some (eM.mk [] [],[],e):=by
 rw [← Gd.eq];unfold eJ;exact Gd.bind_eq (DX h h0) (Gd.ite (fun _=>Gd.ret rfl) (fun k=>absurd (by simpa using k) h0))
theorem BQ {n:Net} (hc:cG n=some 0) (l:List ByteArray) (hl:l.length≤1000) (hnd:l.Nodup) (hs:∀ x ∈ l,x ∈ nm n):dW n l=some 0:=by
 rw [← Gd.eq];unfold dW;refine Gd.bind_eq hc (Gd.ite (fun h=>by simp at h) (fun _=>?_))
 refine Gd.eE (Q:=fun e=>e=0) (fun i (ys:List ByteArray) (_:Unit)=>i+ys.length=l.length∧l.drop i=ys) ?_ (fun _ _ _=>Gd.ret rfl) l 0 () ⟨by simp,rfl⟩
 rintro i y ys _ nx ⟨hi,hd⟩ hnx;simp only [HD] at hi;have hil:i<l.length:=by omega
 have hy:l[i]=y:=by
  have e:=Iu hil;rw [hd] at e; exact (MK e).1.symm
 have hd':l.drop (i+1)=ys:=by
  have:=HH (List.drop 1) hd;simpa [Jt] using this
 have hmem:y ∈ nm n:=hs y (hy▸IG hil);obtain ⟨q,hq,hqy⟩:=IW.1 hmem;rw [xw] at hq;have hqy:n.bK[q].Name=y:=by simpa [nm] using hqy
 unfold n6;refine Gd.eV (P:=fun b=>b=true) ?_ (fun b hb=>?_)
 ·unfold cS dB
  refine Gd.eV (P:=fun r=>(0:Int)≤r) ?_ (fun r hr=>Gd.ret (by simpa using hr))
  refine Gd.jH (Q:=fun r=>(0:Int)≤r) (fun m i (_:Unit)=>i+m=n.bK.length∧i≤q) ?_ (fun i _ h=>by omega) ((n.bK.length:Int)).toNat 0 () ⟨by omega,by omega⟩
  rintro m i _ nx ⟨hi,hiq⟩ hnx;unfold dS;refine Gd.ks (by omega) (Gd.ite (fun _=>Gd.ret (by omega)) (fun h=>hnx () ⟨by omega,?_⟩))
  refine Nat.lt_of_le_of_ne hiq (fun e=>?_);subst e;simp [lC,hqy] at h
 ·subst hb
  refine Gd.ite (fun h=>by simp at h) (fun _=>Gd.nd (by omega) ?_)
  rw [sA,BK,Hj];refine Gd.ite (fun h=>?_) (fun _=>hnx () ⟨by omega,hd'⟩)
  exfalso;have h:=Ht h;obtain ⟨p,hp,hp2⟩:=List.mem_take_iff_getElem.1 h;rw [← hy] at hp2;have:p=i:=(List.getElem_inj hnd).1 hp2;omega
def nC (off:List BA) (x:BA):Bool:=!decide (x ∈ off)
theorem Ey (off:List BA) (x:BA):gJ x off=some (!nC off x):=by
 unfold gJ nC;rw [sA,Bool.not_not]; rfl
theorem BG (off A:List BA) (hA:A.length≤1000):Gd (dA A off) (fun r=>r=A.filter (nC off)):=
 zz (fun y=>gJ y off) (nC off) (Ey off) ⟨#[]⟩ A (by omega)
def wD (n:Net) (names off:List BA):Prop:=yI n (names.filter (nC off))
theorem A_ {n:Net} (hz:mE n) (hV:od n) (names off:List BA) (hl:names.length≤1000):Gd (kT off names n) (fun b=>b=true↔wD n names off):=by
 unfold kT;refine Gd.nd (by omega) (Gd.eV (BG off names hl) (fun r hr=>?_))
 subst hr;obtain ⟨e,he⟩:=zT (hz.uc (names.filter (nC off)));refine Gd.bind_eq (A1 hV _) (Gd.bind_eq he (Gd.ret ?_));unfold wD yI;rw [he];constructor
 ·intro h; rw [Ht h]
 ·intro h; exact NI (Hc h)
theorem DD {y:BA}{s L:List BA}{m:Nat} (h:s.Sublist (y::L)) (hl:s.length=m+1):s.Sublist L∨∃ s',s=y::s'∧s'.Sublist L∧s'.length=m:=by
 cases h with
 | cons _ h=>exact .inl h
 | cons_cons _ h=>exact .inr ⟨_,rfl,h,by simpa using hl⟩
theorem vq {n:Net} (hz:mE n) (hV:od n) (names:List BA) (hl:names.length≤12):∀ (m:Nat) (off:List BA) (i:Nat),off.length+m≤1000→i≤names.length→∀ f,m<f →
  Gd (cX f names off (i:Int) (m:Int) names n) (fun r=>
   (r.2=true→∃ s,r.1=off++s∧s.Sublist (names.drop i)∧s.length=m∧wD n names r.1) ∧
   (r.2=false→∀ s,s.Sublist (names.drop i)→s.length=m→¬ wD n names (off++s)))
 | m,off,i,ho,hi,0,hf=>by omega
 | m,off,i,ho,hi,f+1,hf=>by
  show Gd (dK (cX f) names off i m names n) _;unfold dK;refine Gd.ite (fun h=>?_) (fun h=>?_)
  ·have hm:m=0:=by have:=Ht h; omega
   subst hm;refine Gd.eV (A_ hz hV names off (by omega)) (fun b hb=>Gd.ret ⟨fun h=>⟨[],by simp,by simp,rfl,hb.1 h⟩,fun h s hs h0 ha=>?_⟩)
   have hs0:=H6 h0;subst hs0;rw [Ij] at ha;have:=hb.2 ha;simp only at h;rw [h] at this; cases this
  ·obtain ⟨k,rfl⟩:∃ k,m=k+1:=⟨m-1,by have:=HG h; omega⟩
   have hwm:i64.wrap (((k+1:Nat):Int)-1)=(k:Int):=by rw [bR ⟨by omega,by omega⟩]; omega
   refine Gd.fV (fun (s:Int)=>∃ j:Nat,s=j∧i≤j∧j≤names.length∧∀ s,s.Sublist (names.drop i)→s.length=k+1→¬ wD n names (off++s)∨s.Sublist (names.drop j)) (fun s=>names.length-s.toNat) ?_ eT _ ⟨i,rfl,HQ _,hi,fun s hs _=>.inr hs⟩ (by unfold eT; omega)
   rintro _ nx ⟨j,rfl,hij,hj,hI⟩ hn;unfold gK;refine Gd.ite (fun h=>?_) (fun h=>Gd.ret ⟨fun h=>by simp at h,fun _ s hs hs1 ha=>?_⟩)
   ·have hjl:j<names.length:=by have:=Ht h; omega
    have hwj:i64.wrap ((j:Int)+1)=((j+1:Nat):Int):=by rw [bR ⟨by omega,by omega⟩]; omega
    have hd:=Iu hjl;rw [hwj,hwm];refine Gd.nd (by omega) (Gd.ks hjl ?_)
    rw [Dz];refine Gd.nd (by simp only [HD,MU]; omega) ?_
    refine Gd.eV (vq hz hV names hl k (off++[names[j]]) (j+1) (by simp; omega) hjl f (by omega)) (fun r hr=>Gd.ite (fun h=>Gd.ret ⟨fun _=>?_,fun h=>by simp at h⟩) (fun h=>hn _ ⟨j+1,rfl,by omega,hjl,fun s hs hs1=>?_⟩ (by simp only [Hj]; omega)))
    ·obtain ⟨s,h1,h2,h3,h4⟩:=hr.1 h
     refine ⟨names[j]::s,by simp [h1],?_,by simp [h3],h4⟩
     refine (h2.cons_cons _).trans ?_;rw [← hd];obtain ⟨d,rfl⟩:∃ d,j=i+d:=⟨j-i,by omega⟩
     rw [← Jt];exact List.drop_sublist _ _
    ·rcases hI s hs hs1 with h' | h'
     ·exact .inl h'
     ·rw [hd] at h'
      rcases DD h' hs1 with h' | ⟨s',rfl,h2,h3⟩
      ·exact .inr h'
      ·have:=hr.2 h s' h2 h3
       rw [Ia] at this;exact .inl this
   ·have hjl:j=names.length:=by have:=HG h; omega
    rcases hI s hs hs1 with h' | h'
    ·exact h' ha
    ·rw [hjl,KE] at h'
     rw [List.sublist_nil.1 h'] at hs1;simp at hs1
theorem A7 {n:Net} (hz:mE n) (hV:od n) (on:List BA) (hc:dW n on=some 0) (hl:on.length≤5) (names:List BA) (hnm:names=(nm n).filter (fun x=>decide (x ∈ on))):
  Gd (gS n on) (fun r=>(r.2=0∧r.1.Sublist names∧wD n names r.1∧∀ s,s.Sublist names→s.length<r.1.length→¬ wD n names s) ∨
   (r=([],8)∧∀ s,s.Sublist names→¬ wD n names s)):=by
 have hnl:=xw n;have h5:=hV.l5;have hnll:names.length≤12:=by
  rw [hnm]; exact I2 (MT _ _) (by omega)
 unfold gS;refine Gd.bind_eq hc (Gd.ite (fun h=>by simp at h) (fun _=>Gd.ite (fun h=>?_) (fun _=>?_)))
 ·have:=Ht h
  omega
 refine Gd.eE (fun i (ys:List aK) (w:List BA)=>i+ys.length=n.bK.length∧n.bK.drop i=ys∧w=((nm n).take i).filter (fun x=>decide (x ∈ on))∧w.length≤i) ?_ ?_ n.bK 0 [] ⟨by simp,rfl,by simp,by simp⟩
 ·rintro i y ys w nx ⟨hi,hd,hw,hwl⟩ hnx
  simp only [HD] at hi;have hil:i<n.bK.length:=by omega
  have hy:n.bK[i]=y:=by
   have e:=Iu hil;rw [hd] at e; exact (MK e).1.symm
  have hd':n.bK.drop (i+1)=ys:=by
   have:=HH (List.drop 1) hd;simpa [Jt] using this
  have si:i<(nm n).length:=by omega
  have hny:(nm n)[i]=y.Name:=by simp [nm,hy]
  have hst:((nm n).take (i+1)).filter (fun x=>decide (x ∈ on))=w++(if decide (y.Name ∈ on) then [y.Name] else []):=by
   rw [Ie si,JS,← hw,hny]
   congr 1
   simp only [MO,List.filter_nil]
  unfold nt kA;rw [sA];refine Gd.ite (fun h=>Gd.nd (by simp only [HD,MU]; omega) (hnx _ ⟨by omega,hd',?_,by simp; omega⟩)) (fun h=>hnx _ ⟨by omega,hd',?_,by omega⟩)
  ·rw [hst,Hv h]
  ·rw [hst,Hs (by rw [h]; simp),Ij]
 ·rintro i w ⟨hi,_,hw,_⟩
  rw [HR (by simp at hi; omega),← hnm] at hw
  subst hw;refine Gd.fV (fun (s:Int)=>∃ k:Nat,s=k∧k≤w.length+1∧∀ s,s.Sublist w→s.length<k→¬ wD n w s) (fun s=>w.length+1-s.toNat) ?_ eT _ ⟨0,rfl,by omega,fun s _ h=>by omega⟩ (by unfold eT; simp; omega)
  rintro _ nx ⟨k,rfl,hk,hI⟩ hn;unfold ny;refine Gd.ite (fun h=>?_) (fun h=>Gd.ret (.inr ⟨rfl,fun s hs=>hI s hs ?_⟩))
  ·have hkw:k≤w.length:=by have:=Ht h; omega
   have hwk:i64.wrap ((k:Int)+1)=((k+1:Nat):Int):=by rw [bR ⟨by omega,by omega⟩]; omega
   unfold iB;rw [hwk];refine Gd.eV (vq hz hV w hnll k [] 0 (by simp; omega) (Nat.zero_le _) eT (by unfold eT; omega)) (fun r hr=>Gd.ite (fun h=>Gd.ret (.inl ?_)) (fun h=>hn _ ⟨k+1,rfl,by omega,fun s hs hs1=>?_⟩ (by simp only [Hj]; omega)))
   ·obtain ⟨s,h1,h2,h3,h4⟩:=hr.1 h
    rw [Ju] at h1;rw [Jb,← h1] at h2;exact ⟨rfl,h2,h4,fun s' hs hl'=>hI s' hs (by rw [h1] at hl'; omega)⟩
   ·by_cases e:s.length=k
    ·have:=hr.2 h s (by rw [Jb]; exact hs) e
     rwa [Ju] at this
    ·exact hI s hs (by omega)
  ·have:=hs.length_le
   have:=HG h;omega
theorem Aa {c:Net} (hz:mE c):∃ r,gO c=some r:=by
 suffices h:Gd (gO c) (fun _=>True) by
  obtain ⟨e,he,_⟩:=h;exact ⟨e,he⟩
 unfold gO;rcases tI c hz with ⟨x,hx,hi⟩ | ⟨t,p,s,hV,hn,hg,ht,hb,hi,hfc,hs,hst,hv⟩
 ·exact Gd.bind_eq hi (Gd.ite (fun _=>Gd.ret Hh) (fun k=>absurd (by simpa using k) hx))
 ·obtain ⟨qs,hq,hqf⟩:=Dp hst.f
  have hql:qs.length=c.aN.length:=by
   have:=hst.fl;rw [hq,JQ] at this;exact this
  have ho:=AP hV (qs:=qs) hql hqf;rw [← hq] at ho;exact Gd.bind_eq hi (Gd.ite (fun k=>by simp at k) (fun _=>Gd.bind_eq hs (Gd.ite (fun k=>by simp at k) (fun _=>Gd.bind_eq ho (Gd.ret Hh)))))
theorem BZ {n:Net} (hV:od n) {l:List BA} (h:dW n l=some 0) {r:eM×List ByteArray×Int} (hs:gO (uc n l)=some r):eJ n l=some r:=by
 rw [← Gd.eq];unfold eJ;exact Gd.bind_eq (DY hV h) (Gd.ite (fun k=>by simp at k) (fun _=>Gd.bind_eq hs (Gd.ret rfl)))
theorem By {n:Net}{l:List BA}{r:eM×List ByteArray×Int} (hs:gO (uc n l)=some r):yI n l↔r.2.2=0∧r.2.1=[]:=by
 unfold yI iF;rw [hs];show (if _ then _ else _)=_↔_
 by_cases h0:r.2.2=0
 ·by_cases h1:r.2.1=[]
  ·simp [h0,h1]
  ·have:0<r.2.1.length:=MW.2 h1
   simp [h0,h1]
 ·simp [h0]
theorem yD {n:Net} (h:mE n) (k:Nat):mE (aC.mk n.bJ n.bF n.aN n.dM (lK n.bK 0 k) n.bQ):=
 ⟨h.nd,h.sw,h.br,h.gn,fun x hx=>h.ld x (JY (by unfold lK at hx; simpa using hx)),h.st⟩
theorem Bt (off A:List BA) (hA:A.length≤1000):Gd (bT A off) (fun r=>r=A.filter (nC off)):=
 zz (fun y=>dQ y off) (nC off) (fun x=>by unfold dQ nC; rw [sA,Bool.not_not]; rfl) ⟨#[]⟩ A (by omega)
theorem AQ {names s:List BA}{i:Nat} (hn:names.Nodup) (hi:i<names.length) (hs:s.Sublist (names.take i)):names[i] ∉ s:=by
 intro hm;obtain ⟨p,hp,hp2⟩:=List.mem_take_iff_getElem.1 (hs.subset hm);have:p=i:=(List.getElem_inj hn).1 hp2;omega
theorem FJ {names s:List BA}{i:Nat} (hn:names.Nodup) (hi:i<names.length) (hs:s.Sublist (names.take i)):
  (names.take (i+1)).filter (nC s)=(names.take i).filter (nC s)++[names[i]]:=by
 rw [Ie hi,JS]
 congr 1
 simp [MO,nC,AQ hn hi hs]
theorem FK {names s:List BA}{i:Nat} (hn:names.Nodup) (hi:i<names.length) (hs:s.Sublist (names.take i)):
  (names.take (i+1)).filter (nC (s++[names[i]]))=(names.take i).filter (nC s):=by
 rw [Ie hi,JS];have e1:[names[i]].filter (nC (s++[names[i]]))=[]:=by simp [MO,nC]
 rw [e1,Ij];refine List.filter_congr (fun x hx=>?_);have hne:x≠names[i]:=by
  intro e;subst e;exact AQ hn hi (MJ _) hx
 simp [nC,hne]
theorem uC {n0 n:Net} (hn:n=aC.mk n0.bJ n0.bF n0.aN n0.dM (lK n0.bK 0 ((min (n0.bK.length:Int) 3:Int).toNat)) n0.bQ) (hl:n.bK.length≤3) (r:List ByteArray×Int)
  (hr:gS n (nm n)=some r)
  (hC:r.2≠0→r.2≠8→r.1=[]∧cG n=some r.2)
  (hF:∀ (w:List BA) (g:Nat),((nm n).Nodup→∃ s,s.Sublist (nm n)∧g=s.length∧w=(nm n).filter (nC s))→Gd (eJ n w) (fun q=>q.2.2=0∧q.2.1=[]→r.2=0∧r.1.length≤g))
  (hE:Gd (eJ n ((nm n).filter (nC r.1))) (fun q=>r.2=0→(q.2.2=0∧q.2.1=[])∧((nm n).filter (nC r.1)).length+r.1.length=(nm n).length∧r.1.length≤3)):
  Gd (eE (fun k y s167 n=>fJ k y s167 n) (fun s167=>(gS n s167).bind fun r193=>if (!decide (r193.2=0)) && (!decide (r193.2=8)) then ((eA).bind fun r203=>if r203 then (if decide ((r193.1.length:Int)=0) then ((cG n).bind fun r207=>some (decide (r207=r193.2))) else (some false)) else (some false)) else (dH (0≤(s167.length:Int)) (dH ((jx .i64 1 (s167.length:Int))≤9223372036854775807) (jH (fun k s549 n=>fA n0 s167 r193 k n) (fun _=>dH (s167.length*16≤140737488355328) ((bT s167 r193.1).bind fun r730=>(eJ n r730).bind fun r738=>(eA).bind fun r755=>some (r755 && ((!decide (r193.2=0)) || (((decide (r738.2.2=0)) && (decide ((r738.2.1.length:Int)=0))) && (decide ((i64.wrap ((r730.length:Int)+(r193.1.length:Int)))=(s167.length:Int)))))))) (jx .i64 1 (s167.length:Int):Int).toNat 0 ())))) 0 n.bK ([]:List ByteArray)) (fun b=>b=true):=by
 have hnl:=xw n;refine Gd.eE (fun i (ys:List aK) (w:List ByteArray)=>i+ys.length=n.bK.length∧w.length=i∧w++ys.map (·.Name)=nm n) ?_ ?_ n.bK 0 [] ⟨by simp,rfl,rfl⟩
 ·rintro i y ys w nx ⟨hi,hw,he⟩ hnx
  simp only [HD] at hi;unfold fJ;refine Gd.nd (by simp only [HD,MU]; omega) (hnx _ ⟨by omega,by simp; omega,?_⟩)
  rw [← he]; simp
 rintro i w ⟨_,_,he⟩;simp only [Mj,Ij] at he;subst he;refine Gd.bind_eq hr (Gd.ite (fun h=>?_) (fun h=>?_))
 ·simp only [Jp,Li,NH] at h
  obtain ⟨h1,h2⟩:=hC h.1 h.2;exact Gd.bind_eq rm (Gd.ite (fun _=>Gd.ite (fun _=>Gd.bind_eq h2 (Gd.ret (by simp))) (fun h=>by simp [h1] at h)) (fun h=>by simp at h))
 ·have hs4:jx .i64 1 ((nm n).length:Int)≤9223372036854775807:=by
   have:(nm n).length=0∨(nm n).length=1∨(nm n).length=2∨(nm n).length=3:=by omega
   rcases this with h | h | h | h <;> rw [h] <;> decide
  refine Gd.nd (by omega) (Gd.nd hs4 (Gd.jH (fun _ _ _=>True) ?_ ?_ _ 0 () Hh))
  ·rintro m k _ nx _ hnx
   unfold fA;refine Gd.eE (fun i (ys:List ByteArray) (w:List ByteArray×Int)=>i+ys.length=(nm n).length∧(nm n).drop i=ys∧w.1.length≤i∧∃ g:Nat,w.2=g∧g≤i∧((nm n).Nodup→∃ s,s.Sublist ((nm n).take i)∧g=s.length∧w.1=((nm n).take i).filter (nC s))) ?_ ?_ (nm n) 0 ([],0) ⟨by simp,rfl,by simp,0,rfl,HQ _,fun _=>⟨[],by simp,rfl,by simp⟩⟩
   ·rintro i y ys ⟨w,_⟩ nx ⟨hi,hd,hwl,g,rfl,hgi,hw⟩ hnx
    simp only at hwl hw;simp only [HD] at hi;have hil:i<(nm n).length:=by omega
    have hy:(nm n)[i]=y:=by
     have e:=Iu hil;rw [hd] at e; exact (MK e).1.symm
    have hd':(nm n).drop (i+1)=ys:=by
     have:=HH (List.drop 1) hd;simpa [Jt] using this
    unfold hO eF;refine Gd.nd (by omega) (Gd.ite (fun _=>Gd.nd (by simp only [HD,MU]; omega) (hnx _ ⟨by omega,hd',by simp; omega,g,rfl,by omega,fun hN=>?_⟩)) (fun _=>hnx _ ⟨by omega,hd',by simp only; omega,g+1,?_,by omega,fun hN=>?_⟩))
    ·obtain ⟨s,hs,hg,hw⟩:=hw hN
     refine ⟨s,hs.trans (by rw [Ie hil]; exact List.sublist_append_left _ _),hg,?_⟩
     simp only;rw [FJ hN hil hs,← hw,hy]
    ·simp only
     rw [bR ⟨by omega,by omega⟩]; omega
    ·obtain ⟨s,hs,hg,hw⟩:=hw hN
     refine ⟨s++[y],?_,by simp [hg],?_⟩
     ·rw [Ie hil,hy]
      exact hs.append (MJ _)
     ·simp only
      rw [← hy,FK hN hil hs]; exact hw
   ·rintro i ⟨w,_⟩ ⟨hi,_,_,g,rfl,hgi,hw⟩
    simp only at hw;simp only [MU] at hi;rw [HR (by omega)] at hw
    rw [← hn];refine Gd.eV (hF w g hw) (fun q hq=>Gd.ite (fun h=>?_) (fun _=>hnx () Hh));exfalso;simp only [Jp,Jl,Li,IN,NH] at h;obtain ⟨⟨h1,h2⟩,h3⟩:=h;obtain ⟨h4,h5⟩:=hq ⟨h1,H6 (by omega)⟩
    rcases h3 with h3 | h3
    ·exact h3 h4
    ·omega
  ·rintro _ _ _
   refine Gd.nd (by omega) (Gd.eV (Bt r.1 (nm n) (by omega)) (fun x hx=>?_))
   subst hx;refine Gd.eV hE (fun q hq=>Gd.bind_eq rm (Gd.ret ?_))
   by_cases h0:r.2=0
   ·obtain ⟨⟨h1,h2⟩,h3,h4⟩:=hq h0
    have h5:((nm n).filter (nC r.1)).length≤3:=by omega
    rw [bR ⟨by omega,by omega⟩]
    have h6:((((nm n).filter (nC r.1)).length:Int)+(r.1.length:Int))=((nm n).length:Int):=by omega
    simp [h0,h1,h2,h6]
   ·simp [h0]
theorem rY (n:Net) (hz:mE n):dZ n=some true:=by
 rw [← Gd.eq];unfold dZ lN;refine Gd.eV (P:=fun r=>mE r∧r.bK.length≤4) (Gd.nd (by omega) (Gd.nd (by omega) (Gd.ret ⟨hz.Gz _ _,by unfold lK; simp; omega⟩))) (fun n0 ⟨hz0,hl0⟩=>?_)
 refine Gd.nd (by omega) ?_
 have hz:=yD hz0 ((min (n0.bK.length:Int) 3:Int).toNat);generalize hn:aC.mk n0.bJ n0.bF n0.aN n0.dM (lK n0.bK 0 ((min (n0.bK.length:Int) 3:Int).toNat)) n0.bQ=n at hz ⊢;have hLd:lK n0.bK 0 ((min (n0.bK.length:Int) 3:Int).toNat)=n.bK:=by rw [← hn]
 have hl:n.bK.length≤3:=by
  rw [← hLd]; unfold lK; simp; omega
 have hnl:=xw n;rw [hLd];obtain ⟨e,he,hv⟩:=check_sound n hz
 by_cases h0:e=0
 ·subst h0
  have hV:=hv rfl;have hnd:=C8 hV;have hchk:∀ l:List BA,l.length≤1000→l.Nodup→(∀ x ∈ l,x ∈ nm n)→dW n l=some 0:=BQ he;have hca:=hchk (nm n) (by omega) hnd (fun x h=>h)
  have hflt:∀ s:List BA,dW n ((nm n).filter (nC s))=some 0:=fun s=>
   hchk _ (I2 (MT _ _) (by omega)) (hnd.filter _) (fun x hx=>(I6.1 hx).1)
  have hSt:∀ s:List BA,Gd (eJ n ((nm n).filter (nC s))) (fun q=>(q.2.2=0∧q.2.1=[])↔wD n (nm n) s):=fun s=>by
   obtain ⟨q,hq⟩:=Aa (hz.uc ((nm n).filter (nC s)));exact ⟨q,BZ hV (hflt s) hq,(By hq).symm⟩
  obtain ⟨r,hr,hcase⟩:=A7 hz hV (nm n) hca (by omega) (nm n) (LA.2 (fun x hx=>NI hx)).symm
  refine uC hn.symm hl r hr (fun h1 h2=>?_) (fun w g hwg=>?_) ?_
  ·rcases hcase with ⟨h,_⟩ | ⟨h,_⟩
   ·exact absurd h h1
   ·rw [h] at h2; exact absurd rfl h2
  ·obtain ⟨s,hs,rfl,rfl⟩:=hwg hnd
   refine (hSt s).mono (fun q hq hf=>?_);have ha:=hq.1 hf;rcases hcase with ⟨h1,h2,h3,h4⟩ | ⟨_,h4⟩
   ·refine ⟨h1,Nat.le_of_not_lt (fun hlt=>h4 s hs hlt ha)⟩
   ·exact absurd ha (h4 s hs)
  ·refine (hSt r.1).mono (fun q hq h=>?_)
   rcases hcase with ⟨h1,h2,h3,h4⟩ | ⟨h4,_⟩
   ·refine ⟨hq.2 h3,?_,?_⟩
    ·have hsplit:∀ (N s:List BA),N.Nodup→s.Sublist N→(N.filter (nC s)).length+s.length=N.length:=by
      intro N
      induction N with
      | nil=>intro s _ hs; rw [List.sublist_nil.1 hs]; rfl
      | cons y N ih=>
       intro s hN hs;rw [Kw] at hN;cases hs with
       | cons _ hs=>
        have hy:y ∉ s:=fun h=>hN.1 (hs.subset h);have:=ih s hN.2 hs;simp only [MO,nC,hy,LK,Bool.not_false,Lr,HD];omega
       | @cons_cons s' _ _ hs=>
        have:=ih s' hN.2 hs;have e:(N.filter (nC (y::s')))=N.filter (nC s'):=by
         refine List.filter_congr (fun x hx=>?_);have hne:x≠y:=fun e=>hN.1 (e▸hx);simp [nC,hne]
        have e2:nC (y::s') y=false:=by simp [nC]
        rw [MO,e2,Hs (by simp),e]
        simp only [HD];omega
     exact hsplit (nm n) r.1 hnd h2
    ·have:=h2.length_le
     omega
   ·rw [h4] at h; simp at h
 ·have hno:∀ l,dW n l=some e:=fun l=>by
   rw [← Gd.eq];unfold dW;exact Gd.bind_eq he (Gd.ite (fun _=>Gd.ret rfl) (fun k=>absurd (by simpa using k) h0))
  have hr:gS n (nm n)=some ([],e):=by
   rw [← Gd.eq];unfold gS;exact Gd.bind_eq (hno _) (Gd.ite (fun _=>Gd.ret rfl) (fun k=>absurd (by simpa using k) h0))
  have hSt:∀ l,Gd (eJ n l) (fun q=>q.2.2=e):=fun l=>⟨_,B0 (hno l) h0,rfl⟩;refine uC hn.symm hl ([],e) hr (fun _ _=>⟨rfl,he⟩) (fun w g _=>(hSt w).mono (fun q hq h=>absurd (hq.symm.trans h.1) h0)) ((hSt _).mono (fun q hq h=>absurd h h0))
end Go.Sim
