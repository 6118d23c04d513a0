/-
  The proof, part C4.
-/
import Derived.ProofKit
import Derived.Test.YtoghilnkfnpcoaaGreatDoorSqC3
set_option linter.unusedVariables false
set_option linter.unusedSimpArgs false
set_option linter.unusedSectionVars false
set_option linter.unnecessarySimpa false
namespace Go.Sim
abbrev Sf := @Go.Proofs.Tryz.runUnderlying37
end Go.Sim
namespace Go.Sim
open Go Go.Proofs.Tryz
open _root_.Go.IntKind (i64 u64 u32 u8)
set_option maxRecDepth 100000
set_option maxHeartbeats 4000000
variable {B:Nat}{w0 w:World}[wh B w0] {H:Hp}{M:List bU}
theorem lJ {O:(List aA)}{a0 b1 dP:Int}{J:N3}{xs0:List N3}{r:Int×(List aA)} (hm:cJ O a0 b1 dP=some r) (h0:Rw H J xs0 O):
  Cq B w0 76 [J,.int .i64 (a0),.int .i64 (b1),.int .i64 (dP),.func (.func 26) [].toArray [].toArray] H (.row J 56 (aE.sz aA) O.length xs0::M) (λH _ H' M' v=>H=H'/\∃ qxs0:List N3,.row J 56 (aE.sz aA) r.2.length qxs0::M=M'/\.int .i64 (r.1)=v/\rr J qxs0 r.2):=by
 unfold cJ at hm;refine jE func76 ?_;refine q2 ?_;obtain ⟨a4,ch,b2,hm⟩:=aC hm;obtain ⟨_,rfl,bj⟩:=(h0).elem b2;obtain ⟨ab,ci,b3,hm⟩:=aC hm;obtain ⟨_,rfl,bk⟩:=(h0).elem b3;obtain ⟨ck,cm,ak,hm⟩:=aC hm;obtain ⟨_,rfl,bl⟩:=(h0).elem ak;refine vq fm 14 [ph _,ph _,ph _,ph _,ph _,ph _,ph (.pointer (some ((Value.base (J)).add ((dP:Int).toNat*aE.sz aA)))),ph (.agg [.string (a4.Name),.int .i64 (a4.Time),.bool (a4.iP)].toArray),ph _,ph _,ph (.pointer (some ((Value.base (J)).add ((a0:Int).toNat*aE.sz aA)))),ph (.agg [.string (ab.Name),.int .i64 (ab.Time),.bool (ab.iP)].toArray),ph (.pointer (some ((Value.base (J)).add ((a0:Int).toNat*aE.sz aA)))),(λH rs v=>∃ a6:List N3,[.row J 56 (aE.sz aA) (O.set ((a0:Int).toNat) a4).length a6]=rs/\.pointer (some ((Value.base (J)).add ((a0:Int).toNat*aE.sz aA)))=v/\Rw H J a6 (O.set ((a0:Int).toNat) a4))] (sp 14 [(13,[14])]) [[],[],[],[],[],[],[14],[14],[],[],[14],[14],[14],[]] [0] [0,1,2,3,4,5,6,7,8,9,10,11,12,13] G ⟨qm,qm,qm,qm,qm,qm,?_,?_,qm,qm,?_,?_,?_,?_,N4⟩ ?_
 rintro Y Z X Rest hR _ _ ⟨rfl,rfl⟩ _ _ ⟨rfl,rfl⟩ hU I;refine gY b2 ?_;exact o0 ⟨G,G⟩;rintro Y Z X Rest hR _ _ ⟨rfl,rfl⟩ hU I;refine sW bj ?_;exact o0 ⟨G,G⟩;rintro Y Z X Rest hR _ _ ⟨rfl,rfl⟩ _ _ ⟨rfl,rfl⟩ hU I;refine gY b3 ?_;exact o0 ⟨G,G⟩;rintro Y Z X Rest hR _ _ ⟨rfl,rfl⟩ hU I;refine sW bk ?_;exact o0 ⟨G,G⟩;intro Y Z X Rest hR;refine dr ?_;intro hU I;refine gY ak ?_;exact o0 ⟨G,G⟩;intro Y Z X Rest hR;refine dr ?_;intro hU I;refine wr 0 0 a4 h0 ak bl G G ?_;intro a6 ac cn co;exact aT (fV G [.row J 56 (aE.sz aA) (O.set ((a0:Int).toNat) a4).length a6] lE ⟨a6,G,G,(ac)⟩);intro b4 cp;refine dr ?_;rintro _ _ _ ⟨a6,rfl,_,ac⟩;refine sS ?_;refine Wp [0] ?_;obtain ⟨cq,cr,am,hm⟩:=aC hm;refine gY am ?_;obtain ⟨_,rfl,bm⟩:=(ac).elem am;refine wr 0 0 ab ac am bm G G ?_;intro cs bn ct cu;refine qs ?_;refine cj [] [] 1 (λu m H' M' L'=>∃ an:Int,∃ ad:List aA,∃ ae:List N3,dD an ad=some r/\Rw H' J ae ad/\b4.le H'/\.row J 56 (aE.sz aA) ad.length ae::m=M'/\(11,.int .i64 (an))::u=L') ?_ (λbo=>?_)
 rintro cv _ _ ⟨an,ad,ae,hm,bp,cw,rfl,rfl⟩;unfold dD at hm;refine qs ?_;obtain rfl:=N8 hm;refine Ew H ?_;exact k5 G G ⟨G,ae,G,G,(bp).nM⟩;refine qg ?_;obtain ⟨b5,bq,br,hm⟩:=cV hm;refine cl [(0,_),(1,_),(4,_)] [] 1 [] 0 (IT b5 r J b4 11 12) a_ G ⟨_,_,_,_,hm,bn,lE,G,G⟩ ?_;rintro aq b6 _ _ ⟨a2,ao,a8,ap,hm,a3,cx,rfl,rfl⟩
 rcases aq with _ | aq
 exact nomatch (br _).symm.trans hm;have hm:=(bq _ _).symm.trans hm;generalize bs:b5 aq=b7 at hm
 try dsimp only at hm
 unfold eG at hm;refine qg ?_;refine cj [(0,_),(1,_),(4,_),(12,_)] [] 0 (Ci (bE a0 a2 a8 b7) r b6 11) ?_ (λb8=>?_);rintro b9 _ _ ⟨a1,hm,d0,rfl,rfl⟩;unfold bE at hm;refine cj [(0,_),(1,_),(4,_),(11,_)] [] 0 (Ci (bD a2 b7 a1) r b9 12) ?_ (λba=>?_);rintro d1 _ _ ⟨af,hm,d2,rfl,rfl⟩;unfold bD at hm;refine q2 ?_;refine cd hm G (λbt hm=>?_) (λbt hm=>?_);refine qj ?_;exact kj (bo _ _ _ ⟨_,_,_,hm,a3.mm,lE,G,G⟩);refine qs ?_;obtain ⟨a5,d3,bb,hm⟩:=aC hm;obtain ⟨_,rfl,bu⟩:=(a3).elem bb;obtain ⟨ag,d4,bc,hm⟩:=aC hm;obtain ⟨_,rfl,bv⟩:=(a3).elem bc;obtain ⟨d5,d6,ar,hm⟩:=aC hm;obtain ⟨_,rfl,bw⟩:=(a3).elem ar;refine vq fm 14 [ph _,ph _,ph _,ph _,ph _,ph _,ph (.pointer (some ((Value.base (J)).add ((af:Int).toNat*aE.sz aA)))),ph (.agg [.string (a5.Name),.int .i64 (a5.Time),.bool (a5.iP)].toArray),ph _,ph _,ph (.pointer (some ((Value.base (J)).add ((a1:Int).toNat*aE.sz aA)))),ph (.agg [.string (ag.Name),.int .i64 (ag.Time),.bool (ag.iP)].toArray),ph (.pointer (some ((Value.base (J)).add ((a1:Int).toNat*aE.sz aA)))),(λH rs v=>∃ a7:List N3,[.row J 56 (aE.sz aA) (a2.set ((a1:Int).toNat) a5).length a7]=rs/\.pointer (some ((Value.base (J)).add ((a1:Int).toNat*aE.sz aA)))=v/\Rw H J a7 (a2.set ((a1:Int).toNat) a5))] (sp 14 [(13,[14])]) [[],[],[],[],[],[],[14],[14],[],[],[14],[14],[14],[]] [0] [0,1,2,3,4,5,6,7,8,9,10,11,12,13] G ⟨qm,qm,qm,qm,qm,qm,?_,?_,qm,qm,?_,?_,?_,?_,N4⟩ ?_
 rintro Y Z X Rest hR _ _ ⟨rfl,rfl⟩ _ _ ⟨rfl,rfl⟩ hU I;refine gY bb ?_;exact o0 ⟨G,G⟩;rintro Y Z X Rest hR _ _ ⟨rfl,rfl⟩ hU I;refine sW bu ?_;exact o0 ⟨G,G⟩;rintro Y Z X Rest hR _ _ ⟨rfl,rfl⟩ _ _ ⟨rfl,rfl⟩ hU I;refine gY bc ?_;exact o0 ⟨G,G⟩;rintro Y Z X Rest hR _ _ ⟨rfl,rfl⟩ hU I;refine sW bv ?_;exact o0 ⟨G,G⟩;intro Y Z X Rest hR;refine dr ?_;intro hU I;refine gY ar ?_;exact o0 ⟨G,G⟩;intro Y Z X Rest hR;refine dr ?_;intro hU I;refine wr 0 0 a5 a3 ar bw G G ?_;intro a7 ah d7 d8;exact aT (fV G [.row J 56 (aE.sz aA) (a2.set ((a1:Int).toNat) a5).length a7] lE ⟨a7,G,G,(ah)⟩);intro d9 da;refine dr ?_;rintro _ _ _ ⟨a7,rfl,_,ah⟩;refine sS ?_;refine Wp [0] ?_;obtain ⟨db,dc,au,hm⟩:=aC hm;refine gY au ?_;obtain ⟨_,rfl,bz⟩:=(ah).elem au;refine wr 0 0 ag ah au bz G G ?_;intro dd c0 de df;refine aT (aM (cL (aN (bZ G G G (qy G G G G G (aL G G G (aT (aM ?_))))))))
 refine qj ?_;exact kj (gV (Oh _) ⟨_,_,_,_,((O3 bs _).trans hm),c0,lE,G,G⟩);refine qg ?_;obtain ⟨bd,c1,c2,hm⟩:=cV hm;refine cl [(0,_),(1,_),(4,_),(11,_)] [] 0 [] 0 (xr bd r b9 12) a_ G ⟨_,hm,lE,G,G⟩ ?_;rintro av dg _ _ ⟨a9,hm,dh,rfl,rfl⟩
 rcases av with _ | av
 exact nomatch (c2 _).symm.trans hm;have hm:=(c1 _ _).symm.trans hm;generalize c3:bd av=di at hm;unfold eH at hm;refine q2 ?_;cases ai:(decide (a1<=a9));have hm:=fM ai hm;refine mM fm 13 [ph _,ph _,ph (.bool (false)),ph _,ph _,ph _,ph _,ph _,ph _,ph _,ph _,ph _,ph _] ⟨qm,qm,qn ai,qm,qm,qm,qm,qm,qm,qm,qm,qm,qm,N4⟩ ?_;intro dj dk;refine dz ?_;refine qg ?_;refine cF G ?_;refine qj ?_;exact kj (ba _ _ _ ⟨_,hm,lE,G,G⟩);have hm:=fN ai hm;obtain ⟨aw,dl,be,hm⟩:=aC hm;obtain ⟨_,rfl,c4⟩:=(a3).elem be;obtain ⟨ax,dm,bf,hm⟩:=aC hm;obtain ⟨_,rfl,c5⟩:=(a3).elem bf;refine mM fm 13 [ph _,ph _,ph (.bool (true)),ph _,ph _,ph _,ph _,ph (.pointer (some ((Value.base (J)).add ((a0:Int).toNat*aE.sz aA)))),ph (.agg [.string (aw.Name),.int .i64 (aw.Time),.bool (aw.iP)].toArray),ph _,ph _,ph (.pointer (some ((Value.base (J)).add ((a9:Int).toNat*aE.sz aA)))),ph (.agg [.string (ax.Name),.int .i64 (ax.Time),.bool (ax.iP)].toArray)] ⟨qm,qm,qn ai,qm,qm,qm,qm,?_,?_,qm,qm,?_,?_,N4⟩ ?_
 intro Y Z X Rest hR;refine dr ?_;intro hU I;refine gY be ?_;exact o0 ⟨G,G⟩;rintro Y Z X Rest hR _ _ ⟨rfl,rfl⟩ _ _ ⟨rfl,rfl⟩ hU I;refine sW c4 ?_;exact o0 ⟨G,G⟩;intro Y Z X Rest hR;refine dr ?_;intro hU I;refine gY bf ?_;exact o0 ⟨G,G⟩;rintro Y Z X Rest hR _ _ ⟨rfl,rfl⟩ _ _ ⟨rfl,rfl⟩ hU I;refine sW c5 ?_;exact o0 ⟨G,G⟩;intro dn dp;refine dz ?_;obtain ⟨dq,c6,hm⟩:=aO hm;refine lZ Rp G G G G (λw ht=>(dS (hm:=c6)  ht :)) ?_;rintro _ _ _ ⟨rfl,rfl,rfl⟩;refine qg ?_;refine cd hm G (λc7 hm=>?_) (λc7 hm=>?_);refine kb (aM ?_);refine qj ?_;exact kj (gV (Oh _) ⟨_,((O3 c3 _).trans hm),lE,G,G⟩);refine qj ?_;exact kj (ba _ _ _ ⟨_,hm,lE,G,G⟩);refine qg ?_;obtain ⟨bg,c8,c9,hm⟩:=cV hm;refine cl [(0,_),(1,_),(4,_),(12,_)] [] 0 [] 0 (xr bg r b6 11) a_ G ⟨_,hm,lE,G,G⟩ ?_;rintro ay ds _ _ ⟨aa,hm,dt,rfl,rfl⟩
 rcases ay with _ | ay
 exact nomatch (c9 _).symm.trans hm;have hm:=(c8 _ _).symm.trans hm;generalize cb:bg ay=du at hm;unfold eI at hm;refine q2 ?_;cases aj:(decide (aa<=a8));have hm:=fM aj hm;refine mM fm 13 [ph _,ph _,ph (.bool (false)),ph _,ph _,ph _,ph _,ph _,ph _,ph _,ph _,ph _,ph _] ⟨qm,qm,qn aj,qm,qm,qm,qm,qm,qm,qm,qm,qm,qm,N4⟩ ?_;intro dv dw;refine dz ?_;refine qg ?_;refine cF G ?_;refine qj ?_;exact kj (b8 _ _ _ ⟨_,hm,lE,G,G⟩);have hm:=fN aj hm;obtain ⟨az,dx,bh,hm⟩:=aC hm;obtain ⟨_,rfl,cc⟩:=(a3).elem bh;obtain ⟨b0,dy,bi,hm⟩:=aC hm;obtain ⟨_,rfl,ce⟩:=(a3).elem bi;refine mM fm 13 [ph _,ph _,ph (.bool (true)),ph _,ph _,ph _,ph _,ph (.pointer (some ((Value.base (J)).add ((a0:Int).toNat*aE.sz aA)))),ph (.agg [.string (az.Name),.int .i64 (az.Time),.bool (az.iP)].toArray),ph _,ph _,ph (.pointer (some ((Value.base (J)).add ((aa:Int).toNat*aE.sz aA)))),ph (.agg [.string (b0.Name),.int .i64 (b0.Time),.bool (b0.iP)].toArray)] ⟨qm,qm,qn aj,qm,qm,qm,qm,?_,?_,qm,qm,?_,?_,N4⟩ ?_
 intro Y Z X Rest hR;refine dr ?_;intro hU I;refine gY bh ?_;exact o0 ⟨G,G⟩;rintro Y Z X Rest hR _ _ ⟨rfl,rfl⟩ _ _ ⟨rfl,rfl⟩ hU I;refine sW cc ?_;exact o0 ⟨G,G⟩;intro Y Z X Rest hR;refine dr ?_;intro hU I;refine gY bi ?_;exact o0 ⟨G,G⟩;rintro Y Z X Rest hR _ _ ⟨rfl,rfl⟩ _ _ ⟨rfl,rfl⟩ hU I;refine sW ce ?_;exact o0 ⟨G,G⟩;intro e0 e1;refine dz ?_;obtain ⟨e2,cf,hm⟩:=aO hm;refine lZ Rp G G G G (λw ht=>(dS (hm:=cf)  ht :)) ?_;rintro _ _ _ ⟨rfl,rfl,rfl⟩;refine qg ?_;refine cd hm G (λcg hm=>?_) (λcg hm=>?_);refine kb (aM ?_);refine qj ?_;exact kj (gV (Oh _) ⟨_,((O3 cb _).trans hm),lE,G,G⟩);refine qj ?_;exact kj (b8 _ _ _ ⟨_,hm,lE,G,G⟩)
theorem lU {J:(List aA)}{a6 ae:Int}{I:N3}{xs0:List N3}{r:(List aA)} (hm:cM J a6 ae=some r) (h0:Rw H I xs0 J):
  Cq B w0 72 [I,.int .i64 (a6),.int .i64 (ae),.func (.func 26) [].toArray [].toArray] H (.row I 56 (aE.sz aA) J.length xs0::M) (λH _ H' M' v=>H=H'/\∃ Y:List N3,.row I 56 (aE.sz aA) r.length Y::M=M'/\.tuple #[]=v/\rr I Y r):=by
 unfold cM at hm;refine jE func72 ?_;refine q2 ?_;refine cd hm G (λaj hm=>?_) (λaj hm=>?_);refine qs ?_;refine al (λak=>?_);refine wt 0 ?_;refine qs ?_;obtain ⟨b1,am,hm⟩:=aO hm;refine dG call121 G G G (λw ht=>(ru (hm:=am)  ht :)) ?_;rintro _ _ _ ⟨rfl,rfl,rfl⟩;refine qs ?_;refine sT G G G G (by decide) (qg ?_)
 obtain ⟨af,an,ao,hm⟩:=cV hm;refine cl [(0,_),(1,_),(8,_),(9,_),(10,_)] [] 2 [1] 0 (λu m n H' M' L'=>∃ a1:List aA,∃ a0 a4:Int,∃ a7:List N3,af n (a1,a0,a4)=some r/\Rw H' I a7 a1/\H.le H'/\.row I 56 (aE.sz aA) a1.length a7::.obj ak (.cells ([.int .u64 (a4)]:List N3).toArray 188 (0,0))::m=M'/\(11,.int .i64 (a0))::u=L') a_ G ⟨_,_,_,_,hm,h0,lE,G,G⟩ ?_;rintro ab ap _ _ ⟨a1,a0,a4,a7,hm,a5,b2,rfl,rfl⟩
 rcases ab with _ | ab
 exact nomatch (ao _).symm.trans hm;have hm:=(an _ _).symm.trans hm;generalize aq:af ab=ar at hm
 try dsimp only at hm
 unfold eN at hm;refine q2 ?_;refine sT G G G G (by decide) (qg ?_)
 refine cd hm G (λau hm=>?_) (λau hm=>?_);refine q2 ?_;refine Wp [1] ?_;refine dG call122 G G G (λw ht=>(rS (hm:=(G:dA ⟨a4⟩=_))  ht :)) ?_;rintro _ _ _ ⟨rfl,rfl,rfl⟩;refine qg ?_;refine cj [(0,_),(1,_),(8,_),(9,_),(10,_),(11,_)] [] 0 (Le (bG a6 a1 a0 a4 ar) r ap 12) ?_ (λag=>?_);rintro _ _ _ ⟨a8,hm,rfl,rfl,rfl⟩;unfold bG at hm;obtain ⟨Z,b3,ah,hm⟩:=aC hm;obtain ⟨_,rfl,av⟩:=(a5).elem ah;obtain ⟨a9,b4,ai,hm⟩:=aC hm;obtain ⟨_,rfl,aw⟩:=(a5).elem ai;obtain ⟨b5,b6,ac,hm⟩:=aC hm;obtain ⟨_,rfl,ax⟩:=(a5).elem ac;refine vq fm 18 [ph _,ph _,ph _,ph _,ph _,ph _,ph _,ph _,ph _,ph _,ph (.pointer (some ((Value.base (I)).add ((i64.wrap (a6+a8):Int).toNat*aE.sz aA)))),ph (.agg [.string (Z.Name),.int .i64 (Z.Time),.bool (Z.iP)].toArray),ph _,ph _,ph (.pointer (some ((Value.base (I)).add ((a0:Int).toNat*aE.sz aA)))),ph (.agg [.string (a9.Name),.int .i64 (a9.Time),.bool (a9.iP)].toArray),ph (.pointer (some ((Value.base (I)).add ((a0:Int).toNat*aE.sz aA)))),(λH rs v=>∃ a3:List N3,[.row I 56 (aE.sz aA) (a1.set ((a0:Int).toNat) Z).length a3]=rs/\.pointer (some ((Value.base (I)).add ((a0:Int).toNat*aE.sz aA)))=v/\Rw H I a3 (a1.set ((a0:Int).toNat) Z))] (sp 18 [(17,[18])]) (sp 18 [(10,[18]),(11,[18]),(14,[18]),(15,[18]),(16,[18])]) [1] [0,1,2,3,4,5,6,7,8,9,10,11,12,13,14,15,16,17] G ⟨qm,qm,qm,qm,qm,qm,qm,qm,qm,qm,?_,?_,qm,qm,?_,?_,?_,?_,N4⟩ ?_
 rintro HX hX X Rest hR _ _ ⟨rfl,rfl⟩ _ _ ⟨rfl,rfl⟩ hU O;refine gY ah ?_;exact o0 ⟨G,G⟩;rintro HX hX X Rest hR _ _ ⟨rfl,rfl⟩ hU O;refine sW av ?_;exact o0 ⟨G,G⟩;rintro HX hX X Rest hR _ _ ⟨rfl,rfl⟩ _ _ ⟨rfl,rfl⟩ hU O;refine gY ai ?_;exact o0 ⟨G,G⟩;rintro HX hX X Rest hR _ _ ⟨rfl,rfl⟩ hU O;refine sW aw ?_;exact o0 ⟨G,G⟩;intro HX hX X Rest hR;refine dr ?_;intro hU O;refine gY ac ?_;exact o0 ⟨G,G⟩;intro HX hX X Rest hR;refine dr ?_;intro hU O;refine wr 0 0 Z a5 ac ax G G ?_;intro a3 aa b7 b8;exact aT (fV G [.row I 56 (aE.sz aA) (a1.set ((a0:Int).toNat) Z).length a3] lE ⟨a3,G,G,(aa)⟩);intro b9 ba;refine dr ?_;rintro _ _ _ ⟨a3,rfl,_,aa⟩;refine sS ?_;refine Wp [0,0] ?_;obtain ⟨bb,bc,ad,hm⟩:=aC hm;refine gY ad ?_;obtain ⟨_,rfl,ay⟩:=(aa).elem ad;refine wr 0 0 a9 aa ad ay G G ?_;intro bd az be bf;refine qt ?_;refine qj ?_;exact kj (gV (Oh _) ⟨_,_,_,_,((O3 aq _).trans hm),az,lE,G,G⟩)
 refine qs ?_;refine cd hm G (λb0 hm=>?_) (λb0 hm=>?_);refine qj ?_;exact kj (ag _ _ _ ⟨_,hm,G,G,G⟩);refine qj ?_;exact kj (ag _ _ _ ⟨_,hm,G,G,G⟩);refine qg ?_;refine tD ?_;obtain rfl:=N8 hm;refine Ek [0] 1 ?_;refine Ew H ?_;exact wm G ⟨G,a7,G,G,(a5).nM⟩;refine qg ?_;refine tD ?_;obtain rfl:=N8 hm;refine Ew H ?_;exact wm G ⟨G,xs0,G,G,(h0).nM⟩
theorem lW {self:(List aA)->Int->Int->Int->Option ((List aA))} (ih:∀ {B:Nat}{w0 w:World}[wh B w0] {H:Hp}{M:List bU}{I:(List aA)}{a5 a6 J:Int}{O:N3}{Z:List N3}{r:(List aA)} (hm:self I a5 a6 J=some r) (h0:Rw H O Z I) (ht:St B w0 H (.row O 56 (aE.sz aA) I.length Z::M) w),
    Calls prog 44 [O,.int .i64 (a5),.int .i64 (a6),.int .i64 (J),.func (.func 26) [].toArray [].toArray].toArray w (ub B w0 λH' M' v=>H=H'/\∃ Y:List N3,.row O 56 (aE.sz aA) r.length Y::M=M'/\.tuple #[]=v/\rr O Y r)) {B:Nat}{w0 w:World}[wh B w0] {H:Hp}{M:List bU}{I:(List aA)}{a5 a6 J:Int}{O:N3}{Z:List N3}{r:(List aA)} (hm:cP self I a5 a6 J=some r) (h0:Rw H O Z I) (ht:St B w0 H (.row O 56 (aE.sz aA) I.length Z::M) w):
    Calls prog 44 [O,.int .i64 (a5),.int .i64 (a6),.int .i64 (J),.func (.func 26) [].toArray [].toArray].toArray w (ub B w0 λH' M' v=>H=H'/\∃ Y:List N3,.row O 56 (aE.sz aA) r.length Y::M=M'/\.tuple #[]=v/\rr O Y r):=by
 unfold cP at hm;refine enter func44 G G G ht ?_;refine g2 ?_;obtain ⟨av,b9,ba,hm⟩:=cV hm;refine cl [(0,_),(4,_)] [] 1 [] 0 (λu m n H' M' L'=>∃ a9:List aA,∃ a3 a4 aj:Int,∃ a1 a2:Bool,∃ ak:List N3,av n (a9,a3,a4,aj,a1,a2)=some r/\Rw H' O ak a9/\H.le H'/\.row O 56 (aE.sz aA) a9.length ak::m=M'/\(1,.int .i64 (a3))::(2,.int .i64 (a4))::(3,.int .i64 (aj))::(10,.bool (a1))::(11,.bool (a2))::u=L') a_ G ⟨_,_,_,_,_,_,_,hm,h0,lE,G,G⟩ ?_;rintro am a0 _ _ ⟨a9,a3,a4,aj,a1,a2,ak,hm,c0,c1,rfl,rfl⟩
 rcases am with _ | am
 exact nomatch (ba _).symm.trans hm;have hm:=(b9 _ _).symm.trans hm;generalize a7:av am=an at hm
 try dsimp only at hm
 unfold fR at hm;refine g2 ?_;refine gs ?_;refine cd hm G (λbb hm=>?_) (λbb hm=>?_);refine gs ?_;obtain ⟨c2,bc,hm⟩:=aO hm;refine ca @lV bc ?_;rintro _ _ _ ⟨rfl,c3,rfl,rfl,aw⟩;have aw:=aw a0;refine go ?_;exact ef;refine g2 ?_;refine cd hm G (λbd hm=>?_) (λbd hm=>?_);refine gs ?_;obtain ⟨c4,be,hm⟩:=aO hm;refine ca @mr be ?_;rintro _ _ _ ⟨rfl,c5,rfl,rfl,ax⟩;have ax:=ax a0;refine go ?_;exact ef;refine go ?_;refine cj [(0,_),(1,_),(2,_),(4,_),(10,_),(11,_),(12,_)] [] 1 (λu m H' M' L'=>∃ aa:List aA,∃ a8:Int,∃ ao:List N3,bY self a3 a4 a1 a2 an aa a8=some r/\Rw H' O ao aa/\a0=H'/\.row O 56 (aE.sz aA) aa.length ao::m=M'/\(3,.int .i64 (a8))::u=L') ?_ (λay=>?_);rintro _ _ _ ⟨aa,a8,ao,hm,c6,rfl,rfl,rfl⟩;unfold bY at hm;refine gs ?_;obtain ⟨c7,bf,hm⟩:=aO hm;refine cz @lY bf ?_;refine go ?_;refine cj [(0,_),(1,_),(2,_),(3,_),(4,_),(10,_),(11,_),(12,_)] [] 1 (λu m H' M' L'=>∃ ab:List aA,∃ ac ad:Int,∃ ap:List N3,bX self a3 a4 a1 a2 an a8 ab ac ad=some r/\Rw H' O ap ab/\a0=H'/\.row O 56 (aE.sz aA) ab.length ap::m=M'/\(13,.int .i64 (ac))::(14,.int .i64 (ad))::u=L') ?_ (λaz=>?_)
 rintro _ _ _ ⟨ab,ac,ad,ap,hm,c8,rfl,rfl,rfl⟩;unfold bX at hm;refine cj [(0,_),(1,_),(2,_),(3,_),(4,_),(10,_),(11,_),(12,_),(13,_)] [] 1 (λu m H' M' L'=>∃ ae:List aA,∃ aq:List N3,bW self a3 a4 a1 a2 an a8 ac ae=some r/\Rw H' O aq ae/\a0=H'/\.row O 56 (aE.sz aA) ae.length aq::m=M'/\u=L') ?_ (λb0=>?_);rintro _ _ _ ⟨ae,aq,hm,c9,rfl,rfl,rfl⟩;unfold bW at hm;refine g2 ?_;cases af:(decide (0<a3));have hm:=fM af hm;refine mM fm 13 [ph _,ph (.bool (false)),ph _,ph _,ph _,ph _,ph _,ph _,ph _,ph _,ph _,ph _,ph _] ⟨om,Lp af,om,om,om,om,om,om,om,om,om,om,om,N4⟩ ?_;intro ar cb;refine dz ?_;refine go ?_;refine cF G ?_;refine gs ?_;obtain ⟨cc,bg,hm⟩:=aO hm;refine ca @iY bg ?_;rintro _ _ _ ⟨rfl,ce,rfl,rfl,ag⟩;have ag:=ag ar;refine g2 ?_;refine gs ?_;refine sT G G G G (by decide) (gs ?_)
 refine cd hm G (λbh hm=>?_) (λbh hm=>?_);refine g2 ?_;obtain ⟨cf,bi,hm⟩:=aO hm;refine dG call44 G G G (λw ht=>(ih (hm:=bi) ag ht :)) ?_;rintro _ _ _ ⟨rfl,cg,rfl,rfl,b1⟩;have b1:=b1 ar;refine aT (aM ?_);refine gj ?_;exact kj (y_ a7);refine g2 ?_;obtain ⟨ch,bj,hm⟩:=aO hm;refine dG call44 G G G (λw ht=>(ih (hm:=bj) ag ht :)) ?_;rintro _ _ _ ⟨rfl,ci,rfl,rfl,b2⟩;have b2:=b2 ar;refine aT (aM ?_);refine gj ?_;exact kj (y_ a7);have hm:=fN af hm;obtain ⟨ck,cm,cn,hm⟩:=aC hm;obtain ⟨co,cp,cq,hm⟩:=aC hm;refine mM fm 13 [ph _,ph (.bool (true)),ph _,ph _,ph _,ph _,ph _,ph _,ph _,ph _,ph _,ph _,ph _] ⟨om,Lp af,om,om,om,om,om,om,om,om,om,om,om,N4⟩ ?_;intro ah cr;refine dz ?_;obtain ⟨cs,bk,hm⟩:=aO hm;refine lZ Rp G G G G (λw ht=>(dS (hm:=bk)  ht :)) ?_;rintro _ _ _ ⟨rfl,rfl,rfl⟩;refine go ?_;refine cd hm G (λbl hm=>?_) (λbl hm=>?_)
 refine gs ?_;obtain ⟨ct,bm,hm⟩:=aO hm;refine ca @lJ bm ?_;rintro _ _ _ ⟨rfl,cu,rfl,rfl,b3⟩;have b3:=b3 ah;refine aL G G G (aT (aM (cL (aN (bZ G G G (aL G G G (aT (aM ?_))))))));refine gj ?_;exact kj (y_ a7);refine gs ?_;obtain ⟨cv,bn,hm⟩:=aO hm;refine ca @iY bn ?_;rintro _ _ _ ⟨rfl,cw,rfl,rfl,ai⟩;have ai:=ai ah;refine g2 ?_;refine gs ?_;refine sT G G G G (by decide) (gs ?_)
 refine cd hm G (λbo hm=>?_) (λbo hm=>?_);refine g2 ?_;obtain ⟨cx,bp,hm⟩:=aO hm;refine dG call44 G G G (λw ht=>(ih (hm:=bp) ai ht :)) ?_;rintro _ _ _ ⟨rfl,d0,rfl,rfl,b4⟩;have b4:=b4 ah;refine aT (aM ?_);refine gj ?_;exact kj (y_ a7);refine g2 ?_;obtain ⟨d1,bq,hm⟩:=aO hm;refine dG call44 G G G (λw ht=>(ih (hm:=bq) ai ht :)) ?_;rintro _ _ _ ⟨rfl,d2,rfl,rfl,b5⟩;have b5:=b5 ah;refine aT (aM ?_);refine gj ?_;exact kj (y_ a7);refine cj [(0,_),(1,_),(2,_),(3,_),(4,_),(10,_),(11,_),(12,_),(13,_)] [] 0 (λu m H' M' L'=>a0=H'/\m=M'/\(75,.bool ((a1 && a2) && (decide (ad=1))))::u=L') ?_ (λau=>?_);rintro _ _ _ ⟨rfl,rfl,rfl⟩;refine cd hm G (λbr hm=>?_) (λbr hm=>?_);refine gs ?_;obtain ⟨d3,bs,hm⟩:=aO hm;refine ca @k_ bs ?_;rintro _ _ _ ⟨rfl,d4,rfl,rfl,b6⟩;have b6:=b6 a0;refine go ?_;refine cd hm G (λbt hm=>?_) (λbt hm=>?_)
 refine go ?_;exact ef;refine gj ?_;exact kj (b0 _ _ _ pk);refine gj ?_;exact kj (b0 _ _ _ pk);refine go ?_;cases d5:(a1);refine gj ?_;exact kj (au _ _ _ pk) kS;refine go ?_;cases d6:(a2);refine gj ?_;exact kj (au _ _ _ pk) kS;refine gj ?_;exact kj (au _ _ _ pk) kS;refine gs ?_;refine cd hm G (λbu hm=>?_) (λbu hm=>?_);refine gs ?_;obtain ⟨d7,bv,hm⟩:=aO hm;refine ca @lX bv ?_;rintro _ _ _ ⟨rfl,d8,rfl,rfl,b7⟩;have b7:=b7 a0;refine aT (aM (cL (aN (bZ G G G (qy G G G G G (bZ G G G (bZ G G G (qy G G G G G (qy G G G G G (aL G G G (aT (aM ?_))))))))))));refine gj ?_;exact kj (az _ _ _ pk);refine gj ?_;exact kj (az _ _ _ pk);refine gs ?_;refine cd hm G (λbw hm=>?_) (λbw hm=>?_);refine gs ?_;obtain ⟨d9,bz,hm⟩:=aO hm;refine ca @lU bz ?_;rintro _ _ _ ⟨rfl,da,rfl,rfl,b8⟩;have b8:=b8 a0;refine aT (aM ?_);refine gj ?_;exact kj (ay _ _ _ pk);refine gj ?_;exact kj (ay _ _ _ pk)
theorem iQ:∀ (n:Nat) {B:Nat}{w0 w:World}[wh B w0] {H:Hp}{M:List bU}{I:(List aA)}{O Y J:Int}{v0:N3}{xs0:List N3}{r:(List aA)} (hm:aH n I O Y J=some r) (h0:Rw H v0 xs0 I) (ht:St B w0 H (.row v0 56 (aE.sz aA) I.length xs0::M) w),
  Calls prog 44 [v0,.int .i64 (O),.int .i64 (Y),.int .i64 (J),.func (.func 26) [].toArray [].toArray].toArray w (ub B w0 λH' M' v=>H=H'/\∃ Z:List N3,.row v0 56 (aE.sz aA) r.length Z::M=M'/\.tuple #[]=v/\rr v0 Z r)
 | 0=>λhm=>nomatch hm
 | n+1=>by
  intros; exact lW (self:=aH n) (iQ n) ‹_› ‹_› ‹_›
theorem mC {I:(List aA)}{O Y J:Int}{v0:N3}{xs0:List N3}{r:(List aA)} (hm:gF I O Y J=some r) (h0:Rw H v0 xs0 I) (ht:St B w0 H (.row v0 56 (aE.sz aA) I.length xs0::M) w):
  Calls prog 44 [v0,.int .i64 (O),.int .i64 (Y),.int .i64 (J),.func (.func 26) [].toArray [].toArray].toArray w (ub B w0 λH' M' v=>H=H'/\∃ Z:List N3,.row v0 56 (aE.sz aA) r.length Z::M=M'/\.tuple #[]=v/\rr v0 Z r):=iQ a_ (hm:=hm) h0 ht
theorem lF {a0:(List aA)}{J:N3}{O:List N3}{r:(List aA)} (hm:cC a0=some r) (h0:Rw H J O a0):
  Cq B w0 25 [J,.func (.func 26) [].toArray [].toArray] H (.row J 56 (aE.sz aA) a0.length O::M) (λH _ H' M' v=>H=H'/\∃ I:List N3,.row J 56 (aE.sz aA) r.length I::M=M'/\.tuple #[]=v/\rr J I r):=by
 unfold cC at hm;refine jE func25 ?_;refine gs ?_;obtain ⟨a4,Y,hm⟩:=aO hm;refine cz @sK Y ?_;refine go ?_;obtain ⟨a5,Z,hm⟩:=aO hm;refine ca @mC Z ?_;rintro _ _ _ ⟨rfl,a6,rfl,rfl,a1⟩;have a1:=a1 H;refine go ?_;refine tD ?_;exact ef
theorem uc {a0:dW}{b0:Nat}{Z v1:N3}{I:List N3}{r:(List aA)} (hm:mX a0=some r) (h0:aV H Z a0.dI) (h1:Rw H v1 I a0.tH):
  Cq B w0 11 [.pointer (some ⟨b0,0,none⟩)] H (.obj b0 (.cells [Z,v1,.int .i64 (a0.last)].toArray 63 (0,0))::.row v1 56 (aE.sz aA) a0.tH.length I::M) (λH _=>Mj r b0 Z v1 a0 I H M):=by
 unfold mX at hm;refine jE func11 ?_;refine g2 ?_;obtain ⟨a3,hm⟩:=aI hm;refine Wp [1] ?_;refine dG call24 G G G (λw ht=>by obtain ⟨H0_,hl0_,Y,O,J⟩:=ht.re h1 G; have h:=FF O a3 Y; exact nO J h) ?_
 rintro _ _ _ ⟨rfl,_,rfl,a5,a6,rfl,rfl,a1⟩;have a1:=a1 H;refine gs ?_;refine Wp [1] ?_;obtain ⟨a7,a4,hm⟩:=aO hm;refine ca @lF a4 ?_;rintro _ _ _ ⟨rfl,a8,rfl,rfl,a2⟩;have a2:=a2 H;refine gs ?_;refine Ek [0,1] 0 ?_;exact ef
theorem u6 {dI:(List aF)}{ab:(List N2)}{name:N2}{v0 v1:N3}{r:(List N2)×Int} (hm:ng dI ab name=some r) (h0:aV H v0 dI) (h1:aV H v1 ab):
  Cq B w0 13 [v0,v1,.string (name)] H M (L9 r.1 r.2):=by
 unfold ng at hm;refine jE func13 ?_;refine g2 ?_;refine gs ?_;obtain ⟨bb,ai,hm⟩:=aO hm;refine cz @wc ai ?_;refine gs ?_;refine cd hm G (λaj hm=>?_) (λaj hm=>?_);refine cL (aN (bZ G G G (aL G G G (aL G G G (aT (aM ?_))))));refine gj ?_;refine dT 9 (aE.sz N2) ?_;exact ef;refine g2 ?_;obtain ⟨bc,ak,hm⟩:=aO hm;refine cz @cX ak ?_;refine go ?_;refine cd hm G (λam hm=>?_) (λam hm=>?_);refine cL (aN (aL G G G (aL G G G (aT (aM ?_)))));refine gj ?_;refine dT 9 (aE.sz N2) ?_;exact ef;refine gs ?_;obtain ⟨bd,an,hm⟩:=aO hm;refine ca @rA an ?_;rintro _ _ _ ⟨rfl,be,bf,rfl,rfl,O⟩;have O:=O H;refine g2 ?_;refine gs ?_;obtain ⟨ao,ap,hm⟩:=aO hm;refine ca @r9 ap ?_;rintro _ _ _ ⟨rfl,bg,bh,rfl,rfl,ad⟩;have ad:=ad H;refine go ?_;refine qP (.head _) (λaq=>?_);refine lC 9 (aE.sz N2) ?_;obtain ⟨Y,ar,au,hm⟩:=eT hm;refine cl [(2,_),(9,_),(29,_),(30,_)] [1,1] 1 [] 0 (L8 ao Y r H 10 31) _ G ⟨0,_,_,_,_,G,G,hm,Rw.nil,lE,G,G⟩ ?_
 rintro _ av _ _ ⟨a2,a3,a1,a4,a7,Z,rfl,hm,ag,bi,rfl,rfl⟩;refine g2 ?_;refine bJ G (λI=>?_) (λI=>?_);obtain ⟨a0,aw,rfl,ax,ay⟩:=kv Z I;have hm:=(ar _ _ _ _).symm.trans hm;generalize az:Y (a2+1) aw=b0 at hm;unfold r8 at hm;refine go ?_;refine cj [(2,_),(9,_),(29,_),(30,_),(31,_)] [1,1] 1 (IQ (mD b0) r av 10) ?_ (λJ=>?_);rintro bj _ _ ⟨a5,a6,a9,hm,bk,bl,rfl,rfl⟩;unfold mD at hm;refine gj ?_;exact kj (eb ay az) (kK (dJ ax aq));refine g2 ?_;cases ah:(decide (a0=name));have hm:=fM ah hm;refine go ?_;refine Wp [2] ?_;obtain ⟨bm,b1,hm⟩:=aO hm;refine cy @cX b1 ?_;rintro _ _ _ ⟨rfl,⟨_,rfl,rfl,rfl⟩⟩;refine go ?_;refine cd hm G (λb2 hm=>?_) (λb2 hm=>?_);refine go ?_;refine dZ (α:=N2) (css:=[[.string (a0)]]) (zs:=[.string (⟨#[]⟩)]) (out:=[.string (a0)]) (ys:=[a0]) G G G ⟨G,N4⟩ Pb Qb G PY (by kernel_rfl) G G G G ⟨[.string (a0)],[],G,G,G⟩ G ?_
 intro bn b3 bo b4 bp b5;have bq:Value.pX b3=([a0]).length:=by rw [b4]; rfl
 obtain ⟨b6,hm⟩:=aI hm;refine Wp [1] ?_;refine dU (α:=N2) (l:=a1) (ys:=[a0]) G G QH ⟨_,G,G,G,G⟩ G G G G G ag.mm b5 b6 ?_;intro br bs bt;refine gj ?_;exact kx [0,1] 0 (J _ _ _ pk);refine gj ?_;exact kx [1,1] 0 (J _ _ _ pk);have hm:=fN ah hm;refine go ?_;refine cT G ?_;refine go ?_;refine dZ (α:=N2) (css:=[[.string (a0)]]) (zs:=[.string (⟨#[]⟩)]) (out:=[.string (a0)]) (ys:=[a0]) G G G ⟨G,N4⟩ Pb Qb G PY (by kernel_rfl) G G G G ⟨[.string (a0)],[],G,G,G⟩ G ?_
 intro bu b7 bv b8 bw b9;have bz:Value.pX b7=([a0]).length:=by rw [b8]; rfl
 obtain ⟨ba,hm⟩:=aI hm;refine dU (α:=N2) (l:=a1) (ys:=[a0]) G G QH ⟨_,G,G,G,G⟩ G G G G G ag.mm b9 ba ?_;intro c0 c1 c2;refine gj ?_;exact kj (J _ _ _ pk);obtain rfl:=ku Z I;have hm:=(au _ _).symm.trans hm;refine gs ?_;refine Ek [0] 2 ?_;exact ef
theorem su {a0:aA}{a1:(List N2)}{b0:Nat}{I:N3}{r:Bool} (hm:kz a0 a1=some r) (Z:aV H I a1):
  Cq B w0 31 [.agg [.string (a0.Name),.int .i64 (a0.Time),.bool (a0.iP)].toArray,.pointer (some ⟨b0,0,none⟩)] H (.obj b0 (.cells [I].toArray 23 (0,0))::M) (λH _=>Ke b0 I r H M):=by
 unfold kz at hm;refine jE func31 ?_;refine gs ?_;refine bx (λO=>?_);refine gs ?_;obtain ⟨Y,J,hm⟩:=aO hm;refine cz @cX J ?_;refine go ?_;refine Ek [1] 1 ?_;exact ef
theorem lf {I:(List aA)}{O:(List N2)}{v0:N3}{b0:Nat}{v1:N3}{r:Int} (hm:eE I O=some r) (h0:aV H v0 I) (h1:aV H v1 O):
  Cq B w0 34 [v0,.func (.func 31) [].toArray [.pointer (some ⟨b0,0,none⟩)].toArray] H (.obj b0 (.cells [v1].toArray 23 (0,0))::M) (λH _ H' M' v=>H=H'/\.obj b0 (.cells [v1].toArray 23 (0,0))::M=M'/\.int .i64 (r)=v):=by
 unfold eE at hm;refine jE func34 ?_;refine g2 ?_;refine gs ?_;obtain ⟨Y,a7,a8,hm⟩:=mw hm;refine cl [(0,_),(1,_),(7,_)] [] 0 [] 0 (IS (((I.length:Int):Int).toNat) Y r H 8) _ G ⟨0,_,OB _,G,hm,lE,G,G⟩ ?_;rintro _ af _ _ ⟨a0,a1,Z,rfl,hm,ag,rfl,rfl⟩;refine g2 ?_;refine bJ G (λJ=>?_) (λJ=>?_);obtain ⟨a9,rfl,aa,ab⟩:=oC Z J;have hm:=(a7 _ _ _).symm.trans hm;generalize ac:Y a9 (a0+1)=ah at hm;unfold gP at hm;refine g2 ?_;refine gs ?_;obtain ⟨ai,aj,ak,hm⟩:=aC hm;refine go ?_;obtain ⟨am,ad,hm⟩:=aO hm;refine lZ call31 G G G G (λw ht=>(su (hm:=ad) h1.mm ht :)) ?_;rintro _ _ _ ⟨rfl,rfl,rfl⟩;refine go ?_;refine cd hm G (λae hm=>?_) (λae hm=>?_);refine gs ?_;exact ef;refine gt ?_;refine gj ?_;exact kj (eb aa ac) (kK (jW ab (jX (oh (h0).fO))));obtain rfl:=oB Z J;have hm:=(a8 _ _).symm.trans hm;refine gs ?_
 exact ef
theorem k9 {a4:(List aA)}{I:(List N2)}{Y:N3}{Z:List N3}{b0:Nat}{v1:N3}{r:(List aA)} (hm:c_ a4 I=some r) (h0:Rw H Y Z a4) (h1:aV H v1 I):
  Cq B w0 30 [Y,.func (.func 31) [].toArray [.pointer (some ⟨b0,0,none⟩)].toArray] H (.row Y 56 (aE.sz aA) a4.length Z::.obj b0 (.cells [v1].toArray 23 (0,0))::M) (λH _ H' M' v=>H=H'/\∃ O:N3,∃ J:List N3,.row O 56 (aE.sz aA) r.length J::.obj b0 (.cells [v1].toArray 23 (0,0))::M=M'/\O=v/\rr O J r):=by
 unfold c_ at hm;refine jE func30 ?_;refine g2 ?_;obtain ⟨aq,ab,hm⟩:=aO hm;refine cy @lf ab ?_;rintro _ _ _ ⟨rfl,⟨_,rfl,rfl,rfl⟩⟩;refine g2 ?_;refine cd hm G (λac hm=>?_) (λac hm=>?_);refine gs ?_;exact ef;refine g2 ?_;obtain ⟨a9,ad,ae,hm⟩:=cV hm;refine cl [(0,_),(1,_)] [1] 1 [] 0 (IT a9 r Y H 5 6) a_ G ⟨_,_,_,_,hm,h0,lE,G,G⟩ ?_;rintro a6 af _ _ ⟨a0,a1,a2,a5,hm,ag,ar,rfl,rfl⟩
 rcases a6 with _ | a6
 exact nomatch (ae _).symm.trans hm;have hm:=(ad _ _).symm.trans hm;generalize ah:a9 a6=ai at hm
 try dsimp only at hm
 unfold gL at hm;refine g2 ?_;refine cd hm G (λaj hm=>?_) (λaj hm=>?_);refine go ?_;refine cj [(0,_),(1,_),(6,_)] [1] 1 (λu m H' M' L'=>∃ a3:List aA,∃ a7:Int,∃ a8:List N3,cR a2 ai a3 a7=some r/\Rw H' Y a8 a3/\af=H'/\.row Y 56 (aE.sz aA) a3.length a8::m=M'/\(5,.int .i64 (a7))::u=L') ?_ (λaa=>?_);rintro _ _ _ ⟨a3,a7,a8,hm,au,rfl,rfl,rfl⟩;unfold cR at hm;refine gj ?_;exact kj (y_ ah);refine gs ?_;obtain ⟨ak,av,aw,hm⟩:=aC hm;refine go ?_;refine al (λax=>?_);refine wt 0 ?_;refine gs ?_;refine Wp [2] ?_;obtain ⟨ay,am,hm⟩:=aO hm;refine lZ call31 G G G G (λw ht=>(su (hm:=am) h1.mm ht :)) ?_;rintro _ _ _ ⟨rfl,rfl,rfl⟩;refine go ?_;refine cd hm G (λan hm=>?_) (λan hm=>?_);refine gs ?_;obtain ⟨az,b1,b2,hm⟩:=aC hm;refine go ?_;refine wF 2 0 ak ?_;intro b3 b4 b5;refine aT (aM ?_);refine gj ?_;exact kx [0,0] 1 (aa _ _ _ pk)
 refine gj ?_;exact kx [2,0] 1 (aa _ _ _ pk);refine gs ?_;obtain ⟨ao,hm⟩:=aI hm;refine y0 (α:=aA) (zs:=[.string (⟨#[]⟩),.int .i64 (0),.bool (false)]) (ze:=(aA.mk (⟨#[]⟩) 0 false)) G G (λ_=>G) underlying51 RH sizeOf56 zeroValue56 G G G G G G ag ao ?_;intro b6 b7 ap;refine gs ?_;obtain ⟨b8,hm⟩:=aI hm;refine wJ (α:=aA) (l:=0) (h:=(a1:Int).toNat) G G RH sizeOf56 G G ap (by omega) (by omega) (λm hmm=>(.inr ⟨_,_,_,G,G,by omega,by omega,G⟩)) (.inl ⟨G,G⟩) ?_
 intro b9 ba bb;refine go ?_;exact ef
theorem qq {a0:dW}{b0:Nat}{v0 v1:N3}{I:List N3}{r:(List aA)} (hm:lj a0=some r) (h0:aV H v0 a0.dI) (h1:Rw H v1 I a0.tH):
  Cq B w0 12 [.pointer (some ⟨b0,0,none⟩)] H (.obj b0 (.cells [v0,v1,.int .i64 (a0.last)].toArray 63 (0,0))::.row v1 56 (aE.sz aA) a0.tH.length I::M) (λH _=>Mj r b0 v0 v1 a0 I H M):=by
 unfold lj at hm;refine jE func12 ?_;refine g2 ?_;refine g2 ?_;refine qP (.tail _ (.head _)) (λae=>?_);refine lC 9 (aE.sz N2) ?_;obtain ⟨a9,af,ag,hm⟩:=eT hm;refine cl [(0,_),(10,_),(11,_)] [1,1] 1 [] 0 (λu m n H' M' L'=>∃ (J:Nat) (Y:List aA),∃ O:List N2,∃ Z:N3,∃ a6:List N3,(a0.tH).drop J=Y/\Y.length=n/\a9 J Y O=some r/\Rw H' Z a6 O/\H.le H'/\.row Z 9 (aE.sz N2) O.length a6::m=M'/\(3,Z)::(12,.int .i64 ((J:Int)))::u=L') _ G ⟨0,_,_,_,_,G,G,hm,Rw.nil,lE,G,G⟩ ?_;rintro _ aa _ _ ⟨J,Y,O,Z,a6,ab,rfl,hm,ah,ax,rfl,rfl⟩;refine g2 ?_;refine bJ G (λa7=>?_) (λa7=>?_);obtain ⟨a1,ai,rfl,aj,ak⟩:=kv ab a7;have hm:=(af _ _ _ _).symm.trans hm;generalize am:a9 (J+1) ai=ay at hm;unfold pN at hm;refine g2 ?_;refine al (λaz=>?_);refine wt 0 ?_;refine go ?_
 refine dZ (α:=N2) (css:=[[.string (a1.Name)]]) (zs:=[.string (⟨#[]⟩)]) (out:=[.string (a1.Name)]) (ys:=[a1.Name]) G G G ⟨G,N4⟩ Pb Qb G PY (by kernel_rfl) G G G G ⟨[.string (a1.Name)],[],G,G,G⟩ G ?_
 intro b1 an b2 ao b3 ap;have b4:Value.pX an=([a1.Name]).length:=by rw [ao]; rfl
 obtain ⟨aq,hm⟩:=aI hm;refine Wp [1] ?_;refine dU (α:=N2) (l:=O) (ys:=[a1.Name]) G G QH ⟨_,G,G,G,G⟩ G G G G G ah.mm ap aq ?_;intro b5 b6 b7;refine gt ?_;refine gj ?_;exact kx [0,1,1] 1 (eb ak am) G (kK (dJ aj ae));obtain rfl:=ku ab a7;have hm:=(ag _ _).symm.trans hm;refine gs ?_;obtain ⟨b8,ar,hm⟩:=aO hm;refine cy @r9 ar ?_;rintro _ _ _ ⟨rfl,⟨_,rfl,b9,ba,rfl,rfl,a8⟩⟩;have a8:=a8 aa;refine al (λbb=>?_);refine wt 0 ?_;refine gs ?_;refine Wp [3,3] ?_;obtain ⟨bc,au,hm⟩:=aO hm;refine ca @uc au ?_;rintro _ _ _ ⟨rfl,bd,be,rfl,rfl,ac⟩;have ac:=ac aa;refine go ?_;refine Wp [5] ?_;refine jH (a8).rd G (λav bf bg=>?_);refine Wp [0,2] ?_;obtain ⟨bh,aw,hm⟩:=aO hm;refine ca @k9 aw ?_;rintro _ _ _ ⟨rfl,bi,bj,rfl,rfl,ad⟩;have ad:=ad av;refine go ?_;refine Ek [0,1,1] 2 ?_;exact ef
theorem um {a0:aA}{a1:(List N2)}{b0:Nat}{I:N3}{r:Bool} (hm:my a0 a1=some r) (h0:aV H I a1):
  Cq B w0 15 [.agg [.string (a0.Name),.int .i64 (a0.Time),.bool (a0.iP)].toArray,.pointer (some ⟨b0,0,none⟩)] H (.obj b0 (.cells [I].toArray 23 (0,0))::M) (λH _=>Ke b0 I r H M):=by
 unfold my at hm;refine jE func15 ?_;refine gs ?_;refine bx (λJ=>?_);refine gs ?_;obtain ⟨O,Y,Z,hm⟩:=aC hm;refine mM fm 5 [ph _,ph _,ph _,ph _,ph _] ⟨om,om,om,om,om,N4⟩ ?_;intro a6 a7;refine dz ?_;refine go ?_;refine Ek [1] 1 ?_;exact ef
theorem kO {I:(List aA)}{O:(List N2)}{v0:N3}{b0:Nat}{v1:N3}{r:Int} (hm:cS I O=some r) (h0:aV H v0 I) (h1:aV H v1 O):
  Cq B w0 34 [v0,.func (.func 15) [].toArray [.pointer (some ⟨b0,0,none⟩)].toArray] H (.obj b0 (.cells [v1].toArray 23 (0,0))::M) (λH _ H' M' v=>H=H'/\.obj b0 (.cells [v1].toArray 23 (0,0))::M=M'/\.int .i64 (r)=v):=by
 unfold cS at hm;refine jE func34 ?_;refine g2 ?_;refine gs ?_;obtain ⟨Y,a7,a8,hm⟩:=mw hm;refine cl [(0,_),(1,_),(7,_)] [] 0 [] 0 (IS (((I.length:Int):Int).toNat) Y r H 8) _ G ⟨0,_,OB _,G,hm,lE,G,G⟩ ?_;rintro _ af _ _ ⟨a0,a1,Z,rfl,hm,ag,rfl,rfl⟩;refine g2 ?_;refine bJ G (λJ=>?_) (λJ=>?_);obtain ⟨a9,rfl,aa,ab⟩:=oC Z J;have hm:=(a7 _ _ _).symm.trans hm;generalize ac:Y a9 (a0+1)=ah at hm;unfold dN at hm;refine g2 ?_;refine gs ?_;obtain ⟨ai,aj,ak,hm⟩:=aC hm;refine go ?_;obtain ⟨am,ad,hm⟩:=aO hm;refine lZ call15 G G G G (λw ht=>(um (hm:=ad) h1.mm ht :)) ?_;rintro _ _ _ ⟨rfl,rfl,rfl⟩;refine go ?_;refine cd hm G (λae hm=>?_) (λae hm=>?_);refine gs ?_;exact ef;refine gt ?_;refine gj ?_;exact kj (eb aa ac) (kK (jW ab (jX (oh (h0).fO))));obtain rfl:=oB Z J;have hm:=(a8 _ _).symm.trans hm;refine gs ?_
 exact ef
theorem fY {a0:(List aA)}{a1:(List N2)}{I:N3}{b0:Nat}{v1:N3}{r:Bool} (hm:aS a0 a1=some r) (Y:aV H I a0) (Z:aV H v1 a1):
  Cq B w0 14 [I,.func (.func 15) [].toArray [.pointer (some ⟨b0,0,none⟩)].toArray] H (.obj b0 (.cells [v1].toArray 23 (0,0))::M) (λH _=>Ke b0 v1 r H M):=by
 unfold aS at hm;refine jE func14 ?_;refine g2 ?_;obtain ⟨O,J,hm⟩:=aO hm;refine cz @kO J ?_;refine go ?_;exact ef
theorem uY {dI:(List aF)}{a0:aG}{b4:Int}{v0 v1 v2 v3 v4 v5 v6:N3}{r:Bool} (hm:kN dI a0 b4=some r) (h0:aV H v0 dI) (h1:aV H v1 a0.cA) (h2:aV H v2 a0.dE) (h3:aV H v3 a0.aU) (h4:aV H v4 a0.kF) (h5:aV H v5 a0.eS) (h6:aV H v6 a0.eK):
  Cq B w0 3 [v0,.agg [v1,v2,v3,v4,v5,v6].toArray,.int .i64 (b4)] H M (Ex r):=by
 unfold kN at hm;refine jE func3 ?_;refine gs ?_;refine bx (λem=>?_);refine g2 ?_;refine jO (css:=[[.string (⟨#[66]⟩)],[.string (⟨#[65]⟩)]]) (zs:=[.string (⟨#[]⟩),.string (⟨#[]⟩)]) (out:=[.string (⟨#[66]⟩),.string (⟨#[65]⟩)]) (places:=[(0,1),(1,1)]) G G G ⟨G,G,N4⟩ zeroValue35 G runUnderlying35 (λw=>by kernel_rfl) G ?_
 refine iZ (α:=aF) (css:=[[.string (⟨#[66]⟩),.string (⟨#[65]⟩)]]) (zs:=[.string (⟨#[]⟩),.string (⟨#[]⟩)]) (out:=[.string (⟨#[66]⟩),.string (⟨#[65]⟩)]) (ys:=[(aF.mk (⟨#[66]⟩) (⟨#[65]⟩))]) G G G ⟨G,N4⟩ Se sizeOf35 G zeroValue35 (by kernel_rfl) G G G G ⟨[.string (⟨#[66]⟩),.string (⟨#[65]⟩)],[],G,G,G⟩ G ?_
 intro eo ep er;refine iZ (α:=N2) (css:=[[.string (⟨#[66]⟩)],[.string (⟨#[65]⟩)]]) (zs:=[.string (⟨#[]⟩),.string (⟨#[]⟩)]) (out:=[.string (⟨#[66]⟩),.string (⟨#[65]⟩)]) (ys:=[(⟨#[66]⟩),(⟨#[65]⟩)]) G G G ⟨G,G,N4⟩ Pb Qb G PY (by kernel_rfl) G G G G ⟨[.string (⟨#[66]⟩)],[.string (⟨#[65]⟩)],G,G,⟨[.string (⟨#[65]⟩)],[],G,G,G⟩⟩ G ?_
 intro es et eu;refine Wp [1] ?_;obtain ⟨c8,c9,hm⟩:=aO hm;refine cY @yK c9 ?_;rintro _ _ _ ⟨rfl,⟨_,rfl,⟨_,rfl,ev,ew,rfl,rfl,b5⟩⟩⟩;have b5:=b5 H;refine gs ?_;cases a9:(decide (c8.2=0));have hm:=fM a9 hm;refine go ?_;refine cT G ?_;refine gs ?_;refine Ek [] 4 ?_;exact ef;have hm:=fN a9 hm;refine go ?_;refine iZ (α:=N2) (css:=[[.string (⟨#[65]⟩)]]) (zs:=[.string (⟨#[]⟩)]) (out:=[.string (⟨#[65]⟩)]) (ys:=[(⟨#[65]⟩)]) G G G ⟨G,N4⟩ Pb Qb G PY (by kernel_rfl) G G G G ⟨[.string (⟨#[65]⟩)],[],G,G,G⟩ G ?_
 intro ex ey ez;refine Wp [3] ?_;obtain ⟨fa,cb,hm⟩:=aO hm;refine cY @tk cb ?_;rintro _ _ _ ⟨rfl,⟨_,rfl,⟨_,rfl,rfl,rfl⟩⟩⟩;refine go ?_;refine cd hm G (λan hm=>?_) (λan hm=>?_);refine gs ?_;refine Ek [] 5 ?_;exact ef;refine gs ?_;refine Kr G G G G ?_;obtain ⟨fb,hm⟩:=aI hm;refine wK (α:=aJ) (l:=0) (h:=(min (a0.eS.length:Int) 3:Int).toNat) (xs:=a0.eS) G G RG sizeOf42 G h5 (by omega) (by omega) (.inl G) (λcap hcap=>by rw [Oc G]; exact (.inl ⟨G,G⟩)) (λm hmm=>(.inr ⟨_,_,_,G,G,by omega,by omega,G⟩)) (.inl ⟨G,G⟩) ?_
 intro fd cc fe;refine go ?_;refine wt 4 ?_;refine gs ?_;obtain ⟨ao,ce,hm⟩:=aO hm;refine ca @AT ce ?_;rintro _ ap _ (⟨cf,ff,rfl,rfl⟩ | ⟨cg,ch,fg,ci,fh,fi,fj,rfl,rfl,ck,cm⟩);have hm:=HZ cf hm;refine gs ?_;refine cj [(0,_),(2,_),(4,_),(9,_),(10,_)] [0] 4 (λu m H' M' L'=>ap=H'/\m=M'/\(57,.bool (true))::u=L') ?_ (λb6=>?_);rintro _ _ _ ⟨rfl,rfl,rfl⟩;refine cT G ?_;refine gs ?_;refine vr G G Sf G G (go ?_);obtain ⟨fk,cn,hm⟩:=aO hm;refine cz @tR cn ?_;refine go ?_;refine Ek [] 1 ?_;exact ef;refine go ?_;cases fl:(decide (ao.2=0));refine gj ?_;exact kx [0] 4 (b6 _ _ _ ⟨G,G,G⟩);refine go ?_;refine vr G G Sf G G (gj ?_);exact kx [0] 4 (b6 _ _ _ ⟨G,G,G⟩);have hm:=H4 ch hm;refine gs ?_;refine cj [(0,_),(2,_),(4,_),(9,_),(10,_)] [0,0,0] 4 (λu m H' M' L'=>ap=H'/\m=M'/\(57,.bool (!decide (ao.2=0)))::u=L') ?_ (λb7=>?_)
 rintro _ _ _ ⟨rfl,rfl,rfl⟩;refine cd hm G (λco hm=>?_) (λco hm=>?_);refine gs ?_;refine vr G G Sf G G (go ?_);refine Ek [] 3 ?_;exact ef;refine g2 ?_;refine gs ?_;refine lC 9 (aE.sz N2) ?_;obtain ⟨b8,cp,cq,hm⟩:=eT hm;refine cl [(0,_),(2,_),(4,_),(9,_),(67,_),(68,_)] [1,1,1] 1 [] 0 (λu m n H' M' L'=>∃ (I:Nat) (aa:List aJ),∃ Z:List N2,∃ ab:N3,∃ aq:List N3,(uW a0.eS 0 ((min (a0.eS.length:Int) 3:Int).toNat)).drop I=aa/\aa.length=n/\b8 I aa Z=some r/\Rw H' ab aq Z/\ap.le H'/\.row ab 9 (aE.sz N2) Z.length aq::m=M'/\(11,ab)::(69,.int .i64 ((I:Int)))::u=L') _ G ⟨0,_,_,_,_,G,G,hm,Rw.nil,lE,G,G⟩ ?_;rintro _ J _ _ ⟨I,aa,Z,ab,aq,b9,rfl,hm,ba,fn,rfl,rfl⟩;refine g2 ?_;refine bJ G (λar=>?_) (λar=>?_);obtain ⟨O,bb,rfl,cr,cs⟩:=kv b9 ar;have hm:=(cp _ _ _ _).symm.trans hm
 generalize ct:b8 (I+1) bb=cu at hm;unfold n6 at hm;refine go ?_;refine cj [(0,_),(2,_),(4,_),(9,_),(67,_),(68,_),(69,_)] [1,1,1] 1 (IQ (kQ cu) r J 11) ?_ (λbc=>?_);rintro fo _ _ ⟨ac,ad,au,hm,cv,fp,rfl,rfl⟩;unfold kQ at hm;refine gj ?_;exact kj (gV (Oh _) ⟨I+1,bb,_,_,_,cs,G,((O3 ct _).trans hm),cv,lE,G,G⟩) ⟨G,(Pc (λz=>some (Value.int .i64 z)) (dJ cr cc.mm.fO)),G,G,G,G,G,G,N4⟩;refine gs ?_;refine al (λfr=>?_);refine go ?_;refine wt 0 ?_;refine gs ?_;obtain ⟨cw,hm⟩:=aI hm;refine rN G G G G cw (go ?_);refine cd hm G (λcx hm=>?_) (λcx hm=>?_);refine go ?_;refine dZ (α:=N2) (css:=[[.string (O.Name)]]) (zs:=[.string (⟨#[]⟩)]) (out:=[.string (O.Name)]) (ys:=[O.Name]) G G G ⟨G,N4⟩ Pb Qb G PY (by kernel_rfl) G G G G ⟨[.string (O.Name)],[],G,G,G⟩ G ?_
 intro fs d0 ft d1 d2 d3;have fu:Value.pX d0=([O.Name]).length:=by rw [d1]; rfl
 obtain ⟨d4,hm⟩:=aI hm;refine Wp [1] ?_;refine dU (α:=N2) (l:=Z) (ys:=[O.Name]) G G QH ⟨_,G,G,G,G⟩ G G G G G ba.mm d3 d4 ?_;intro fv fw d5;refine gj ?_;exact kx [0,1,1,1] 1 (bc _ _ _ ⟨_,_,_,hm,d5,d2,G,G⟩);refine gj ?_;exact kx [1,1,1,1] 1 (bc _ _ _ ⟨_,_,_,hm,ba,lE,G,G⟩);obtain rfl:=ku b9 ar;have hm:=(cq _ _).symm.trans hm;refine gs ?_;obtain ⟨d6,d7,hm⟩:=aO hm;refine cy @yf d7 ?_;rintro _ _ _ ⟨rfl,⟨_,rfl,fx,fy,fz,g0,g1,g3,rfl,rfl,bd,be,av⟩⟩;have bd:=bd J;have be:=be J;have av:=av J;refine go ?_;refine al (λg4=>?_);refine wt 0 ?_;refine gs ?_;obtain ⟨d8,hm⟩:=aI hm;refine Wp [4] ?_;refine dG call9 G G G (λw ht=>by obtain ⟨H0_,hl0_,ht0_,hr0_,bk0_⟩:=ht.re av G; have h:=CK hr0_ d8 ht0_; exact nO bk0_ h) ?_
 rintro _ _ _ ⟨rfl,_,rfl,g5,g6,rfl,rfl,ae⟩;have ae:=ae J;refine go ?_;refine cj [(0,_),(9,_)] [6,6] 7 (IQ (jJ dI cg) r J 17) ?_ (λbf=>?_);rintro d9 _ _ ⟨a1,af,aw,hm,g7,g8,rfl,rfl⟩;unfold jJ at hm;refine g2 ?_;refine qP (.head _) (λda=>?_);obtain ⟨bg,db,dc,hm⟩:=eT hm;refine cl [(0,_),(9,_),(17,_),(99,_),(100,_)] [0] 2 [2,1] 0 (λu m n H' M' L'=>∃ (Y:Nat) (ag:List N2),∃ ax:(List aF),∃ ah:List aA,∃ ay:Int,∃ az ai:N3,∃ b0:List N3,(a1).drop Y=ag/\ag.length=n/\bg Y ag (ax,ah,ay)=some r/\aV H' az ax/\Rw H' ai b0 ah/\d9.le H'/\.row ai 56 (aE.sz aA) ah.length b0::.obj ci (.cells [az,ai,.int .i64 (ay)].toArray 63 (0,0))::m=M'/\(101,.int .i64 ((Y:Int)))::u=L') _ G ⟨0,_,_,_,_,_,_,_,G,G,hm,ck.mm,cm.mm,lE,G,G⟩ ?_;rintro _ aj _ _ ⟨Y,ag,ax,ah,ay,az,ai,b0,bh,rfl,hm,g9,ga,gb,rfl,rfl⟩
 refine g2 ?_;refine bJ G (λb1=>?_) (λb1=>?_);obtain ⟨gc,bi,rfl,dd,de⟩:=kv bh b1;have hm:=(db _ _ _ _).symm.trans hm;generalize df:bg (Y+1) bi=gd at hm
 try dsimp only at hm
 unfold n7 at hm;refine g2 ?_;refine gs ?_;refine Wp [1] ?_;obtain ⟨gf,dg,hm⟩:=aO hm;refine ca @wv dg ?_;rintro _ gg _ ⟨gh,gi,gk,gl,rfl,rfl,dh,di⟩;refine go ?_;refine cd hm G (λdj hm=>?_) (λdj hm=>?_);refine gs ?_;refine Ek [] 3 ?_;exact ef;refine gt ?_;refine gj ?_;exact kx [1] 0 (gV (Oh _) ⟨Y+1,bi,_,_,_,_,_,_,de,G,((O3 df _).trans hm),dh,di,lE,G,G⟩) G ⟨(Pc (λz=>some (Value.int .i64 z)) (dJ dd da)),G,G,G,G,G,N4⟩;obtain rfl:=ku bh b1;have hm:=(dc _ _).symm.trans hm
 try dsimp only at hm
 refine g2 ?_;refine Wp [1] ?_;obtain ⟨dk,dl,hm⟩:=aO hm;refine ca @uc dl ?_;rintro _ _ _ ⟨rfl,gm,gn,rfl,rfl,bj⟩;have bj:=bj aj;refine go ?_;cases bk:(decide ((dk.length:Int)=(a1.length:Int)));have hm:=fM bk hm;refine go ?_;refine cT G ?_;refine gs ?_;refine Ek [] 4 ?_;exact ef;have hm:=fN bk hm;refine go ?_;cases bl:(decide (0<(a1.length:Int)));have hm:=fM bl hm;refine go ?_;refine cF G ?_;refine g2 ?_;refine qP (.tail _ (.tail _ (.tail _ (.head _)))) (λdm=>?_);obtain ⟨bm,dn,dp,hm⟩:=eT hm;refine cl [(0,_),(9,_),(17,_),(127,_),(128,_)] [1,1,1] 1 [1,1,1] 1 (Mi a1 bm r aj 129) _ G ⟨0,_,G,G,hm,lE,G,G⟩ ?_;rintro _ bn _ _ ⟨a6,ak,bo,rfl,hm,dq,rfl,rfl⟩;refine g2 ?_;refine bJ G (λb2=>?_) (λb2=>?_);obtain ⟨gp,bp,rfl,ds,dt⟩:=kv bo b2;have hm:=(dn _ _ _ _).symm.trans hm;generalize du:bm (a6+1) bp=gq at hm;unfold n8 at hm
 refine g2 ?_;refine gs ?_;refine Wp [2] ?_;obtain ⟨bq,dv,hm⟩:=aO hm;refine cy @u6 dv ?_;rintro _ _ _ ⟨rfl,⟨_,rfl,gr,gu,rfl,rfl,br⟩⟩;have br:=br bn;refine go ?_;refine al (λgv=>?_);refine wt 0 ?_;refine gs ?_;cases bs:(decide (bq.2=0));have hm:=fM bs hm;refine go ?_;refine cT G ?_;refine gs ?_;refine Ek [] 5 ?_;exact ef;have hm:=fN bs hm;refine go ?_;cases bt:(decide ((bq.1.length:Int)=0));have hm:=fM bt hm;refine go ?_;refine Wp [3,3] ?_;obtain ⟨gw,dw,hm⟩:=aO hm;refine ca @qq dw ?_;rintro _ _ _ ⟨rfl,gx,gy,rfl,rfl,bu⟩;have bu:=bu bn;refine go ?_;refine Wp [0,4,2] ?_;obtain ⟨gz,dx,hm⟩:=aO hm;refine cY @fY dx ?_;rintro _ _ _ ⟨rfl,⟨_,rfl,⟨_,rfl,rfl,rfl⟩⟩⟩;refine go ?_;refine cd hm G (λdy hm=>?_) (λdy hm=>?_);refine gs ?_;refine Ek [] 6 ?_;exact ef;refine gt ?_;refine gj ?_;exact kx [3,3,3] 3 (gV (Oh _) ⟨a6+1,bp,dt,G,((O3 du _).trans hm),dq,G,G⟩) G ⟨(Pc (λz=>some (Value.int .i64 z)) (dJ ds dm)),G,G,G,G,G,N4⟩
 have hm:=fN bt hm;refine go ?_;refine cT G ?_;refine gs ?_;refine Ek [] 5 ?_;exact ef;obtain rfl:=ku bo b2;have hm:=(dp _ _).symm.trans hm;refine gs ?_;refine Ek [] 3 ?_;exact ef;have hm:=fN bl hm;refine go ?_;refine Wp [1,1] ?_;obtain ⟨h7,e0,hm⟩:=aO hm;refine ca @qq e0 ?_;rintro _ _ _ ⟨rfl,h8,h9,rfl,rfl,bv⟩;have bv:=bv aj;refine go ?_;refine cd hm G (λe1 hm=>?_) (λe1 hm=>?_);refine gs ?_;refine Ek [] 5 ?_;exact ef;refine g2 ?_;refine qP (.tail _ (.tail _ (.tail _ (.tail _ (.head _))))) (λe2=>?_);obtain ⟨bw,e3,e4,hm⟩:=eT hm;refine cl [(0,_),(9,_),(17,_),(127,_),(128,_)] [1,1,2] 2 [1,1,2] 2 (Mi a1 bw r aj 129) _ G ⟨0,_,G,G,hm,lE,G,G⟩ ?_;rintro _ bz _ _ ⟨a7,am,c0,rfl,hm,e5,rfl,rfl⟩;refine g2 ?_;refine bJ G (λb3=>?_) (λb3=>?_);obtain ⟨ha,c1,rfl,e6,e7⟩:=kv c0 b3;have hm:=(e3 _ _ _ _).symm.trans hm;generalize e8:bw (a7+1) c1=hb at hm
 unfold n9 at hm;refine g2 ?_;refine gs ?_;refine Wp [2] ?_;obtain ⟨c2,e9,hm⟩:=aO hm;refine cy @u6 e9 ?_;rintro _ _ _ ⟨rfl,⟨_,rfl,hc,hd,rfl,rfl,c3⟩⟩;have c3:=c3 bz;refine go ?_;refine al (λhe=>?_);refine wt 0 ?_;refine gs ?_;cases c4:(decide (c2.2=0));have hm:=fM c4 hm;refine go ?_;refine cT G ?_;refine gs ?_;refine Ek [] 5 ?_;exact ef;have hm:=fN c4 hm;refine go ?_;cases c5:(decide ((c2.1.length:Int)=0));have hm:=fM c5 hm;refine go ?_;refine Wp [3,3] ?_;obtain ⟨hf,ea,hm⟩:=aO hm;refine ca @qq ea ?_;rintro _ _ _ ⟨rfl,hg,hh,rfl,rfl,c6⟩;have c6:=c6 bz;refine go ?_;refine Wp [0,4,2] ?_;obtain ⟨hi,ec,hm⟩:=aO hm;refine cY @fY ec ?_;rintro _ _ _ ⟨rfl,⟨_,rfl,⟨_,rfl,rfl,rfl⟩⟩⟩;refine go ?_;refine cd hm G (λed hm=>?_) (λed hm=>?_);refine gs ?_;refine Ek [] 6 ?_;exact ef;refine gt ?_;refine gj ?_;exact kx [3,3,3] 3 (gV (Oh _) ⟨a7+1,c1,e7,G,((O3 e8 _).trans hm),e5,G,G⟩) G ⟨(Pc (λz=>some (Value.int .i64 z)) (dJ e6 e2)),G,G,G,G,G,N4⟩
 have hm:=fN c5 hm;refine go ?_;refine cT G ?_;refine gs ?_;refine Ek [] 5 ?_;exact ef;obtain rfl:=ku c0 b3;have hm:=(e4 _ _).symm.trans hm;refine gs ?_;refine Ek [] 3 ?_;exact ef;refine gs ?_;refine cd hm G (λee hm=>?_) (λee hm=>?_);refine go ?_;refine dZ (α:=N2) (css:=[[.string (⟨#[66,65,76,65,78,67,69]⟩)]]) (zs:=[.string (⟨#[]⟩)]) (out:=[.string (⟨#[66,65,76,65,78,67,69]⟩)]) (ys:=([(⟨#[66,65,76,65,78,67,69]⟩)]:List N2)) G G G ⟨G,N4⟩ Pb Qb G PY (by kernel_rfl) G G G G ⟨[.string (⟨#[66,65,76,65,78,67,69]⟩)],[],G,G,G⟩ G ?_
 intro hj eg hk eh ei ej;have hn:Value.pX eg=([(⟨#[66,65,76,65,78,67,69]⟩)]:List N2).length:=by rw [eh]; rfl
 obtain ⟨ek,hm⟩:=aI hm;refine Wp [1] ?_;refine dU (α:=N2) (l:=d6.2.1) (ys:=([(⟨#[66,65,76,65,78,67,69]⟩)]:List N2)) G G QH ⟨_,G,G,G,G⟩ G G G G G ae.mm ej ek ?_;intro ho hp el;refine gj ?_;exact kx [0,5,5] 6 (bf _ _ _ ⟨_,_,_,hm,el,ei,G,G⟩);refine gj ?_;exact kx [1,5,5] 6 (bf _ _ _ ⟨_,_,_,hm,ae,lE,G,G⟩);refine go ?_;cases c7:(decide (ao.2=0));refine gj ?_;exact kx [0,0,0] 4 (b7 _ _ _ ⟨G,G,G⟩) G ⟨(by exact sb (by first | rfl | simp only [a9,an,c7,KP])),G,G,G,G,G,N4⟩
 refine go ?_;refine vr G G Sf G G (gj ?_);exact kx [0,0,0] 4 (b7 _ _ _ ⟨G,G,G⟩) G ⟨(by exact sb (by first | rfl | simp only [a9,an,c7,KP])),G,G,G,G,G,N4⟩
end Go.Sim
namespace Go.Sim
open Go Go.RowKit Go.ChangeShapes Go.WideShapes Go.ChangeAt
open _root_.Go.IntKind (i64 u64 u32 u8)
class Ok (α:Type) where
 ok:α->Prop
abbrev ok {α:Type}[Ok α] (x:α):Prop:=Ok.ok x
def CW (n:Int):Prop:=-9223372036854775808<=n/\n<=9223372036854775807
instance:Ok Int:=⟨CW⟩
instance:Ok Bool:=⟨λ_=>True⟩
instance:Ok N2:=⟨λs=>s.size<=maxLen⟩
instance:Ok U8:=⟨λx=>0<=x.n/\x.n<=255⟩
instance:Ok Mp:=⟨λx=>0<=x.n/\x.n<=65535⟩
instance:Ok bT:=⟨λx=>0<=x.n/\x.n<=4294967295⟩
instance:Ok Ko:=⟨λx=>0<=x.n/\x.n<=18446744073709551615⟩
instance:Ok Mn:=⟨λx=>-2147483648<=x.n/\x.n<=2147483647⟩
instance {α:Type}[Ok α]:Ok (List α):=⟨λxs=>xs.length<=maxLen/\∀ x ∈ xs,ok x⟩
theorem wf_i64 {n:Int} (h:(Lit.int .i64 n).wf=true):CW n:=by
 simp [Lit.wf,IntKind.min,IntKind.max,IntKind.signed,IntKind.bits] at h; exact ⟨by omega,by omega⟩
def qQ (P:Program) (T:TypeId) (α:Type) [aE α] [Ok α]:Prop:=
 ∀ (Hd:Type) (enc:TypeId×N3->Hd) (w:World) (I:Nat) (cs:List N3) (d:DataW Hd×List MemPlace),
  DataW.trod enc P w 0 (λ_=>true) true I T cs=some d->∃ x:α,aE.E (snap w) cs x/\ok x
section
variable {P:Program}{T:TypeId}
theorem nf (ht:P.underlying T=some (.int .i64)):qQ P T Int:=λ_ _ _ _ _ _ h=>by
 obtain ⟨n,rfl,rfl,I⟩:=DataW.trod_int ht h; exact ⟨n,rfl,wf_i64 I⟩
theorem AH (ht:P.underlying T=some .bool):qQ P T Bool:=λ_ _ _ _ _ _ h=>by
 obtain ⟨b,rfl,rfl⟩:=DataW.trod_bool ht h; exact ⟨b,rfl,N4⟩
theorem jY (ht:P.underlying T=some .string):qQ P T N2:=λ_ _ _ _ _ _ h=>by
 obtain ⟨s,rfl,rfl,hs⟩:=DataW.trod_string ht h; exact ⟨s,rfl,hs⟩
theorem CJ {α:Type}{p:Nat->α->Prop}:∀ n,(∀ i,i<n->∃ x,p i x)->∃ xs:List α,xs.length=n/\∀ i x,xs[i]? = some x->p i x:=by
 intro n
 induction n with
 | zero=>exact λ_=>⟨[],rfl,by simp⟩
 | succ n ih=>
  intro h;obtain ⟨xs,hl,I⟩:=ih λi hi=>h i (by omega)
  obtain ⟨y,J⟩:=h n (by omega)
  refine ⟨xs++[y],by simp [hl],λi x hi=>?_⟩
  rw [P7] at hi
  split at hi
  ·exact I i x hi
  ·have:i-xs.length=0:=by
    have:=(N_.1 hi).1;simp at this; omega
   rw [this] at hi;simp at hi; subst hi
   rw [show i=n from by omega]; exact J
theorem q7 {e:TypeId}{α:Type}[aE α] [Ok α] (ht:P.underlying T=some (.slice e)) (hs:P.cellsOf e=aE.sz α) (h0:Nat.blt 0 (aE.sz α)=true) (he:qQ P e α):qQ P T (List α):=λHd enc w fuel cs d h=>by
 have h0':0<aE.sz α:=by simpa [Pk] using h0
 rcases DataW.trod_slice ht h with ⟨rfl,rfl⟩ | ⟨a,len,cap,Z,rest,n,rfl,rfl,rfl,_,hl,hm,hel,hE,hR,_⟩
 ·exact ⟨[],⟨_,rfl,.inl ⟨⟨_,rfl⟩,rfl⟩⟩,⟨Nat.zero_le _,λ_ h=>by cases h⟩⟩
 ·by_cases hc:cap=0
  ·subst hc
   obtain rfl:len=0:=by omega
   exact ⟨[],⟨_,rfl,.inl ⟨⟨_,rfl⟩,rfl⟩⟩,⟨Nat.zero_le _,λ_ h=>by cases h⟩⟩
  ·have Y:∀ i,i<cap->∃ J d,w.cells? 0 (a.add (i*P.cellsOf e)) (P.cellsOf e)=some J/\DataW.trod enc P w 0 (λ_=>true) true n e J=some d:=by
    intro i hi;have:∃ d,(w.cells? 0 (a.add (i*P.cellsOf e)) (P.cellsOf e)).bind (DataW.trod enc P w 0 (λ_=>true) true n e)=some d:=by
     by_cases hil:i<len
     ·exact ⟨Z[i]'(by omega),by rw [hE i hil]; exact N5 _⟩
     ·have:=(hR rfl).2 (i-len) (by omega)
      rw [show len+(i-len)=i from by omega] at this
      exact ⟨rest[i-len]'(by have:=(hR rfl).1; omega),by rw [this]; exact N5 _⟩
    obtain ⟨d,hd⟩:=this;obtain ⟨J,h1,h2⟩:=RR.1 hd;exact ⟨J,d,h1,h2⟩
   have O:∀ i,i<cap->∀ j,j<aE.sz α->∃ c,w.cell? ((a.add (i*aE.sz α)).add j)=some c:=by
    intro i hi j hj;obtain ⟨J,d,h1,_⟩:=Y i hi;rw [hs] at h1;obtain ⟨_,h2,h3⟩:=World.cells?_some h1;exact ⟨J[j]'(by omega),by rw [h3 j hj]; exact N5 _⟩
   obtain ⟨ab,ao,asp⟩:=a;have hb:asp=none/\∃ arr T fz,w.heap[ab]? = some (.cells arr T fz):=by
    obtain ⟨c,I⟩:=O 0 (by omega) 0 h0'
    rw [PG] at I;simp only [Addr.add,RQ,World.cell?] at I
    split at I
    ·rename_i arr T fz hh
     refine ⟨?_,arr,T,fz,hh⟩
     split at I
     ·cases I
     ·rename_i hn; cases asp <;> simp_all
    ·cases I
   obtain ⟨rfl,arr,T',fz,hh⟩:=hb;have hat:∀ i,i<cap->∀ j,j<aE.sz α->w.cell? (((⟨ab,ao,none⟩:Addr).add (i*aE.sz α)).add j)=arr[ao+i*aE.sz α+j]? := by
    intro i hi j hj;rw [O9,O9];simp [World.cell?,hh]
   have hsz:ao+cap*aE.sz α<=arr.size:=by
    obtain ⟨c,I⟩:=O (cap-1) (by omega) (aE.sz α-1) (by omega)
    rw [hat (cap-1) (by omega) _ (by omega)] at I
    have:=(Pt.1 I).1;have e1:cap*aE.sz α=(cap-1)*aE.sz α+aE.sz α:=by
     have:cap=(cap-1)+1:=by omega
     rw [this,Ou,Rx]; simp
    omega
   obtain ⟨xs,hxl,hxs⟩:=CJ (p:=λi (x:α)=>ok x/\∃ cs,aE.E (snap w) cs x/\∀ j c,cs[j]? = some c->arr[ao+i*aE.sz α+j]? = some c) len (by
    intro i hi;obtain ⟨J,d,h1,h2⟩:=Y i (by omega)
    obtain ⟨x,hx,hok⟩:=he _ _ _ _ _ _ h2;refine ⟨x,hok,J,hx,λj c hj=>?_⟩;rw [hs] at h1;obtain ⟨_,h3,h4⟩:=World.cells?_some h1;have hjl:=(N_.1 hj).1;rw [<- hat i (by omega) j (by omega),h4 j (by omega),hj])
   subst hxl;refine ⟨xs,⟨_,rfl,.inr ⟨ab,ao,cap,arr,T',fz,rfl,hl,hm,hh,hsz,λk x hk=>(hxs k x hk).2⟩⟩,by omega,λx hx=>?_⟩
   obtain ⟨k,hk⟩:=List.mem_iff_getElem?.1 hx;exact (hxs k x hk).1
theorem dF {Hd:Type}{enc:TypeId×N3->Hd}{w:World}{n:Nat}{cs:List N3}{fs:Array Field}{xs:List (DataW Hd×List MemPlace)}{α:Type}[aE α] [Ok α]
  (I:xs.length=fs.size) (Z:∀ (i:Nat) (f:Field),fs[i]? = some f->DataW.trod enc P w 0 (λ_=>true) true n f.type ((cs.drop f.offset).take (P.cellsOf f.type))=xs[i]?)
  (i:Nat) {f:Field}{o:Nat} (hi:fs[i]? = some f) (ho:f.offset=o) (hn:P.cellsOf f.type=aE.sz α) (ht:qQ P f.type α):∃ x:α,aE.E (snap w) ((cs.drop o).take (aE.sz α)) x/\ok x:=by
 have h:=Z i f hi;have J:i<xs.length:=by rw [I]; exact (Pt.1 hi).1
 rw [N5 J] at h;obtain ⟨x,Y,O⟩:=ht _ _ _ _ _ _ h;subst ho;rw [hn] at Y;exact ⟨x,Y,O⟩
theorem piece {cs r s:List N3}{o n m:Nat} (h:(cs.drop o).take n=r) (hm:o+n=m) (k:cs.drop m=s):cs.drop o=r++s:=by
 subst hm;rw [<- h,<- k,<- Qa,PE]
theorem tm {cs:List N3}{n m:Nat} (h:cs.length=n) (hm:n=m):cs.drop m=[]:=by subst hm; rw [<- h]; exact Q3
end
section
variable {Hd:Type}{enc:TypeId×N3->Hd}{P:Program}{W:World}{T:TypeId}{v:N3}{d:DataW Hd}{p:List MemPlace}{base:Nat}
theorem zV {α:Type}[aE α] [Ok α] (ht:qQ P T α) (h:DataW.Trod enc P W 0 (λ_=>true) true T v d p):∃ x:α,aE.E (snap W) v.cells.toList x/\ok x:=by
 obtain ⟨n,h⟩:=h; exact ht _ _ _ _ _ _ h
theorem Ja (J:P.underlying T=some (.int .i64)) (Y:Value.okWide P W .any base T v) (h:DataW.Trod enc P W 0 (λ_=>true) true T v d p):∃ x:Int,v=.int .i64 x/\CW x:=by
 obtain ⟨n,rfl⟩:=okWide_int J Y;obtain ⟨x,O,I⟩:=zV (nf J) h;simp [Value.cells,aE.E] at O; subst O; exact ⟨n,rfl,I⟩
theorem FA {e:TypeId}{α:Type}[aE α] [Ok α] (Y:P.underlying T=some (.slice e)) (ht:qQ P T (List α)) (Z:Value.okWide P W .any base T v) (h:DataW.Trod enc P W 0 (λ_=>true) true T v d p):
  ∃ x:List α,aV (snap W) v x/\ok x:=by
 obtain ⟨a,l,c,rfl⟩:=okWide_slice Y Z;obtain ⟨x,⟨u,J,O⟩,I⟩:=zV ht h;simp [Value.cells] at J; subst J; exact ⟨x,O,I⟩
theorem DG {fs:Array Field}{α:Type}[aE α] [Ok α] (J:P.underlying T=some (.struct fs)) (ht:qQ P T α) (O:Value.okWide P W .any base T v) (h:DataW.Trod enc P W 0 (λ_=>true) true T v d p):
  ∃ (x:α) (cs:List N3),v=.agg cs.toArray/\aE.E (snap W) cs x/\ok x:=by
 obtain ⟨cs,rfl,_⟩:=okWide_struct J O;obtain ⟨x,Y,I⟩:=zV ht h;exact ⟨x,cs.toList,by simp,Y,I⟩
end
theorem xz {Hd:Type}{enc:TypeId×N3->Hd}{P:Program} (hl:laidOutB P=true) {W Z:World} (hb:Below W.heap.size W Z):∀ {I:List TypeId}{vs:List N3}{J:List (DataW Hd)}{Y:List MemPlace},
  (I.all λt=>P.readableRec t && Nat.blt t P.types.size)=true->DataW.TrodAll enc P W 0 (λ_=>true) true I vs J Y->DataW.TrodAll enc P Z 0 (λb=>decide (b<W.heap.size)) true I vs J Y
 | [],[],[],_,_,h=>h
 | t::I,v::vs,d::J,Y,ht,h=>by
  obtain ⟨p,q,h1,h2,rfl⟩:=h;simp only [List.all_cons,PZ,Pk] at ht;have O:∀ x ∈ p,x.block<W.heap.size:=by obtain ⟨m,hm⟩:=h1; exact DataW.trod_lt m _ _ _ hm
  exact ⟨p,q,Below.trod hl ht.1.1 ht.1.2 h1 hb O,xz hl hb ht.2 h2,rfl⟩
 | [],_::_,_,_,_,h=>absurd h (by simp [DataW.TrodAll])
 | [],[],_::_,_,_,h=>absurd h (by simp [DataW.TrodAll])
 | _::_,[],_,_,_,h=>absurd h (by simp [DataW.TrodAll])
 | _::_,_::_,[],_,_,h=>absurd h (by simp [DataW.TrodAll])
theorem w6 {Hd:Type}{enc:TypeId×N3->Hd}{P:Program}{W:World}{base:Nat}{I:Nat->Bool}{J:Bool}:∀ {Y:List TypeId}{vs:List N3}{O:List (DataW Hd)}{Z:List MemPlace},
  DataW.TrodAll enc P W base I J Y vs O Z->O.length=Y.length
 | [],[],[],_,_=>rfl
 | t::Y,v::vs,d::O,Z,h=>by
  obtain ⟨p,q,h1,h2,rfl⟩:=h;simp [w6 h2]
 | [],_::_,_,_,h=>absurd h (by simp [DataW.TrodAll])
 | [],[],_::_,_,h=>absurd h (by simp [DataW.TrodAll])
 | _::_,[],_,_,h=>absurd h (by simp [DataW.TrodAll])
 | _::_,_::_,[],_,h=>absurd h (by simp [DataW.TrodAll])
theorem HB {Hd:Type}{enc:TypeId×N3->Hd}{P:Program}{O:Func}{s:ChangeSpec}{W W':World}{args:Array N3}{J gs:List (DataW Hd)}{I:List MemPlace}{tb:TypeId}
  (hl:laidOutB P=true) (hs:s.vars=[]) (hr:O.resultTypes=#[tb]) (hb:P.underlying tb=some .bool) (hp:(O.params.toList.all λt=>P.readableRec t && Nat.blt t P.types.size)=true)
  (hW:DataW.Whole enc P O.params.toList s.vars false W args.toList J gs I)
  (hfn:J.length=O.params.toList.length->s.fn Hd (J++[])={ results:=[.lit (.bool true)],args:=J })
  (Y:Below W.heap.size W W'):s.post enc P O false true false false W args (.bool true) W':=by
 have hW':=hW;obtain ⟨p,q,hA,hV,rfl,hfz,hnd⟩:=hW;rw [hs] at hV;obtain ⟨rfl,rfl⟩:=trodVars_none hV;have Z:J.length=O.params.toList.length:=by
  exact w6 hA
 have e:=hfn Z;have hA':=xz hl Y hp hA;refine ⟨J,[],_,[],p,[],hW',?_,?_,?_,Y.frame _,λh=>by cases h⟩
 ·rw [hr,e]; exact trodAll_mk1 (shut_bool hb _)
 ·rw [e]; exact hA'
 ·rw [hs,e]; rfl
end Go.Sim
