/-
  The proof, part C4.
-/
import Derived.ProofKit
import Derived.OpenShut
import Derived.HandedShaped
import Derived.Handed
import Derived.Lay
import Derived.LaidByTextLater
import Derived.Stop.LaidErr
import Derived.Test.YtkpbgofhndmbnaaGreatDoorSqC3
set_option linter.unusedVariables false
set_option linter.unusedSimpArgs false
set_option linter.unusedSectionVars false
set_option linter.unnecessarySimpa false
namespace Go.Sim
abbrev RD := @Bool.eq_false_or_eq_true
abbrev QV := @Go.DataW.trod_struct
abbrev PI := @Go.Proofs.Tryz.underlying3
abbrev Sa := @Go.Proofs.Tryz.underlying4
abbrev PJ := @Go.Proofs.Tryz.underlying9
abbrev Si := @Go.Proofs.Tryz.runUnderlying35
end Go.Sim
namespace Go.Sim
open Go Go.Proofs.Tryz
open _root_.Go.IntKind (i64 u64 u32 u8)
set_option maxRecDepth 100000
set_option maxHeartbeats 4000000
variable {B:Nat}{w0 w:World}[xf B w0] {H:Hp}{M:List bL}
theorem rj {p0_r:aQ}{p1_e:aI}{b0 b1 b2:Nat}{pg0:dW}{r:Int×aQ} (hm:lL p0_r p1_e=some r) (h0:cM H pg0 p0_r) (ht:St B w0 H (iT (aS b0 b1 b2 pg0 p0_r)::M) w):
    Calls prog 14 [.pointer (some ⟨b0,0,none⟩),.agg [.int .i64 (p1_e.Time),.string (p1_e.Kind),.string (p1_e.Name),.int .i64 (p1_e.Value)].toArray].toArray w (eA B w0 λH' M' v=>H.le H'/\∃ qpg0:dW,iT (aS b0 b1 b2 qpg0 r.2)::M=M'/\.int .i64 (r.1)=v/\cM H' qpg0 r.2):=by
 unfold lL at hm;refine enter func14 G G G ht ?_;obtain ⟨b4,b5,b6,b7,b8,b9,ai,ba,be,aj,bf,bg,bh,bi,bj,bk,bl,aq,ar,bm,bn,am⟩:=pg0;obtain ⟨gg,gh,gi,gk,gl,gm,eh,ei,ej,gn,gp,gq,gr,gu,gv,gw,gx⟩:=id h0;refine Cu 8 ?_;refine gs ?_;refine bx (λgy=>?_);refine g2 ?_;obtain ⟨gz,ek,hm⟩:=bind_some hm;refine cz @uv ek ?_;refine gs ?_;refine cd hm G (λel hm=>?_) (λel hm=>?_);refine bI (aN (bR G G G (aJ G G G (aZ (aT ?_)))));refine gj ?_;refine Ep [1,1,1,1,1,1,1,1] ?_;refine xe (aS b0 b1 b2 ⟨_,_,_,_,_,_,_,_,_,_,_,_,_,_,_,_,_,_,_,_,_,_⟩ p0_r) ?_;obtain rfl:=OZ hm;refine Ek [0] 1 ?_;exact lj G G ⟨lE,⟨b4,b5,b6,b7,b8,b9,ai,ba,be,aj,bf,bg,bh,bi,bj,bk,bl,aq,ar,bm,bn,am⟩,G,G,h0⟩;refine g2 ?_;refine oz fm 6 [ph _,ph _,ph _,ph _,ph _,ph _] ⟨om,om,om,om,om,om,OV⟩ ?_;intro em e1
 refine dz ?_;refine go ?_;refine cd hm G (λeo hm=>?_) (λeo hm=>?_);refine bI (aN (aJ G G G (aZ (aT ?_))));refine gj ?_;refine Ep [1,1,1,1,1,1,1,1] ?_;refine xe (aS b0 b1 b2 ⟨_,_,_,_,_,_,_,_,_,_,_,_,_,_,_,_,_,_,_,_,_,_⟩ p0_r) ?_;obtain rfl:=OZ hm;refine Ek [0] 1 ?_;exact lj G G ⟨e1,⟨b4,b5,b6,b7,b8,b9,ai,ba,be,aj,bf,bg,bh,bi,bj,bk,bl,aq,ar,bm,bn,am⟩,G,G,h0.mm⟩;refine gs ?_;refine Wp [7,7] ?_;obtain ⟨h1,ep,hm⟩:=bind_some hm;refine ca @ry ep ?_;rintro _ _ _ ⟨rfl,h2,h3,rfl,rfl,e2⟩;have e2:=e2 em;refine go ?_;refine cd hm G (λer hm=>?_) (λer hm=>?_);refine bI (aN (aJ G G G (aZ (aT ?_))));refine gj ?_;refine Ep [4,4,4,4,4,4,1,1] ?_;refine xe (aS b0 b1 b2 ⟨_,_,_,_,_,_,_,_,_,_,_,_,_,_,_,_,_,_,_,_,_,_⟩ p0_r) ?_;obtain rfl:=OZ hm;refine Ek [0] 2 ?_;exact lj G G ⟨e1,⟨b4,b5,b6,b7,b8,b9,ai,ba,be,aj,bf,bg,bh,bi,bj,bk,bl,aq,ar,bm,bn,am⟩,G,G,h0.mm⟩
 refine gs ?_;obtain ⟨ag,es,hm⟩:=bind_some hm;refine oz fm 9 [ph _,ph _,ph _,ph (.agg [b4,b5,b6,b7,b8,b9].toArray),(Mh ag),ph _,ph _,ph _,ph _] ⟨om,om,om,?_,?_,om,om,om,om,OV⟩ ?_;rintro HX hX X Rest hR _ _ ⟨rfl,rfl⟩ hU hUp;refine cA (cs:=[b4,b5,b6,b7,b8,b9]) G G Q1 QM G (dT (hR _ (.tail _ (.tail _ (.tail _ (.tail _ (.head _)))))) G) G ?_;exact o0 ⟨G,G⟩;rintro HX hX X Rest hR _ _ ⟨rfl,rfl⟩ hU hUp;refine ca @n8 es ?_;rintro _ _ _ ⟨rfl,au,bo,av,bp,aw,bq,ax,br,ay,bs,az,bt,rfl,rfl,c9,dj,cb,dk,dl,cc⟩;have c9:=c9 HX;have dj:=dj HX;have cb:=cb HX;have dk:=dk HX;have dl:=dl HX;have cc:=cc HX;exact oe [.row au 9 (aF.sz ByteArray) ag.a_.length bo,.row av 41 (aF.sz aK) ag.aH.length bp,.row aw 120 (aF.sz aO) ag.aG.length bq,.row ax 152 (aF.sz bB) ag.cR.length br,.row ay 55 (aF.sz aE) ag.aY.length bs,.row az 156 (aF.sz bS) ag.bM.length bt] lE ⟨au,bo,av,bp,aw,bq,ax,br,ay,bs,az,bt,G,G,(c9),(dj),(cb),(dk),(dl),(cc)⟩
 intro et h4;refine dr ?_;rintro _ _ ⟨au,bo,av,bp,aw,bq,ax,br,ay,bs,az,bt,rfl,rfl,c9,dj,cb,dk,dl,cc⟩;refine dz ?_;refine Wp [0,0,0,0,0,0,0,0,0,0,0,0,0,0,0,0] ?_;obtain ⟨eu,hm⟩:=aL hm;refine Wp [11] ?_;refine hO call53 G G G (λw ht=>by obtain ⟨H0_,hl0_,ht0_,hr0_,bk0_⟩:=ht.kG ei.mm G; have h:=w7 hr0_ eu ht0_; exact fK bk0_ h) ?_
 rintro _ _ _ ⟨rfl,_,rfl,e3,h5,rfl,rfl,ds⟩;have ds:=ds et;refine dS (css:=[[au,av,aw,ax,ay,az],[e3]]) (zs:=[.slice none 0 0,.slice none 0 0,.slice none 0 0,.slice none 0 0,.slice none 0 0,.slice none 0 0,.slice none 0 0]) (out:=[au,av,aw,ax,ay,az,e3]) (places:=[(0,6),(6,1)]) G G G ⟨G,(Rw.cells ds),OV⟩ zeroValue103 G runUnderlying103 (λw=>by kernel_rfl) G ?_
 refine bx (λh6=>?_);refine g2 ?_;refine Wp [13,1,12,12,12,12,9,9] ?_;refine Wk (aS b0 b1 b2 ⟨_,_,_,_,_,_,_,_,_,_,_,_,_,_,_,_,_,_,_,_,_,_⟩ p0_r) ?_;refine Wp [3] ?_;refine bV (c9).rd G (λh7 h8 h9=>?_);refine Wp [4] ?_;refine bV cb.mm.rd G (λha hb hc=>?_);refine Wp [6] ?_;refine bV cc.mm.rd G (λhd he hf=>?_);refine Wp [0,0,1,1,1] ?_;obtain ⟨a3,ev,hm⟩:=bind_some hm;refine ca @wT ev ?_;rintro _ hg _ ⟨hh,an,ac,bb,ao,ad,bc,ae,bd,ap,ak,b3,rfl,rfl,e4,dt,e5,du,dv,e6,e7⟩;refine Wu 8 ?_;refine gs ?_;refine cd hm G (λew hm=>?_) (λew hm=>?_);refine gs ?_;refine xe (aS b0 b1 b2 ⟨_,_,_,_,_,_,_,_,_,_,_,_,_,_,_,_,_,_,_,_,_,_⟩ p0_r) ?_;obtain rfl:=OZ hm;refine Ek [0] 7 ?_;exact lj G G ⟨lE,⟨b4,b5,b6,b7,b8,b9,ai,ba,be,aj,bf,bg,bh,bi,bj,bk,bl,aq,ar,bm,bn,am⟩,G,G,h0.mm⟩
 refine gs ?_;obtain ⟨a4,ex,hm⟩:=bind_some hm;refine yV fm 16 [ph _,ph _,ph _,ph (.agg [an,ac,ao,ad,ae,ap].toArray),ph _,ph _,ph _,ph _,(λH rs v=>∃ a0:Value,∃ a6:List Value,∃ a1:Value,∃ a7:List Value,∃ a2:Value,∃ a5:List Value,[.row ac 41 (aF.sz aK) a3.2.n.aH.length bb,.row ad 152 (aF.sz bB) a3.2.n.cR.length bc,.row ae 55 (aF.sz aE) a3.2.n.aY.length bd,.row ak 9 (aF.sz ByteArray) a3.2.on.length b3,.row a2 9 (aF.sz ByteArray) a4.2.1.length a5]=rs/\.tuple #[.agg [a0,a1].toArray,a2,.int .i64 (a4.2.2)]=v/\Rw H a0 a6 a4.1.f_/\Rw H a1 a7 a4.1.iW/\Rw H a2 a5 a4.2.1/\aP H a0 a4.1.f_/\aP H a1 a4.1.iW),(λH rs v=>∃ a0 a1 a2:Value,∃ a5 a6 a7:List Value,[.row ac 41 (aF.sz aK) a3.2.n.aH.length bb,.row ad 152 (aF.sz bB) a3.2.n.cR.length bc,.row ae 55 (aF.sz aE) a3.2.n.aY.length bd,.row ak 9 (aF.sz ByteArray) a3.2.on.length b3,.row a2 9 (aF.sz ByteArray) a4.2.1.length a5]=rs/\.tuple #[.agg [a0,a1].toArray,a2,.int .i64 (a4.2.2)]=v/\Rw H a0 a6 a4.1.f_/\Rw H a1 a7 a4.1.iW/\Rw H a2 a5 a4.2.1/\aP H a0 a4.1.f_/\aP H a1 a4.1.iW),(Jv a4.1),(Nn ac a3.2 bb ad bc ae bd ak b3 a4.2.1),ph (.int .i64 (a4.2.2)),(Nh),(Ni a4.1),(Nn ac a3.2 bb ad bc ae bd ak b3 a4.2.1)] (sp 16 [(8,[16,17,18,19]),(9,[8]),(11,[9]),(14,[13]),(15,[11])]) (nn 16) [9,9,9,9] [0,1,2,3,4,5,6,7,10,12,14,15] G ⟨om,om,om,?_,om,om,om,om,?_,?_,?_,?_,?_,?_,?_,?_,OV⟩ ?_
 rintro HX hX X Rest hR _ _ ⟨rfl,rfl⟩ hU hUp;refine cA (cs:=[an,ac,ao,ad,ae,ap]) G G Q1 QM G (dT (hR _ (.tail _ (.tail _ (.tail _ (.tail _ (.tail _ (.tail _ (.tail _ (.tail _ (.head _)))))))))) G) G ?_;exact o0 ⟨G,G⟩;rintro HX hX X Rest hR _ _ ⟨rfl,rfl⟩ _ _ ⟨rfl,rfl⟩ hU hUp;refine Wp [0,0,0,0] ?_;refine hO call51 G G G (λw ht=>by obtain ⟨H0_,hl0_,ht0_,hr0_,bk0_⟩:=ht.kG dt.mm G; obtain ⟨H1_,hl1_,ht1_,hr1_,bk1_⟩:=ht0_.kG du.mm G; obtain ⟨H2_,hl2_,ht2_,hr2_,bk2_⟩:=ht1_.kG dv.mm G; obtain ⟨H3_,hl3_,ht3_,hr3_,bk3_⟩:=ht2_.kG e7.mm G; have h:=n_ (hm:=ex) e4.mm hr0_.mm e5.mm hr1_.mm hr2_.mm e6.mm hr3_ ht3_; exact fK bk0_ (fK bk1_ (fK bk2_ (fK bk3_ (h))))) ?_
 rintro _ _ _ ⟨rfl,⟨_,rfl,⟨_,rfl,⟨_,rfl,⟨_,rfl,a0,a6,a1,a7,a2,a5,rfl,rfl,a8,a9,af⟩⟩⟩⟩⟩;have a8:=a8 HX;have a9:=a9 HX;have af:=af HX;refine Wp [4] ?_;refine bV (a8).rd G (λhi hj aa=>?_);refine Wp [4] ?_;refine bV a9.mm.rd G (λhk hn ab=>?_);exact oe [.row ac 41 (aF.sz aK) a3.2.n.aH.length bb,.row ad 152 (aF.sz bB) a3.2.n.cR.length bc,.row ae 55 (aF.sz aE) a3.2.n.aY.length bd,.row ak 9 (aF.sz ByteArray) a3.2.on.length b3,.row a2 9 (aF.sz ByteArray) a4.2.1.length a5] lE ⟨a0,a6,a1,a7,a2,a5,G,G,a8.mm,a9.mm,af.mm,aa.mm,(ab)⟩;rintro HX hX X Rest hR _ _ ⟨a0,a6,a1,a7,a2,a5,rfl,rfl,a8,a9,af,aa,ab⟩ hU hUp;refine Wp [0,0,0,0,0] ?_;refine wo ?_;exact oe [.row ac 41 (aF.sz aK) a3.2.n.aH.length bb,.row ad 152 (aF.sz bB) a3.2.n.cR.length bc,.row ae 55 (aF.sz aE) a3.2.n.aY.length bd,.row ak 9 (aF.sz ByteArray) a3.2.on.length b3,.row a2 9 (aF.sz ByteArray) a4.2.1.length a5] lE ⟨a0,a1,a2,a5,a6,a7,G,G,(a8),(a9),(af),(aa),(ab)⟩
 rintro HX hX X Rest hR _ _ ⟨a0,a1,a2,a5,a6,a7,rfl,rfl,a8,a9,af,aa,ab⟩ hU hUp;refine wo ?_;exact o0 ⟨a0,a1,a6,a7,G,G,(a8),(a9),(aa),(ab)⟩;rintro HX hX X Rest hR _ _ ⟨a0,a1,a2,a5,a6,a7,rfl,rfl,a8,a9,af,aa,ab⟩ hU hUp;refine Wp [0,0,0,0,0] ?_;refine wo ?_;exact oe [.row ac 41 (aF.sz aK) a3.2.n.aH.length bb,.row ad 152 (aF.sz bB) a3.2.n.cR.length bc,.row ae 55 (aF.sz aE) a3.2.n.aY.length bd,.row ak 9 (aF.sz ByteArray) a3.2.on.length b3,.row a2 9 (aF.sz ByteArray) a4.2.1.length a5] lE ⟨a2,a5,G,G,(af)⟩;rintro HX hX X Rest hR _ _ ⟨a0,a1,a2,a5,a6,a7,rfl,rfl,a8,a9,af,aa,ab⟩ hU hUp;refine wo ?_;exact o0 ⟨G,G⟩;rintro HX hX X Rest hR hU hUp;refine al (λah=>?_);exact oe [.obj ah (.cells ([.slice none 0 0,.slice none 0 0]:List Value).toArray 65 (0,0))] lE ⟨ah,G,G⟩;rintro HX hX X Rest hR _ _ ⟨ah,rfl,rfl⟩ _ _ ⟨a0,a1,a6,a7,rfl,rfl,a8,a9,aa,ab⟩ _ _ ⟨a0,a6,a1,a7,a2,a5,rfl,rfl,a8,a9,af,aa,ab⟩ _ _ ⟨rfl,rfl⟩ _ _ ⟨rfl,rfl⟩ _ _ ⟨rfl,rfl⟩ _ _ ⟨rfl,rfl⟩ _ _ ⟨rfl,rfl⟩ _ _ ⟨rfl,rfl⟩ _ _ ⟨rfl,rfl⟩ _ _ ⟨rfl,rfl⟩ _ _ ⟨a0,a6,a1,a7,a2,a5,rfl,rfl,a8,a9,af,aa,ab⟩ _ _ ⟨a0,a1,a2,a5,a6,a7,rfl,rfl,a8,a9,af,aa,ab⟩ _ _ ⟨a0,a1,a6,a7,rfl,rfl,a8,a9,aa,ab⟩ _ _ ⟨ah,rfl,rfl⟩ hU hUp
 refine wt 0 ?_;exact aZ (mU G [.obj ah (.cells [a0,a1].toArray 65 (0,0))] lE ⟨a0,a1,ah,a6,a7,G,G,(a8),(a9),(aa),(ab)⟩);intro HX hX X Rest hR;rintro _ _ ⟨a2,a5,rfl,rfl,af⟩;rintro _ _ _ ⟨a0,a1,ah,a6,a7,rfl,_,a8,a9,aa,ab⟩;rintro _ _ ⟨rfl,rfl⟩;rintro _ _ ⟨rfl,rfl⟩;rintro _ _ ⟨rfl,rfl⟩;rintro _ _ ⟨rfl,rfl⟩;rintro _ _ ⟨rfl,rfl⟩;rintro _ _ ⟨rfl,rfl⟩;rintro _ _ ⟨rfl,rfl⟩;rintro _ _ ⟨rfl,rfl⟩;rintro _ _ ⟨a0,a6,a1,a7,a2,a5,rfl,rfl,a8,a9,af,aa,ab⟩;rintro _ _ ⟨a0,a1,a2,a5,a6,a7,rfl,rfl,a8,a9,af,aa,ab⟩;rintro _ _ ⟨a0,a1,a6,a7,rfl,rfl,a8,a9,aa,ab⟩;rintro _ _ ⟨a2,a5,rfl,rfl,af⟩;rintro _ _ ⟨ah,rfl,rfl⟩;rintro _ _ hv_ ⟨a0,a1,dw,a6,a7,rfl,hp_,a8,a9,aa,ab⟩;obtain rfl:ah=dw:=by have e:=(hp_.trans (hv_ _ rfl)).symm; cases e; rfl
 intro hU hUp;refine Wp [0,0,0,0,0] ?_;refine wo ?_;exact oe [.row ac 41 (aF.sz aK) a3.2.n.aH.length bb,.row ad 152 (aF.sz bB) a3.2.n.cR.length bc,.row ae 55 (aF.sz aE) a3.2.n.aY.length bd,.row ak 9 (aF.sz ByteArray) a3.2.on.length b3,.row a2 9 (aF.sz ByteArray) a4.2.1.length a5] lE ⟨a2,a5,G,G,(af)⟩;intro e8 ho;rintro _ _ ⟨rfl,rfl⟩;rintro _ _ ⟨rfl,rfl⟩;rintro _ _ ⟨rfl,rfl⟩;rintro _ _ ⟨rfl,rfl⟩;rintro _ _ ⟨rfl,rfl⟩;rintro _ _ ⟨rfl,rfl⟩;rintro _ _ ⟨rfl,rfl⟩;rintro _ _ ⟨rfl,rfl⟩;rintro _ _ ⟨a0,a6,a1,a7,a2,a5,rfl,rfl,a8,a9,af,aa,ab⟩;rintro _ _ ⟨a0,a1,a2,a5,a6,a7,rfl,rfl,a8,a9,af,aa,ab⟩;rintro _ _ ⟨a0,a1,a6,a7,rfl,rfl,a8,a9,aa,ab⟩;rintro _ _ ⟨a2,a5,rfl,rfl,af⟩;rintro _ _ ⟨rfl,rfl⟩;rintro _ _ ⟨ah,rfl,rfl⟩;rintro _ _ hv_ ⟨a0,a1,dw,a6,a7,rfl,hp_,a8,a9,aa,ab⟩;obtain rfl:ah=dw:=by have e:=(hp_.trans (hv_ _ rfl)).symm; cases e; rfl
 rintro _ _ ⟨a2,a5,rfl,rfl,af⟩;refine uk ?_;refine Wp [0,0,0,0,0,0,0,0,0,0,0,0,0,0,0,0,0] ?_;refine g2 ?_;refine cd hm G (λey hm=>?_) (λey hm=>?_);refine bI (aN (bR G G G (aJ G G G (aZ (aT ?_)))));refine gj ?_;refine Ep [6,6,6,6,6,6,6,6] ?_;refine xe (aS b0 b1 b2 ⟨_,_,_,_,_,_,_,_,_,_,_,_,_,_,_,_,_,_,_,_,_,_⟩ p0_r) ?_;obtain rfl:=OZ hm;refine Ek [0] 9 ?_;exact lj G G ⟨lE,⟨b4,b5,b6,b7,b8,b9,ai,ba,be,aj,bf,bg,bh,bi,bj,bk,bl,aq,ar,bm,bn,am⟩,G,G,h0.mm⟩;refine cj [(0,_),(3,_),(6,_),(8,_),(9,_)] [0,0,0,0,0,0,0,0,0,0,0,0,0,0,0,1] 1 (vO e8 70 ((decide (p1_e.Kind=(⟨#[98,97,99,107]⟩))) && (decide (0<(a4.2.1.length:Int))))) ?_ (λe9=>?_);rintro _ _ _ ⟨rfl,rfl,rfl⟩;refine cd hm G (λez hm=>?_) (λez hm=>?_);refine bI (aN (aJ G G G (aZ (aT ?_))));refine gj ?_;refine Ep [6,6,6,6,6,6,6,6] ?_
 refine xe (aS b0 b1 b2 ⟨_,_,_,_,_,_,_,_,_,_,_,_,_,_,_,_,_,_,_,_,_,_⟩ p0_r) ?_;obtain rfl:=OZ hm;refine Ek [0] 8 ?_;exact lj G G ⟨lE,⟨b4,b5,b6,b7,b8,b9,ai,ba,be,aj,bf,bg,bh,bi,bj,bk,bl,aq,ar,bm,bn,am⟩,G,G,h0.mm⟩;refine go ?_;refine cj [(0,_),(3,_),(6,_),(8,_),(9,_)] [0,0,0,0,0,0,0,0,4,4,4,4] 4 (N1 (jD p0_r p1_e a3 a4) r e8 b1) ?_ (λea=>?_);rintro hp _ _ ⟨ce,bu,bv,bw,cf,dm,cg,dn,ch,dp,ci,dq,hm,fa,fb,fd,fe,hq,rfl,rfl⟩;unfold jD at hm;refine gs ?_;refine yV fm 28 [ph _,ph _,ph _,ph _,ph _,ph _,ph _,ph _,ph (.agg [an,ac,ao,ad,ae,ap].toArray),ph _,ph _,ph _,ph _,ph _,ph _,ph _,ph _,ph _,(λH rs v=>[.obj b0 (.cells [an,ac,ao,ad,ae,ap,ai,ba,aj,.pointer (some ⟨b1,0,none⟩),aq,ar,.int .i64 (p0_r.time),.pointer (some ⟨b2,0,none⟩),am].toArray 94 (0,0))]=rs/\.pointer (some ⟨b0,0,none⟩)=v),ph (.pointer (some ⟨b0,0,none⟩)),ph (.pointer (some ⟨b0,7,none⟩)),(λH rs v=>[.obj b0 (.cells [an,ac,ao,ad,ae,ap,ai,ak,aj,.pointer (some ⟨b1,0,none⟩),aq,ar,.int .i64 (p0_r.time),.pointer (some ⟨b2,0,none⟩),am].toArray 94 (0,0))]=rs/\.pointer (some ⟨b0,7,none⟩)=v),ph (.pointer (some ⟨b0,0,none⟩)),ph (.pointer (some ⟨b0,10,none⟩)),(λH rs v=>[.obj b0 (.cells [an,ac,ao,ad,ae,ap,ai,ak,aj,.pointer (some ⟨b1,0,none⟩),a0,a1,.int .i64 (p0_r.time),.pointer (some ⟨b2,0,none⟩),am].toArray 94 (0,0))]=rs/\.pointer (some ⟨b0,10,none⟩)=v),ph (.pointer (some ⟨b0,0,none⟩)),ph (.pointer (some ⟨b0,12,none⟩)),(λH rs v=>[.obj b0 (.cells [an,ac,ao,ad,ae,ap,ai,ak,aj,.pointer (some ⟨b1,0,none⟩),a0,a1,.int .i64 (p1_e.Time),.pointer (some ⟨b2,0,none⟩),am].toArray 94 (0,0))]=rs/\.pointer (some ⟨b0,12,none⟩)=v)] (sp 28 [(18,[28]),(21,[18]),(24,[21]),(27,[24])]) (nn 28) [10] [0,1,2,3,4,5,6,7,8,9,10,11,12,13,14,15,16,17,19,20,22,23,25,26,27] G ⟨om,om,om,om,om,om,om,om,?_,om,om,om,om,om,om,om,om,om,?_,?_,?_,?_,?_,?_,?_,?_,?_,?_,OV⟩ ?_
 rintro HX hX X Rest hR _ _ ⟨rfl,rfl⟩ hU hUp;refine cA (cs:=[an,ac,ao,ad,ae,ap]) G G Q1 QM G (dT (hR _ (.tail _ (.tail _ (.tail _ (.tail _ (.tail _ (.tail _ (.tail _ (.tail _ (.tail _ (.tail _ (.tail _ (.tail _ (.tail _ (.head _))))))))))))))) G) G ?_;exact o0 ⟨G,G⟩;intro HX hX X Rest hR;refine dr ?_;intro hU hUp;refine wt 0 ?_;exact aZ (mU G [.obj b0 (.cells [an,ac,ao,ad,ae,ap,ai,ba,aj,.pointer (some ⟨b1,0,none⟩),aq,ar,.int .i64 (p0_r.time),.pointer (some ⟨b2,0,none⟩),am].toArray 94 (0,0))] lE ⟨G,G⟩);intro HX hX X Rest hR;refine dr ?_;rintro _ _ _ ⟨rfl,_⟩ hU hUp;refine wo ?_;exact o0 ⟨G,G⟩;intro HX hX X Rest hR;refine dr ?_;rintro _ _ _ ⟨rfl,_⟩ hU hUp;refine wo ?_;exact o0 ⟨G,G⟩;rintro HX hX X Rest hR _ _ ⟨rfl,rfl⟩ _ _ ⟨rfl,rfl⟩ _ _ _ ⟨rfl,_⟩ _ _ ⟨rfl,rfl⟩ _ _ ⟨rfl,rfl⟩ _ _ ⟨rfl,rfl⟩ _ _ ⟨rfl,rfl⟩ _ _ ⟨rfl,rfl⟩ _ _ ⟨rfl,rfl⟩ _ _ ⟨rfl,rfl⟩ _ _ ⟨rfl,rfl⟩ _ _ ⟨rfl,rfl⟩ _ _ ⟨rfl,rfl⟩ _ _ ⟨rfl,rfl⟩ _ _ ⟨rfl,rfl⟩ _ _ _ ⟨rfl,_⟩ hU hUp
 refine wt 0 ?_;exact aZ (mU G [.obj b0 (.cells [an,ac,ao,ad,ae,ap,ai,ak,aj,.pointer (some ⟨b1,0,none⟩),aq,ar,.int .i64 (p0_r.time),.pointer (some ⟨b2,0,none⟩),am].toArray 94 (0,0))] lE ⟨G,G⟩);intro HX hX X Rest hR;refine dr ?_;rintro _ _ _ ⟨rfl,_⟩ _ _ ⟨rfl,rfl⟩ _ _ ⟨rfl,rfl⟩ _ _ _ ⟨rfl,_⟩ hU hUp;refine wo ?_;exact o0 ⟨G,G⟩;intro HX hX X Rest hR;refine dr ?_;rintro _ _ _ ⟨rfl,_⟩ _ _ ⟨rfl,rfl⟩ _ _ ⟨rfl,rfl⟩ _ _ _ ⟨rfl,_⟩ hU hUp;refine wo ?_;exact o0 ⟨G,G⟩;rintro HX hX X Rest hR _ _ ⟨rfl,rfl⟩ _ _ ⟨rfl,rfl⟩ _ _ _ ⟨rfl,_⟩ _ _ ⟨rfl,rfl⟩ _ _ ⟨rfl,rfl⟩ _ _ ⟨rfl,rfl⟩ _ _ ⟨rfl,rfl⟩ _ _ ⟨rfl,rfl⟩ _ _ ⟨rfl,rfl⟩ _ _ ⟨rfl,rfl⟩ _ _ ⟨rfl,rfl⟩ _ _ ⟨rfl,rfl⟩ _ _ ⟨rfl,rfl⟩ _ _ ⟨rfl,rfl⟩ _ _ ⟨rfl,rfl⟩ _ _ ⟨rfl,rfl⟩ _ _ ⟨rfl,rfl⟩ _ _ _ ⟨rfl,_⟩ _ _ ⟨rfl,rfl⟩ _ _ ⟨rfl,rfl⟩ _ _ _ ⟨rfl,_⟩ hU hUp;refine wt 0 ?_;exact aZ (mU G [.obj b0 (.cells [an,ac,ao,ad,ae,ap,ai,ak,aj,.pointer (some ⟨b1,0,none⟩),a0,a1,.int .i64 (p0_r.time),.pointer (some ⟨b2,0,none⟩),am].toArray 94 (0,0))] lE ⟨G,G⟩)
 intro HX hX X Rest hR;refine dr ?_;rintro _ _ _ ⟨rfl,_⟩ _ _ ⟨rfl,rfl⟩ _ _ ⟨rfl,rfl⟩ _ _ _ ⟨rfl,_⟩ _ _ ⟨rfl,rfl⟩ _ _ ⟨rfl,rfl⟩ _ _ _ ⟨rfl,_⟩ hU hUp;refine wo ?_;exact o0 ⟨G,G⟩;intro HX hX X Rest hR;refine dr ?_;rintro _ _ _ ⟨rfl,_⟩ _ _ ⟨rfl,rfl⟩ _ _ ⟨rfl,rfl⟩ _ _ _ ⟨rfl,_⟩ _ _ ⟨rfl,rfl⟩ _ _ ⟨rfl,rfl⟩ _ _ _ ⟨rfl,_⟩ hU hUp;refine wo ?_;exact o0 ⟨G,G⟩;rintro HX hX X Rest hR _ _ ⟨rfl,rfl⟩ _ _ ⟨rfl,rfl⟩ _ _ _ ⟨rfl,_⟩ _ _ ⟨rfl,rfl⟩ _ _ ⟨rfl,rfl⟩ _ _ ⟨rfl,rfl⟩ _ _ ⟨rfl,rfl⟩ _ _ ⟨rfl,rfl⟩ _ _ ⟨rfl,rfl⟩ _ _ ⟨rfl,rfl⟩ _ _ ⟨rfl,rfl⟩ _ _ ⟨rfl,rfl⟩ _ _ ⟨rfl,rfl⟩ _ _ ⟨rfl,rfl⟩ _ _ ⟨rfl,rfl⟩ _ _ ⟨rfl,rfl⟩ _ _ ⟨rfl,rfl⟩ _ _ ⟨rfl,rfl⟩ _ _ ⟨rfl,rfl⟩ _ _ ⟨rfl,rfl⟩ _ _ _ ⟨rfl,_⟩ _ _ ⟨rfl,rfl⟩ _ _ ⟨rfl,rfl⟩ _ _ _ ⟨rfl,_⟩ _ _ ⟨rfl,rfl⟩ _ _ ⟨rfl,rfl⟩ _ _ _ ⟨rfl,_⟩ hU hUp;refine wt 0 ?_;exact aZ (mU G [.obj b0 (.cells [an,ac,ao,ad,ae,ap,ai,ak,aj,.pointer (some ⟨b1,0,none⟩),a0,a1,.int .i64 (p1_e.Time),.pointer (some ⟨b2,0,none⟩),am].toArray 94 (0,0))] lE ⟨G,G⟩)
 intro hr hs;refine dr ?_;rintro _ _ _ ⟨rfl,_⟩;refine dr ?_;rintro _ _ _ ⟨rfl,_⟩;refine dr ?_;rintro _ _ _ ⟨rfl,_⟩;refine dr ?_;rintro _ _ _ ⟨rfl,_⟩;refine uk ?_;refine Wp [0,0,0,0,0,0,0,0,0,0,0,0,0,0,0,0] ?_;refine go ?_;refine wt 0 ?_;refine gs ?_;refine oz fm 5 [ph _,ph _,ph _,ph _,ph _] ⟨om,om,om,om,om,OV⟩ ?_;intro ec hu;refine dz ?_;refine Wp [12,12] ?_;obtain ⟨ed,ff,hm⟩:=bind_some hm;refine ca @nf ff ?_;rintro _ _ _ ⟨rfl,fg,fh,rfl,rfl,dx⟩;have dx:=dx ec;refine gs ?_;refine Wp [6,3,3,3] ?_;obtain ⟨hv,fi,hm⟩:=bind_some hm;refine ca @r8 fi ?_;rintro _ _ _ ⟨rfl,hw,hx,rfl,rfl,dy⟩;have dy:=dy ec;refine al (λhy=>?_);refine wt 0 ?_;refine gs ?_;refine Wp [1] ?_;refine bV (dy).rd G (λee hz ia=>?_);refine Wp [13] ?_;obtain ⟨ib,fj,hm⟩:=bind_some hm;refine ca @mH fj ?_;rintro _ _ _ ⟨rfl,ic,ie,rfl,rfl,e0⟩;have e0:=e0 ee
 refine go ?_;refine cj [] [] 17 (λu m H' M' L'=>∃ ck:(List aO),∃ bz:List aA,∃ c0:List Int,∃ c1:List Bool,∃ cm:Int,∃ c2:List aI,∃ cn:(List ByteArray),∃ co:(List aK),∃ cp:(List aO),∃ cq:(List bB),∃ cr:(List aE),∃ ct:(List bS),∃ cu:(List aX),∃ c3:List ByteArray,∃ cv:(List ByteArray),∃ cw:(List ByteArray),∃ cx:(List ByteArray),∃ d0:Int,∃ d1:(List ByteArray),∃ d2 c4:Value,∃ d3:List Value,∃ c5:Value,∃ d4:List Value,∃ c6:Value,∃ d5:List Value,∃ c7:Value,∃ d6:List Value,∃ d7 d8 d9 da db dc dd c8:Value,∃ de:List Value,∃ df dg dh di:Value,mE ck bz c0 c1 cm c2 cn co cp cq cr ct cu c3 cv cw cx d0 d1=some r/\aP H' d2 ck/\Rw H' c4 d3 bz/\Rw H' c5 d4 c0/\Rw H' c6 d5 c1/\Rw H' c7 d6 c2/\aP H' d7 cn/\aP H' d8 co/\aP H' d9 cp/\aP H' da cq/\aP H' db cr/\aP H' dc ct/\aP H' dd cu/\Rw H' c8 de c3/\aP H' df cv/\aP H' dg cw/\aP H' dh cx/\aP H' di d1/\ee.le H'/\.row c4 125 (aF.sz aA) bz.length d3::.row c5 3 (aF.sz Int) c0.length d4::.row c6 4 (aF.sz Bool) c1.length d5::.row c7 45 (aF.sz aI) c2.length d6::.row c8 9 (aF.sz ByteArray) c3.length de::.obj b1 (.cells [d2,c4,c5,c6,.int .i64 (cm)].toArray 115 (0,0))::.obj b2 (.cells [c7].toArray 158 (0,0))::.obj b0 (.cells [d7,d8,d9,da,db,dc,dd,c8,df,.pointer (some ⟨b1,0,none⟩),dg,dh,.int .i64 (d0),.pointer (some ⟨b2,0,none⟩),di].toArray 94 (0,0))::m=M'/\u=L') ?_ (λeg=>?_)
 rintro fk _ _ ⟨ck,bz,c0,c1,cm,c2,cn,co,cp,cq,cr,ct,cu,c3,cv,cw,cx,d0,d1,d2,c4,d3,c5,d4,c6,d5,c7,d6,d7,d8,d9,da,db,dc,dd,c8,de,df,dg,dh,di,hm,fl,fn,fo,fp,fr,fs,ft,fu,fv,fw,fx,fy,fz,g0,g1,g3,g4,ig,rfl,rfl⟩;unfold mE at hm;refine bI (aN (aJ G G G (aZ (aT ?_))));refine gj ?_;refine Ep [7,4,4,0,0,0,1] ?_;have g5:cM fk ⟨d7,d8,d9,da,db,dc,dd,c8,de,df,d2,c4,d3,c5,d4,c6,d5,dg,dh,c7,d6,di⟩ (aQ.mk (aD.mk cn co cp cq cr ct) cu c3 cv (bO.mk ck bz c0 c1 cm) (cE.mk cw cx) d0 (bD.mk c2) d1):=⟨fs,ft,fu,fv,fw,fx,fy,fz,g0,fl,fn,fo,fp,g1,g3,fr,g4⟩;refine xe (aS b0 b1 b2 ⟨_,_,_,_,_,_,_,_,_,_,_,_,_,_,_,_,_,_,_,_,_,_⟩ (aQ.mk (aD.mk cn co cp cq cr ct) cu c3 cv (bO.mk ck bz c0 c1 cm) (cE.mk cw cx) d0 (bD.mk c2) d1)) ?_;obtain rfl:=OZ hm;exact lj G G ⟨lE,⟨d7,d8,d9,da,db,dc,dd,c8,de,df,d2,c4,d3,c5,d4,c6,d5,dg,dh,c7,d6,di⟩,G,G,g5⟩
 refine gs ?_;refine cd hm G (λg6 hm=>?_) (λg6 hm=>?_);refine go ?_;refine Wp [10] ?_;refine bV dt.mm.rd G (λih ii g7=>?_);refine Wp [10] ?_;refine bV du.mm.rd G (λij ik g8=>?_);refine Wp [10] ?_;refine bV dv.mm.rd G (λg9 il ga=>?_);refine Wp [8,9,2,2,2,2,2,2] ?_;have im:cM g9 ⟨an,ac,ao,ad,ae,ap,ai,ak,b3,aj,dm,cg,dn,ch,dp,ci,dq,a0,a1,fg,fh,(.slice none 0 0)⟩ (aQ.mk a3.2.n p0_r.rules a3.2.on p0_r.held (bO.mk ce bu bv bw cf) a4.1 p1_e.Time ed.2.2 []):=⟨e4.mm,g7.mm,e5.mm,g8.mm,ga,e6.mm,eh.mm,e7.mm,ej.mm,fa.mm,fb.mm,fd.mm,fe.mm,aa.mm,ab.mm,dx.mm,aP.nil⟩;refine Wk (aS b0 b1 b2 ⟨_,_,_,_,_,_,_,_,_,_,_,_,_,_,_,_,_,_,_,_,_,_⟩ (aQ.mk a3.2.n p0_r.rules a3.2.on p0_r.held (bO.mk ce bu bv bw cf) a4.1 p1_e.Time ed.2.2 [])) ?_;refine Wp [1] ?_;refine bV e0.mm.rd G (λio ip iq=>?_);obtain ⟨ir,gb,hm⟩:=bind_some hm
 refine ca @wi gb ?_;rintro _ it _ ⟨iu,pg481,rfl,rfl,gc⟩;obtain ⟨iv,iw,ix,iy,iz,j0,j1,j2,j3,j4,j5,j6,j7,j8,j9,ja,jb,jc,jd,je,jf,jg⟩:=pg481;obtain ⟨jh,ji,jj,jk,jl,jm,jn,jo,jp,jq,jr,js,jt,ju,jv,jw,jx⟩:=id gc;refine Wu 8 ?_;refine gj ?_;exact kx [3,3,3,4,1,1,1,0] 5 (eg _ _ _ pk);refine gj ?_;refine Ep [10] ?_;refine qP dt.mm.rd G (λjy jz k0=>?_);refine Ep [10] ?_;refine qP du.mm.rd G (λk1 k2 k3=>?_);refine Ep [10] ?_;refine qP dv.mm.rd G (λk4 k5 k6=>?_);exact kx [3,3,3,4,6,2,2,2] 6 (eg _ _ _ pk);refine gs ?_;refine oz fm 6 [ph _,ph _,ph _,ph _,ph _,ph _] ⟨om,om,om,om,om,om,OV⟩ ?_;intro k7 k8;refine dz ?_;refine gs ?_;refine cd hm G (λgd hm=>?_) (λgd hm=>?_);refine oz fm 10 [ph _,ph _,ph _,ph _,ph _,ph _,ph _,ph _,ph _,ph _] ⟨om,om,om,om,om,om,om,om,om,om,OV⟩ ?_;intro k9 ka
 refine dz ?_;refine Wp [8,8,8,8] ?_;obtain ⟨kb,gf,hm⟩:=bind_some hm;refine ca @wg gf ?_;rintro _ kc _ ⟨kd,ke,kf,kg,kh,kk,kl,km,kn,ko,rfl,rfl,kp,kq,kr,ks,kt⟩;refine gj ?_;exact kx [2,2,2,1,1,1,1,1,1,1,1,1,1,1,1,1] 1 (ea _ _ _ pk);refine gj ?_;exact kx [9,9,9,8] 0 (ea _ _ _ pk);refine go ?_;cases ku:(decide (p1_e.Kind=(⟨#[98,97,99,107]⟩)));refine gj ?_;exact kx [0,0,0,0,0,0,0,0,0,0,0,0,0,0,0,1] 1 (e9 _ _ _ pk) G kS;refine gj ?_;exact kx [0,0,0,0,0,0,0,0,0,0,0,0,0,0,0,1] 1 (e9 _ _ _ pk) G kS
theorem ud {p0_s:ByteArray}{p1_c1:aQ}{b3 b0 b1 b2:Nat}{pg0:dW}{r:Bool} (hm:qy p0_s p1_c1=some r) (h0:cM H pg0 p1_c1) (ht:St B w0 H (.obj b3 (.cells ([.pointer (some ⟨b0,0,none⟩)]:List Value).toArray 35 (0,0))::iT (aS b0 b1 b2 pg0 p1_c1)::M) w):
    Calls prog 61 [.string (p0_s),.pointer (some ⟨b3,0,none⟩)].toArray w (eA B w0 λH' M' v=>H=H'/\.obj b3 (.cells ([.pointer (some ⟨b0,0,none⟩)]:List Value).toArray 35 (0,0))::iT (aS b0 b1 b2 pg0 p1_c1)::M=M'/\.bool (r)=v):=by
 unfold qy at hm;refine enter func61 G G G ht ?_;refine Cp [1] ?_;obtain ⟨a1,a2,a3,a4,a5,a6,a7,a8,a9,aa,ab,ac,ad,ae,af,ag,ah,ai,aj,ak,am,an⟩:=pg0;obtain ⟨ao,ap,aq,ar,au,av,aw,ax,ay,az,b4,b5,b6,b7,b8,b9,ba⟩:=id h0;refine Cu 8 ?_;refine g2 ?_;refine Wp [1] ?_;obtain ⟨bb,a0,hm⟩:=bind_some hm;refine cy @cC a0 ?_;rintro _ _ _ ⟨rfl,⟨_,rfl,rfl,rfl⟩⟩;refine gt ?_;refine gj ?_;refine Ep [1] ?_;refine xe (aS b0 b1 b2 ⟨_,_,_,_,_,_,_,_,_,_,_,_,_,_,_,_,_,_,_,_,_,_⟩ p1_c1) ?_;refine Ek [1] 0 ?_;exact ef
theorem nt {p0_s:(List ByteArray)}{p1_f_0:aQ}{v0:Value}{b3 b0 b1 b2:Nat}{pg0:dW}{r:Int} (hm:eY p0_s p1_f_0=some r) (h0:aP H v0 p0_s) (h1:cM H pg0 p1_f_0) (ht:St B w0 H (.obj b3 (.cells ([.pointer (some ⟨b0,0,none⟩)]:List Value).toArray 35 (0,0))::iT (aS b0 b1 b2 pg0 p1_f_0)::M) w):
    Calls prog 102 [v0,.func (.func 61) [].toArray [.pointer (some ⟨b3,0,none⟩)].toArray].toArray w (eA B w0 λH' M' v=>H=H'/\.obj b3 (.cells ([.pointer (some ⟨b0,0,none⟩)]:List Value).toArray 35 (0,0))::iT (aS b0 b1 b2 pg0 p1_f_0)::M=M'/\.int .i64 (r)=v):=by
 unfold eY at hm;refine enter func102 G G G ht ?_;refine g2 ?_;refine gs ?_;obtain ⟨a3,a5,a6,hm⟩:=iG hm;refine cl [(0,_),(1,_),(7,_)] [] 0 [] 0 (D7 (((p0_s.length:Int):Int).toNat) a3 r H 8) _ G ⟨0,_,Pm _,G,hm,lE,G,G⟩ ?_;rintro _ ad _ _ ⟨a0,a1,a4,rfl,hm,ae,rfl,rfl⟩;refine g2 ?_;refine bC G (λa2=>?_) (λa2=>?_);obtain ⟨a7,rfl,a8,a9⟩:=lv a4 a2;have hm:=(a5 _ _ _).symm.trans hm;generalize aa:a3 a7 (a0+1)=af at hm;unfold iF at hm;refine g2 ?_;refine gs ?_;obtain ⟨ag,ah,ai,hm⟩:=aB hm;refine go ?_;obtain ⟨aj,ab,hm⟩:=bind_some hm;refine mJ call61 G G G G (λw ht=>(ud (hm:=ab) h1.mm ht :)) ?_;rintro _ _ _ ⟨rfl,rfl,rfl⟩;refine go ?_;refine cd hm G (λac hm=>?_) (λac hm=>?_);refine gs ?_;exact ef;refine gt ?_;refine gj ?_;exact kj (eb a8 aa) (kK (eI a9 (eJ (kF (h0).cQ))));obtain rfl:=lu a4 a2;have hm:=(a6 _ _).symm.trans hm
 refine gs ?_;exact ef
theorem na {p0_s:(List ByteArray)}{del_0:aQ}{v0:Value}{sY:List Value}{b3 b0 b1 b2:Nat}{pg0:dW}{r:(List ByteArray)} (hm:eT p0_s del_0=some r) (h0:Rw H v0 sY p0_s) (h1:cM H pg0 del_0) (ht:St B w0 H (.row v0 9 (aF.sz ByteArray) p0_s.length sY::.obj b3 (.cells ([.pointer (some ⟨b0,0,none⟩)]:List Value).toArray 35 (0,0))::iT (aS b0 b1 b2 pg0 del_0)::M) w):
    Calls prog 58 [v0,.func (.func 61) [].toArray [.pointer (some ⟨b3,0,none⟩)].toArray].toArray w (eA B w0 λH' M' v=>H=H'/\∃ qv0:Value,∃ qxs0:List Value,.row qv0 9 (aF.sz ByteArray) r.length qxs0::.obj b3 (.cells ([.pointer (some ⟨b0,0,none⟩)]:List Value).toArray 35 (0,0))::iT (aS b0 b1 b2 pg0 del_0)::M=M'/\qv0=v/\sB qv0 qxs0 r):=by
 unfold eT at hm;refine enter func58 G G G ht ?_;refine g2 ?_;obtain ⟨ap,aa,hm⟩:=bind_some hm;refine cy @nt aa ?_;rintro _ _ _ ⟨rfl,⟨_,rfl,rfl,rfl⟩⟩;refine g2 ?_;refine cd hm G (λab hm=>?_) (λab hm=>?_);refine gs ?_;exact ef;refine g2 ?_;obtain ⟨a8,ac,ad,hm⟩:=jO hm;refine cl [(0,_),(1,_)] [1,1] 1 [] 0 (K3 a8 r v0 H 5 6) fC G ⟨_,_,_,_,hm,h0,lE,G,G⟩ ?_;rintro a5 ae _ _ ⟨a0,a1,a2,a4,hm,af,aq,rfl,rfl⟩
 rcases a5 with _ | a5
 exact nomatch (ad _).symm.trans hm;have hm:=(ac _ _).symm.trans hm;generalize ag:a8 a5=ah at hm
 try dsimp only at hm
 unfold gY at hm;refine g2 ?_;refine cd hm G (λai hm=>?_) (λai hm=>?_);refine go ?_;refine cj [(0,_),(1,_),(6,_)] [1,1] 1 (K4 (dO a2 ah) r v0 ae 5) ?_ (λa9=>?_);rintro _ _ _ ⟨a3,a6,a7,hm,ar,rfl,rfl,rfl⟩;unfold dO at hm;refine gj ?_;exact kj (Br ag);refine gs ?_;obtain ⟨aj,au,av,hm⟩:=aB hm;refine gs ?_;refine Wp [1,1] ?_;obtain ⟨aw,ak,hm⟩:=bind_some hm;refine mJ call61 G G G G (λw ht=>(ud (hm:=ak) h1.mm ht :)) ?_;rintro _ _ _ ⟨rfl,rfl,rfl⟩;refine go ?_;refine cd hm G (λam hm=>?_) (λam hm=>?_);refine gs ?_;obtain ⟨ax,ay,az,hm⟩:=aB hm;refine go ?_;refine wF 2 0 aj ?_;intro b4 b5 b6;refine aZ (aT ?_);refine gj ?_;exact kj (a9 _ _ _ pk);refine gj ?_;exact kx [2] 0 (a9 _ _ _ pk);refine gs ?_;obtain ⟨an,hm⟩:=aL hm;refine sL (α:=ByteArray) (zs:=[.string (⟨#[]⟩)]) (ze:=(⟨#[]⟩)) G G (λ_=>G) Rq PX QL QQ G G G G G G af an ?_
 intro b7 b8 ao;refine gs ?_;obtain ⟨b9,hm⟩:=aL hm;refine tO (α:=ByteArray) (l:=0) (h:=(a1:Int).toNat) G G PX QL G G ao (by omega) (by omega) (λm hmm=>(.inr ⟨_,_,_,G,G,by omega,by omega,G⟩)) (.inl ⟨G,G⟩) ?_
 intro ba bb bc;refine go ?_;exact ef
theorem yP {p0_r:aQ}{b0 b1 b2:Nat}{pg0:dW}{r:(List ByteArray)} (hm:uc p0_r=some r) (h0:cM H pg0 p0_r) (ht:St B w0 H (iT (aS b0 b1 b2 pg0 p0_r)::M) w):
    Calls prog 20 [.pointer (some ⟨b0,0,none⟩)].toArray w (eA B w0 λH' M' v=>H=H'/\∃ qv0:Value,∃ qxs0:List Value,.row qv0 9 (aF.sz ByteArray) r.length qxs0::iT (aS b0 b1 b2 pg0 p0_r)::M=M'/\qv0=v/\sB qv0 qxs0 r):=by
 unfold uc at hm;refine enter func20 G G G ht ?_;obtain ⟨a2,a3,a4,a5,a6,a7,aa,ab,ac,ad,ae,af,ag,ah,ai,aj,ak,am,an,ao,ap,aq⟩:=pg0;obtain ⟨ar,au,av,aw,ax,ay,az,b3,b4,b5,b6,b7,b8,b9,ba,bb,bc⟩:=id h0;refine Cu 8 ?_;refine gs ?_;refine bx (λbd=>?_);refine gs ?_;refine cA (cs:=[a2,a3,a4,a5,a6,a7]) G G Q1 QM G (dT (.tail _ (.head _)) G) G ?_;obtain ⟨be,a8,hm⟩:=bind_some hm;refine ca @ue a8 ?_;rintro _ _ _ ⟨rfl,bf,bg,rfl,rfl,a0⟩;have a0:=a0 H;refine go ?_;refine Wp [2,2,2,2,2,2,2,2] ?_;refine Wk (aS b0 b1 b2 ⟨_,_,_,_,_,_,_,_,_,_,_,_,_,_,_,_,_,_,_,_,_,_⟩ p0_r) ?_;refine Wp [1,1] ?_;obtain ⟨bh,a9,hm⟩:=bind_some hm;refine ca @na a9 ?_;rintro _ _ _ ⟨rfl,bi,bj,rfl,rfl,a1⟩;have a1:=a1 H;refine Wp [2] ?_;refine Wu 8 ?_;refine go ?_;refine xe (aS b0 b1 b2 ⟨_,_,_,_,_,_,_,_,_,_,_,_,_,_,_,_,_,_,_,_,_,_⟩ p0_r) ?_
 refine Ek [1,0] 1 ?_;exact ef
theorem uD {p0_r:aQ}{b0 b1 b2:Nat}{pg0:dW}{r:(List aI)} (hm:qY p0_r=some r) (h0:cM H pg0 p0_r) (ht:St B w0 H (iT (aS b0 b1 b2 pg0 p0_r)::M) w):
    Calls prog 21 [.pointer (some ⟨b0,0,none⟩)].toArray w (eA B w0 λH' M' v=>H=H'/\∃ qv0:Value,∃ qxs0:List Value,.row qv0 45 (aF.sz aI) r.length qxs0::iT (aS b0 b1 b2 pg0 p0_r)::M=M'/\qv0=v/\sB qv0 qxs0 r):=by
 unfold qY at hm;refine enter func21 G G G ht ?_;obtain ⟨a2,a3,a4,a5,a6,a7,a8,a9,aa,ab,ac,ad,ae,af,ag,ah,ai,aj,ak,am,an,ao⟩:=pg0;obtain ⟨ap,aq,ar,au,av,aw,ax,ay,az,b3,b4,b5,b6,b7,b8,b9,ba⟩:=id h0;refine Cu 8 ?_;refine g2 ?_;refine Wp [6,6] ?_;obtain ⟨bb,a1,hm⟩:=bind_some hm;refine ca @ry a1 ?_;rintro _ _ _ ⟨rfl,bc,bd,rfl,rfl,a0⟩;have a0:=a0 H;refine gt ?_;refine gj ?_;refine Ep [3,3,3,3,3,3,1,1] ?_;refine xe (aS b0 b1 b2 ⟨_,_,_,_,_,_,_,_,_,_,_,_,_,_,_,_,_,_,_,_,_,_⟩ p0_r) ?_;refine Ek [1] 0 ?_;exact ef
theorem iJ {r:Bool} (hm:gQ=some r) (ht:St B w0 H (M) w):
    Calls prog 11 [].toArray w (eA B w0 (Hm H M r)):=by
 unfold gQ at hm;refine enter func11 G G G ht ?_;refine g2 ?_;refine ca @wb (G:eV=_) ?_;rintro _ _ _ ⟨rfl,a8,b7,a9,b8,aa,b9,ab,ba,ac,bb,ad,bc,rfl,rfl,a1,a2,a3,a4,ae,a5⟩;have a1:=a1 H;have a2:=a2 H;have a3:=a3 H;have a4:=a4 H;have ae:=ae H;have a5:=a5 H;refine al (λbd=>?_);refine wt 0 ?_;refine gs ?_;obtain ⟨af,be,bf,hm⟩:=aB hm;refine go ?_;refine wF 5 2 (aE.mk af.Name af.Node 45) ?_;intro bg ar bh;refine gs ?_;refine dS (css:=[[a8,a9,aa,ab,ac,ad]]) (zs:=[.slice none 0 0,.slice none 0 0,.slice none 0 0,.slice none 0 0,.slice none 0 0,.slice none 0 0,.slice none 0 0]) (out:=[a8,a9,aa,ab,ac,ad,.slice none 0 0]) (places:=[(0,6),(6,1)]) G G G ⟨G,OV⟩ zeroValue32 G runUnderlying32 (λw=>by kernel_rfl) G ?_
 refine Wp [2] ?_;refine bV (a1).rd G (λbi bj bk=>?_);refine Wp [2] ?_;refine bV a2.mm.rd G (λbl bm bn=>?_);refine Wp [2] ?_;refine bV a3.mm.rd G (λbo bp bq=>?_);refine Wp [2] ?_;refine bV a4.mm.rd G (λbr bt bu=>?_);refine bV ar.mm.rd G (λbv bw bz=>?_);refine Wp [1] ?_;refine bV a5.mm.rd G (λc0 c1 c2=>?_);obtain ⟨a6,au,hm⟩:=bind_some hm;refine ca @ym au ?_;rintro _ ag _ (⟨av,c3,rfl,rfl⟩ | ⟨c4,aw,c5,c6,c7,c8,pg152,rfl,rfl,c9⟩);have hm:=Cv av hm;refine gs ?_;refine cj [(2,_)] [] 1 (No ag 22) ?_ (λah=>?_);rintro _ _ _ ⟨rfl,rfl,rfl⟩;refine cT G ?_;refine gs ?_;exact ef;refine go ?_;cases cb:(decide (a6.2=0));refine gj ?_;exact kx [] 1 (ah _ _ _ pk);refine go ?_;refine uU G G Si G G (gj ?_);exact kx [] 1 (ah _ _ _ pk);have hm:=Cw aw hm;refine gs ?_;refine cj [(2,_)] [0] 1 (vO ag 22 (!decide (a6.2=0))) ?_ (λai=>?_)
 rintro _ _ _ ⟨rfl,rfl,rfl⟩;refine cd hm G (λax hm=>?_) (λax hm=>?_);refine gs ?_;refine Ek [] 1 ?_;exact ef;refine gs ?_;refine dS (css:=[[.int .i64 (10)],[.string (⟨#[119,97,105,116]⟩)],[.string (⟨#[88]⟩)]]) (zs:=[.int .i64 (0),.string (⟨#[]⟩),.string (⟨#[]⟩),.int .i64 (0)]) (out:=[.int .i64 (10),.string (⟨#[119,97,105,116]⟩),.string (⟨#[88]⟩),.int .i64 (0)]) (places:=[(0,1),(1,1),(2,1),(3,1)]) G G G ⟨G,G,G,OV⟩ SH G Sj (λw=>by kernel_rfl) G ?_
 obtain ⟨ay,az,hm⟩:=bind_some hm;refine ca @rj az ?_;rintro _ cc _ ⟨ce,pg169,rfl,rfl,cf⟩;refine gs ?_;refine dS (css:=[[.int .i64 (11)],[.string (⟨#[119,97,105,116]⟩)],[.string (⟨#[88]⟩)]]) (zs:=[.int .i64 (0),.string (⟨#[]⟩),.string (⟨#[]⟩),.int .i64 (0)]) (out:=[.int .i64 (11),.string (⟨#[119,97,105,116]⟩),.string (⟨#[88]⟩),.int .i64 (0)]) (places:=[(0,1),(1,1),(2,1),(3,1)]) G G G ⟨G,G,G,OV⟩ SH G Sj (λw=>by kernel_rfl) G ?_
 obtain ⟨b0,b1,hm⟩:=bind_some hm;refine ca @rj b1 ?_;rintro _ a7 _ ⟨cg,pg175,rfl,rfl,ch⟩;refine gs ?_;cases aj:(decide (ay.1=0));have hm:=eF aj hm;refine go ?_;refine Ek [] 1 ?_;exact ef;have hm:=eG aj hm;refine go ?_;cases ak:(decide (b0.1=0));have hm:=eF ak hm;refine go ?_;refine Ek [] 1 ?_;exact ef;have hm:=eG ak hm;refine go ?_;obtain ⟨b2,b3,hm⟩:=bind_some hm;refine ca @yP b3 ?_;rintro _ _ _ ⟨rfl,ci,ck,rfl,rfl,am⟩;have am:=am a7;refine go ?_;cases an:(decide ((b2.length:Int)=0));have hm:=eF an hm;refine go ?_;refine Ek [] 2 ?_;exact ef;have hm:=eG an hm;refine go ?_;refine Wp [1] ?_;obtain ⟨b4,b5,hm⟩:=bind_some hm;refine ca @uD b5 ?_;rintro _ _ _ ⟨rfl,cm,cn,rfl,rfl,ao⟩;have ao:=ao a7;refine go ?_;cases ap:(decide ((b4.length:Int)=3));have hm:=eF ap hm;refine go ?_;refine Ek [] 3 ?_;exact ef;have hm:=eG ap hm;refine go ?_
 refine Wp [1] ?_;obtain ⟨co,b6,hm⟩:=bind_some hm;refine ca @uD b6 ?_;rintro _ _ _ ⟨rfl,cp,cq,rfl,rfl,aq⟩;have aq:=aq a7;obtain ⟨a0,cr,cs,hm⟩:=aB hm;refine go ?_;refine dS (css:=[[.int .i64 (11)],[.string (⟨#[115,104,101,100]⟩)],[.string (⟨#[68]⟩)],[.int .i64 (45)]]) (zs:=[.int .i64 (0),.string (⟨#[]⟩),.string (⟨#[]⟩),.int .i64 (0)]) (out:=[.int .i64 (11),.string (⟨#[115,104,101,100]⟩),.string (⟨#[68]⟩),.int .i64 (45)]) (places:=[(0,1),(1,1),(2,1),(3,1)]) G G G ⟨G,G,G,G,OV⟩ SH G Sj (λw=>by kernel_rfl) G ?_
 refine Fm (b:=decide (a0.Time=11) && (decide (a0.Kind=(⟨#[115,104,101,100]⟩)) && (decide (a0.Name=(⟨#[68]⟩)) && (decide (a0.Value=45) && true)))) G G (by kernel_rfl) G G (λw=>vi (bs:=[decide (a0.Time=11),decide (a0.Kind=(⟨#[115,104,101,100]⟩)),decide (a0.Name=(⟨#[68]⟩)),decide (a0.Value=45)]) Sj (by kernel_rfl) ⟨(by decide),(Bu isAgg3 QX G G),(by decide),(uY isAgg9 Pu G G),(by decide),(uY isAgg9 Pu G G),(by decide),(Bu isAgg3 QX G G),OV⟩) ?_
 refine go ?_;refine Ek [] 4 ?_;exact ef;refine go ?_;cases ct:(decide (a6.2=0));refine gj ?_;exact kx [0] 1 (ai _ _ _ pk) G kS;refine go ?_;refine uU G G Si G G (gj ?_);exact kx [0] 1 (ai _ _ _ pk) G kS
theorem wQ {p0_n p1_low p2_high r:Int} (hm:nh p0_n p1_low p2_high=some r) (ht:St B w0 H (M) w):
    Calls prog 12 [.int .i64 (p0_n),.int .i64 (p1_low),.int .i64 (p2_high)].toArray w (eA B w0 (xS H M r)):=by
 unfold nh at hm;refine enter func12 G G G ht ?_;refine g2 ?_;refine gs ?_;obtain ⟨a2,hm⟩:=aL hm;refine Fs G G G G a2 (go ?_);refine cj [(1,_)] [] 0 (λu m H' M' L'=>∃ a0:Int,jG p1_low a0=some r/\H=H'/\m=M'/\(0,.int .i64 (a0))::u=L') ?_ (λa1=>?_);rintro _ _ _ ⟨a0,hm,rfl,rfl,rfl⟩;unfold jG at hm;refine gs ?_;exact ef;refine gs ?_;refine cd hm G (λa3 hm=>?_) (λa3 hm=>?_);refine gj ?_;exact kj (a1 _ _ _ pk);refine gj ?_;exact kj (a1 _ _ _ pk)
theorem xN {p0_r:aQ}{p1_l:(List ByteArray)}{b0 b1 b2:Nat}{pg0:dW}{v0:Value}{r:Int×aQ} (hm:qx p0_r p1_l=some r) (h0:cM H pg0 p0_r) (h1:aP H v0 p1_l) (ht:St B w0 H (iT (aS b0 b1 b2 pg0 p0_r)::M) w):
    Calls prog 13 [.pointer (some ⟨b0,0,none⟩),v0].toArray w (eA B w0 λH' M' v=>H.le H'/\∃ qpg0:dW,iT (aS b0 b1 b2 qpg0 r.2)::M=M'/\.int .i64 (r.1)=v/\cM H' qpg0 r.2):=by
 unfold qx at hm;refine enter func13 G G G ht ?_;obtain ⟨a0,a1,a2,a3,a4,a5,a6,a7,a8,ao,a9,aa,ab,ac,ad,ae,af,ag,ah,ai,aj,ak⟩:=pg0;obtain ⟨ap,aq,ar,au,av,aw,ax,ay,bg,az,b3,b4,b5,b6,b7,b8,b9⟩:=id h0;refine Cu 8 ?_;refine g2 ?_;refine gs ?_;refine cd hm G (λba hm=>?_) (λba hm=>?_);refine gs ?_;refine xe (aS b0 b1 b2 ⟨_,_,_,_,_,_,_,_,_,_,_,_,_,_,_,_,_,_,_,_,_,_⟩ p0_r) ?_;obtain rfl:=OZ hm;exact lj G G ⟨lE,⟨a0,a1,a2,a3,a4,a5,a6,a7,a8,ao,a9,aa,ab,ac,ad,ae,af,ag,ah,ai,aj,ak⟩,G,G,h0⟩;refine gs ?_;obtain ⟨bb,hm⟩:=aL hm;refine hO call53 G G G (λw ht=>(w7 (s:=p1_l) h1 bb ht :)) ?_;rintro _ _ _ ⟨rfl,an,bh,rfl,rfl,am⟩;have am:=am H;refine go ?_;refine wt 1 ?_;refine aZ (aT (bI (aN (aJ G G G (aZ (aT ?_))))));refine gj ?_;refine Ep [1] ?_;refine qP (am).rd G (λbc bd be=>?_)
 have bf:cM bc ⟨a0,a1,a2,a3,a4,a5,a6,a7,a8,an,a9,aa,ab,ac,ad,ae,af,ag,ah,ai,aj,ak⟩ (aQ.mk p0_r.bX p0_r.rules p0_r.on p1_l p0_r.watch p0_r.state p0_r.time p0_r.log p0_r.over):=⟨ap.mm,aq.mm,ar.mm,au.mm,av.mm,aw.mm,ax.mm,ay.mm,be,az.mm,b3.mm,b4.mm,b5.mm,b6.mm,b7.mm,b8.mm,b9.mm⟩;refine xe (aS b0 b1 b2 ⟨_,_,_,_,_,_,_,_,_,_,_,_,_,_,_,_,_,_,_,_,_,_⟩ (aQ.mk p0_r.bX p0_r.rules p0_r.on p1_l p0_r.watch p0_r.state p0_r.time p0_r.log p0_r.over)) ?_;obtain rfl:=OZ hm;exact lj G G ⟨bd,⟨a0,a1,a2,a3,a4,a5,a6,a7,a8,an,a9,aa,ab,ac,ad,ae,af,ag,ah,ai,aj,ak⟩,G,G,bf⟩
theorem r9 {p0_r:aQ}{b0 b1 b2:Nat}{pg0:dW}{r:aD} (hm:kY p0_r=some r) (h0:cM H pg0 p0_r) (ht:St B w0 H (iT (aS b0 b1 b2 pg0 p0_r)::M) w):
    Calls prog 16 [.pointer (some ⟨b0,0,none⟩)].toArray w (eA B w0 λH' M' v=>H=H'/\∃ qv0:Value,∃ qxs0:List Value,∃ qv1:Value,∃ qxs1:List Value,∃ qv2:Value,∃ qxs2:List Value,∃ qv3:Value,∃ qxs3:List Value,∃ qv4:Value,∃ qxs4:List Value,∃ qv5:Value,∃ qxs5:List Value,.row qv0 9 (aF.sz ByteArray) r.a_.length qxs0::.row qv1 41 (aF.sz aK) r.aH.length qxs1::.row qv2 120 (aF.sz aO) r.aG.length qxs2::.row qv3 152 (aF.sz bB) r.cR.length qxs3::.row qv4 55 (aF.sz aE) r.aY.length qxs4::.row qv5 156 (aF.sz bS) r.bM.length qxs5::iT (aS b0 b1 b2 pg0 p0_r)::M=M'/\.agg [qv0,qv1,qv2,qv3,qv4,qv5].toArray=v/\sB qv0 qxs0 r.a_/\sB qv1 qxs1 r.aH/\sB qv2 qxs2 r.aG/\sB qv3 qxs3 r.cR/\sB qv4 qxs4 r.aY/\sB qv5 qxs5 r.bM):=by
 unfold kY at hm;refine enter func16 G G G ht ?_;obtain ⟨a6,a7,a8,a9,aa,ab,aq,ar,au,av,aw,ax,ay,az,b3,b4,b5,b6,b7,b8,b9,ba⟩:=pg0;obtain ⟨bb,bc,bd,be,bf,bg,bh,bi,bj,bk,bl,bm,bn,bo,bp,bq,br⟩:=id h0;refine Cu 8 ?_;refine gs ?_;refine al (λbs=>?_);refine gs ?_;refine cA (cs:=[a6,a7,a8,a9,aa,ab]) G G Q1 QM G (dT (.tail _ (.head _)) G) G ?_;obtain ⟨bt,ac,hm⟩:=bind_some hm;refine ca @n8 ac ?_;rintro _ _ _ ⟨rfl,ad,ae,af,ag,ah,ai,aj,ak,am,an,ao,ap,rfl,rfl,a0,a1,a2,a3,a4,a5⟩;have a0:=a0 H;have a1:=a1 H;have a2:=a2 H;have a3:=a3 H;have a4:=a4 H;have a5:=a5 H;refine wt 6 ?_;refine aZ (aT ?_);refine gj ?_;refine Ep [7,7,7,7,7,7,7,7] ?_;refine xe (aS b0 b1 b2 ⟨_,_,_,_,_,_,_,_,_,_,_,_,_,_,_,_,_,_,_,_,_,_⟩ p0_r) ?_;obtain rfl:=OZ hm;exact jT lE G (fD.agg G Q1 QM (.tail _ (.head _)) G) (.cons_cons _ (.cons _ (.refl _))) (.trans (.swap _ _ _) (.trans (.cons _ (.swap _ _ _)) (.trans (.cons _ (.cons _ (.swap _ _ _))) (.trans (.cons _ (.cons _ (.cons _ (.swap _ _ _)))) (.trans (.cons _ (.cons _ (.cons _ (.cons _ (.swap _ _ _))))) (.cons _ (.cons _ (.cons _ (.cons _ (.cons _ (.swap _ _ _))))))))))) ⟨G,ad,ae,af,ag,ah,ai,aj,ak,am,an,ao,ap,G,G,(a0).oF,(a1).oF,(a2).oF,(a3).oF,(a4).oF,(a5).oF⟩
theorem s6 {p0_y p1_c1:aK}{b0:Nat}{r:Bool} (hm:kH p0_y p1_c1=r) (ht:St B w0 H (.obj b0 (.cells ([.string (p1_c1.Name),.string (p1_c1.A),.string (p1_c1.B_),.bool (p1_c1.lZ),.bool (p1_c1.Open)]:List Value).toArray 41 (0,0))::M) w):
    Calls prog 17 [.agg [.string (p0_y.Name),.string (p0_y.A),.string (p0_y.B_),.bool (p0_y.lZ),.bool (p0_y.Open)].toArray,.pointer (some ⟨b0,0,none⟩)].toArray w (eA B w0 λH' M' v=>H=H'/\.obj b0 (.cells ([.string (p1_c1.Name),.string (p1_c1.A),.string (p1_c1.B_),.bool (p1_c1.lZ),.bool (p1_c1.Open)]:List Value).toArray 41 (0,0))::M=M'/\.bool (r)=v):=by
 unfold kH at hm;refine enter func17 G G G ht ?_;refine gs ?_;refine bx (λa0=>?_);refine gs ?_;obtain rfl:=hm;refine Ek [1] 1 ?_;refine Ew H ?_;exact lj G G ⟨G,G,G⟩
theorem jS {p0_s:(List aK)}{p1_f_0:aK}{v0:Value}{b0:Nat}{r:Int} (hm:cH p0_s p1_f_0=some r) (h0:aP H v0 p0_s) (ht:St B w0 H (.obj b0 (.cells ([.string (p1_f_0.Name),.string (p1_f_0.A),.string (p1_f_0.B_),.bool (p1_f_0.lZ),.bool (p1_f_0.Open)]:List Value).toArray 41 (0,0))::M) w):
    Calls prog 15 [v0,.func (.func 17) [].toArray [.pointer (some ⟨b0,0,none⟩)].toArray].toArray w (eA B w0 λH' M' v=>H=H'/\.obj b0 (.cells ([.string (p1_f_0.Name),.string (p1_f_0.A),.string (p1_f_0.B_),.bool (p1_f_0.lZ),.bool (p1_f_0.Open)]:List Value).toArray 41 (0,0))::M=M'/\.int .i64 (r)=v):=by
 unfold cH at hm;refine enter func15 G G G ht ?_;refine g2 ?_;refine gs ?_;obtain ⟨a3,a5,a6,hm⟩:=iG hm;refine cl [(0,_),(1,_),(7,_)] [] 0 [] 0 (D7 (((p0_s.length:Int):Int).toNat) a3 r H 8) _ G ⟨0,_,Pm _,G,hm,lE,G,G⟩ ?_;rintro _ ad _ _ ⟨a0,a1,a4,rfl,hm,ae,rfl,rfl⟩;refine g2 ?_;refine bC G (λa2=>?_) (λa2=>?_);obtain ⟨a7,rfl,a8,a9⟩:=lv a4 a2;have hm:=(a5 _ _ _).symm.trans hm;generalize aa:a3 a7 (a0+1)=af at hm;unfold eK at hm;refine g2 ?_;refine gs ?_;obtain ⟨ab,ag,ah,hm⟩:=aB hm;refine go ?_;refine mJ call17 G G G G (λw ht=>(s6 (hm:=(G:kH ab p1_f_0=_))  ht :)) ?_;rintro _ _ _ ⟨rfl,rfl,rfl⟩;refine go ?_;refine cd hm G (λac hm=>?_) (λac hm=>?_);refine gs ?_;exact ef;refine gt ?_;refine gj ?_;exact kj (eb a8 aa) (kK (eI a9 (eJ (kF (h0).cQ))));obtain rfl:=lu a4 a2;have hm:=(a6 _ _).symm.trans hm;refine gs ?_
 exact ef
theorem tS {p0_s:cI}{p1_l:(List aI)}{p2_k:Int}{v0 v1 v2 v3 v4 v5 v6 v7:Value}{r:Bool} (hm:gP p0_s p1_l p2_k=some r) (h0:aP H v0 p0_s.bZ.a_) (h1:aP H v1 p0_s.bZ.aH) (h2:aP H v2 p0_s.bZ.aG) (h3:aP H v3 p0_s.bZ.cR) (h4:aP H v4 p0_s.bZ.aY) (h5:aP H v5 p0_s.bZ.bM) (h6:aP H v6 p0_s.oM) (h7:aP H v7 p1_l) (ht:St B w0 H (M) w):
    Calls prog 3 [.agg [v0,v1,v2,v3,v4,v5,v6].toArray,v7,.int .i64 (p2_k)].toArray w (eA B w0 (Hm H M r)):=by
 unfold gP at hm;refine enter func3 G G G ht ?_;refine gs ?_;refine bx (λct=>?_);refine gs ?_;obtain ⟨bv,bw,hm⟩:=bind_some hm;refine ca @v_ bw ?_;rintro _ cu _ ⟨cv,cw,cx,d0,d1,d2,d3,d4,rfl,rfl,d5,d6,d7,d8,d9,da,db⟩;refine wt 0 ?_;refine gs ?_;obtain ⟨ax,bz,hm⟩:=bind_some hm;refine ca @ym bz ?_;rintro _ b0 _ (⟨c0,dc,rfl,rfl⟩ | ⟨dd,c1,de,an,ao,ap,pg126,rfl,rfl,df⟩);have hm:=Cv c0 hm;refine gs ?_;refine cj [(1,_),(2,_),(3,_),(7,_),(8,_)] [] 0 (No b0 33) ?_ (λba=>?_);rintro _ _ _ ⟨rfl,rfl,rfl⟩;refine cT G ?_;obtain ⟨bb,c2,hm⟩:=bind_some hm;refine cj [] [] 1 (vO b0 6 (bb && (decide ((decide (ax.2=0))=false)))) ?_ (λbc=>?_);rintro _ _ _ ⟨rfl,rfl,rfl⟩;refine go ?_;exact ef;refine go ?_;refine cz @iJ c2 ?_;refine go ?_;cases bd:(bb);refine gj ?_;exact kx [] 1 (bc _ _ _ ⟨G,G,G⟩) G ⟨(by exact sb (by first | rfl | simp only [bd,Hk])),OV⟩
 refine go ?_;refine zR G G Si G G (wB G G RA G G (gj ?_));exact kx [] 1 (bc _ _ _ ⟨G,G,G⟩) G ⟨(by exact sb (by first | rfl | simp only [bd,Hk])),OV⟩
 refine go ?_;cases dg:(decide (ax.2=0));refine gj ?_;exact kj (ba _ _ _ ⟨G,G,G⟩);refine go ?_;refine uU G G Si G G (gj ?_);exact kj (ba _ _ _ ⟨G,G,G⟩);have hm:=Cw c1 hm;refine gs ?_;refine cj [(1,_),(2,_),(3,_),(7,_),(8,_)] [] 0 (vO b0 33 ((!decide (ax.2=0)) || (decide ((bv.bZ.aH.length:Int)=0)))) ?_ (λbe=>?_);rintro _ _ _ ⟨rfl,rfl,rfl⟩;refine cd hm G (λaq hm=>?_) (λaq hm=>?_);obtain ⟨bf,c3,hm⟩:=bind_some hm;refine cj [] [] 2 (vO b0 6 (bf && (decide ((decide (ax.2=0))=true)))) ?_ (λbg=>?_);rintro _ _ _ ⟨rfl,rfl,rfl⟩;refine go ?_;exact ef;refine go ?_;refine cz @iJ c3 ?_;refine go ?_;cases bh:(bf);refine gj ?_;exact kx [] 2 (bg _ _ _ ⟨G,G,G⟩) G ⟨(by exact sb (by first | rfl | simp only [aq,bh,Hk])),OV⟩
 refine go ?_;refine zR G G Si G G (wB G G RA G G (gj ?_));exact kx [] 2 (bg _ _ _ ⟨G,G,G⟩) G ⟨(by exact sb (by first | rfl | simp only [aq,bh,Hk])),OV⟩
 refine gs ?_;obtain ⟨c4,c5,hm⟩:=bind_some hm;obtain ⟨ae,dh,di,hm⟩:=aB hm;refine oz fm 13 [ph _,ph _,ph _,ph _,ph _,ph _,ph _,ph _,ph _,ph (.int .i64 (c4)),ph _,ph _,(λH rs v=>∃ ar:Nat,[.obj ar (.cells ([.string (⟨#[]⟩),.string (⟨#[]⟩),.string (⟨#[]⟩),.bool (false),.bool (false)]:List Value).toArray 41 (0,0))]=rs/\.pointer (some ⟨ar,0,none⟩)=v)] ⟨om,om,om,om,om,om,om,om,om,?_,om,om,?_,OV⟩ ?_;rintro HX hX X Rest hR _ _ ⟨rfl,rfl⟩ _ _ ⟨rfl,rfl⟩ hU hUp;refine cz @wQ c5 ?_;exact o0 ⟨G,G⟩;rintro HX hX X Rest hR hU hUp;refine al (λar=>?_);exact oe [.obj ar (.cells ([.string (⟨#[]⟩),.string (⟨#[]⟩),.string (⟨#[]⟩),.bool (false),.bool (false)]:List Value).toArray 41 (0,0))] lE ⟨ar,G,G⟩;intro dj dk;refine dr ?_;rintro _ _ ⟨ar,rfl,rfl⟩;refine uk ?_;refine Wp [0,0,0] ?_;refine wt 0 ?_;refine g2 ?_;refine eU (α:=ByteArray) (css:=[[.string (ae.Name)]]) (zs:=[.string (⟨#[]⟩)]) (out:=[.string (ae.Name)]) (ys:=[ae.Name]) G G G ⟨G,OV⟩ PX QL G QQ (by kernel_rfl) G G G G ⟨[.string (ae.Name)],[],G,G,G⟩ G ?_
 intro dl dm c6;refine bV (c6).rd G (λdn dp dq=>?_);refine Wp [1] ?_;obtain ⟨ds,c7,hm⟩:=bind_some hm;refine ca @xN c7 ?_;rintro _ c8 _ ⟨dt,pg173,rfl,rfl,c9⟩;refine go ?_;refine cd hm G (λay hm=>?_) (λay hm=>?_);refine gs ?_;refine Ek [] 3 ?_;exact ef;refine g2 ?_;refine C2 G G G G ?_;obtain ⟨du,hm⟩:=aL hm;refine sM (α:=aI) (l:=0) (h:=(min (p1_l.length:Int) 8:Int).toNat) (xs:=p1_l) G G SM sizeOf45 G h7.mm (by omega) (by omega) (.inl G) (λcap hcap=>by rw [O3 G]; exact (.inl ⟨G,G⟩)) (λm hmm=>(.inr ⟨_,_,_,G,G,by omega,by omega,G⟩)) (.inl ⟨G,G⟩) ?_
 intro dv cb dw;refine go ?_;obtain ⟨bi,cc,ce,hm⟩:=cU hm;refine cl [(7,_),(9,_),(64,_),(65,_)] [1] 2 [0,0] 1 (N3 (rV p1_l 0 ((min (p1_l.length:Int) 8:Int).toNat)) bi r c8 an ao ap 66) _ G ⟨0,_,_,_,G,G,hm,c9,lE,G,G⟩ ?_;rintro _ av _ _ ⟨au,b1,am,pg225,bj,rfl,hm,dx,dy,rfl,rfl⟩;refine g2 ?_;refine bC G (λb5=>?_) (λb5=>?_);obtain ⟨az,bk,rfl,cf,cg⟩:=fP bj b5;have hm:=(cc _ _ _ _).symm.trans hm;generalize ch:bi (au+1) bk=e0 at hm;unfold mP at hm;refine g2 ?_;refine al (λe1=>?_);refine wt 0 ?_;refine gs ?_;refine Wp [1] ?_;obtain ⟨bl,ci,hm⟩:=bind_some hm;refine ca @rj ci ?_;rintro _ ck _ ⟨e2,pg244,rfl,rfl,cm⟩;refine go ?_;refine cj [(7,_),(9,_),(64,_),(65,_),(66,_)] [0,1] 1 (vO ck 91 (((decide (bl.1=0)) && (decide (az.Name=ae.Name))) && ((decide (az.Kind=(⟨#[111,112,101,110]⟩))) || (decide (az.Kind=(⟨#[99,108,111,115,101]⟩)))))) ?_ (λb2=>?_)
 rintro _ _ _ ⟨rfl,rfl,rfl⟩;refine cd hm G (λcn hm=>?_) (λcn hm=>?_);refine gs ?_;refine Ek [] 2 ?_;exact ef;refine gt ?_;refine gj ?_;exact kj (wx (Q3 _) ⟨au+1,bk,_,_,cg,G,((congrFun ch _).trans hm),cm,lE,G,G⟩) ⟨(P3 (λz=>some (Value.int .i64 z)) (cB cf cb.mm.cQ)),G,G,G,G,OV⟩;refine go ?_;cases b3:(decide (bl.1=0));refine gj ?_;exact kx [0,1] 1 (b2 _ _ _ ⟨G,G,G⟩) G ⟨(by exact sb (by first | rfl | simp only [aq,ay,b3,Hk])),G,G,G,G,G,OV⟩
 refine go ?_;cases b6:(decide (az.Name=ae.Name));refine gj ?_;exact kx [0,1] 1 (b2 _ _ _ ⟨G,G,G⟩) G ⟨(by exact sb (by first | rfl | simp only [aq,ay,b3,b6,Hk])),G,G,G,G,G,OV⟩
 refine go ?_;cases bm:(decide (az.Kind=(⟨#[111,112,101,110]⟩)));refine gj ?_;exact kx [0,1] 1 (b2 _ _ _ ⟨G,G,G⟩) G ⟨(by exact sb (by first | rfl | simp only [aq,ay,b3,b6,bm,Hk])),G,G,G,G,G,OV⟩
 refine gj ?_;exact kx [0,1] 1 (b2 _ _ _ ⟨G,G,G⟩) G ⟨(by exact sb (by first | rfl | simp only [aq,ay,b3,b6,bm,Hk])),G,G,G,G,G,OV⟩
 obtain rfl:=fO bj b5;have hm:=(ce _ _).symm.trans hm;refine gs ?_;obtain ⟨e3,co,hm⟩:=bind_some hm;refine ca @r9 co ?_;rintro _ _ _ ⟨rfl,e4,e5,e6,e7,e8,e9,ea,ec,ed,ee,eg,eh,rfl,rfl,bn,bo,bp,bq,br,bt⟩;have bn:=bn av;have bo:=bo av;have bp:=bp av;have bq:=bq av;have br:=br av;have bt:=bt av;refine wC G G Sh G isAgg23 G G (go ?_);refine Wp [1,6] ?_;obtain ⟨b7,cp,hm⟩:=bind_some hm;refine cy @jS cp ?_;rintro _ _ _ ⟨rfl,⟨_,rfl,rfl,rfl⟩⟩;refine gs ?_;obtain ⟨cq,b8,hm⟩:=bind_some hm
 rcases (RD (cq)).symm with aw | aw
 have hm:=eF aw hm;refine oz fm 13 [ph (.bool (false)),ph _,ph _,ph _,ph _,ph _,ph _,ph _,ph _,ph _,ph _,ph _,ph _] ⟨?_,om,om,om,om,om,om,om,om,om,om,om,om,OV⟩ ?_;rintro HX hX X Rest hR hU hUp;refine cz @iJ b8 ?_;exact o0 ⟨G,(by first | rfl | (rw [aw]; try rfl))⟩
 intro ei ej;refine dz ?_;refine go ?_;refine Ek [] 8 ?_;exact ef;have hm:=eG aw hm;cases b4:(decide (0<=b7));have hm:=eF b4 hm;refine oz fm 13 [ph (.bool (true)),ph _,ph _,ph (.bool (false)),ph _,ph _,ph _,ph _,ph _,ph _,ph _,ph _,ph _] ⟨?_,om,om,Ll b4,om,om,om,om,om,om,om,om,om,OV⟩ ?_;rintro HX hX X Rest hR hU hUp;refine cz @iJ b8 ?_;exact o0 ⟨G,(by first | rfl | (rw [aw]; try rfl))⟩
 intro ek el;refine dz ?_;refine go ?_;refine Ek [] 8 ?_;exact ef;have hm:=eG b4 hm;obtain ⟨a0,cr,hm⟩:=bind_some hm;obtain ⟨ad,em,cs,hm⟩:=aB hm;refine yV fm 13 [ph (.bool (true)),ph _,ph _,ph (.bool (true)),ph _,ph _,ph _,(N4 a0 an ao ap pg225 am),(λH rs v=>∃ a2:Value,∃ a8:List Value,∃ a1:Value,∃ a3:List Value,∃ a4:Value,∃ a9:List Value,∃ a5:Value,∃ aa:List Value,∃ a6:Value,∃ ab:List Value,∃ a7:Value,∃ ac:List Value,[.row a2 9 (aF.sz ByteArray) a0.a_.length a8,.row a1 41 (aF.sz aK) a0.aH.length a3,.row a4 120 (aF.sz aO) a0.aG.length a9,.row a5 152 (aF.sz bB) a0.cR.length aa,.row a6 55 (aF.sz aE) a0.aY.length ab,.row a7 156 (aF.sz bS) a0.bM.length ac,iT (aS an ao ap pg225 am)]=rs/\a1=v/\Rw H a2 a8 a0.a_/\Rw H a1 a3 a0.aH/\Rw H a4 a9 a0.aG/\Rw H a5 aa a0.cR/\Rw H a6 ab a0.aY/\Rw H a7 ac a0.bM),ph _,(λH rs v=>∃ a2:Value,∃ a8:List Value,∃ a1:Value,∃ a3:List Value,∃ a4:Value,∃ a9:List Value,∃ a5:Value,∃ aa:List Value,∃ a6:Value,∃ ab:List Value,∃ a7:Value,∃ ac:List Value,[.row a2 9 (aF.sz ByteArray) a0.a_.length a8,.row a1 41 (aF.sz aK) a0.aH.length a3,.row a4 120 (aF.sz aO) a0.aG.length a9,.row a5 152 (aF.sz bB) a0.cR.length aa,.row a6 55 (aF.sz aE) a0.aY.length ab,.row a7 156 (aF.sz bS) a0.bM.length ac,iT (aS an ao ap pg225 am)]=rs/\.pointer (some ((Value.base (a1)).add ((b7:Int).toNat*aF.sz aK)))=v/\Rw H a2 a8 a0.a_/\Rw H a1 a3 a0.aH/\Rw H a4 a9 a0.aG/\Rw H a5 aa a0.cR/\Rw H a6 ab a0.aY/\Rw H a7 ac a0.bM/\∀ j u,[.string (ad.Name),.string (ad.A),.string (ad.B_),.bool (ad.lZ),.bool (ad.Open)][j]? = some u->a3[(b7:Int).toNat*aF.sz aK+j]? = some u),ph (.agg [.string (ad.Name),.string (ad.A),.string (ad.B_),.bool (ad.lZ),.bool (ad.Open)].toArray),ph _] (sp 13 [(7,[13]),(8,[7]),(10,[8])]) (sp 13 [(11,[10])]) [7] [0,1,2,3,4,5,6,9,10,11,12] G ⟨?_,om,om,Ll b4,om,om,om,?_,?_,om,?_,?_,om,OV⟩ ?_
 rintro HX hX X Rest hR hU hUp;refine cz @iJ b8 ?_;exact o0 ⟨G,(by first | rfl | (rw [aw]; try rfl))⟩
 intro HX hX X Rest hR;refine dr ?_;intro hU hUp;refine Wp [0] ?_;refine ca @r9 cr ?_;rintro _ _ _ ⟨rfl,a2,a8,a1,a3,a4,a9,a5,aa,a6,ab,a7,ac,rfl,rfl,ag,af,ah,ai,aj,ak⟩;have ag:=ag HX;have af:=af HX;have ah:=ah HX;have ai:=ai HX;have aj:=aj HX;have ak:=ak HX;exact oe [.row a2 9 (aF.sz ByteArray) a0.a_.length a8,.row a1 41 (aF.sz aK) a0.aH.length a3,.row a4 120 (aF.sz aO) a0.aG.length a9,.row a5 152 (aF.sz bB) a0.cR.length aa,.row a6 55 (aF.sz aE) a0.aY.length ab,.row a7 156 (aF.sz bS) a0.bM.length ac,iT (aS an ao ap pg225 am)] lE ⟨a2,a8,a1,a3,a4,a9,a5,aa,a6,ab,a7,ac,G,G,(ag),(af),(ah),(ai),(aj),(ak)⟩;rintro HX hX X Rest hR _ _ ⟨a2,a8,a1,a3,a4,a9,a5,aa,a6,ab,a7,ac,rfl,rfl,ag,af,ah,ai,aj,ak⟩ _ _ ⟨rfl,rfl⟩ hU hUp;refine Wp [0,0,0,0,0,0,0] ?_;refine wC G G Sh G isAgg23 G G ?_;exact oe [.row a2 9 (aF.sz ByteArray) a0.a_.length a8,.row a1 41 (aF.sz aK) a0.aH.length a3,.row a4 120 (aF.sz aO) a0.aG.length a9,.row a5 152 (aF.sz bB) a0.cR.length aa,.row a6 55 (aF.sz aE) a0.aY.length ab,.row a7 156 (aF.sz bS) a0.bM.length ac,iT (aS an ao ap pg225 am)] lE ⟨a2,a8,a1,a3,a4,a9,a5,aa,a6,ab,a7,ac,G,G,(ag),(af),(ah),(ai),(aj),(ak)⟩
 rintro HX hX X Rest hR _ _ ⟨a2,a8,a1,a3,a4,a9,a5,aa,a6,ab,a7,ac,rfl,rfl,ag,af,ah,ai,aj,ak⟩ _ _ ⟨rfl,rfl⟩ _ _ ⟨rfl,rfl⟩ hU hUp;refine Wp [0,0,0,0,0,0,0] ?_;refine wo ?_;obtain ⟨_,rfl,b9⟩:=(af).elem cs;exact oe [.row a2 9 (aF.sz ByteArray) a0.a_.length a8,.row a1 41 (aF.sz aK) a0.aH.length a3,.row a4 120 (aF.sz aO) a0.aG.length a9,.row a5 152 (aF.sz bB) a0.cR.length aa,.row a6 55 (aF.sz aE) a0.aY.length ab,.row a7 156 (aF.sz bS) a0.bM.length ac,iT (aS an ao ap pg225 am)] lE ⟨a2,a8,a1,a3,a4,a9,a5,aa,a6,ab,a7,ac,G,G,(ag),(af),(ah),(ai),(aj),(ak),(b9)⟩;rintro HX hX X Rest hR _ _ ⟨a2,a8,a1,a3,a4,a9,a5,aa,a6,ab,a7,ac,rfl,rfl,ag,af,ah,ai,aj,ak,b9⟩ _ _ ⟨rfl,rfl⟩ hU hUp;refine wo ?_;exact o0 ⟨G,G⟩;intro eo ep;refine dr ?_;rintro _ _ ⟨a2,a8,a1,a3,a4,a9,a5,aa,a6,ab,a7,ac,rfl,rfl,ag,af,ah,ai,aj,ak⟩;rintro _ _ ⟨a2,a8,a1,a3,a4,a9,a5,aa,a6,ab,a7,ac,rfl,rfl,ag,af,ah,ai,aj,ak⟩
 refine dr ?_;rintro _ _ ⟨a2,a8,a1,a3,a4,a9,a5,aa,a6,ab,a7,ac,rfl,rfl,ag,af,ah,ai,aj,ak,b9⟩;refine dz ?_;refine Wp [0,0,0,0,0,0,0,0,0,0,0,0,0,0] ?_;refine Fm (b:=decide (ad.Name=ae.Name) && (decide (ad.A=ae.A) && (decide (ad.B_=ae.B_) && (decide (ad.lZ=ae.lZ) && (decide (ad.Open=ae.Open) && true))))) G G (by kernel_rfl) G G (λw=>vi (bs:=[decide (ad.Name=ae.Name),decide (ad.A=ae.A),decide (ad.B_=ae.B_),decide (ad.lZ=ae.lZ),decide (ad.Open=ae.Open)]) runUnderlying41 (by kernel_rfl) ⟨(by decide),(uY isAgg9 Pu G G),(by decide),(uY isAgg9 Pu G G),(by decide),(uY isAgg9 Pu G G),(by decide),(Ai isAgg4 RA G G),(by decide),(Ai isAgg4 RA G G),OV⟩) ?_
 refine go ?_;refine Ek [] 14 ?_;exact ef;refine go ?_;cases bu:(decide (ax.2=0));refine gj ?_;exact kj (be _ _ _ ⟨G,G,G⟩) ⟨(by exact sb (by first | rfl | simp only [bu,Hk])),G,G,G,G,G,OV⟩
 refine go ?_;refine uU G G Si G G (gj ?_);exact kj (be _ _ _ ⟨G,G,G⟩) ⟨(by exact sb (by first | rfl | simp only [bu,Hk])),G,G,G,G,G,OV⟩
end Go.Sim
namespace Go.Sim
open Go Go.Proofs.Tryz
open _root_.Go.IntKind (i64 u64 u32 u8)
set_option maxRecDepth 100000
set_option maxHeartbeats 4000000
variable {B:Nat}{w0 w:World}[xf B w0] {H:Hp}{M:List bL}
end Go.Sim
namespace Go.Sim
open Go Go.RowKit Go.ChangeShapes Go.WideShapes Go.ChangeAt
open _root_.Go.IntKind (i64 u64 u32 u8)
class Ok (α:Type) where
 ok:α->Prop
abbrev ok {α:Type}[Ok α] (x:α):Prop:=Ok.ok x
def Dn (n:Int):Prop:=-9223372036854775808<=n/\n<=9223372036854775807
instance:Ok Int:=⟨Dn⟩
instance:Ok Bool:=⟨λ_=>True⟩
instance:Ok ByteArray:=⟨λs=>s.size<=maxLen⟩
instance:Ok U8:=⟨λx=>0<=x.n/\x.n<=255⟩
instance:Ok Nv:=⟨λx=>0<=x.n/\x.n<=65535⟩
instance:Ok bP:=⟨λx=>0<=x.n/\x.n<=4294967295⟩
instance:Ok Nw:=⟨λx=>0<=x.n/\x.n<=18446744073709551615⟩
instance:Ok Nt:=⟨λx=>-2147483648<=x.n/\x.n<=2147483647⟩
instance {α:Type}[Ok α]:Ok (List α):=⟨λxs=>xs.length<=maxLen/\∀ x ∈ xs,ok x⟩
theorem wf_i64 {n:Int} (h:(Lit.int .i64 n).wf=true):Dn n:=by
 simp [Lit.wf,IntKind.min,IntKind.max,IntKind.signed,IntKind.bits] at h; exact ⟨by omega,by omega⟩
def oy (P:Program) (T:TypeId) (α:Type) [aF α] [Ok α]:Prop:=
 ∀ (Hd:Type) (enc:TypeId×Value->Hd) (w:World) (fuel:Nat) (cs:List Value) (d:DataW Hd×List MemPlace),
  DataW.trod enc P w 0 (λ_=>true) true fuel T cs=some d->∃ x:α,aF.E (snap w) cs x/\ok x
section
variable {P:Program}{T:TypeId}
theorem i_ (ht:P.underlying T=some (.int .i64)):oy P T Int:=λ_ _ _ _ _ _ h=>by
 obtain ⟨n,rfl,rfl,hw⟩:=DataW.trod_int ht h; exact ⟨n,rfl,wf_i64 hw⟩
theorem xP (ht:P.underlying T=some .bool):oy P T Bool:=λ_ _ _ _ _ _ h=>by
 obtain ⟨b,rfl,rfl⟩:=DataW.trod_bool ht h; exact ⟨b,rfl,OV⟩
theorem fB (ht:P.underlying T=some .string):oy P T ByteArray:=λ_ _ _ _ _ _ h=>by
 obtain ⟨s,rfl,rfl,hs⟩:=DataW.trod_string ht h; exact ⟨s,rfl,hs⟩
theorem Da {α:Type}{p:Nat->α->Prop}:∀ n,(∀ i,i<n->∃ x,p i x)->∃ xs:List α,xs.length=n/\∀ i x,xs[i]? = some x->p i x:=by
 intro n
 induction n with
 | zero=>exact λ_=>⟨[],rfl,by simp⟩
 | succ n ih=>
  intro h;obtain ⟨xs,hl,hx⟩:=ih λi hi=>h i (by omega)
  obtain ⟨y,hy⟩:=h n (by omega)
  refine ⟨xs++[y],by simp [hl],λi x hi=>?_⟩
  rw [Q2] at hi
  split at hi
  ·exact hx i x hi
  ·have:i-xs.length=0:=by
    have:=(OY.1 hi).1;simp at this; omega
   rw [this] at hi;simp at hi; subst hi
   rw [show i=n from by omega]; exact hy
theorem ot {e:TypeId}{α:Type}[aF α] [Ok α] (ht:P.underlying T=some (.slice e)) (hs:P.cellsOf e=aF.sz α) (h0:Nat.blt 0 (aF.sz α)=true) (he:oy P e α):oy P T (List α):=λHd enc w fuel cs d h=>by
 have h0':0<aF.sz α:=by simpa [P7] using h0
 rcases DataW.trod_slice ht h with ⟨rfl,rfl⟩ | ⟨a,len,cap,elems,rest,n,rfl,rfl,rfl,_,hl,hm,hel,hE,hR,_⟩
 ·exact ⟨[],⟨_,rfl,.inl ⟨⟨_,rfl⟩,rfl⟩⟩,⟨Nat.zero_le _,λ_ h=>by cases h⟩⟩
 ·by_cases hc:cap=0
  ·subst hc
   obtain rfl:len=0:=by omega
   exact ⟨[],⟨_,rfl,.inl ⟨⟨_,rfl⟩,rfl⟩⟩,⟨Nat.zero_le _,λ_ h=>by cases h⟩⟩
  ·have hall:∀ i,i<cap->∃ cs' d,w.cells? 0 (a.add (i*P.cellsOf e)) (P.cellsOf e)=some cs'/\DataW.trod enc P w 0 (λ_=>true) true n e cs'=some d:=by
    intro i hi;have:∃ d,(w.cells? 0 (a.add (i*P.cellsOf e)) (P.cellsOf e)).bind (DataW.trod enc P w 0 (λ_=>true) true n e)=some d:=by
     by_cases hil:i<len
     ·exact ⟨elems[i]'(by omega),by rw [hE i hil]; exact OU _⟩
     ·have:=(hR rfl).2 (i-len) (by omega)
      rw [show len+(i-len)=i from by omega] at this
      exact ⟨rest[i-len]'(by have:=(hR rfl).1; omega),by rw [this]; exact OU _⟩
    obtain ⟨d,hd⟩:=this;obtain ⟨cs',h1,h2⟩:=SY.1 hd;exact ⟨cs',d,h1,h2⟩
   have hcell:∀ i,i<cap->∀ j,j<aF.sz α->∃ c,w.cell? ((a.add (i*aF.sz α)).add j)=some c:=by
    intro i hi j hj;obtain ⟨cs',d,h1,_⟩:=hall i hi;rw [hs] at h1;obtain ⟨_,h2,h3⟩:=World.cells?_some h1;exact ⟨cs'[j]'(by omega),by rw [h3 j hj]; exact OU _⟩
   obtain ⟨ab,ao,asp⟩:=a;have hb:asp=none/\∃ arr T fz,w.heap[ab]? = some (.cells arr T fz):=by
    obtain ⟨c,hc'⟩:=hcell 0 (by omega) 0 h0'
    rw [Qt] at hc';simp only [Addr.add,SF,World.cell?] at hc'
    split at hc'
    ·rename_i arr T fz hh
     refine ⟨?_,arr,T,fz,hh⟩
     split at hc'
     ·cases hc'
     ·rename_i hn; cases asp <;> simp_all
    ·cases hc'
   obtain ⟨rfl,arr,T',fz,hh⟩:=hb;have hat:∀ i,i<cap->∀ j,j<aF.sz α->w.cell? (((⟨ab,ao,none⟩:Addr).add (i*aF.sz α)).add j)=arr[ao+i*aF.sz α+j]? := by
    intro i hi j hj;rw [P5,P5];simp [World.cell?,hh]
   have hsz:ao+cap*aF.sz α<=arr.size:=by
    obtain ⟨c,hc'⟩:=hcell (cap-1) (by omega) (aF.sz α-1) (by omega)
    rw [hat (cap-1) (by omega) _ (by omega)] at hc'
    have:=(Qk.1 hc').1;have e1:cap*aF.sz α=(cap-1)*aF.sz α+aF.sz α:=by
     have:cap=(cap-1)+1:=by omega
     rw [this,Pk,SE]; simp
    omega
   obtain ⟨xs,hxl,hxs⟩:=Da (p:=λi (x:α)=>ok x/\∃ cs,aF.E (snap w) cs x/\∀ j c,cs[j]? = some c->arr[ao+i*aF.sz α+j]? = some c) len (by
    intro i hi;obtain ⟨cs',d,h1,h2⟩:=hall i (by omega)
    obtain ⟨x,hx,hok⟩:=he _ _ _ _ _ _ h2;refine ⟨x,hok,cs',hx,λj c hj=>?_⟩;rw [hs] at h1;obtain ⟨_,h3,h4⟩:=World.cells?_some h1;have hjl:=(OY.1 hj).1;rw [<- hat i (by omega) j (by omega),h4 j (by omega),hj])
   subst hxl;refine ⟨xs,⟨_,rfl,.inr ⟨ab,ao,cap,arr,T',fz,rfl,hl,hm,hh,hsz,λk x hk=>(hxs k x hk).2⟩⟩,by omega,λx hx=>?_⟩
   obtain ⟨k,hk⟩:=List.mem_iff_getElem?.1 hx;exact (hxs k x hk).1
theorem bN {Hd:Type}{enc:TypeId×Value->Hd}{w:World}{n:Nat}{cs:List Value}{fs:Array Field}{xs:List (DataW Hd×List MemPlace)}{α:Type}[aF α] [Ok α]
  (hlen:xs.length=fs.size) (hf:∀ (i:Nat) (f:Field),fs[i]? = some f->DataW.trod enc P w 0 (λ_=>true) true n f.type ((cs.drop f.offset).take (P.cellsOf f.type))=xs[i]?)
  (i:Nat) {f:Field}{o:Nat} (hi:fs[i]? = some f) (ho:f.offset=o) (hn:P.cellsOf f.type=aF.sz α) (ht:oy P f.type α):∃ x:α,aF.E (snap w) ((cs.drop o).take (aF.sz α)) x/\ok x:=by
 have h:=hf i f hi;have hlt:i<xs.length:=by rw [hlen]; exact (Qk.1 hi).1
 rw [OU hlt] at h;obtain ⟨x,hx,hok⟩:=ht _ _ _ _ _ _ h;subst ho;rw [hn] at hx;exact ⟨x,hx,hok⟩
theorem piece {cs r s:List Value}{o n m:Nat} (h:(cs.drop o).take n=r) (hm:o+n=m) (k:cs.drop m=s):cs.drop o=r++s:=by
 subst hm;rw [<- h,<- k,<- QF,Qm]
theorem pI {cs:List Value}{n m:Nat} (h:cs.length=n) (hm:n=m):cs.drop m=[]:=by subst hm; rw [<- h]; exact RN
end
section
variable {Hd:Type}{enc:TypeId×Value->Hd}{P:Program}{W:World}{T:TypeId}{v:Value}{d:DataW Hd}{p:List MemPlace}{base:Nat}
theorem zV {α:Type}[aF α] [Ok α] (ht:oy P T α) (h:DataW.Trod enc P W 0 (λ_=>true) true T v d p):∃ x:α,aF.E (snap W) v.cells.toList x/\ok x:=by
 obtain ⟨n,h⟩:=h; exact ht _ _ _ _ _ _ h
theorem JI (hu:P.underlying T=some (.int .i64)) (hv:Value.okWide P W .any base T v) (h:DataW.Trod enc P W 0 (λ_=>true) true T v d p):∃ x:Int,v=.int .i64 x/\Dn x:=by
 obtain ⟨n,rfl⟩:=okWide_int hu hv;obtain ⟨x,hx,hok⟩:=zV (i_ hu) h;simp [Value.cells,aF.E] at hx; subst hx; exact ⟨n,rfl,hok⟩
theorem Gp {e:TypeId}{α:Type}[aF α] [Ok α] (hu:P.underlying T=some (.slice e)) (ht:oy P T (List α)) (hv:Value.okWide P W .any base T v) (h:DataW.Trod enc P W 0 (λ_=>true) true T v d p):
  ∃ x:List α,aP (snap W) v x/\ok x:=by
 obtain ⟨a,l,c,rfl⟩:=okWide_slice hu hv;obtain ⟨x,⟨u,hx,hr⟩,hok⟩:=zV ht h;simp [Value.cells] at hx; subst hx; exact ⟨x,hr,hok⟩
theorem Ef {fs:Array Field}{α:Type}[aF α] [Ok α] (hu:P.underlying T=some (.struct fs)) (ht:oy P T α) (hv:Value.okWide P W .any base T v) (h:DataW.Trod enc P W 0 (λ_=>true) true T v d p):
  ∃ (x:α) (cs:List Value),v=.agg cs.toArray/\aF.E (snap W) cs x/\ok x:=by
 obtain ⟨cs,rfl,_⟩:=okWide_struct hu hv;obtain ⟨x,hx,hok⟩:=zV ht h;exact ⟨x,cs.toList,by simp,hx,hok⟩
end
theorem xx {Hd:Type}{enc:TypeId×Value->Hd}{P:Program} (hl:laidOutB P=true) {W W':World} (hb:Below W.heap.size W W'):∀ {ts:List TypeId}{vs:List Value}{ds:List (DataW Hd)}{ps:List MemPlace},
  (ts.all λt=>P.readableRec t && Nat.blt t P.types.size)=true->DataW.TrodAll enc P W 0 (λ_=>true) true ts vs ds ps->DataW.TrodAll enc P W' 0 (λb=>decide (b<W.heap.size)) true ts vs ds ps
 | [],[],[],_,_,h=>h
 | t::ts,v::vs,d::ds,ps,ht,h=>by
  obtain ⟨p,q,h1,h2,rfl⟩:=h;simp only [List.all_cons,QB,P7] at ht;have hlt:∀ x ∈ p,x.block<W.heap.size:=by obtain ⟨m,hm⟩:=h1; exact DataW.trod_lt m _ _ _ hm
  exact ⟨p,q,Below.trod hl ht.1.1 ht.1.2 h1 hb hlt,xx hl hb ht.2 h2,rfl⟩
 | [],_::_,_,_,_,h=>absurd h (by simp [DataW.TrodAll])
 | [],[],_::_,_,_,h=>absurd h (by simp [DataW.TrodAll])
 | _::_,[],_,_,_,h=>absurd h (by simp [DataW.TrodAll])
 | _::_,_::_,[],_,_,h=>absurd h (by simp [DataW.TrodAll])
theorem w4 {Hd:Type}{enc:TypeId×Value->Hd}{P:Program}{W:World}{base:Nat}{spare:Nat->Bool}{held:Bool}:∀ {ts:List TypeId}{vs:List Value}{ds:List (DataW Hd)}{ps:List MemPlace},
  DataW.TrodAll enc P W base spare held ts vs ds ps->ds.length=ts.length
 | [],[],[],_,_=>rfl
 | t::ts,v::vs,d::ds,ps,h=>by
  obtain ⟨p,q,h1,h2,rfl⟩:=h;simp [w4 h2]
 | [],_::_,_,_,h=>absurd h (by simp [DataW.TrodAll])
 | [],[],_::_,_,h=>absurd h (by simp [DataW.TrodAll])
 | _::_,[],_,_,h=>absurd h (by simp [DataW.TrodAll])
 | _::_,_::_,[],_,h=>absurd h (by simp [DataW.TrodAll])
theorem ID {Hd:Type}{enc:TypeId×Value->Hd}{P:Program}{fn:Func}{s:ChangeSpec}{W W':World}{args:Array Value}{ds gs:List (DataW Hd)}{before:List MemPlace}{tb:TypeId}
  (hl:laidOutB P=true) (hs:s.vars=[]) (hr:fn.resultTypes=#[tb]) (hb:P.underlying tb=some .bool) (hp:(fn.params.toList.all λt=>P.readableRec t && Nat.blt t P.types.size)=true)
  (hW:DataW.Whole enc P fn.params.toList s.vars false W args.toList ds gs before)
  (hfn:ds.length=fn.params.toList.length->s.fn Hd (ds++[])={ results:=[.lit (.bool true)],args:=ds })
  (bel:Below W.heap.size W W'):s.post enc P fn false true false false W args (.bool true) W':=by
 have hW':=hW;obtain ⟨p,q,hA,hV,rfl,hfz,hnd⟩:=hW;rw [hs] at hV;obtain ⟨rfl,rfl⟩:=trodVars_none hV;have hlen:ds.length=fn.params.toList.length:=by
  exact w4 hA
 have e:=hfn hlen;have hA':=xx hl bel hp hA;refine ⟨ds,[],_,[],p,[],hW',?_,?_,?_,bel.frame _,λh=>by cases h⟩
 ·rw [hr,e]; exact trodAll_mk1 (shut_bool hb _)
 ·rw [e]; exact hA'
 ·rw [hs,e]; rfl
theorem J0:ownKnob Proofs.Tryz.prog.godebug=none:=by kernel_rfl
theorem IC:laidOutB Proofs.Tryz.prog=true:=by kernel_rfl
instance:Ok aK:=⟨λx=>ok x.Name/\ok x.A/\ok x.B_/\ok x.lZ/\ok x.Open⟩
instance:Ok aO:=⟨λx=>ok x.Name/\ok x.oS/\ok x.To/\ok x.X/\ok x.A5/\ok x.Shift/\ok x.sK/\ok x.wz/\ok x.BN⟩
instance:Ok bB:=⟨λx=>ok x.Name/\ok x.Node/\ok x.iH/\ok x.pX/\ok x.A9⟩
instance:Ok aE:=⟨λx=>ok x.Name/\ok x.Node/\ok x.cV⟩
instance:Ok bS:=⟨λx=>ok x.Name/\ok x.Node/\ok x.rA/\ok x.Discharge/\ok x.tM⟩
instance:Ok aD:=⟨λx=>ok x.a_/\ok x.aH/\ok x.aG/\ok x.cR/\ok x.aY/\ok x.bM⟩
instance:Ok bH:=⟨λx=>ok x.Kind/\ok x.Name/\ok x.A/\ok x.B_⟩
instance:Ok aX:=⟨λx=>ok x.Close/\ok x.Switch/\ok x.vU⟩
instance:Ok cI:=⟨λx=>ok x.bZ/\ok x.oM⟩
instance:Ok aI:=⟨λx=>ok x.Time/\ok x.Kind/\ok x.Name/\ok x.Value⟩
theorem KB:oy Proofs.Tryz.prog 22 (List ByteArray):=ot Proofs.Tryz.underlying22 (by kernel_rfl) rfl (fB PJ)
theorem KL:oy Proofs.Tryz.prog 41 aK:=by
 intro Hd enc w fuel cs d h;obtain ⟨xs,n,rfl,rfl,hl,hlen,hf⟩:=QV Proofs.Tryz.underlying41 h;obtain ⟨x0,e0,o0⟩:=bN (α:=ByteArray) hlen hf 0 (o:=0) rfl rfl (by kernel_rfl) (fB PJ)
 obtain ⟨x1,e1,o1⟩:=bN (α:=ByteArray) hlen hf 1 (o:=1) rfl rfl (by kernel_rfl) (fB PJ)
 obtain ⟨x2,e2,o2⟩:=bN (α:=ByteArray) hlen hf 2 (o:=2) rfl rfl (by kernel_rfl) (fB PJ)
 obtain ⟨x3,e3,o3⟩:=bN (α:=Bool) hlen hf 3 (o:=3) rfl rfl (by kernel_rfl) (xP Sa)
 obtain ⟨x4,e4,o4⟩:=bN (α:=Bool) hlen hf 4 (o:=4) rfl rfl (by kernel_rfl) (xP Sa)
 exact ⟨⟨x0,x1,x2,x3,x4⟩,piece (o:=0) e0 (by rfl) (piece (o:=1) e1 (by rfl) (piece (o:=2) e2 (by rfl) (piece (o:=3) e3 (by rfl) (piece (o:=4) e4 (by rfl) (pI hl (by kernel_rfl)))))),⟨o0,o1,o2,o3,o4⟩⟩
theorem KC:oy Proofs.Tryz.prog 23 (List aK):=ot Proofs.Tryz.underlying23 (by kernel_rfl) rfl KL
theorem Jm:oy Proofs.Tryz.prog 120 aO:=by
 intro Hd enc w fuel cs d h;obtain ⟨xs,n,rfl,rfl,hl,hlen,hf⟩:=QV Proofs.Tryz.underlying120 h;obtain ⟨x0,e0,o0⟩:=bN (α:=ByteArray) hlen hf 0 (o:=0) rfl rfl (by kernel_rfl) (fB PJ)
 obtain ⟨x1,e1,o1⟩:=bN (α:=ByteArray) hlen hf 1 (o:=1) rfl rfl (by kernel_rfl) (fB PJ)
 obtain ⟨x2,e2,o2⟩:=bN (α:=ByteArray) hlen hf 2 (o:=2) rfl rfl (by kernel_rfl) (fB PJ)
 obtain ⟨x3,e3,o3⟩:=bN (α:=Int) hlen hf 3 (o:=3) rfl rfl (by kernel_rfl) (i_ PI)
 obtain ⟨x4,e4,o4⟩:=bN (α:=Int) hlen hf 4 (o:=4) rfl rfl (by kernel_rfl) (i_ PI)
 obtain ⟨x5,e5,o5⟩:=bN (α:=Int) hlen hf 5 (o:=5) rfl rfl (by kernel_rfl) (i_ PI)
 obtain ⟨x6,e6,o6⟩:=bN (α:=Int) hlen hf 6 (o:=6) rfl rfl (by kernel_rfl) (i_ PI)
 obtain ⟨x7,e7,o7⟩:=bN (α:=Int) hlen hf 7 (o:=7) rfl rfl (by kernel_rfl) (i_ PI)
 obtain ⟨x8,e8,o8⟩:=bN (α:=Int) hlen hf 8 (o:=8) rfl rfl (by kernel_rfl) (i_ PI)
 exact ⟨⟨x0,x1,x2,x3,x4,x5,x6,x7,x8⟩,piece (o:=0) e0 (by rfl) (piece (o:=1) e1 (by rfl) (piece (o:=2) e2 (by rfl) (piece (o:=3) e3 (by rfl) (piece (o:=4) e4 (by rfl) (piece (o:=5) e5 (by rfl) (piece (o:=6) e6 (by rfl) (piece (o:=7) e7 (by rfl) (piece (o:=8) e8 (by rfl) (pI hl (by kernel_rfl)))))))))),⟨o0,o1,o2,o3,o4,o5,o6,o7,o8⟩⟩
theorem KD:oy Proofs.Tryz.prog 24 (List aO):=ot Proofs.Tryz.underlying24 (by kernel_rfl) rfl Jm
theorem Jn:oy Proofs.Tryz.prog 152 bB:=by
 intro Hd enc w fuel cs d h;obtain ⟨xs,n,rfl,rfl,hl,hlen,hf⟩:=QV Proofs.Tryz.underlying152 h;obtain ⟨x0,e0,o0⟩:=bN (α:=ByteArray) hlen hf 0 (o:=0) rfl rfl (by kernel_rfl) (fB PJ)
 obtain ⟨x1,e1,o1⟩:=bN (α:=ByteArray) hlen hf 1 (o:=1) rfl rfl (by kernel_rfl) (fB PJ)
 obtain ⟨x2,e2,o2⟩:=bN (α:=Int) hlen hf 2 (o:=2) rfl rfl (by kernel_rfl) (i_ PI)
 obtain ⟨x3,e3,o3⟩:=bN (α:=Int) hlen hf 3 (o:=3) rfl rfl (by kernel_rfl) (i_ PI)
 obtain ⟨x4,e4,o4⟩:=bN (α:=Int) hlen hf 4 (o:=4) rfl rfl (by kernel_rfl) (i_ PI)
 exact ⟨⟨x0,x1,x2,x3,x4⟩,piece (o:=0) e0 (by rfl) (piece (o:=1) e1 (by rfl) (piece (o:=2) e2 (by rfl) (piece (o:=3) e3 (by rfl) (piece (o:=4) e4 (by rfl) (pI hl (by kernel_rfl)))))),⟨o0,o1,o2,o3,o4⟩⟩
theorem KE:oy Proofs.Tryz.prog 25 (List bB):=ot Proofs.Tryz.underlying25 (by kernel_rfl) rfl Jn
theorem KN:oy Proofs.Tryz.prog 55 aE:=by
 intro Hd enc w fuel cs d h;obtain ⟨xs,n,rfl,rfl,hl,hlen,hf⟩:=QV Proofs.Tryz.underlying55 h;obtain ⟨x0,e0,o0⟩:=bN (α:=ByteArray) hlen hf 0 (o:=0) rfl rfl (by kernel_rfl) (fB PJ)
 obtain ⟨x1,e1,o1⟩:=bN (α:=ByteArray) hlen hf 1 (o:=1) rfl rfl (by kernel_rfl) (fB PJ)
 obtain ⟨x2,e2,o2⟩:=bN (α:=Int) hlen hf 2 (o:=2) rfl rfl (by kernel_rfl) (i_ PI)
 exact ⟨⟨x0,x1,x2⟩,piece (o:=0) e0 (by rfl) (piece (o:=1) e1 (by rfl) (piece (o:=2) e2 (by rfl) (pI hl (by kernel_rfl)))),⟨o0,o1,o2⟩⟩
theorem KF:oy Proofs.Tryz.prog 26 (List aE):=ot Proofs.Tryz.underlying26 (by kernel_rfl) rfl KN
theorem Jo:oy Proofs.Tryz.prog 156 bS:=by
 intro Hd enc w fuel cs d h;obtain ⟨xs,n,rfl,rfl,hl,hlen,hf⟩:=QV Proofs.Tryz.underlying156 h;obtain ⟨x0,e0,o0⟩:=bN (α:=ByteArray) hlen hf 0 (o:=0) rfl rfl (by kernel_rfl) (fB PJ)
 obtain ⟨x1,e1,o1⟩:=bN (α:=ByteArray) hlen hf 1 (o:=1) rfl rfl (by kernel_rfl) (fB PJ)
 obtain ⟨x2,e2,o2⟩:=bN (α:=Int) hlen hf 2 (o:=2) rfl rfl (by kernel_rfl) (i_ PI)
 obtain ⟨x3,e3,o3⟩:=bN (α:=Int) hlen hf 3 (o:=3) rfl rfl (by kernel_rfl) (i_ PI)
 obtain ⟨x4,e4,o4⟩:=bN (α:=Int) hlen hf 4 (o:=4) rfl rfl (by kernel_rfl) (i_ PI)
 exact ⟨⟨x0,x1,x2,x3,x4⟩,piece (o:=0) e0 (by rfl) (piece (o:=1) e1 (by rfl) (piece (o:=2) e2 (by rfl) (piece (o:=3) e3 (by rfl) (piece (o:=4) e4 (by rfl) (pI hl (by kernel_rfl)))))),⟨o0,o1,o2,o3,o4⟩⟩
theorem KG:oy Proofs.Tryz.prog 27 (List bS):=ot Proofs.Tryz.underlying27 (by kernel_rfl) rfl Jo
theorem KH:oy Proofs.Tryz.prog 29 aD:=by
 intro Hd enc w fuel cs d h;obtain ⟨xs,n,rfl,rfl,hl,hlen,hf⟩:=QV Proofs.Tryz.underlying29 h;obtain ⟨x0,⟨v0_0,e0,h0_0⟩,o0⟩:=bN (α:=(List ByteArray)) hlen hf 0 (o:=0) rfl rfl (by kernel_rfl) KB
 obtain ⟨x1,⟨v1_0,e1,h1_0⟩,o1⟩:=bN (α:=(List aK)) hlen hf 1 (o:=1) rfl rfl (by kernel_rfl) KC
 obtain ⟨x2,⟨v2_0,e2,h2_0⟩,o2⟩:=bN (α:=(List aO)) hlen hf 2 (o:=2) rfl rfl (by kernel_rfl) KD
 obtain ⟨x3,⟨v3_0,e3,h3_0⟩,o3⟩:=bN (α:=(List bB)) hlen hf 3 (o:=3) rfl rfl (by kernel_rfl) KE
 obtain ⟨x4,⟨v4_0,e4,h4_0⟩,o4⟩:=bN (α:=(List aE)) hlen hf 4 (o:=4) rfl rfl (by kernel_rfl) KF
 obtain ⟨x5,⟨v5_0,e5,h5_0⟩,o5⟩:=bN (α:=(List bS)) hlen hf 5 (o:=5) rfl rfl (by kernel_rfl) KG
 exact ⟨⟨x0,x1,x2,x3,x4,x5⟩,⟨v0_0,v1_0,v2_0,v3_0,v4_0,v5_0,piece (o:=0) e0 (by rfl) (piece (o:=1) e1 (by rfl) (piece (o:=2) e2 (by rfl) (piece (o:=3) e3 (by rfl) (piece (o:=4) e4 (by rfl) (piece (o:=5) e5 (by rfl) (pI hl (by kernel_rfl))))))),h0_0,h1_0,h2_0,h3_0,h4_0,h5_0⟩,⟨o0,o1,o2,o3,o4,o5⟩⟩
theorem KQ:oy Proofs.Tryz.prog 97 bH:=by
 intro Hd enc w fuel cs d h;obtain ⟨xs,n,rfl,rfl,hl,hlen,hf⟩:=QV Proofs.Tryz.underlying97 h;obtain ⟨x0,e0,o0⟩:=bN (α:=Int) hlen hf 0 (o:=0) rfl rfl (by kernel_rfl) (i_ PI)
 obtain ⟨x1,e1,o1⟩:=bN (α:=ByteArray) hlen hf 1 (o:=1) rfl rfl (by kernel_rfl) (fB PJ)
 obtain ⟨x2,e2,o2⟩:=bN (α:=Int) hlen hf 2 (o:=2) rfl rfl (by kernel_rfl) (i_ PI)
 obtain ⟨x3,e3,o3⟩:=bN (α:=Int) hlen hf 3 (o:=3) rfl rfl (by kernel_rfl) (i_ PI)
 exact ⟨⟨x0,x1,x2,x3⟩,piece (o:=0) e0 (by rfl) (piece (o:=1) e1 (by rfl) (piece (o:=2) e2 (by rfl) (piece (o:=3) e3 (by rfl) (pI hl (by kernel_rfl))))),⟨o0,o1,o2,o3⟩⟩
theorem KO:oy Proofs.Tryz.prog 87 (List bH):=ot Proofs.Tryz.underlying87 (by kernel_rfl) rfl KQ
theorem KP:oy Proofs.Tryz.prog 89 aX:=by
 intro Hd enc w fuel cs d h;obtain ⟨xs,n,rfl,rfl,hl,hlen,hf⟩:=QV Proofs.Tryz.underlying89 h;obtain ⟨x0,e0,o0⟩:=bN (α:=Bool) hlen hf 0 (o:=0) rfl rfl (by kernel_rfl) (xP Sa)
 obtain ⟨x1,e1,o1⟩:=bN (α:=ByteArray) hlen hf 1 (o:=1) rfl rfl (by kernel_rfl) (fB PJ)
 obtain ⟨x2,⟨v2_0,e2,h2_0⟩,o2⟩:=bN (α:=(List bH)) hlen hf 2 (o:=2) rfl rfl (by kernel_rfl) KO
 exact ⟨⟨x0,x1,x2⟩,⟨v2_0,piece (o:=0) e0 (by rfl) (piece (o:=1) e1 (by rfl) (piece (o:=2) e2 (by rfl) (pI hl (by kernel_rfl)))),h2_0⟩,⟨o0,o1,o2⟩⟩
theorem KI:oy Proofs.Tryz.prog 30 (List aX):=ot Proofs.Tryz.underlying30 (by kernel_rfl) rfl KP
theorem KJ:oy Proofs.Tryz.prog 32 cI:=by
 intro Hd enc w fuel cs d h;obtain ⟨xs,n,rfl,rfl,hl,hlen,hf⟩:=QV Proofs.Tryz.underlying32 h;obtain ⟨x0,⟨v0_0,v0_1,v0_2,v0_3,v0_4,v0_5,e0,h0_0,h0_1,h0_2,h0_3,h0_4,h0_5⟩,o0⟩:=bN (α:=aD) hlen hf 0 (o:=0) rfl rfl (by kernel_rfl) KH
 obtain ⟨x1,⟨v1_0,e1,h1_0⟩,o1⟩:=bN (α:=(List aX)) hlen hf 1 (o:=6) rfl rfl (by kernel_rfl) KI
 exact ⟨⟨x0,x1⟩,⟨v0_0,v0_1,v0_2,v0_3,v0_4,v0_5,v1_0,piece (o:=0) e0 (by rfl) (piece (o:=6) e1 (by rfl) (pI hl (by kernel_rfl))),h0_0,h0_1,h0_2,h0_3,h0_4,h0_5,h1_0⟩,⟨o0,o1⟩⟩
theorem KM:oy Proofs.Tryz.prog 45 aI:=by
 intro Hd enc w fuel cs d h;obtain ⟨xs,n,rfl,rfl,hl,hlen,hf⟩:=QV Proofs.Tryz.underlying45 h;obtain ⟨x0,e0,o0⟩:=bN (α:=Int) hlen hf 0 (o:=0) rfl rfl (by kernel_rfl) (i_ PI)
 obtain ⟨x1,e1,o1⟩:=bN (α:=ByteArray) hlen hf 1 (o:=1) rfl rfl (by kernel_rfl) (fB PJ)
 obtain ⟨x2,e2,o2⟩:=bN (α:=ByteArray) hlen hf 2 (o:=2) rfl rfl (by kernel_rfl) (fB PJ)
 obtain ⟨x3,e3,o3⟩:=bN (α:=Int) hlen hf 3 (o:=3) rfl rfl (by kernel_rfl) (i_ PI)
 exact ⟨⟨x0,x1,x2,x3⟩,piece (o:=0) e0 (by rfl) (piece (o:=1) e1 (by rfl) (piece (o:=2) e2 (by rfl) (piece (o:=3) e3 (by rfl) (pI hl (by kernel_rfl))))),⟨o0,o1,o2,o3⟩⟩
theorem KK:oy Proofs.Tryz.prog 33 (List aI):=ot Proofs.Tryz.underlying33 (by kernel_rfl) rfl KM
theorem A_ {W:World} (h0:laidMetH Proofs.Tryz.prog Proofs.YtkpbgofhndmbnaaGreatDoor.Rows.roomHeldRow.laid W):xf W.heap.size W:=by
 rw [MakeChecks.laidMetH_plain _ _ _ (by kernel_rfl)] at h0
 have t4:Lib.TabIs Proofs.Tryz.prog W "math/bits.deBruijn32tab" .u8 NO:=Lib.tabIs_of_head Oi (by kernel_rfl:(Proofs.Tryz.prog.globals[4]?).map (·.type)=some 318) Proofs.Tryz.underlying318 Proofs.Tryz.underlying5 (by kernel_rfl) (by kernel_rfl) (show laidMet Proofs.Tryz.prog (("math/bits.deBruijn32tab", Lib.tabData .u8 NO)::_) W from h0)
 have h1:=laidMet.tail h0;have t5:Lib.TabIs Proofs.Tryz.prog W "math/bits.deBruijn64tab" .u8 NP:=Lib.tabIs_of_head Oa (by kernel_rfl:(Proofs.Tryz.prog.globals[5]?).map (·.type)=some 319) Proofs.Tryz.underlying319 Proofs.Tryz.underlying5 (by kernel_rfl) (by kernel_rfl) (show laidMet Proofs.Tryz.prog (("math/bits.deBruijn64tab", Lib.tabData .u8 NP)::_) W from h1)
 have h2:=laidMet.tail h1;have t3:Lib.TabIs Proofs.Tryz.prog W "internal/strconv.uint64pow10" .u64 Nx:=Lib.tabIs_of_head N_ (by kernel_rfl:(Proofs.Tryz.prog.globals[3]?).map (·.type)=some 313) Proofs.Tryz.underlying313 Proofs.Tryz.underlying72 (by kernel_rfl) (by kernel_rfl) (show laidMet Proofs.Tryz.prog (("internal/strconv.uint64pow10", Lib.tabData .u64 Nx)::_) W from h2)
 have h3:=laidMet.tail h2;have star: "*" ++ "errors.errorString" = "*errors.errorString" := by decide
 have rowe:∀ u,Proofs.Tryz.prog.typeName? 3 u=some "*errors.errorString" -> u=309:=λu h=>typeName_ptr_named (nm:= "errors.errorString") (by rw [star]; kernel_rfl) (by kernel_rfl) (by decide) u (by rw [star]; exact h)
 obtain ⟨a2,s2,e2,-⟩:=laid_sentinel h3 Oh (by kernel_rfl:(Proofs.Tryz.prog.globals[2]?).map (·.type)=some 219) Proofs.Tryz.underlying219 rowe Proofs.Tryz.underlying309 Proofs.Tryz.underlying311 rfl rfl PJ (by kernel_rfl) (by kernel_rfl)
 have h4:=laidMet.tail h3;obtain ⟨a1,s1,e1,-⟩:=laid_sentinel h4 Og (by kernel_rfl:(Proofs.Tryz.prog.globals[1]?).map (·.type)=some 219) Proofs.Tryz.underlying219 rowe Proofs.Tryz.underlying309 Proofs.Tryz.underlying311 rfl rfl PJ (by kernel_rfl) (by kernel_rfl)
 exact { lt:=Ma Oa t5,t4:=t4,t5:=t5,t3:=t3,e2:=⟨_,_,e2⟩,e1:=⟨_,_,e1⟩ }
set_option maxRecDepth 100000 in
theorem zg (hp:∀ (x0:cI) (x1:(List aI)) (x2:Int),ok x0->ok x1->Dn x2->gP x0 x1 x2=some true) (os:Os) (started:os.Started) (Hd:Type) (enc:TypeId×Value->Hd):
  ReturnsInHanded {} Proofs.Tryz.checked os 3 .any (λw args=>(Proofs.YtkpbgofhndmbnaaGreatDoor.Rows.roomHeldSpec.pre enc Proofs.Tryz.prog Proofs.Tryz.f3 Proofs.YtkpbgofhndmbnaaGreatDoor.Rows.roomHeldRow.domain false w args/\laidMetH Proofs.Tryz.prog Proofs.YtkpbgofhndmbnaaGreatDoor.Rows.roomHeldRow.laid w)/\sizedMet enc Proofs.Tryz.prog Proofs.Tryz.f3 (OpenSpec.ofChange Proofs.YtkpbgofhndmbnaaGreatDoor.Rows.roomHeldSpec) false w args) (Proofs.YtkpbgofhndmbnaaGreatDoor.Rows.roomHeldSpec.post enc Proofs.Tryz.prog Proofs.Tryz.f3 false true false false):=by
 refine returnsInHanded_of_change_and (C:=Proofs.Tryz.checked) (X:=λw _=>laidMetH Proofs.Tryz.prog Proofs.YtkpbgofhndmbnaaGreatDoor.Rows.roomHeldRow.laid w) (λ_ _ _ hh h=>h.of_heap hh) J0 started (by kernel_rfl) Proofs.Tryz.func3
  (ChangeSpec.witness_shaped (enc:=enc) (C:=Proofs.Tryz.checked) (os:=os) (X:=λw _=>laidMetH Proofs.Tryz.prog Proofs.YtkpbgofhndmbnaaGreatDoor.Rows.roomHeldRow.laid w) false (World.laidAll Proofs.Tryz.prog os Proofs.YtkpbgofhndmbnaaGreatDoor.Rows.roomHeldRow.laid) #[.agg #[.slice none 0 0,.slice none 0 0,.slice none 0 0,.slice none 0 0,.slice none 0 0,.slice none 0 0,.slice none 0 0],.slice none 0 0,.int .i64 0] 8 (World.laidAll_os _ _ _)
   (World.shaped_of_ZipB (by kernel_rfl) (by kernel_rfl)) (by kernel_rfl) (by kernel_rfl) (by kernel_rfl)
   (by rw [MakeChecks.laidMetH_plain _ _ _ (by kernel_rfl)]; exact laidMet_laidAll _ (by kernel_rfl) (by kernel_rfl))) ?_
 intro W base args ds gs before hval0 hW hcnd _ hL _;have hval:∀ (j:Nat) t v,Proofs.Tryz.f3.params[j]? = some t->args[j]? = some v->Value.okWide Proofs.Tryz.prog W .any base t v:=hval0
 haveI:xf W.heap.size W:=A_ hL
 have hW2:DataW.Whole enc Proofs.Tryz.prog Proofs.Tryz.f3.params.toList Proofs.YtkpbgofhndmbnaaGreatDoor.Rows.roomHeldSpec.vars false W args.toList ds gs before:=hW;obtain ⟨p,q,hA0,hV,rfl,hfz,hnd⟩:=hW;have hA:DataW.TrodAll enc Proofs.Tryz.prog W 0 (λ_=>true) true Proofs.Tryz.f3.params.toList args.toList ds p:=hA0;rw [Proofs.Tryz.params3] at hA hval;obtain ⟨v0,vs0,d0,ds0,p0,q0,hargs,rfl,rfl,h0,r0⟩:=trodAll_cons hA;obtain ⟨v1,vs1,d1,ds1,p1,q1,rfl,rfl,rfl,h1,r1⟩:=trodAll_cons r0;obtain ⟨v2,vs2,d2,ds2,p2,q2,rfl,rfl,rfl,h2,r2⟩:=trodAll_cons r1
 obtain ⟨rfl,rfl,rfl⟩:=trodAll_nil r2;obtain rfl:args=#[v0,v1,v2]:=by cases args; simp_all
 obtain ⟨x0,cs0,rfl,⟨v0_0,v0_1,v0_2,v0_3,v0_4,v0_5,v0_6,rfl,e0_0,e0_1,e0_2,e0_3,e0_4,e0_5,e0_6⟩,ok0⟩:=Ef Proofs.Tryz.underlying32 KJ (hval 0 32 v0 rfl rfl) h0;obtain ⟨x1,e1,ok1⟩:=Gp Proofs.Tryz.underlying33 KK (hval 1 33 v1 rfl rfl) h1;obtain ⟨x2,rfl,ok2⟩:=JI PI (hval 2 3 v2 rfl rfl) h2;have hc:=tS (hp x0 x1 x2 ok0 ok1 ok2) e0_0 e0_1 e0_2 e0_3 e0_4 e0_5 e0_6 e1 (St.begin W);refine hc.mono λe W' h=>?_;cases e with
 | returned v=>
  obtain ⟨H',M',hst,hphi⟩:=h;obtain ⟨_,_,rfl⟩:=hphi;exact ⟨_,rfl,ID IC rfl rfl Sa (by kernel_rfl) hW2 (λ_=>rfl) hst.below⟩
 | _=>exact h.elim
theorem BP (hp:∀ (x0:cI) (x1:(List aI)) (x2:Int),ok x0->ok x1->Dn x2->gP x0 x1 x2=some true):Proofs.YtkpbgofhndmbnaaGreatDoor.Rows.RoomHeldSaid:=
 OpenClaim.holds_of_wide 3 Proofs.Tryz.f3 rfl rfl rfl rfl rfl rfl rfl ⟨rfl,rfl,rfl,rfl,rfl⟩ rfl rfl rfl rfl rfl (by kernel_rfl) Proofs.Tryz.func3 (by kernel_rfl)
  (O1 (by kernel_rfl)) (by unfold Func.isWrapper; first | (rw [O3 (by decide +kernel)]; kernel_rfl) | (rw [O2 (by decide +kernel)]; exact ⟨rfl,rfl⟩))
  (λos started H enc _=>zg hp os started H enc)
end Go.Sim
