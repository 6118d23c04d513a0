/-
  The proof, part C4.
-/
import Derived.ProofKit
import Derived.Test.YtpapfdodclhffaaGreatDoorSqC3
set_option linter.unusedVariables false
set_option linter.unusedSimpArgs false
set_option linter.unusedSectionVars false
set_option linter.unnecessarySimpa false
namespace Go.Sim
abbrev TX := @Go.Proofs.Tryz.runUnderlying62
end Go.Sim
namespace Go.Sim
open Go Go.Proofs.Tryz
open _root_.Go.IntKind (i64 u64 u32 u8)
set_option maxRecDepth 100000
set_option maxHeartbeats 4000000
variable {B:Nat}{w0 w:World}[vH B w0] {H:Hp}{M:List b_}
theorem mB {I:aC}{J:aB}{b0:Nat}{jH:cD}{r:Int×Int×aC} (O:gF I J=some r) (h0:bO H jH I):
  Cq B w0 12 [.pointer (some ⟨b0,0,none⟩),.agg [.int .i64 (J.Time),.string (J.Kind),.string (J.Name),.int .i64 (J.Value)].toArray] H (cJ (aJ b0 jH I)::M) (λH _ H' M' v=>H.le H'/\∃ qpg0:cD,cJ (aJ b0 qpg0 r.2.2)::M=M'/\.tuple #[.int .i64 (r.1),.int .i64 (r.2.1)]=v/\bO H' qpg0 r.2.2):=by
 unfold gF at O;refine gJ func12 ?_;obtain ⟨a9,aa,ab,ac,ad,ae,af,ag,ah,ai,pg119,aj,ak,am,Y,av,aw,an,ao,ap,aq⟩:=jH;obtain ⟨ax,ay,az,b1,b2,b3,b4,bf,b5,ba,b6,b7⟩:=id h0;refine Cu 6 ?_;refine gs ?_;refine bx (λci=>?_);refine gs ?_;refine cj [(0,_),(3,_)] [] 0 (wU H 22 ((decide ((I.events.a0.length:Int)=60)) || (decide ((I.fM.length:Int)=40)))) ?_ (λbb=>?_);rintro _ _ _ ⟨rfl,rfl,rfl⟩;refine cd O G (λbg O=>?_) (λbg O=>?_);refine bT (aQ (aO G G G (aO G G G (bD (aV ?_)))));refine gj ?_;refine Ep [1,1,1,1,1,1] ?_;refine uv (aJ b0 cK I) ?_;obtain rfl:=RX O;refine Ek [0] 1 ?_;exact yH G G G ⟨lE,⟨a9,aa,ab,ac,ad,ae,af,ag,ah,ai,pg119,aj,ak,am,Y,av,aw,an,ao,ap,aq⟩,G,G,h0⟩;refine g2 ?_;refine oU fm 6 [aH,aH,aH,ph (.pointer (some ⟨b0,7,none⟩)),aH,aH] ⟨om,om,om,?_,om,om,RW⟩ ?_
 rintro HX hX X Rest hR _ _ ⟨rfl,rfl⟩ hU hUp;refine eA G G Ue VQ G G (by decide) (by decide) ?_
 exact o0 ⟨G,G⟩;intro ck cm;refine dz ?_;refine Wp [2] ?_;obtain ⟨a8,bh,O⟩:=aY O;refine bQ call21 G G G (λw ht=>(rm (O:=bh) bf.mm ht :)) ?_;rintro _ bi _ ⟨cn,pg143,rfl,rfl,b8⟩;refine gs ?_;refine cd O G (λbj O=>?_) (λbj O=>?_);refine bT (aQ (bY G G G (aO G G G (aO G G G (bD (aV ?_))))));refine gj ?_;refine Ep [2,0,1,1,1,1] ?_;have bk:bO bi ⟨a9,aa,ab,ac,ad,ae,af,ag,ah,ai,pg143,aj,ak,am,Y,av,aw,an,ao,ap,aq⟩ (aC.mk I.nY (dU.mk a8.2 I.kQ.a1) I.events I.fM I.term I.done I.mT):=⟨ax.mm,ay.mm,az.mm,b1.mm,b2.mm,b3.mm,b4.mm,b8,b5.mm,ba.mm,b6.mm,b7.mm⟩;refine uv (aJ b0 cK (aC.mk I.nY (dU.mk a8.2 I.kQ.a1) I.events I.fM I.term I.done I.mT)) ?_;obtain rfl:=RX O;refine Ek [0] 1 ?_;exact yH G G G ⟨lE,⟨a9,aa,ab,ac,ad,ae,af,ag,ah,ai,pg143,aj,ak,am,Y,av,aw,an,ao,ap,aq⟩,G,G,bk⟩;refine gs ?_
 obtain ⟨bl,O⟩:=aM O;refine yF fm 11 [aH,aH,aH,aH,ph (.pointer (some ⟨b0,9,none⟩)),aH,aH,(λH rs v=>∃ a6:RV,[]=rs/\a6=v/\aU H a6 ([J])/\Value.lX a6=([J]).length),(Oa (I.events.a0++([J]))),aH,aH] (sp 11 [(8,[11])]) (nn 11) [4] [0,1,2,3,4,5,6,7,8,9,10] G ⟨om,om,om,om,?_,om,om,?_,?_,om,om,RW⟩ ?_;rintro HX hX X Rest hR _ _ ⟨rfl,rfl⟩ hU hUp;refine eA G G Tz UG G G (by decide) (by decide) ?_
 exact o0 ⟨G,G⟩;rintro HX hX X Rest hR _ _ ⟨rfl,rfl⟩ hU hUp;refine dQ (α:=aB) (css:=[[.int .i64 (J.Time),.string (J.Kind),.string (J.Name),.int .i64 (J.Value)]]) (zs:=[.int .i64 (0),.string (⟨#[]⟩),.string (⟨#[]⟩),.int .i64 (0)]) (out:=[.int .i64 (J.Time),.string (J.Kind),.string (J.Name),.int .i64 (J.Value)]) (ys:=[J]) G G G ⟨G,RW⟩ Ud WS G V_ (by kernel_rfl) G G G G ⟨[.int .i64 (J.Time),.string (J.Kind),.string (J.Name),.int .i64 (J.Value)],[],G,G,G⟩ G ?_
 intro co a6 cp bm bn ar;have b9:Value.lX a6=([J]).length:=by rw [bm]; rfl
 exact oe [] bn ⟨a6,G,G,(ar),(b9)⟩;rintro HX hX X Rest hR _ _ ⟨rfl,rfl⟩ _ _ ⟨a6,rfl,rfl,ar,b9⟩ hU hUp;refine Wp [0] ?_;refine dD (α:=aB) (l:=I.events.a0) (ys:=[J]) G G Xl ⟨_,G,G,G,G⟩ G G G G G ba.mm ar bl ?_;intro a5 a7 au;exact oe [.row a5 46 (aK.sz aB) (I.events.a0++([J])).length a7] lE ⟨a5,a7,G,G,(au)⟩;intro bc cq;refine dr ?_;rintro _ _ ⟨a6,rfl,rfl,ar,b9⟩;rintro _ _ ⟨a5,a7,rfl,rfl,au⟩;refine dz ?_;refine Wp [0,0,0,0,0,0,0] ?_;refine eA G G Tz UG G G (by decide) (by decide) ?_
 refine wt 3 ?_;refine gs ?_;refine eA G G Tz UG G G (by decide) (by decide) (gs ?_)
 refine Wp [0,1,2,0,1,1] ?_;have bo:bO bc ⟨a9,aa,ab,ac,ad,ae,af,ag,ah,ai,pg143,aj,ak,am,Y,a5,a7,an,ao,ap,aq⟩ (aC.mk I.nY (dU.mk a8.2 I.kQ.a1) (cP.mk (I.events.a0++([J])) I.events.a1) I.fM I.term I.done I.mT):=⟨ax.mm,ay.mm,az.mm,b1.mm,b2.mm,b3.mm,b4.mm,b8.mm,b5.mm,au,b6.mm,b7.mm⟩;refine Wk (aJ b0 cK (aC.mk I.nY (dU.mk a8.2 I.kQ.a1) (cP.mk (I.events.a0++([J])) I.events.a1) I.fM I.term I.done I.mT)) ?_;obtain ⟨Z,bp,O⟩:=aY O;refine bQ call46 G G G (λw ht=>(tP (O:=bp) bo ht :)) ?_;rintro _ _ _ ⟨rfl,rfl,rfl⟩;refine Wu 6 ?_;refine eZ (α:=aP) (css:=[[.int .i64 (Z.Term),.int .i64 (Z.Number),.bool (Z.Ea),.int .i64 (Z.Event.Time),.string (Z.Event.Kind),.string (Z.Event.Name),.int .i64 (Z.Event.Value)]]) (zs:=[.int .i64 (0),.int .i64 (0),.bool (false),.int .i64 (0),.string (⟨#[]⟩),.string (⟨#[]⟩),.int .i64 (0)]) (out:=[.int .i64 (Z.Term),.int .i64 (Z.Number),.bool (Z.Ea),.int .i64 (Z.Event.Time),.string (Z.Event.Kind),.string (Z.Event.Name),.int .i64 (Z.Event.Value)]) (ys:=[Z]) G G G ⟨G,RW⟩ TX VR G Wa (by kernel_rfl) G G G G ⟨[.int .i64 (Z.Term),.int .i64 (Z.Number),.bool (Z.Ea),.int .i64 (Z.Event.Time),.string (Z.Event.Kind),.string (Z.Event.Name),.int .i64 (Z.Event.Value)],[],G,G,G⟩ G ?_
 intro cr cs bq;refine Wp [1,1,1,1,1,1] ?_;have br:bO bc ⟨a9,aa,ab,ac,ad,ae,af,ag,ah,ai,pg143,aj,ak,am,Y,a5,a7,an,ao,ap,aq⟩ (aC.mk I.nY (dU.mk a8.2 I.kQ.a1) (cP.mk (I.events.a0++([J])) I.events.a1) I.fM I.term I.done I.mT):=⟨ax.mm,ay.mm,az.mm,b1.mm,b2.mm,b3.mm,b4.mm,b8.mm,b5.mm,au,b6.mm,b7.mm⟩;refine Wk (aJ b0 cK (aC.mk I.nY (dU.mk a8.2 I.kQ.a1) (cP.mk (I.events.a0++([J])) I.events.a1) I.fM I.term I.done I.mT)) ?_;refine Wp [1] ?_;refine cE (bq).rd G (λct cu bs=>?_);obtain ⟨bt,bu,O⟩:=aY O;refine bQ call45 G G G (λw ht=>(qz (O:=bu) br.mm bs ht :)) ?_;rintro _ cv _ ⟨cw,pg184,rfl,rfl,bd⟩;obtain ⟨bv,bw,bz,c0,c1,c2,c3,c4,c5,c6,pg206,c7,c8,c9,pg211,cb,cc,ce,cf,cg,ch⟩:=pg184;obtain ⟨cx,d0,d1,d2,d3,d4,d5,d6,d7,d8,d9,da⟩:=id bd;refine Wu 6 ?_;refine go ?_;refine uv (aJ b0 cK bt.2) ?_
 obtain rfl:=RX O;refine Ek [0] 1 ?_;exact yH G G G ⟨lE,⟨bv,bw,bz,c0,c1,c2,c3,c4,c5,c6,pg206,c7,c8,c9,pg211,cb,cc,ce,cf,cg,ch⟩,G,G,bd⟩;refine go ?_;refine eA G G Tz UG G G (by decide) (by decide) (go ?_)
 cases be:(decide ((I.events.a0.length:Int)=60));refine gj ?_;exact kj (bb _ _ _ ⟨G,G,G⟩) ⟨(by exact sb (by first | rfl | simp only [be,Hl])),G,G,RW⟩
 refine gj ?_;exact kj (bb _ _ _ ⟨G,G,G⟩) ⟨(by exact sb (by first | rfl | simp only [be,Hl])),G,G,RW⟩
theorem Hy {B:Nat}{w0 w:World}{H:Hp}{M:List b_}{l:List aP}{v0:RV}{xs:List RV}{i j:Int} (h0:Rw H v0 xs l) (hz:0<=i/\i<j/\j<=(l.length:Int)) (ht:St B w0 H (.row v0 90 (aK.sz aP) l.length xs::M) w):
  Calls prog 75 [v0,.int .i64 i,.int .i64 j].toArray w (vi B w0 λH' M' v=>H=H'/\∃ (v':RV) (xs':List RV),.row v' 90 (aK.sz aP) (l.take i.toNat++l.drop j.toNat).length xs'::M=M'/\v'=v/\tS v' xs' (l.take i.toNat++l.drop j.toNat)):=by
 obtain ⟨i,rfl⟩:∃ m:Nat,i=m:=⟨i.toNat,by omega⟩
 obtain ⟨j,rfl⟩:∃ m:Nat,j=m:=⟨j.toNat,by omega⟩
 have hij:i<j:=by omega
 have hj:j<=l.length:=by omega
 rw [RZ,RZ];refine enter func75 G G G ht ?_;refine zw (by omega) (λJ off cap hv hcap=>?_)
 subst hv;refine bT ?_;refine aQ (aO G G G ?_);refine bD (aV ?_);refine bT ?_;refine aQ (bY G G G (bY G G G (bY G G G (bY G G G (Ai G G TX G ?_)))));refine rD (m:=l.length) (h:=j) (l:=i) G G TX VR G (.inr ⟨_,G⟩) (.inr ⟨_,_,_,G,G,by omega,by omega,by omega⟩) (.inr ⟨_,_,_,G,G,by omega,by omega,by omega⟩) (.inr ⟨_,_,_,G,G,by omega,by omega,by omega⟩) G ?_
 refine bD (aV ?_);refine bT ?_;refine bT ?_;refine aQ (bY G G G (bY G G G (we G G G G G ?_)));refine bD (aV ?_);refine bS (b:=decide ((i:Int)=(j:Int))) G (λhb=>absurd (R7 hb) (by omega)) (λ_=>?_)
 refine mS (aV ?_);refine bT ?_;refine aQ (bY G G G (Ai G G TX G (aO G G G ?_)));refine bD (aV ?_);refine bT ?_;refine rK 6 (AB [(λH rs v=>[]=rs/\.slice (some ⟨J,off,none⟩) l.length cap=v),(FU (i:Int)),(λH rs v=>[]=rs/\.slice (some ⟨J,off,none⟩) i cap=v),(λH rs v=>[]=rs/\.slice (some ⟨J,off,none⟩) l.length cap=v),(FU (j:Int)),(λH rs v=>[]=rs/\.slice (some (if cap=j then ⟨J,off,none⟩ else ⟨J,off+j*aK.sz aP,none⟩)) (l.length-j) (cap-j)=v)]) [[],[],[],[],[],[]] [[],[],[],[],[],[]] [] [0,1,2,3,4,5] F1.mixed (by kernel_rfl) G G G (by kernel_rfl) (uQ ⟨gB _ _,gB _ _,gB _ _,gB _ _,gB _ _,gB _ _,RW⟩) ⟨?_,?_,?_,?_,?_,?_,RW⟩ ?_
 ·intro Y Z X Rest hR
  intro hU I;refine bY G G G ?_;exact bD (fQ [] (SP _) ⟨G,G⟩)
 ·intro Y Z X Rest hR
  intro hU I;refine bY G G G ?_;exact bD (fQ [] (SP _) ⟨G,G⟩)
 ·intro Y Z X Rest hR
  rintro _ _ ⟨rfl,rfl⟩;rintro _ _ ⟨rfl,rfl⟩;intro hU I;refine rD (m:=cap) (h:=i) (l:=0) G G TX VR G (.inl G) (.inl ⟨G,G⟩) (.inr ⟨_,_,_,G,G,by omega,by omega,by omega⟩) (.inl ⟨G,G⟩) (by rw [R8 (by omega),UQ,UQ,Tq,SZ,TC,Tt]) ?_
  exact bD (fQ [] (SP _) ⟨G,G⟩)
 ·intro Y Z X Rest hR
  intro hU I;refine bY G G G ?_;exact bD (fQ [] (SP _) ⟨G,G⟩)
 ·intro Y Z X Rest hR
  intro hU I;refine bY G G G ?_;exact bD (fQ [] (SP _) ⟨G,G⟩)
 ·intro Y Z X Rest hR
  rintro _ _ ⟨rfl,rfl⟩;rintro _ _ ⟨rfl,rfl⟩;intro hU I;refine rD (m:=cap) (h:=l.length) (l:=j) G G TX VR G (.inl G) (.inl ⟨G,G⟩) (.inl ⟨G,G⟩) (.inr ⟨_,_,_,G,G,by omega,by omega,by omega⟩) (v':=.slice (some (if cap=j then ⟨J,off,none⟩ else ⟨J,off+j*aK.sz aP,none⟩)) (l.length-j) (cap-j)) (by
   by_cases h:cap=j
   ·rw [R9 h,R9 h]
   ·rw [R8 h,R8 h,Tq,SZ] <;> rfl) ?_
  exact bD (fQ [] (SP _) ⟨G,G⟩)
 intro H1 hle1;rintro _ _ ⟨rfl,rfl⟩;rintro _ _ ⟨rfl,rfl⟩;rintro _ _ ⟨rfl,rfl⟩;rintro _ _ ⟨rfl,rfl⟩;rintro _ _ ⟨rfl,rfl⟩;rintro _ _ ⟨rfl,rfl⟩;refine F4 (α:=aP) (l:=l) (i:=i) (j:=j) (bytes:=72) G G Xm ⟨_,G,G,G,G⟩ G G h0 hij hj G G (λh=>R8 (by omega)) ?_
 intro gb2 off2 sM h2 hcap2;have hln:(l.take i++l.drop j).length=i+(l.length-j):=by simp; omega
 refine aO G G G ?_;refine bD (aV ?_);refine bT ?_;refine aQ (bY G G G (bY G G G (Ai G G TX G (bY G G G ?_))));refine rD (m:=cap) (h:=l.length) (l:=(l.take i++l.drop j).length) G G TX VR G (.inl G) (.inl ⟨G,G⟩) (.inr ⟨_,_,_,G,G,by omega,by omega,by omega⟩) (.inr ⟨_,_,_,G,G,by omega,by omega,by omega⟩) (by rw [R8 (by omega),Tq,SZ]) ?_
 refine F7 (sz:=aK.sz aP) (n2:=l.length-(l.take i++l.drop j).length) G Xm Wa G G G G G (by omega) ?_
 refine bD (aV ?_);refine bT ?_;refine aQ (bY G G G (aO G G G ?_));refine bD (aV ?_);refine mM (ER hle1 ?_);exact iZ G G ⟨G,_,sM,G,G,h2.pf⟩
theorem u_ {a0:aC}{a1:Int}{b0:Nat}{jH:cD}{r:aP×Int×aC} (O:np a0 a1=some r) (h0:bO H jH a0):
  Cq B w0 47 [.pointer (some ⟨b0,0,none⟩),.int .i64 (a1)] H (cJ (aJ b0 jH a0)::M) (λH _ H' M' v=>H.le H'/\∃ Y:cD,cJ (aJ b0 Y r.2.2)::M=M'/\.tuple #[.agg [.int .i64 (r.1.Term),.int .i64 (r.1.Number),.bool (r.1.Ea),.int .i64 (r.1.Event.Time),.string (r.1.Event.Kind),.string (r.1.Event.Name),.int .i64 (r.1.Event.Value)].toArray,.int .i64 (r.2.1)]=v/\bO H' Y r.2.2):=by
 unfold np at O;refine gJ func47 ?_;obtain ⟨Z,a3,a4,a5,a6,a7,a8,a9,aa,ab,I,ac,ad,ae,J,af,ag,ah,ai,ao,ap⟩:=jH;obtain ⟨aq,ar,au,av,aw,ax,ay,az,b1,b2,b3,b4⟩:=id h0;refine Cu 6 ?_;refine gs ?_;refine al (λb8=>?_);refine gs ?_;refine cj [(0,_),(1,_),(4,_)] [] 0 (wU H 17 ((decide (a1<0)) || (decide ((a0.fM.length:Int)<=a1)))) ?_ (λak=>?_);rintro _ _ _ ⟨rfl,rfl,rfl⟩;refine cd O G (λb5 O=>?_) (λb5 O=>?_);refine gs ?_;refine dX (css:=[]) (zs:=[.int .i64 (0),.int .i64 (0),.bool (false),.int .i64 (0),.string (⟨#[]⟩),.string (⟨#[]⟩),.int .i64 (0)]) (out:=[.int .i64 (0),.int .i64 (0),.bool (false),.int .i64 (0),.string (⟨#[]⟩),.string (⟨#[]⟩),.int .i64 (0)]) (places:=[(0,1),(1,1),(2,1),(3,4)]) G G G RW Wa G runUnderlying90 (λw=>by kernel_rfl) G ?_
 refine wt 0 ?_;refine gt ?_;refine gj ?_;refine Ep [1,1,1,1,1,1] ?_;refine uv (aJ b0 cK a0) ?_;obtain rfl:=RX O;exact BV lE G (gK.agg G isAgg90 VR (.tail _ (.head _)) G) (gK.tmp G) (.cons_cons _ (.cons _ (.refl _))) (.refl _) ⟨lE,⟨Z,a3,a4,a5,a6,a7,a8,a9,aa,ab,I,ac,ad,ae,J,af,ag,ah,ai,ao,ap⟩,G,G,h0⟩;refine gs ?_;obtain ⟨b9,ba,bb,O⟩:=aE O;refine go ?_;refine al (λbc=>?_);refine wt 0 ?_;refine gs ?_;obtain ⟨b6,O⟩:=aM O;refine Wp [7] ?_;refine bQ call75 G G G (λw ht=>(Hy b4 b6 ht :)) ?_;rintro _ _ _ ⟨rfl,am,an,rfl,rfl,aj⟩;have aj:=aj H;refine go ?_;refine wt 3 ?_;refine gs ?_;refine wt 3 ?_;refine gt ?_;refine gj ?_;refine Ep [1,3,3,3,3,1] ?_;have b7:bO H ⟨Z,a3,a4,a5,a6,a7,a8,a9,aa,ab,I,ac,ad,ae,J,af,ag,ah,ai,am,an⟩ (aC.mk a0.nY a0.kQ a0.events (a0.fM.take (a1).toNat++a0.fM.drop (i64.wrap (a1+1)).toNat) a0.term a0.done a0.mT):=⟨aq,ar,au,av,aw,ax,ay,az,b1,b2,b3,aj⟩
 refine uv (aJ b0 cK (aC.mk a0.nY a0.kQ a0.events (a0.fM.take (a1).toNat++a0.fM.drop (i64.wrap (a1+1)).toNat) a0.term a0.done a0.mT)) ?_;obtain rfl:=RX O;exact BV lE G (gK.agg G isAgg90 VR (.tail _ (.head _)) G) (gK.tmp G) (.cons_cons _ (.cons _ (.cons _ (.refl _)))) (.refl _) ⟨lE,⟨Z,a3,a4,a5,a6,a7,a8,a9,aa,ab,I,ac,ad,ae,J,af,ag,ah,ai,am,an⟩,G,G,b7⟩;refine go ?_;cases bd:(decide (a1<0));refine gj ?_;exact kj (ak _ _ _ pk) kS;refine gj ?_;exact kj (ak _ _ _ pk) kS
theorem iS {az:aC}{bk:Int}{b0:Nat}{jH:cD}{r:Int×aC} (O:fC az bk=some r) (h0:bO H jH az):
  Cq B w0 15 [.pointer (some ⟨b0,0,none⟩),.int .i64 (bk)] H (cJ (aJ b0 jH az)::M) (λH _=>Kt b0 r.2 r.1 H M):=by
 unfold fC at O;refine gJ func15 ?_;obtain ⟨d4,d5,d6,d7,d8,d9,da,db,dc,dd,pg119,de,df,dg,pg124,dh,di,dj,dk,dl,dm⟩:=jH;obtain ⟨dn,dp,dq,ds,dt,du,dv,dw,dx,dy,e0,e1⟩:=id h0;refine Cu 6 ?_;refine g2 ?_;refine Wk (aJ b0 cK az) ?_;obtain ⟨I,bp,O⟩:=aY O;refine bQ call47 G G G (λw ht=>(u_ (O:=bp) h0 ht :)) ?_;rintro _ bl _ ⟨bq,pg137,rfl,rfl,br⟩;obtain ⟨a6,a7,a8,a9,aa,ab,ac,ad,ao,ap,J,a4,ai,aj,Z,ae,aq,ar,b1,af,au⟩:=pg137;obtain ⟨b6,b7,b8,b9,ba,bb,bc,bd,b2,be,av,bf⟩:=id br;refine Wu 6 ?_;refine go ?_;refine al (λe2=>?_);refine wt 0 ?_;refine go ?_;refine cj [] [2,2,2,2,2] 2 (λu m H' M' L'=>∃ aw ax:Int,kA I aw ax=some r/\bl.le H'/\.obj b0 (.cells [a6,a7,a8,a9,aa,ab,ac,.pointer (some ⟨ad,0,none⟩),.pointer (some ⟨a4,0,none⟩),ae,ar,af,.int .i64 (I.2.2.term),.int .i64 (aw),.int .i64 (ax)].toArray 68 (0,0))::m=M'/\u=L') ?_ (λbm=>?_)
 rintro bs _ _ ⟨aw,ax,O,e3,rfl,rfl⟩;unfold kA at O;refine gs ?_;have bt:bO bs ⟨a6,a7,a8,a9,aa,ab,ac,ad,ao,ap,J,a4,ai,aj,Z,ae,aq,ar,b1,af,au⟩ (aC.mk I.2.2.nY I.2.2.kQ I.2.2.events I.2.2.fM I.2.2.term aw ax):=⟨b6.mm,b7.mm,b8.mm,b9.mm,ba.mm,bb.mm,bc.mm,bd.mm,b2.mm,be.mm,av.mm,bf.mm⟩;refine uv (aJ b0 cK (aC.mk I.2.2.nY I.2.2.kQ I.2.2.events I.2.2.fM I.2.2.term aw ax)) ?_;obtain rfl:=RX O;exact iZ G G ⟨lE,⟨a6,a7,a8,a9,aa,ab,ac,ad,ao,ap,J,a4,ai,aj,Z,ae,aq,ar,b1,af,au⟩,G,G,bt⟩;refine gs ?_;refine cd O G (λbu O=>?_) (λbu O=>?_);refine bT (aQ (bY G G G (aO G G G (bD (aV ?_)))));refine gj ?_;refine Ep [1,1,1,1,1,1] ?_;have bv:bO bl ⟨a6,a7,a8,a9,aa,ab,ac,ad,ao,ap,J,a4,ai,aj,Z,ae,aq,ar,b1,af,au⟩ I.2.2:=⟨b6,b7,b8,b9,ba,bb,bc,bd,b2,be,av,bf⟩
 refine uv (aJ b0 cK I.2.2) ?_;obtain rfl:=RX O;refine Ek [0] 1 ?_;exact iZ G G ⟨bq,⟨a6,a7,a8,a9,aa,ab,ac,ad,ao,ap,J,a4,ai,aj,Z,ae,aq,ar,b1,af,au⟩,G,G,bv⟩;refine gs ?_;refine oU fm 6 [aH,aH,aH,aH,aH,aH] ⟨om,om,om,om,om,om,RW⟩ ?_;intro bw bz;refine dz ?_;refine go ?_;refine cd O G (λc0 O=>?_) (λc0 O=>?_);refine gj ?_;exact kx [1,1,1,1,1,1] 1 (bm _ _ _ ⟨_,_,O,bz,G,G⟩);refine gs ?_;refine cd O G (λc1 O=>?_) (λc1 O=>?_);refine gs ?_;refine oU fm 8 [aH,aH,aH,aH,aH,aH,aH,ph (.int .i64 (max I.2.2.done I.1.Number))] ⟨om,om,om,om,om,om,om,?_,RW⟩ ?_;rintro HX hX X Rest hR _ _ ⟨rfl,rfl⟩ _ _ ⟨rfl,rfl⟩ hU Y;refine IB G G G G ?_;exact o0 ⟨G,G⟩;intro e4 e5;refine dz ?_;refine go ?_;refine wt 1 ?_;refine go ?_;refine oU fm 10 [aH,aH,aH,aH,aH,aH,aH,aH,aH,ph (.int .i64 (max I.2.2.mT (max I.2.2.done I.1.Number)))] ⟨om,om,om,om,om,om,om,om,om,?_,RW⟩ ?_
 rintro HX hX X Rest hR _ _ ⟨rfl,rfl⟩ _ _ ⟨rfl,rfl⟩ hU Y;refine IB G G G G ?_;exact o0 ⟨G,G⟩;intro e6 e7;refine dz ?_;refine go ?_;refine wt 0 ?_;refine gj ?_;exact kx [0,1,1,1,1,1] 1 (bm _ _ _ ⟨_,_,O,lE,G,G⟩);refine cj [(0,_)] [2,3,4] 4 (λu m H' M' L'=>∃ a3:List aB,∃ ak:bH,∃ ay:RV,∃ b3:List RV,∃ pg372:d_,g_ I a3 ak=some r/\Rw H' ay b3 a3/\dE H' pg372 ak/\bw.le H'/\.row ay 46 (aK.sz aB) a3.length b3::.obj b0 (.cells [a6,a7,a8,a9,aa,ab,ac,.pointer (some ⟨ad,0,none⟩),.pointer (some ⟨a4,0,none⟩),ae,ay,af,.int .i64 (I.2.2.term),.int .i64 (I.2.2.done),.int .i64 (I.2.2.mT)].toArray 68 (0,0))::cJ (a_ a4 ai aj pg372 ak)::m=M'/\u=L') ?_ (λbg=>?_);rintro e8 _ _ ⟨a3,ak,ay,b3,pg372,O,c2,c3,e9,rfl,rfl⟩;unfold g_ at O;refine gs ?_;refine oU fm 13 [aH,aH,aH,aH,aH,aH,aH,aH,ph (.pointer (some ⟨b0,10,none⟩)),aH,aH,ph (.agg [.int .i64 (I.2.2.term),.int .i64 ((a3.length:Int)),.bool (true),.int .i64 (0),.string (⟨#[]⟩),.string (⟨#[]⟩),.int .i64 (0)].toArray),(λH rs v=>∃ ag:RV,∃ am:List RV,[.row ag 90 (aK.sz aP) ([(aP.mk I.2.2.term ((a3.length:Int)) true (aB.mk 0 (⟨#[]⟩) (⟨#[]⟩) 0))]).length am]=rs/\ag=v/\Rw H ag am ([(aP.mk I.2.2.term ((a3.length:Int)) true (aB.mk 0 (⟨#[]⟩) (⟨#[]⟩) 0))]))] ⟨om,om,om,om,om,om,om,om,?_,om,om,?_,?_,RW⟩ ?_
 rintro HX hX X Rest hR _ _ ⟨rfl,rfl⟩ hU Y;refine eA G G Tz UG G G (by decide) (by decide) ?_
 exact o0 ⟨G,G⟩;rintro HX hX X Rest hR _ _ ⟨rfl,rfl⟩ _ _ ⟨rfl,rfl⟩ hU Y;refine dX (css:=[[.int .i64 (I.2.2.term)],[.int .i64 ((a3.length:Int))],[.bool (true)]]) (zs:=[.int .i64 (0),.int .i64 (0),.bool (false),.int .i64 (0),.string (⟨#[]⟩),.string (⟨#[]⟩),.int .i64 (0)]) (out:=[.int .i64 (I.2.2.term),.int .i64 ((a3.length:Int)),.bool (true),.int .i64 (0),.string (⟨#[]⟩),.string (⟨#[]⟩),.int .i64 (0)]) (places:=[(0,1),(1,1),(2,1),(3,4)]) G G G ⟨G,G,G,RW⟩ Wa G runUnderlying90 (λw=>by kernel_rfl) G ?_
 exact o0 ⟨G,G⟩;rintro HX hX X Rest hR _ _ ⟨rfl,rfl⟩ hU Y;refine eZ (α:=aP) (css:=[[.int .i64 (I.2.2.term),.int .i64 ((a3.length:Int)),.bool (true),.int .i64 (0),.string (⟨#[]⟩),.string (⟨#[]⟩),.int .i64 (0)]]) (zs:=[.int .i64 (0),.int .i64 (0),.bool (false),.int .i64 (0),.string (⟨#[]⟩),.string (⟨#[]⟩),.int .i64 (0)]) (out:=[.int .i64 (I.2.2.term),.int .i64 ((a3.length:Int)),.bool (true),.int .i64 (0),.string (⟨#[]⟩),.string (⟨#[]⟩),.int .i64 (0)]) (ys:=[(aP.mk I.2.2.term ((a3.length:Int)) true (aB.mk 0 (⟨#[]⟩) (⟨#[]⟩) 0))]) G G G ⟨G,RW⟩ TX VR G Wa (by kernel_rfl) G G G G ⟨[.int .i64 (I.2.2.term),.int .i64 ((a3.length:Int)),.bool (true),.int .i64 (0),.string (⟨#[]⟩),.string (⟨#[]⟩),.int .i64 (0)],[],G,G,G⟩ G ?_
 intro ag am bh;exact oe [.row ag 90 (aK.sz aP) ([(aP.mk I.2.2.term ((a3.length:Int)) true (aB.mk 0 (⟨#[]⟩) (⟨#[]⟩) 0))]).length am] lE ⟨ag,am,G,G,(bh)⟩;intro c4 ea;refine dr ?_;rintro _ _ ⟨ag,am,rfl,rfl,bh⟩;refine v_ ?_;refine Wp [0,0,0,0,0,0,0] ?_;refine Wp [2,3,2,2,1,1] ?_;have c5:bO c4 ⟨a6,a7,a8,a9,aa,ab,ac,ad,ao,ap,J,a4,ai,aj,pg372,ae,aq,ay,b3,af,au⟩ (aC.mk I.2.2.nY (dU.mk I.2.2.kQ.a0 ak) (cP.mk I.2.2.events.a0 a3) I.2.2.fM I.2.2.term I.2.2.done I.2.2.mT):=⟨b6.mm,b7.mm,b8.mm,b9.mm,ba.mm,bb.mm,bc.mm,bd.mm,c3.mm,be.mm,c2.mm,bf.mm⟩;refine Wk (aJ b0 cK (aC.mk I.2.2.nY (dU.mk I.2.2.kQ.a0 ak) (cP.mk I.2.2.events.a0 a3) I.2.2.fM I.2.2.term I.2.2.done I.2.2.mT)) ?_;refine Wp [1] ?_;refine cE (bh).rd G (λec ed c6=>?_);obtain ⟨c7,c8,O⟩:=aY O;refine bQ call45 G G G (λw ht=>(qz (O:=c8) c5.mm c6 ht :)) ?_;rintro _ ee _ ⟨eg,pg392,rfl,rfl,bn⟩
 obtain ⟨c9,cb,cc,ce,cf,cg,ch,ci,ck,cm,pg414,cn,co,cp,pg419,cq,cr,cs,ct,cu,cv⟩:=pg392;obtain ⟨eh,ei,ej,ek,el,em,eo,ep,er,es,et,eu⟩:=id bn;refine Wu 6 ?_;refine go ?_;refine uv (aJ b0 cK c7.2) ?_;obtain rfl:=RX O;exact iZ G G ⟨lE,⟨c9,cb,cc,ce,cf,cg,ch,ci,ck,cm,pg414,cn,co,cp,pg419,cq,cr,cs,ct,cu,cv⟩,G,G,bn⟩;refine gs ?_;cases b4:(decide (I.1.Number=(i64.wrap ((I.2.2.events.a1.length:Int)+1))));have O:=dL b4 O;refine oU fm 18 [aH,aH,aH,aH,aH,ph (.pointer (some ⟨b0,10,none⟩)),aH,aH,aH,ph (.bool (false)),aH,aH,aH,aH,aH,aH,aH,aH] ⟨om,om,om,om,om,?_,om,om,om,Cv b4,om,om,om,om,om,om,om,om,RW⟩ ?_;rintro HX hX X Rest hR _ _ ⟨rfl,rfl⟩ hU Y;refine eA G G Tz UG G G (by decide) (by decide) ?_
 exact o0 ⟨G,G⟩;intro ev cw;refine dz ?_;refine go ?_;refine cF G ?_;refine gj ?_;exact kx [5,1,2,1,1,1] 1 (bg _ _ _ ⟨_,_,_,_,_,O,av.mm,b2.mm,cw,G,G⟩);have O:=dM b4 O;refine oU fm 18 [aH,aH,aH,aH,aH,ph (.pointer (some ⟨b0,10,none⟩)),aH,aH,aH,ph (.bool (true)),aH,aH,aH,aH,ph (.pointer (some ⟨b0,8,none⟩)),aH,aH,ph (.agg [.int .i64 (I.1.Event.Time),.string (I.1.Event.Kind),.string (I.1.Event.Name),.int .i64 (I.1.Event.Value)].toArray)] ⟨om,om,om,om,om,?_,om,om,om,Cv b4,om,om,om,om,?_,om,om,?_,RW⟩ ?_;rintro HX hX X Rest hR _ _ ⟨rfl,rfl⟩ hU Y;refine eA G G Tz UG G G (by decide) (by decide) ?_
 exact o0 ⟨G,G⟩;rintro HX hX X Rest hR _ _ ⟨rfl,rfl⟩ _ _ ⟨rfl,rfl⟩ hU Y;refine eA G G Ue VQ G G (by decide) (by decide) ?_
 exact o0 ⟨G,G⟩;exact ro;intro ew ex;refine dz ?_;refine Wp [3] ?_;obtain ⟨ey,cx,O⟩:=aY O;refine bQ call21 G G G (λw ht=>(rm (O:=cx) b2.mm ht :)) ?_;rintro _ ez _ ⟨fa,pg437,rfl,rfl,bo⟩;refine go ?_;refine cd O G (λd0 O=>?_) (λd0 O=>?_);obtain ⟨d1,O⟩:=aM O;refine yF fm 12 [aH,aH,aH,aH,ph (.pointer (some ⟨b0,10,none⟩)),aH,aH,ph (.agg [.int .i64 (I.1.Event.Time),.string (I.1.Event.Kind),.string (I.1.Event.Name),.int .i64 (I.1.Event.Value)].toArray),(λH rs v=>∃ a5:RV,[]=rs/\a5=v/\aU H a5 ([I.1.Event])/\Value.lX a5=([I.1.Event]).length),(Oa (I.2.2.events.a1++([I.1.Event]))),aH,aH] (sp 12 [(9,[12])]) (nn 12) [5] [0,1,2,3,4,5,6,7,8,9,10,11] G ⟨om,om,om,om,?_,om,om,?_,?_,?_,om,om,RW⟩ ?_;rintro HX hX X Rest hR _ _ ⟨rfl,rfl⟩ hU Y;refine eA G G Tz UG G G (by decide) (by decide) ?_
 exact o0 ⟨G,G⟩;exact ro;rintro HX hX X Rest hR _ _ ⟨rfl,rfl⟩ hU Y;refine dQ (α:=aB) (css:=[[.int .i64 (I.1.Event.Time),.string (I.1.Event.Kind),.string (I.1.Event.Name),.int .i64 (I.1.Event.Value)]]) (zs:=[.int .i64 (0),.string (⟨#[]⟩),.string (⟨#[]⟩),.int .i64 (0)]) (out:=[.int .i64 (I.1.Event.Time),.string (I.1.Event.Kind),.string (I.1.Event.Name),.int .i64 (I.1.Event.Value)]) (ys:=[I.1.Event]) G G G ⟨G,RW⟩ Ud WS G V_ (by kernel_rfl) G G G G ⟨[.int .i64 (I.1.Event.Time),.string (I.1.Event.Kind),.string (I.1.Event.Name),.int .i64 (I.1.Event.Value)],[],G,G,G⟩ G ?_
 intro fb a5 fd d2 d3 b5;have bi:Value.lX a5=([I.1.Event]).length:=by rw [d2]; rfl
 exact oe [] d3 ⟨a5,G,G,(b5),(bi)⟩;rintro HX hX X Rest hR _ _ ⟨rfl,rfl⟩ _ _ ⟨a5,rfl,rfl,b5,bi⟩ hU Y;refine Wp [0] ?_;refine dD (α:=aB) (l:=I.2.2.events.a1) (ys:=[I.1.Event]) G G Xl ⟨_,G,G,G,G⟩ G G G G G av.mm b5 d1 ?_;intro ah an bj;exact oe [.row ah 46 (aK.sz aB) (I.2.2.events.a1++([I.1.Event])).length an] lE ⟨ah,an,G,G,(bj)⟩;intro fe ff;refine dr ?_;rintro _ _ ⟨a5,rfl,rfl,b5,bi⟩;rintro _ _ ⟨ah,an,rfl,rfl,bj⟩;refine dz ?_;refine Wp [0,0,0,0,0,0,0] ?_;refine eA G G Tz UG G G (by decide) (by decide) ?_
 refine wt 3 ?_;refine gj ?_;exact kx [1,0,0,1,1,1] 1 (bg _ _ _ ⟨_,_,_,_,_,O,bj,bo.mm,lE,G,G⟩);refine gj ?_;exact kx [5,2,0,1,1,1] 1 (bg _ _ _ ⟨_,_,_,_,_,O,av.mm,bo,lE,G,G⟩)
theorem Ez {n:Int} (hn:-9223372036854775808<=n/\n<=9223372036854775807) (ht:St B w0 H M w):
  Calls prog 123 [.int .i64 n].toArray w (vi B w0 (Ks (ny n) H M)):=by
 have I:Lib.TabIs prog w "internal/strconv.uint64pow10" .u64 Lib.pow10Tab:=by
  have e:LA=Lib.pow10Tab:=by decide +kernel
  rw [<- e]; exact ht.Rf (vH.t3 (B:=B) (w0:=w0)) PD (vH.below (w0:=w0) rfl)
 refine (strconv_Itoa n hn.1 hn.2 w I).mono ?_;rintro e J ⟨rfl,k,os,rfl⟩;exact ⟨H,M,ht.under (Lib.below_grow _ w (Sj _) k os),G,G,G⟩
theorem Bz {a0:aB}{r:RU} (O:si a0=some r):
  Cq B w0 99 [.agg [.int .i64 (a0.Time),.string (a0.Kind),.string (a0.Name),.int .i64 (a0.Value)].toArray] H M (Ks r):=by
 unfold si at O;refine gJ func99 ?_;refine gs ?_;refine bx (λa9=>?_);refine gs ?_;obtain ⟨a1,O⟩:=aM O;obtain ⟨Z,O⟩:=aM O;obtain ⟨a3,O⟩:=aM O;obtain ⟨a4,O⟩:=aM O;obtain ⟨a5,O⟩:=aM O;obtain ⟨a6,O⟩:=aM O;obtain ⟨a7,O⟩:=aM O;refine oU fm 15 [aH,aH,ph (.string (ny a0.Time)),ph (.string ((ny a0.Time)++(⟨#[32]⟩))),aH,aH,ph (.string (((ny a0.Time)++(⟨#[32]⟩))++a0.Kind)),ph (.string ((((ny a0.Time)++(⟨#[32]⟩))++a0.Kind)++(⟨#[32]⟩))),aH,aH,ph (.string (((((ny a0.Time)++(⟨#[32]⟩))++a0.Kind)++(⟨#[32]⟩))++a0.Name)),ph (.string ((((((ny a0.Time)++(⟨#[32]⟩))++a0.Kind)++(⟨#[32]⟩))++a0.Name)++(⟨#[32]⟩))),aH,aH,ph (.string (ny a0.Value))] ⟨om,om,?_,?_,om,om,?_,?_,om,om,?_,?_,om,om,?_,RW⟩ ?_;rintro J Y X Rest hR _ _ ⟨rfl,rfl⟩ hU I;refine bQ call123 G G G (λw ht=>(Ez a1 ht :)) ?_;rintro _ _ _ ⟨rfl,rfl,rfl⟩;exact o0 ⟨G,G⟩
 rintro J Y X Rest hR _ _ ⟨rfl,rfl⟩ hU I;refine s7 G G G G Z ?_;exact o0 ⟨G,G⟩;rintro J Y X Rest hR _ _ ⟨rfl,rfl⟩ _ _ ⟨rfl,rfl⟩ hU I;refine s7 G G G G a3 ?_;exact o0 ⟨G,G⟩;rintro J Y X Rest hR _ _ ⟨rfl,rfl⟩ hU I;refine s7 G G G G a4 ?_;exact o0 ⟨G,G⟩;rintro J Y X Rest hR _ _ ⟨rfl,rfl⟩ _ _ ⟨rfl,rfl⟩ hU I;refine s7 G G G G a5 ?_;exact o0 ⟨G,G⟩;rintro J Y X Rest hR _ _ ⟨rfl,rfl⟩ hU I;refine s7 G G G G a6 ?_;exact o0 ⟨G,G⟩;rintro J Y X Rest hR _ _ ⟨rfl,rfl⟩ _ _ ⟨rfl,rfl⟩ hU I;refine bQ call123 G G G (λw ht=>(Ez a7 ht :)) ?_;rintro _ _ _ ⟨rfl,rfl,rfl⟩;exact o0 ⟨G,G⟩;intro aa ab;refine dz ?_;obtain ⟨a8,O⟩:=aM O;refine s7 G G G G a8 (go ?_);refine Ek [] 1 ?_;exact ef
theorem Ar {a6:Int}{I:RU}{r:Int} (O:qL a6 I=some r):
  Cq B w0 98 [.int .u64 (a6),.string (I)] H M (λH M H' M' v=>H=H'/\M=M'/\.int .u64 (r)=v):=by
 unfold qL at O;refine gJ func98 ?_;refine q2 ?_;refine qs ?_;obtain ⟨a9,O⟩:=aM O;refine s7 G G G G a9 ?_;obtain ⟨aa,O⟩:=aM O;refine w5 G G SH Wt W0 G aa ?_;intro ai ab aj a1;refine lr a1 ?_;refine qg ?_;obtain ⟨a7,ac,ad,O⟩:=dG O;refine cl [(9,_),(10,_)] [] 0 [] 0 (λu m n H' M' L'=>∃ (a0:Nat) (J:List U8),∃ Y:Int,(lz (I++(⟨#[10]⟩))).drop a0=J/\J.length=n/\a7 a0 J Y=some r/\ab.le H'/\m=M'/\(0,.int .u64 (Y))::(11,.int .i64 ((a0:Int)))::u=L') _ G ⟨0,_,_,G,G,O,lE,G,G⟩ ?_;rintro _ ak _ _ ⟨a0,J,Y,a8,rfl,O,am,rfl,rfl⟩;refine q2 ?_;refine bS G (λZ=>?_) (λZ=>?_);obtain ⟨an,ae,rfl,a5,af⟩:=gU a8 Z;have O:=(ac _ _ _ _).symm.trans O;generalize ag:a7 (a0+1) ae=ao at O;unfold vC at O;refine q2 ?_;obtain ⟨_,rfl,ah⟩:=(a1).elem a5;refine Ct a1 a5 ?_;refine lh ah 0 ?_
 refine aO G G G (bD (aV (aQ (bY G G G (bY G G G (sA G G W0 runUnderlying56 G (we G G G G G (we G G G G G (aO G G G (bD (nE (aV ?_))))))))))));refine qj ?_;exact kj (eb af ag) (kK (cQ a5 a1.mm.dN));obtain rfl:=gT a8 Z;have O:=(ad _ _).symm.trans O;refine qs ?_;exact ef
theorem wv {a0:bV}{b0:Nat}{v0:RV}{tH:List RV}{r:Int} (O:nB a0=some r) (h0:Rw H v0 tH a0.lT):
  Cq B w0 62 [.pointer (some ⟨b0,0,none⟩)] H (.obj b0 (.cells [v0].toArray 142 (0,0))::.row v0 46 (aK.sz aB) a0.lT.length tH::M) (λH _ H' M' v=>H=H'/\.obj b0 (.cells [v0].toArray 142 (0,0))::.row v0 46 (aK.sz aB) a0.lT.length tH::M=M'/\.int .u64 (r)=v):=by
 unfold nB at O;refine gJ func62 ?_;refine g2 ?_;refine g2 ?_;refine s5 (.tail _ (.head _)) (λa7=>?_);obtain ⟨Z,a8,a9,O⟩:=dG O;refine cl [(9,_),(10,_)] [] 0 [] 0 (λu m n H' M' L'=>∃ (a1:Nat) (I:List aB),∃ J:Int,(a0.lT).drop a1=I/\I.length=n/\Z a1 I J=some r/\H.le H'/\m=M'/\(3,.int .u64 (J))::(11,.int .i64 ((a1:Int)))::u=L') _ G ⟨0,_,_,G,G,O,lE,G,G⟩ ?_;rintro _ ag _ _ ⟨a1,I,J,a6,rfl,O,ah,rfl,rfl⟩;refine g2 ?_;refine bS G (λY=>?_) (λY=>?_);obtain ⟨ai,aa,rfl,ab,ac⟩:=gU a6 Y;have O:=(a8 _ _ _ _).symm.trans O;generalize ad:Z (a1+1) aa=aj at O;unfold oM at O;refine g2 ?_;refine al (λak=>?_);refine wt 0 ?_;refine go ?_;obtain ⟨am,ae,O⟩:=aY O;refine cz @Bz ae ?_;obtain ⟨an,af,O⟩:=aY O;refine cz @Ar af ?_;refine gt ?_;refine gj ?_;exact kx [1,1] 1 (eb ac ad) G (kK (cQ ab a7));obtain rfl:=gT a6 Y
 have O:=(a9 _ _).symm.trans O;refine gs ?_;exact ef
theorem sx {a0:bH}{b0 b1 b2:Nat}{jH:d_}{r:Int} (O:jL a0=some r) (I:dE H jH a0):
  Cq B w0 23 [.pointer (some ⟨b0,0,none⟩)] H (cJ (a_ b0 b1 b2 jH a0)::M) (λH _ H' M' v=>H=H'/\cJ (a_ b0 b1 b2 jH a0)::M=M'/\.int .u64 (r)=v):=by
 unfold jL at O;refine gJ func23 ?_;obtain ⟨J,Y,Z,a5,a6,a7,a8,a9,aa,ab,ac,ad,ae,af,ag,ah,ai,aj,ak,am,an,ao⟩:=jH;obtain ⟨ap,aq,ar,au,av,aw,ax,ay,az,b3,b4,b5,b6,b7,b8,b9,ba⟩:=id I;refine Cu 8 ?_;refine g2 ?_;refine Wp [6,6] ?_;obtain ⟨bb,a1,O⟩:=aY O;refine cz @wv a1 ?_;refine gt ?_;refine gj ?_;refine Ep [2,2,2,2,2,2] ?_;refine uv (a_ b0 b1 b2 cN a0) ?_;exact ef
theorem nW {a1:aC}{b0:Nat}{jH:cD}{r:Int×Int} (O:gP a1=some r) (h0:bO H jH a1):
  Cq B w0 22 [.pointer (some ⟨b0,0,none⟩)] H (cJ (aJ b0 jH a1)::M) (λH _ H' M' v=>H=H'/\cJ (aJ b0 jH a1)::M=M'/\.tuple #[.int .u64 (r.1),.int .u64 (r.2)]=v):=by
 unfold gP at O;refine gJ func22 ?_;obtain ⟨a8,a9,aa,ab,ac,ad,ae,a2,a3,a4,I,af,ag,ah,Y,ai,aj,ak,am,an,ao⟩:=jH;obtain ⟨ap,aq,ar,au,av,aw,ax,ay,az,b1,b2,b3⟩:=id h0;refine Cu 6 ?_;refine g2 ?_;obtain ⟨a5,a6,O⟩:=aY O;refine yF fm 11 [aH,aH,aH,ph (.pointer (some ⟨b0,7,none⟩)),aH,(λH rs v=>[cJ (a_ a2 a3 a4 I a1.kQ.a0)]=rs/\.int .u64 (a5)=v),aH,aH,aH,ph (.pointer (some ⟨b0,8,none⟩)),aH] (sp 11 [(5,[11])]) (nn 11) [1] [0,1,2,3,4,5,6,7,8,9,10] G ⟨om,om,om,?_,om,?_,om,om,om,?_,om,RW⟩ ?_;rintro Z hX X Rest hR _ _ ⟨rfl,rfl⟩ hU J;refine eA G G Ue VQ G G (by decide) (by decide) ?_
 exact o0 ⟨G,G⟩;exact rk (ix [0]) @sx a6;rintro Z hX X Rest hR _ _ ⟨rfl,rfl⟩ hU J;refine eA G G Ue VQ G G (by decide) (by decide) ?_
 exact o0 ⟨G,G⟩;intro b4 b5;refine dz ?_;refine Wp [0,0,0,0,0,0] ?_;refine Wp [2] ?_;obtain ⟨b6,a7,O⟩:=aY O;refine cz @sx a7 ?_;refine gt ?_;refine gj ?_;refine Ep [2,1] ?_;refine uv (aJ b0 cK a1) ?_;exact ef
theorem nI {a0:aC}{b0:Nat}{jH:cD}{r:Int} (O:aZ a0=r) (Y:bO H jH a0):
  Cq B w0 17 [.pointer (some ⟨b0,0,none⟩)] H (cJ (aJ b0 jH a0)::M) (λH _ H' M' v=>H=H'/\cJ (aJ b0 jH a0)::M=M'/\.int .i64 (r)=v):=by
 unfold aZ at O;refine gJ func17 ?_;obtain ⟨a1,Z,a3,a4,a5,a6,a7,a8,a9,aa,I,ab,ac,ad,J,ae,af,ag,ah,ai,aj⟩:=jH;obtain ⟨ak,am,an,ao,ap,aq,ar,au,av,aw,ax,ay⟩:=id Y;refine Cu 6 ?_;refine g2 ?_;refine uv (aJ b0 cK a0) ?_;obtain rfl:=O;refine Ew H ?_;exact iZ G G ⟨G,G,G⟩
theorem pW {I a0 J r:Int} (O:jI I a0 J=some r):
  Cq B w0 11 [.int .i64 (I),.int .i64 (a0),.int .i64 (J)] H M (AE r):=by
 unfold jI at O;refine gJ func11 ?_;refine g2 ?_;refine gs ?_;obtain ⟨Z,O⟩:=aM O;refine w6 G G G G Z (go ?_);refine cj [(1,_)] [] 0 (Kr (mY a0) r H 0) ?_ (λY=>?_);rintro _ _ _ ⟨a1,O,rfl,rfl,rfl⟩;unfold mY at O;refine gs ?_;exact ef;refine gs ?_;refine cd O G (λa6 O=>?_) (λa6 O=>?_);refine gj ?_;exact kj (Y _ _ _ pk);refine gj ?_;exact kj (Y _ _ _ pk)
theorem nJ {a0:aC}{a1:Int}{b0:Nat}{jH:cD}{r:Int×aC} (O:hO a0 a1=some r) (h0:bO H jH a0):
  Cq B w0 13 [.pointer (some ⟨b0,0,none⟩),.int .i64 (a1)] H (cJ (aJ b0 jH a0)::M) (λH _=>Kt b0 r.2 r.1 H M):=by
 unfold hO at O;refine gJ func13 ?_;obtain ⟨aq,ar,au,av,aw,ax,ay,az,b1,b2,Z,b3,b4,b5,pg124,b6,b7,b8,b9,ba,bb⟩:=jH;obtain ⟨bc,bd,be,bf,bg,bh,bi,bj,bk,bl,bm,bn⟩:=id h0;refine Cu 6 ?_;refine g2 ?_;refine Wk (aJ b0 cK a0) ?_;obtain ⟨a3,a4,O⟩:=aY O;refine ca @u_ a4 ?_;rintro _ bo _ ⟨a5,I,rfl,rfl,a2⟩;obtain ⟨a6,a7,a8,a9,aa,ab,ac,ad,ae,af,J,ag,ah,ai,Y,aj,ak,am,an,ao,ap⟩:=I;obtain ⟨bp,bq,br,bs,bt,bu,bv,bw,bz,c0,c1,c2⟩:=id a2;refine Wu 6 ?_;refine go ?_;refine al (λc3=>?_);refine wt 0 ?_;refine aO G G G (bD (aV (bT (aQ (bY G G G (aO G G G (bD (aV ?_))))))));refine gj ?_;refine Ep [1,1,1,1,1,1] ?_;refine uv (aJ b0 cK a3.2.2) ?_;obtain rfl:=RX O;refine Ek [0] 1 ?_;exact iZ G G ⟨a5,⟨a6,a7,a8,a9,aa,ab,ac,ad,ae,af,J,ag,ah,ai,Y,aj,ak,am,an,ao,ap⟩,G,G,a2⟩
theorem mz {a1:aC}{b0:Nat}{jH:cD}{r:Int×aC} (O:gE a1=some r) (h0:bO H jH a1):
  Cq B w0 14 [.pointer (some ⟨b0,0,none⟩)] H (cJ (aJ b0 jH a1)::M) (λH _=>Kt b0 r.2 r.1 H M):=by
 unfold gE at O;refine gJ func14 ?_;obtain ⟨ba,bb,bc,bd,be,bf,bg,bh,bi,bj,pg119,bk,bl,bm,pg124,bn,bo,bp,bq,br,bs⟩:=jH;obtain ⟨bt,bu,bv,bw,bz,c0,c1,c2,c3,c4,c5,c6⟩:=id h0;refine Cu 6 ?_;refine q2 ?_;refine q2 ?_;refine lD 90 (aK.sz aP) ?_;obtain ⟨a7,aa,ab,O⟩:=lF O;refine cl [(0,_)] [1,1,1,1,1,1] 1 [] 0 (λu m n H' M' L'=>∃ Z:List aP,∃ a4:Int,∃ a3:RV,∃ a5:List RV,a7 n (Z,a4)=some r/\Rw H' a3 a5 Z/\H.le H'/\.row a3 90 (aK.sz aP) Z.length a5::m=M'/\(3,a3)::(4,.int .i64 (a4))::u=L') gO G ⟨_,_,_,_,O,Rw.nil,lE,G,G⟩ ?_;rintro a6 c7 _ _ ⟨Z,a4,a3,a5,O,a8,c8,rfl,rfl⟩
 rcases a6 with _ | a6
 exact nomatch (ab _).symm.trans O;have O:=(aa _ _).symm.trans O;generalize ac:a7 a6=c9 at O
 try dsimp only at O
 unfold qR at O;refine q2 ?_;refine eA G G Tz UG G G (by decide) (by decide) (qg ?_)
 refine cd O G (λad O=>?_) (λad O=>?_);refine qs ?_;refine Wp [1,1,1,1,1,1] ?_;refine Wk (aJ b0 cK a1) ?_;obtain ⟨a0,ae,O⟩:=aY O;refine bQ call46 G G G (λw ht=>(tP (O:=ae) h0.mm ht :)) ?_;rintro _ _ _ ⟨rfl,rfl,rfl⟩;refine Wu 6 ?_;refine dQ (α:=aP) (css:=[[.int .i64 (a0.Term),.int .i64 (a0.Number),.bool (a0.Ea),.int .i64 (a0.Event.Time),.string (a0.Event.Kind),.string (a0.Event.Name),.int .i64 (a0.Event.Value)]]) (zs:=[.int .i64 (0),.int .i64 (0),.bool (false),.int .i64 (0),.string (⟨#[]⟩),.string (⟨#[]⟩),.int .i64 (0)]) (out:=[.int .i64 (a0.Term),.int .i64 (a0.Number),.bool (a0.Ea),.int .i64 (a0.Event.Time),.string (a0.Event.Kind),.string (a0.Event.Name),.int .i64 (a0.Event.Value)]) (ys:=[a0]) G G G ⟨G,RW⟩ TX VR G Wa (by kernel_rfl) G G G G ⟨[.int .i64 (a0.Term),.int .i64 (a0.Number),.bool (a0.Ea),.int .i64 (a0.Event.Time),.string (a0.Event.Kind),.string (a0.Event.Name),.int .i64 (a0.Event.Value)],[],G,G,G⟩ G ?_
 intro cb af cc ag ce ah;have cf:Value.lX af=([a0]).length:=by rw [ag]; rfl
 obtain ⟨ai,O⟩:=aM O;refine Wp [6] ?_;refine dD (α:=aP) (l:=Z) (ys:=[a0]) G G Xm ⟨_,G,G,G,G⟩ G G G G G a8.mm ah ai ?_;intro cg ch aj;refine qt ?_;refine qj ?_;exact kj (sh (Th _) ⟨_,_,_,_,((Vd ac _).trans O),aj,lE,G,G⟩);refine qs ?_;refine Wp [1,1,1,1,1,1] ?_;refine Wk (aJ b0 cK a1) ?_;refine Wp [1] ?_;refine cE (a8).rd G (λci ck ak=>?_);obtain ⟨am,an,O⟩:=aY O;refine bQ call45 G G G (λw ht=>(qz (O:=an) h0.mm ak ht :)) ?_;rintro _ cm _ ⟨cn,I,rfl,rfl,a9⟩;obtain ⟨ao,ap,aq,ar,au,av,aw,ax,ay,az,J,b1,b2,b3,Y,b4,b5,b6,b7,b8,b9⟩:=I;obtain ⟨co,cp,cq,cr,cs,ct,cu,cv,cw,cx,d0,d1⟩:=id a9;refine Wu 6 ?_;refine qg ?_;refine uv (aJ b0 cK am.2) ?_;obtain rfl:=RX O;exact iZ G G ⟨lE,⟨ao,ap,aq,ar,au,av,aw,ax,ay,az,J,b1,b2,b3,Y,b4,b5,b6,b7,b8,b9⟩,G,G,a9⟩
theorem nC {Y:aC}{b0:Nat}{jH:cD}{r:Int×aC} (O:fZ Y=some r) (h0:bO H jH Y):
  Cq B w0 18 [.pointer (some ⟨b0,0,none⟩)] H (cJ (aJ b0 jH Y)::M) (λH _=>Kt b0 r.2 r.1 H M):=by
 unfold fZ at O;refine gJ func18 ?_;obtain ⟨a8,a9,aa,ab,ac,ad,ae,ax,ay,az,pg119,a6,ag,ah,pg124,ai,b1,a7,aj,af,ak⟩:=jH;obtain ⟨an,ao,ap,aq,ar,au,av,bd,b2,be,b3,b4⟩:=id h0;refine Cu 6 ?_;refine g2 ?_;refine gs ?_;refine oU fm 10 [aH,aH,aH,ph (.pointer (some ⟨b0,10,none⟩)),aH,aH,aH,aH,aH,aH] ⟨om,om,om,?_,om,om,om,om,om,om,RW⟩ ?_;rintro HX hX X Rest hR _ _ ⟨rfl,rfl⟩ hU hUp;refine eA G G Tz UG G G (by decide) (by decide) ?_
 exact o0 ⟨G,G⟩;intro bf b5;refine dz ?_;refine go ?_;refine cd O G (λb6 O=>?_) (λb6 O=>?_);refine gs ?_;refine uv (aJ b0 cK Y) ?_;obtain rfl:=RX O;exact iZ G G ⟨b5,⟨a8,a9,aa,ab,ac,ad,ae,ax,ay,az,pg119,a6,ag,ah,pg124,ai,b1,a7,aj,af,ak⟩,G,G,h0.mm⟩;refine gs ?_;refine yF fm 18 [aH,aH,aH,aH,aH,ph (.pointer (some ⟨b0,8,none⟩)),aH,aH,aH,aH,ph (.pointer (some ⟨b0,10,none⟩)),aH,aH,aH,ph (.pointer (some ⟨b0,7,none⟩)),(λH rs v=>[.obj b0 (.cells [a8,a9,aa,ab,ac,ad,ae,.pointer (some ⟨a6,0,none⟩),.pointer (some ⟨a6,0,none⟩),ai,a7,af,.int .i64 (Y.term),.int .i64 (Y.done),.int .i64 (Y.mT)].toArray 68 (0,0))]=rs/\.pointer (some ⟨b0,7,none⟩)=v),aH,aH] (sp 18 [(15,[18])]) (sp 18 [(6,[18]),(11,[18])]) [0] [0,1,2,3,4,5,6,7,8,9,10,11,12,13,14,15,16,17] G ⟨om,om,om,om,om,?_,om,om,om,om,?_,om,om,om,?_,?_,om,om,RW⟩ ?_
 rintro HX hX X Rest hR _ _ ⟨rfl,rfl⟩ hU hUp;refine eA G G Ue VQ G G (by decide) (by decide) ?_
 exact o0 ⟨G,G⟩;rintro HX hX X Rest hR _ _ ⟨rfl,rfl⟩ hU hUp;refine eA G G Tz UG G G (by decide) (by decide) ?_
 exact o0 ⟨G,G⟩;intro HX hX X Rest hR;refine dr ?_;intro hU hUp;refine eA G G Ue VQ G G (by decide) (by decide) ?_
 exact o0 ⟨G,G⟩;intro HX hX X Rest hR;refine dr ?_;intro hU hUp;refine wt 0 ?_;exact bD (nb G [.obj b0 (.cells [a8,a9,aa,ab,ac,ad,ae,.pointer (some ⟨a6,0,none⟩),.pointer (some ⟨a6,0,none⟩),ai,a7,af,.int .i64 (Y.term),.int .i64 (Y.done),.int .i64 (Y.mT)].toArray 68 (0,0))] lE ⟨G,G⟩);intro bg bh;refine dr ?_;rintro _ _ _ ⟨rfl,_⟩;refine dz ?_;refine Wp [0,0,0,0,0,0] ?_;refine eA G G Tz UG G G (by decide) (by decide) ?_
 refine wt 0 ?_;refine gs ?_;obtain ⟨am,b7,O⟩:=aY O;obtain ⟨J,aw,O⟩:=aY O;refine yF fm 13 [aH,aH,aH,aH,ph (.agg [a8,a9,aa,ab,ac,ad,ae].toArray),(Qu J am.2),(Qu J am.2),(λH rs v=>∃ a0 Z a3:Nat,∃ I:d_,[cJ (a_ a0 Z a3 I J)]=rs/\.pointer (some ⟨a0,0,none⟩)=v/\dE H I J),ph (.int .i64 (am.2)),aH,aH,ph (.pointer (some ⟨b0,8,none⟩)),(λH rs v=>∃ a0 Z a3:Nat,∃ I:d_,[.obj b0 (.cells [a8,a9,aa,ab,ac,ad,ae,.pointer (some ⟨a6,0,none⟩),.pointer (some ⟨a0,0,none⟩),a7,a7,af,.int .i64 (Y.term),.int .i64 (Y.done),.int .i64 (Y.mT)].toArray 68 (0,0)),cJ (a_ a0 Z a3 I J)]=rs/\.pointer (some ⟨b0,8,none⟩)=v/\dE H I J)] (sp 13 [(6,[5]),(7,[6]),(12,[13,7])]) (sp 13 [(4,[13])]) [0] [0,1,2,3,4,8,9,10,11,12] G ⟨om,om,om,om,?_,?_,?_,?_,?_,om,om,?_,?_,RW⟩ ?_
 rintro HX hX X Rest hR _ _ ⟨rfl,rfl⟩ hU hUp;have hU2:∀ s ∈ [.obj b0 (.cells [a8,a9,aa,ab,ac,ad,ae,.pointer (some ⟨a6,0,none⟩),.pointer (some ⟨a6,0,none⟩),a7,a7,af,.int .i64 (Y.term),.int .i64 (Y.done),.int .i64 (Y.mT)].toArray 68 (0,0))],s ∈ Rest:=hU;refine jZ (cs:=[a8,a9,aa,ab,ac,ad,ae]) G G isAgg32 sizeOf32 G (rJ (hU2 _ (.head _)) G) G ?_;exact o0 ⟨G,G⟩;rintro HX hX X Rest hR _ _ ⟨rfl,rfl⟩ hU hUp;refine bQ call19 G G G (λw ht=>(ue (O:=b7) an.mm ao.mm ap.mm aq.mm ar.mm au.mm av.mm ht :)) ?_;rintro _ bi _ (⟨b8,_⟩ | ⟨bj,b9,ba,a0,Z,a3,I,rfl,rfl,a5⟩);exact nomatch aw.symm.trans b8;obtain rfl:=RX (aw.symm.trans b9);exact oe [cJ (a_ a0 Z a3 I J)] ba ⟨a0,Z,a3,I,G,G,(a5)⟩;rintro HX hX X Rest hR _ _ ⟨a0,Z,a3,I,rfl,rfl,a5⟩ hU hUp;refine Wp [0] ?_;refine wo ?_;exact oe [cJ (a_ a0 Z a3 I J)] lE ⟨a0,Z,a3,I,G,G,(a5)⟩
 rintro HX hX X Rest hR _ _ ⟨a0,Z,a3,I,rfl,rfl,a5⟩ hU hUp;refine Wp [0] ?_;refine wo ?_;exact oe [cJ (a_ a0 Z a3 I J)] lE ⟨a0,Z,a3,I,G,G,(a5)⟩;rintro HX hX X Rest hR _ _ ⟨a0,Z,a3,I,rfl,rfl,a5⟩ hU hUp;refine wo ?_;exact o0 ⟨G,G⟩;intro HX hX X Rest hR;refine dr ?_;rintro _ _ ⟨a0,Z,a3,I,rfl,rfl,a5⟩ _ _ ⟨a0,Z,a3,I,rfl,rfl,a5⟩ _ _ ⟨a0,Z,a3,I,rfl,rfl,a5⟩ hU hUp;refine eA G G Ue VQ G G (by decide) (by decide) ?_
 exact o0 ⟨G,G⟩;rintro HX hX X Rest hR _ _ ⟨rfl,rfl⟩ _ _ ⟨a0,Z,a3,I,rfl,rfl,a5⟩ _ _ ⟨a0,Z,a3,I,rfl,rfl,a5⟩ _ _ ⟨rfl,rfl⟩ _ _ ⟨rfl,rfl⟩ _ _ ⟨rfl,rfl⟩ _ _ ⟨rfl,rfl⟩ _ _ ⟨rfl,rfl⟩ _ _ ⟨a0,Z,a3,I,rfl,rfl,a5⟩ _ _ ⟨a0,Z,a3,I,rfl,rfl,a5⟩ _ _ ⟨a0,Z,a3,I,rfl,rfl,a5⟩ hU hUp;refine Wp [0,0] ?_;refine wt 0 ?_;exact bD (nb G [.obj b0 (.cells [a8,a9,aa,ab,ac,ad,ae,.pointer (some ⟨a6,0,none⟩),.pointer (some ⟨a0,0,none⟩),a7,a7,af,.int .i64 (Y.term),.int .i64 (Y.done),.int .i64 (Y.mT)].toArray 68 (0,0)),cJ (a_ a0 Z a3 I J)] lE ⟨a0,Z,a3,I,G,G,(a5)⟩);intro bb bk;refine dr ?_;rintro _ _ ⟨a0,Z,a3,I,rfl,rfl,a5⟩;rintro _ _ ⟨a0,Z,a3,I,rfl,rfl,a5⟩;rintro _ _ ⟨a0,Z,a3,I,rfl,rfl,a5⟩;refine dr ?_;rintro _ _ _ ⟨a0,Z,a3,I,rfl,_,a5⟩;refine v_ ?_;refine Wp [0,0,0,0,0,0,0] ?_
 refine gs ?_;refine eA G G Tz UG G G (by decide) (by decide) ?_
 refine wt 0 ?_;refine gs ?_;refine wt 0 ?_;refine gs ?_;refine wt 0 ?_;refine bD (aV (bT (aQ (aO G G G (bD (aV ?_))))));refine gj ?_;refine cO 46 (aK.sz aB) ?_;refine Ep [1,3,1,3,0,2] ?_;have bc:bO bb ⟨a8,a9,aa,ab,ac,ad,ae,a6,ag,ah,pg124,a0,Z,a3,I,a7,aj,.slice none 0 0,[],af,ak⟩ (aC.mk Y.nY (dU.mk Y.kQ.a1 J) (cP.mk Y.events.a1 ([]:List aB)) Y.fM (i64.wrap (Y.term+1)) 0 Y.mT):=⟨an.mm,ao.mm,ap.mm,aq.mm,ar.mm,au.mm,av.mm,b2.mm,a5,b3.mm,Rw.nil,b4.mm⟩;refine uv (aJ b0 cK (aC.mk Y.nY (dU.mk Y.kQ.a1 J) (cP.mk Y.events.a1 ([]:List aB)) Y.fM (i64.wrap (Y.term+1)) 0 Y.mT)) ?_;obtain rfl:=RX O;refine Ek [0] 2 ?_;exact iZ G G ⟨lE,⟨a8,a9,aa,ab,ac,ad,ae,a6,ag,ah,pg124,a0,Z,a3,I,a7,aj,.slice none 0 0,[],af,ak⟩,G,G,bc⟩
theorem jM {a0:aC}{b0:Nat}{jH:cD}{r:(List aB)} (O:fR a0=some r) (h0:bO H jH a0):
  Cq B w0 16 [.pointer (some ⟨b0,0,none⟩)] H (cJ (aJ b0 jH a0)::M) (λH _ H' M' v=>H=H'/\∃ J:RV,∃ I:List RV,.row J 46 (aK.sz aB) r.length I::cJ (aJ b0 jH a0)::M=M'/\J=v/\tS J I r):=by
 unfold fR at O;refine gJ func16 ?_;obtain ⟨a4,a5,a6,a7,a8,a9,aa,ab,ac,ad,pg119,ae,af,ag,pg124,ah,ai,aj,ak,am,an⟩:=jH;obtain ⟨ao,ap,aq,ar,au,av,aw,ax,ay,a2,az,b1⟩:=id h0;refine Cu 6 ?_;refine g2 ?_;refine eA G G Tz UG G G (by decide) (by decide) (go ?_)
 obtain ⟨a3,O⟩:=aM O;refine Wp [3] ?_;refine bQ call33 G G G (λw ht=>by obtain ⟨H0_,hl0_,ht0_,Z,Y⟩:=ht.lU a2 G; have h:=Bu Z a3 ht0_; exact gV Y h) ?_
 rintro _ _ _ ⟨rfl,_,rfl,b2,b3,rfl,rfl,a1⟩;have a1:=a1 H;refine gt ?_;refine gj ?_;refine Ep [2,2,2,0,1,1] ?_;refine uv (aJ b0 cK a0) ?_;refine Ek [1] 0 ?_;exact ef
end Go.Sim
namespace Go.Sim
open Go Go.Proofs.Tryz
open _root_.Go.IntKind (i64 u64 u32 u8)
set_option maxRecDepth 100000
set_option maxHeartbeats 4000000
variable {B:Nat}{w0 w:World}[vH B w0] {H:Hp}{M:List b_}
end Go.Sim
namespace Go.Sim
open Go Go.RowKit Go.ChangeShapes Go.WideShapes Go.ChangeAt
open _root_.Go.IntKind (i64 u64 u32 u8)
class Ok (α:Type) where
 ok:α->Prop
abbrev ok {α:Type}[Ok α] (x:α):Prop:=Ok.ok x
def On (n:Int):Prop:=-9223372036854775808<=n/\n<=9223372036854775807
instance:Ok Int:=⟨On⟩
instance:Ok Bool:=⟨λ_=>True⟩
instance:Ok RU:=⟨λs=>s.size<=maxLen⟩
instance:Ok U8:=⟨λx=>0<=x.n/\x.n<=255⟩
instance:Ok QB:=⟨λx=>0<=x.n/\x.n<=65535⟩
instance:Ok cL:=⟨λx=>0<=x.n/\x.n<=4294967295⟩
instance:Ok QC:=⟨λx=>0<=x.n/\x.n<=18446744073709551615⟩
instance:Ok Qz:=⟨λx=>-2147483648<=x.n/\x.n<=2147483647⟩
instance {α:Type}[Ok α]:Ok (List α):=⟨λxs=>xs.length<=maxLen/\∀ x ∈ xs,ok x⟩
theorem wf_i64 {n:Int} (h:(Lit.int .i64 n).wf=true):On n:=by
 simp [Lit.wf,IntKind.min,IntKind.max,IntKind.signed,IntKind.bits] at h; exact ⟨by omega,by omega⟩
def eF (P:Program) (T:TypeId) (α:Type) [aK α] [Ok α]:Prop:=
 ∀ (Hd:Type) (enc:TypeId×RV->Hd) (w:World) (I:Nat) (cs:List RV) (d:DataW Hd×List MemPlace),
  DataW.trod enc P w 0 (λ_=>true) true I T cs=some d->∃ x:α,aK.E (snap w) cs x/\ok x
section
variable {P:Program}{T:TypeId}
theorem bR (ht:P.underlying T=some (.int .i64)):eF P T Int:=λ_ _ _ _ _ _ h=>by
 obtain ⟨n,rfl,rfl,I⟩:=DataW.trod_int ht h; exact ⟨n,rfl,wf_i64 I⟩
theorem od (ht:P.underlying T=some .bool):eF P T Bool:=λ_ _ _ _ _ _ h=>by
 obtain ⟨b,rfl,rfl⟩:=DataW.trod_bool ht h; exact ⟨b,rfl,RW⟩
theorem bA (ht:P.underlying T=some .string):eF P T RU:=λ_ _ _ _ _ _ h=>by
 obtain ⟨s,rfl,rfl,hs⟩:=DataW.trod_string ht h; exact ⟨s,rfl,hs⟩
theorem Gm {α:Type}{p:Nat->α->Prop}:∀ n,(∀ i,i<n->∃ x,p i x)->∃ xs:List α,xs.length=n/\∀ i x,xs[i]? = some x->p i x:=by
 intro n
 induction n with
 | zero=>exact λ_=>⟨[],rfl,by simp⟩
 | succ n ih=>
  intro h;obtain ⟨xs,hl,I⟩:=ih λi hi=>h i (by omega)
  obtain ⟨y,J⟩:=h n (by omega)
  refine ⟨xs++[y],by simp [hl],λi x hi=>?_⟩
  rw [Us] at hi
  split at hi
  ·exact I i x hi
  ·have:i-xs.length=0:=by
    have:=(R3.1 hi).1;simp at this; omega
   rw [this] at hi;simp at hi; subst hi
   rw [show i=n from by omega]; exact J
theorem cU {e:TypeId}{α:Type}[aK α] [Ok α] (ht:P.underlying T=some (.slice e)) (hs:P.cellsOf e=aK.sz α) (h0:Nat.blt 0 (aK.sz α)=true) (he:eF P e α):eF P T (List α):=λHd enc w fuel cs d h=>by
 have h0':0<aK.sz α:=by simpa [S_] using h0
 rcases DataW.trod_slice ht h with ⟨rfl,rfl⟩ | ⟨a,len,cap,elems,rest,n,rfl,rfl,rfl,_,hl,O,hel,hE,hR,_⟩
 ·exact ⟨[],⟨_,rfl,.inl ⟨⟨_,rfl⟩,rfl⟩⟩,⟨Nat.zero_le _,λ_ h=>by cases h⟩⟩
 ·by_cases hc:cap=0
  ·subst hc
   obtain rfl:len=0:=by omega
   exact ⟨[],⟨_,rfl,.inl ⟨⟨_,rfl⟩,rfl⟩⟩,⟨Nat.zero_le _,λ_ h=>by cases h⟩⟩
  ·have Z:∀ i,i<cap->∃ J d,w.cells? 0 (a.add (i*P.cellsOf e)) (P.cellsOf e)=some J/\DataW.trod enc P w 0 (λ_=>true) true n e J=some d:=by
    intro i hi;have:∃ d,(w.cells? 0 (a.add (i*P.cellsOf e)) (P.cellsOf e)).bind (DataW.trod enc P w 0 (λ_=>true) true n e)=some d:=by
     by_cases hil:i<len
     ·exact ⟨elems[i]'(by omega),by rw [hE i hil]; exact RY _⟩
     ·have:=(hR rfl).2 (i-len) (by omega)
      rw [show len+(i-len)=i from by omega] at this
      exact ⟨rest[i-len]'(by have:=(hR rfl).1; omega),by rw [this]; exact RY _⟩
    obtain ⟨d,hd⟩:=this;obtain ⟨J,h1,h2⟩:=W1.1 hd;exact ⟨J,d,h1,h2⟩
   have Y:∀ i,i<cap->∀ j,j<aK.sz α->∃ c,w.cell? ((a.add (i*aK.sz α)).add j)=some c:=by
    intro i hi j hj;obtain ⟨J,d,h1,_⟩:=Z i hi;rw [hs] at h1;obtain ⟨_,h2,h3⟩:=World.cells?_some h1;exact ⟨J[j]'(by omega),by rw [h3 j hj]; exact RY _⟩
   obtain ⟨ab,ao,asp⟩:=a;have hb:asp=none/\∃ arr T fz,w.heap[ab]? = some (.cells arr T fz):=by
    obtain ⟨c,I⟩:=Y 0 (by omega) 0 h0'
    rw [TC] at I;simp only [Addr.add,Wy,World.cell?] at I
    split at I
    ·rename_i arr T fz hh
     refine ⟨?_,arr,T,fz,hh⟩
     split at I
     ·cases I
     ·rename_i hn; cases asp <;> simp_all
    ·cases I
   obtain ⟨rfl,arr,T',fz,hh⟩:=hb;have hat:∀ i,i<cap->∀ j,j<aK.sz α->w.cell? (((⟨ab,ao,none⟩:Addr).add (i*aK.sz α)).add j)=arr[ao+i*aK.sz α+j]? := by
    intro i hi j hj;rw [SZ,SZ];simp [World.cell?,hh]
   have hsz:ao+cap*aK.sz α<=arr.size:=by
    obtain ⟨c,I⟩:=Y (cap-1) (by omega) (aK.sz α-1) (by omega)
    rw [hat (cap-1) (by omega) _ (by omega)] at I
    have:=(Tw.1 I).1;have e1:cap*aK.sz α=(cap-1)*aK.sz α+aK.sz α:=by
     have:cap=(cap-1)+1:=by omega
     rw [this,So,Wx]; simp
    omega
   obtain ⟨xs,hxl,hxs⟩:=Gm (p:=λi (x:α)=>ok x/\∃ cs,aK.E (snap w) cs x/\∀ j c,cs[j]? = some c->arr[ao+i*aK.sz α+j]? = some c) len (by
    intro i hi;obtain ⟨J,d,h1,h2⟩:=Z i (by omega)
    obtain ⟨x,hx,hok⟩:=he _ _ _ _ _ _ h2;refine ⟨x,hok,J,hx,λj c hj=>?_⟩;rw [hs] at h1;obtain ⟨_,h3,h4⟩:=World.cells?_some h1;have hjl:=(R3.1 hj).1;rw [<- hat i (by omega) j (by omega),h4 j (by omega),hj])
   subst hxl;refine ⟨xs,⟨_,rfl,.inr ⟨ab,ao,cap,arr,T',fz,rfl,hl,O,hh,hsz,λk x hk=>(hxs k x hk).2⟩⟩,by omega,λx hx=>?_⟩
   obtain ⟨k,hk⟩:=List.mem_iff_getElem?.1 hx;exact (hxs k x hk).1
theorem aD {Hd:Type}{enc:TypeId×RV->Hd}{w:World}{n:Nat}{cs:List RV}{fs:Array Field}{xs:List (DataW Hd×List MemPlace)}{α:Type}[aK α] [Ok α]
  (I:xs.length=fs.size) (hf:∀ (i:Nat) (f:Field),fs[i]? = some f->DataW.trod enc P w 0 (λ_=>true) true n f.type ((cs.drop f.offset).take (P.cellsOf f.type))=xs[i]?)
  (i:Nat) {f:Field}{o:Nat} (hi:fs[i]? = some f) (ho:f.offset=o) (hn:P.cellsOf f.type=aK.sz α) (ht:eF P f.type α):∃ x:α,aK.E (snap w) ((cs.drop o).take (aK.sz α)) x/\ok x:=by
 have h:=hf i f hi;have J:i<xs.length:=by rw [I]; exact (Tw.1 hi).1
 rw [RY J] at h;obtain ⟨x,Z,Y⟩:=ht _ _ _ _ _ _ h;subst ho;rw [hn] at Z;exact ⟨x,Z,Y⟩
theorem piece {cs r s:List RV}{o n m:Nat} (h:(cs.drop o).take n=r) (O:o+n=m) (k:cs.drop m=s):cs.drop o=r++s:=by
 subst O;rw [<- h,<- k,<- TW,TA]
theorem dZ {cs:List RV}{n m:Nat} (h:cs.length=n) (O:n=m):cs.drop m=[]:=by subst O; rw [<- h]; exact Vc
end
section
variable {Hd:Type}{enc:TypeId×RV->Hd}{P:Program}{W:World}{T:TypeId}{v:RV}{d:DataW Hd}{p:List MemPlace}{base:Nat}
theorem Gh {α:Type}[aK α] [Ok α] (ht:eF P T α) (h:DataW.Trod enc P W 0 (λ_=>true) true T v d p):∃ x:α,aK.E (snap W) v.cells.toList x/\ok x:=by
 obtain ⟨n,h⟩:=h; exact ht _ _ _ _ _ _ h
theorem tM {e:TypeId}{α:Type}[aK α] [Ok α] (Z:P.underlying T=some (.slice e)) (ht:eF P T (List α)) (hv:Value.okWide P W .any base T v) (h:DataW.Trod enc P W 0 (λ_=>true) true T v d p):
  ∃ x:List α,aU (snap W) v x/\ok x:=by
 obtain ⟨a,l,c,rfl⟩:=okWide_slice Z hv;obtain ⟨x,⟨u,J,Y⟩,I⟩:=Gh ht h;simp [Value.cells] at J; subst J; exact ⟨x,Y,I⟩
theorem xQ {fs:Array Field}{α:Type}[aK α] [Ok α] (J:P.underlying T=some (.struct fs)) (ht:eF P T α) (Y:Value.okWide P W .any base T v) (h:DataW.Trod enc P W 0 (λ_=>true) true T v d p):
  ∃ (x:α) (cs:List RV),v=.agg cs.toArray/\aK.E (snap W) cs x/\ok x:=by
 obtain ⟨cs,rfl,_⟩:=okWide_struct J Y;obtain ⟨x,Z,I⟩:=Gh ht h;exact ⟨x,cs.toList,by simp,Z,I⟩
end
theorem zY {Hd:Type}{enc:TypeId×RV->Hd}{P:Program} (hl:laidOutB P=true) {W W':World} (hb:Below W.heap.size W W'):∀ {I:List TypeId}{vs:List RV}{J:List (DataW Hd)}{Z:List MemPlace},
  (I.all λt=>P.readableRec t && Nat.blt t P.types.size)=true->DataW.TrodAll enc P W 0 (λ_=>true) true I vs J Z->DataW.TrodAll enc P W' 0 (λb=>decide (b<W.heap.size)) true I vs J Z
 | [],[],[],_,_,h=>h
 | t::I,v::vs,d::J,Z,ht,h=>by
  obtain ⟨p,q,h1,h2,rfl⟩:=h;simp only [List.all_cons,TL,S_] at ht;have Y:∀ x ∈ p,x.block<W.heap.size:=by obtain ⟨m,O⟩:=h1; exact DataW.trod_lt m _ _ _ O
  exact ⟨p,q,Below.trod hl ht.1.1 ht.1.2 h1 hb Y,zY hl hb ht.2 h2,rfl⟩
 | [],_::_,_,_,_,h=>absurd h (by simp [DataW.TrodAll])
 | [],[],_::_,_,_,h=>absurd h (by simp [DataW.TrodAll])
 | _::_,[],_,_,_,h=>absurd h (by simp [DataW.TrodAll])
 | _::_,_::_,[],_,_,h=>absurd h (by simp [DataW.TrodAll])
theorem zv {Hd:Type}{enc:TypeId×RV->Hd}{P:Program}{W:World}{base:Nat}{I:Nat->Bool}{held:Bool}:∀ {Y:List TypeId}{vs:List RV}{J:List (DataW Hd)}{Z:List MemPlace},
  DataW.TrodAll enc P W base I held Y vs J Z->J.length=Y.length
 | [],[],[],_,_=>rfl
 | t::Y,v::vs,d::J,Z,h=>by
  obtain ⟨p,q,h1,h2,rfl⟩:=h;simp [zv h2]
 | [],_::_,_,_,h=>absurd h (by simp [DataW.TrodAll])
 | [],[],_::_,_,h=>absurd h (by simp [DataW.TrodAll])
 | _::_,[],_,_,h=>absurd h (by simp [DataW.TrodAll])
 | _::_,_::_,[],_,h=>absurd h (by simp [DataW.TrodAll])
theorem AX {Hd:Type}{enc:TypeId×RV->Hd}{P:Program}{Y:Func}{s:ChangeSpec}{W W':World}{args:Array RV}{J gs:List (DataW Hd)}{I:List MemPlace}{tb:TypeId}
  (hl:laidOutB P=true) (hs:s.vars=[]) (hr:Y.resultTypes=#[tb]) (hb:P.underlying tb=some .bool) (hp:(Y.params.toList.all λt=>P.readableRec t && Nat.blt t P.types.size)=true)
  (hW:DataW.Whole enc P Y.params.toList s.vars false W args.toList J gs I)
  (hfn:J.length=Y.params.toList.length->s.fn Hd (J++[])={ results:=[.lit (.bool true)],args:=J })
  (Z:Below W.heap.size W W'):s.post enc P Y false true false false W args (.bool true) W':=by
 have hW':=hW;obtain ⟨p,q,hA,hV,rfl,hfz,hnd⟩:=hW;rw [hs] at hV;obtain ⟨rfl,rfl⟩:=trodVars_none hV;have hlen:J.length=Y.params.toList.length:=by
  exact zv hA
 have e:=hfn hlen;have hA':=zY hl Z hp hA;refine ⟨J,[],_,[],p,[],hW',?_,?_,?_,Z.frame _,λh=>by cases h⟩
 ·rw [hr,e]; exact trodAll_mk1 (shut_bool hb _)
 ·rw [e]; exact hA'
 ·rw [hs,e]; rfl
end Go.Sim
