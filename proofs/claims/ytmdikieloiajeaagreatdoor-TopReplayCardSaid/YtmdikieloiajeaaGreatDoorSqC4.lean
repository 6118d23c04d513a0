/-
  The proof, part C4.
-/
import Derived.ProofKit
import Derived.Test.YtmdikieloiajeaaGreatDoorSqC3
set_option linter.unusedVariables false
set_option linter.unusedSimpArgs false
set_option linter.unusedSectionVars false
set_option linter.unnecessarySimpa false
namespace Go.Sim
abbrev UY := @Go.Proofs.Tryz.runUnderlying232
end Go.Sim
namespace Go.Sim
open Go Go.Proofs.Tryz
open _root_.Go.IntKind (i64 u64 u32 u8)
set_option maxRecDepth 100000
set_option maxHeartbeats 4000000
variable {B:Nat}{w0 w:World}[uL B w0] {H:Hp}{M:List bN}
theorem tI {dst:(List U8)}{az base:Int}{neg I:Bool}{v0:RJ}{r:(List U8)×RI} (O:jY dst az base neg I=some r) (h0:aP H v0 dst):
  Cq B w0 119 [v0,.int .u64 (az),.int .i64 (base),.bool (neg),.bool (I)] H M (λH M H' M' v=>H=H'/\∃ Y:RJ,∃ J:List RJ,.row Y 5 (aF.sz U8) r.1.length J::M=M'/\.tuple #[Y,.string (r.2)]=v/\uI Y J r.1):=by
 unfold jY at O;refine fF func119 ?_;refine q2 ?_;refine cj [(0,_),(1,_),(2,_),(3,_),(4,_),(10,_),(11,_)] [] 0 (λu m H' M' L'=>H=H'/\m=M'/\(28,.bool (((decide (base<2)) || (decide (base=10))) || (decide (36<base))))::u=L') ?_ (λac=>?_);rintro _ _ _ ⟨rfl,rfl,rfl⟩;refine cd O G (λbm O=>?_) (λbm O=>?_);cases O;refine qs ?_;refine BL (α:=U8) (z:=.agg ((List.replicate 65 (0:Int)).map (Value.int .u8)).toArray) (cs:=(List.replicate 65 (0:Int)).map (Value.int .u8)) (l:=List.replicate 65 (⟨0⟩:U8)) (n:=65) G G (λ_=>by kernel_rfl) (by kernel_rfl) (pX.Og _ _) (by kernel_rfl) G ?_
 intro a0 b0;have b1:(List.replicate 65 (⟨0⟩:U8)).length=65:=by first | rfl | (simp only [SO,SZ, *])
 refine qs ?_;refine cj [(0,_),(2,_),(3,_),(4,_),(10,_),(11,_),(12,_),(13,_)] [] 0 (O2 (fC base neg I) r H 1) ?_ (λb2=>?_);rintro _ _ _ ⟨ad,O,rfl,rfl,rfl⟩;unfold fC at O;refine cj [(0,_),(3,_),(4,_),(10,_),(11,_),(12,_)] [] 1 (λu m H' M' L'=>∃ a7:Int,∃ a1:List U8,∃ ae:List RJ,fM neg I a7 a1=some r/\Rw H' a0 ae a1/\a1.length=65/\H.le H'/\.row a0 232 (aF.sz U8) a1.length ae::m=M'/\(13,.int .i64 (a7))::u=L') ?_ (λb3=>?_);rintro bn _ _ ⟨a7,a1,ae,O,b4,b5,d0,rfl,rfl⟩;unfold fM at O;refine cj [(0,_),(4,_),(10,_),(11,_),(12,_)] [] 1 (λu m H' M' L'=>∃ af:Int,∃ a6:List U8,∃ ag:List RJ,fL I af a6=some r/\Rw H' a0 ag a6/\a6.length=65/\bn=H'/\.row a0 232 (aF.sz U8) a6.length ag::m=M'/\(13,.int .i64 (af))::u=L') ?_ (λb6=>?_);rintro _ _ _ ⟨af,a6,ag,O,bo,bp,rfl,rfl,rfl⟩
 unfold fL at O;refine q2 ?_;refine cd O G (λbq O=>?_) (λbq O=>?_);refine qs ?_;cases O;refine qs ?_;obtain ⟨b7,O⟩:=aI O;refine bZ (bo).rd G (λd1 d2 br=>?_);refine Gv (n:=65) G G UY sizeOf5 G G br bp (by decide) b7.1 b7.2 ?_
 intro d3 bs;refine E9 G G underlying158 underlying5 underlying9 G bs (qt ?_);refine qj ?_;refine cB 5 (aF.sz U8) ?_;exact ef;refine qs ?_;refine cd O G (λbt O=>?_) (λbt O=>?_);refine qs ?_;obtain ⟨d4,bu,ah,O⟩:=aB O;refine vA (.head _) G G UY sizeOf5 b5 G G bu (RP.1 ah).1 ?_;obtain ⟨_,rfl,bv⟩:=(b4).elem ah;refine wr 0 0 ⟨45⟩ b4 ah bv G G ?_;intro d5 d6 d7 d8;have d9:(a1.set ((i64.wrap (a7-1):Int).toNat) ⟨45⟩).length=65:=by rw [SO]; exact b5
 refine qj ?_;exact kj (b6 _ _ _ pk);refine qj ?_;exact kj (b6 _ _ _ pk);refine qs ?_;refine cz @sY (G:jA base=_) ?_;refine qg ?_;refine cd O G (λbw O=>?_) (λbw O=>?_);refine qs ?_;obtain ⟨da,bz,O⟩:=aR O;refine cz @ve bz ?_;refine q2 ?_;refine cj [(0,_),(3,_),(4,_),(10,_),(11,_),(12,_)] [] 1 (λu m H' M' L'=>∃ ai a8:Int,∃ Z:List U8,∃ aj:List RJ,fB neg I ai a8 Z=some r/\Rw H' a0 aj Z/\Z.length=65/\H.le H'/\.row a0 232 (aF.sz U8) Z.length aj::m=M'/\(1,.int .u64 (ai))::(13,.int .i64 (a8))::u=L') ?_ (λc0=>?_);rintro db _ _ ⟨ai,a8,Z,aj,O,b8,b9,dc,rfl,rfl⟩;unfold fB at O;refine qs ?_;obtain ⟨ba,c1,c2,O⟩:=aB O;refine qi G G R6 G G c1 c2 ?_;obtain ⟨dd,c3,ak,O⟩:=aB O;refine vA (.head _) G G UY sizeOf5 b9 G G c3 (RP.1 ak).1 ?_;obtain ⟨_,rfl,c4⟩:=(b8).elem ak
 refine wr 0 0 ba b8 ak c4 G G ?_;intro de df dg dh;have di:(Z.set ((i64.wrap (a8-1):Int).toNat) ba).length=65:=by rw [SO]; exact b9
 refine qj ?_;exact kj (b3 _ _ _ pk);refine qg ?_;obtain ⟨bb,c5,c6,O⟩:=gQ O;refine cl [(0,_),(3,_),(4,_),(10,_),(11,_),(12,_),(14,_),(15,_),(16,_)] [] 1 [] 0 (λu m n H' M' L'=>∃ am a9:Int,∃ a3:List U8,∃ an:List RJ,bb n (am,a9,a3)=some r/\Rw H' a0 an a3/\a3.length=65/\H.le H'/\.row a0 232 (aF.sz U8) a3.length an::m=M'/\(1,.int .u64 (am))::(13,.int .i64 (a9))::u=L') eI G ⟨_,_,_,_,O,b0,b1,lE,G,G⟩ ?_;rintro ao dj _ _ ⟨am,a9,a3,an,O,bc,bd,dk,rfl,rfl⟩
 rcases ao with _ | ao
 exact nomatch (c6 _).symm.trans O;have O:=(c5 _ _).symm.trans O;generalize c7:bb ao=dl at O
 try dsimp only at O
 unfold lg at O;refine q2 ?_;refine cd O G (λc8 O=>?_) (λc8 O=>?_);refine q2 ?_;obtain ⟨be,c9,cb,O⟩:=aB O;refine qi G G R6 G G c9 cb ?_;obtain ⟨dm,cc,ap,O⟩:=aB O;refine vA (.head _) G G UY sizeOf5 bd G G cc (RP.1 ap).1 ?_;obtain ⟨_,rfl,ce⟩:=(bc).elem ap;refine wr 0 0 be bc ap ce G G ?_;intro dn dp dq ds;have dt:(a3.set ((i64.wrap (a9-1):Int).toNat) be).length=65:=by rw [SO]; exact bd
 refine qg ?_;obtain ⟨cf,O⟩:=aI O;refine rV G G G G cf (qj ?_);exact kj (A9 c7);refine qj ?_;exact kj (c0 _ _ _ pk);refine qs ?_;refine cj [(0,_),(3,_),(4,_),(10,_),(11,_),(12,_)] [] 1 (λu m H' M' L'=>∃ aq aa:Int,∃ a4:List U8,∃ ar:List RJ,lj neg I aq aa a4=some r/\Rw H' a0 ar a4/\a4.length=65/\H.le H'/\.row a0 232 (aF.sz U8) a4.length ar::m=M'/\(1,.int .u64 (aq))::(13,.int .i64 (aa))::u=L') ?_ (λcg=>?_);rintro du _ _ ⟨aq,aa,a4,ar,O,bf,bg,dv,rfl,rfl⟩;unfold lj at O;refine qs ?_;obtain ⟨bh,ch,ci,O⟩:=aB O;refine qi G G R6 G G ch ci ?_;obtain ⟨dw,ck,au,O⟩:=aB O;refine vA (.head _) G G UY sizeOf5 bg G G ck (RP.1 au).1 ?_;obtain ⟨_,rfl,cm⟩:=(bf).elem au;refine wr 0 0 bh bf au cm G G ?_;intro dx dy e0 e1;have e2:(a4.set ((i64.wrap (aa-1):Int).toNat) bh).length=65:=by rw [SO]; exact bg
 refine qj ?_;exact kj (b3 _ _ _ pk);refine qg ?_;obtain ⟨bi,cn,co,O⟩:=gQ O;refine cl [(0,_),(3,_),(4,_),(10,_),(11,_),(12,_),(17,_)] [] 1 [] 0 (λu m n H' M' L'=>∃ av ab:Int,∃ a5:List U8,∃ aw:List RJ,bi n (av,ab,a5)=some r/\Rw H' a0 aw a5/\a5.length=65/\H.le H'/\.row a0 232 (aF.sz U8) a5.length aw::m=M'/\(1,.int .u64 (av))::(13,.int .i64 (ab))::u=L') eI G ⟨_,_,_,_,O,b0,b1,lE,G,G⟩ ?_;rintro ax e3 _ _ ⟨av,ab,a5,aw,O,bj,bk,e4,rfl,rfl⟩
 rcases ax with _ | ax
 exact nomatch (co _).symm.trans O;have O:=(cn _ _).symm.trans O;generalize cp:bi ax=e5 at O
 try dsimp only at O
 unfold oA at O;refine q2 ?_;refine cd O G (λcq O=>?_) (λcq O=>?_);refine q2 ?_;obtain ⟨cr,O⟩:=aI O;refine J6 G G G G cr (qs ?_);obtain ⟨bl,ct,cu,O⟩:=aB O;refine qi G G R6 G G ct cu ?_;obtain ⟨e6,cv,ay,O⟩:=aB O;refine vA (.head _) G G UY sizeOf5 bk G G cv (RP.1 ay).1 ?_;obtain ⟨_,rfl,cw⟩:=(bj).elem ay;refine wr 0 0 bl bj ay cw G G ?_;intro e7 e8 e9 ea;have ec:(a5.set ((i64.wrap (ab-1):Int).toNat) bl).length=65:=by rw [SO]; exact bk
 refine a_ (aS ?_);refine qj ?_;exact kj (A9 cp);refine qj ?_;exact kj (cg _ _ _ pk);refine qs ?_;refine cd O G (λcx O=>?_) (λcx O=>?_);refine qj ?_;exact kj (b2 _ _ _ pk);refine qj ?_;exact kj (b2 _ _ _ pk);refine qg ?_;cases ed:(decide (base<2));refine qg ?_;cases ee:(decide (base=10));refine qj ?_;exact kj (ac _ _ _ pk) kS;refine qj ?_;exact kj (ac _ _ _ pk) kS;refine qj ?_;exact kj (ac _ _ _ pk) kS
theorem tH {a0 base:Int}{r:RI} (O:jX a0 base=some r):
  Cq B w0 83 [.int .u64 (a0),.int .i64 (base)] H M (Gh r):=by
 unfold jX at O;refine fF func83 ?_;refine g2 ?_;refine gs ?_;refine cd O G (λI O=>?_) (λI O=>?_);refine g2 ?_;refine cd O G (λJ O=>?_) (λJ O=>?_);refine gs ?_;cases O;refine gs ?_;refine BL (α:=U8) (z:=.agg ((List.replicate 24 (0:Int)).map (Value.int .u8)).toArray) (cs:=(List.replicate 24 (0:Int)).map (Value.int .u8)) (l:=List.replicate 24 (⟨0⟩:U8)) (n:=24) G G (λ_=>by kernel_rfl) (by kernel_rfl) (pX.Og _ _) (by kernel_rfl) G ?_
 intro a6 a7;have a8:(List.replicate 24 (⟨0⟩:U8)).length=24:=by first | rfl | (simp only [SO,SZ, *])
 refine gs ?_;obtain ⟨a9,Y,O⟩:=aR O;refine cz @t_ Y ?_;refine gs ?_;cases O;refine gs ?_;obtain ⟨aa,Z,O⟩:=aR O;refine ca @tI Z ?_;rintro _ _ _ ⟨rfl,ab,ac,rfl,rfl,a1⟩;have a1:=a1 H;refine gs ?_;refine Ek [] 1 ?_;exact ef
theorem tA {a0 base:Int}{r:RI} (O:gV a0 base=some r):
  Cq B w0 45 [.int .u64 (a0),.int .i64 (base)] H M (Gh r):=by
 unfold gV at O;refine fF func45 ?_;refine g2 ?_;obtain ⟨I,a1,O⟩:=aR O;refine cz @tH a1 ?_;refine go ?_;exact ef
theorem sk {a0:aL}{b0:Nat}{v0:RJ}{sX:List RJ}{r:RI} (O:jO a0=some r) (h0:Rw H v0 sX a0.eV):
  Cq B w0 13 [.pointer (some ⟨b0,0,none⟩)] H (.obj b0 (.cells [v0].toArray 96 (0,0))::.row v0 42 (aF.sz aE) a0.eV.length sX::M) (λH _ H' M' v=>H=H'/\.obj b0 (.cells [v0].toArray 96 (0,0))::.row v0 42 (aF.sz aE) a0.eV.length sX::M=M'/\.string (r)=v):=by
 unfold jO at O;refine fF func13 ?_;refine g2 ?_;refine g2 ?_;refine qK (.tail _ (.head _)) (λa8=>?_);obtain ⟨a6,a9,aa,O⟩:=cO O;refine cl [(11,_),(12,_)] [] 0 [] 0 (λu m n H' M' L'=>∃ (a1:Nat) (I:List aE),∃ J:RI,∃ Y:Int,(a0.eV).drop a1=I/\I.length=n/\a6 a1 I (J,Y)=some r/\H.le H'/\m=M'/\(3,.string (J))::(4,.int .u64 (Y))::(13,.int .i64 ((a1:Int)))::u=L') _ G ⟨0,_,_,_,G,G,O,lE,G,G⟩ ?_;rintro _ an _ _ ⟨a1,I,J,Y,a7,rfl,O,ao,rfl,rfl⟩;refine g2 ?_;refine bC G (λZ=>?_) (λZ=>?_);obtain ⟨ap,ab,rfl,ac,ad⟩:=fI a7 Z;have O:=(a9 _ _ _ _).symm.trans O;generalize ae:a6 (a1+1) ab=aq at O
 try dsimp only at O
 unfold oD at O;refine g2 ?_;refine al (λar=>?_);refine wt 0 ?_;refine gs ?_;obtain ⟨au,af,O⟩:=aR O;refine cz @rO af ?_;refine gs ?_;obtain ⟨av,ag,O⟩:=aR O;refine cz @sG ag ?_;refine go ?_;obtain ⟨ah,O⟩:=aI O;refine nf G G G G ah (go ?_);obtain ⟨aw,ai,O⟩:=aR O;refine cz @tA ai ?_;obtain ⟨aj,O⟩:=aI O;refine nf G G G G aj ?_;obtain ⟨ak,O⟩:=aI O;refine nf G G G G ak ?_;obtain ⟨am,O⟩:=aI O;refine nf G G G G am (gt ?_);refine gj ?_;exact kx [1,1] 1 (eb ad ae) G (kK (bV ac a8));obtain rfl:=fH a7 Z;have O:=(aa _ _).symm.trans O
 try dsimp only at O
 refine gs ?_;exact ef
theorem wH {a0 I:RI}{r:Int} (O:nc a0 I=some r):
  Cq B w0 109 [.string (a0),.string (I)] H M (xS r):=by
 unfold nc at O;refine fF func109 ?_;refine g2 ?_;obtain ⟨J,a1,O⟩:=aR O;refine cz @pP a1 ?_;refine go ?_;exact ef
theorem Ae {Y I:RI}{r:Int} (O:qT Y I=some r):
  Cq B w0 108 [.string (Y),.string (I)] H M (xS r):=by
 unfold qT at O;refine fF func108 ?_;refine g2 ?_;refine gs ?_;refine fK G G R6 G (go ?_);refine cd O G (λa5 O=>?_) (λa5 O=>?_);refine gs ?_;cases O;refine g2 ?_;refine fK G G R6 G (go ?_);refine cd O G (λa6 O=>?_) (λa6 O=>?_);refine gs ?_;obtain ⟨af,a7,a8,O⟩:=aB O;refine qi G G R6 G G a7 a8 (BO (Fp func149 (by kernel_rfl) (by kernel_rfl) (by kernel_rfl) (by kernel_rfl) _ _) G G G (go ?_))
 exact ef;refine gs ?_;obtain ⟨Z,a9,aa,O⟩:=gQ O;refine cl [(1,_)] [] 0 [] 0 (λu m n H' M' L'=>∃ a0:RI,∃ a1:Int,Z n (a0,a1)=some r/\H.le H'/\m=M'/\(0,.string (a0))::(5,.int .i64 (a1))::u=L') eI G ⟨_,_,O,lE,G,G⟩ ?_;rintro J ag _ _ ⟨a0,a1,O,ah,rfl,rfl⟩
 rcases J with _ | J
 exact nomatch (aa _).symm.trans O;have O:=(a9 _ _).symm.trans O;generalize ab:Z J=ai at O
 try dsimp only at O
 unfold vU at O;refine gs ?_;obtain ⟨ac,ad,O⟩:=aR O;refine cz @wH ad ?_;refine g2 ?_;refine cd O G (λae O=>?_) (λae O=>?_);refine gs ?_;exact ef;refine gs ?_;refine fK G G R6 G (go ?_);obtain ⟨aj,O⟩:=aI O;refine nU (l:=(i64.wrap (ac+(I.size:Int)):Int).toNat) (h:=a0.size) G G R6 G (.inl ⟨G,G⟩) (.inr ⟨_,_,_,G,G,by omega,by omega,G⟩) ?_
 refine gj ?_;exact kj (A9 ab)
theorem yB {a6 J:RI}{I ad:Int}{r:(List RI)} (O:qI a6 J I ad=some r):
  Cq B w0 79 [.string (a6),.string (J),.int .i64 (I),.int .i64 (ad)] H M (P7 r):=by
 unfold qI at O;refine fF func79 ?_;refine g2 ?_;refine gs ?_;refine cd O G (λai O=>?_) (λai O=>?_);refine bK (aM (aK G G G (a_ (aS ?_))));refine gj ?_;refine cB 9 (aF.sz RI) ?_;exact ef;refine g2 ?_;refine cd O G (λaj O=>?_) (λaj O=>?_);refine gs ?_;cases O;refine go ?_;refine cj [(0,_),(1,_),(2,_)] [] 0 (O4 (l_ a6 J I) r H 3) ?_ (λae=>?_);rintro _ _ _ ⟨a7,O,rfl,rfl,rfl⟩;unfold l_ at O;refine gs ?_;refine fK G G R6 G (go ?_);refine Fa G G G G (gs ?_);obtain ⟨af,O⟩:=aI O;refine eT (α:=RI) (zs:=[.string (⟨#[]⟩)]) (ze:=(⟨#[]⟩)) G G Ua ⟨_,G,G,G,G⟩ G G G G G G af.1 af.2 ?_;intro a1 ax ak;refine g2 ?_;refine cj [(9,_)] [] 1 (λu m H' M' L'=>∃ Y:RI,∃ Z:List RI,∃ a4:Int,∃ a8:List RJ,l9 Y Z a4=some r/\Rw H' a1 a8 Z/\H.le H'/\.row a1 9 (aF.sz RI) Z.length a8::m=M'/\(0,.string (Y))::(10,.int .i64 (a4))::u=L') ?_ (λag=>?_)
 rintro ay _ _ ⟨Y,Z,a4,a8,O,az,b0,rfl,rfl⟩;unfold l9 at O;refine gs ?_;obtain ⟨b1,b2,b3,O⟩:=aB O;refine go ?_;refine wF 0 0 Y ?_;intro b4 am b5;refine gs ?_;obtain ⟨b6,O⟩:=aI O;refine uw (α:=RI) (l:=0) (h:=(i64.wrap (a4+1):Int).toNat) G G SS TK G G am (by omega) (by omega) (λm hmm=>(.inr ⟨_,_,_,G,G,by omega,by omega,G⟩)) (.inl ⟨G,G⟩) ?_
 intro b7 b8 b9;refine go ?_;exact ef;refine go ?_;obtain ⟨ah,an,ao,O⟩:=gQ O;refine cl [(1,_),(2,_),(3,_),(9,_)] [] 1 [] 0 (λu m n H' M' L'=>∃ a0:RI,∃ a5:List RI,∃ a9:Int,∃ aa:List RJ,ah n (a0,a5,a9)=some r/\Rw H' a1 aa a5/\H.le H'/\.row a1 9 (aF.sz RI) a5.length aa::m=M'/\(0,.string (a0))::(10,.int .i64 (a9))::u=L') eI G ⟨_,_,_,_,O,ak,lE,G,G⟩ ?_;rintro ab ba _ _ ⟨a0,a5,a9,aa,O,bb,bc,rfl,rfl⟩
 rcases ab with _ | ab
 exact nomatch (ao _).symm.trans O;have O:=(an _ _).symm.trans O;generalize ap:ah ab=bd at O
 try dsimp only at O
 unfold oy at O;refine g2 ?_;refine cd O G (λaq O=>?_) (λaq O=>?_);refine gs ?_;obtain ⟨ac,ar,O⟩:=aR O;refine cz @wH ar ?_;refine g2 ?_;refine cd O G (λau O=>?_) (λau O=>?_);refine gj ?_;exact kj (ag _ _ _ pk);refine gs ?_;obtain ⟨be,O⟩:=aI O;refine nU (l:=0) (h:=(i64.wrap (ac+I):Int).toNat) G G R6 G (.inr ⟨_,_,_,G,G,by omega,by omega,G⟩) (.inl ⟨G,G⟩) ?_
 obtain ⟨bf,bg,bh,O⟩:=aB O;refine go ?_;refine wF 0 0 (a0.extract 0 ((i64.wrap (ac+I):Int).toNat)) ?_;intro bi bj bk;refine gs ?_;refine fK G G R6 G (go ?_);obtain ⟨bl,O⟩:=aI O;refine nU (l:=(i64.wrap (ac+(J.size:Int)):Int).toNat) (h:=a0.size) G G R6 G (.inl ⟨G,G⟩) (.inr ⟨_,_,_,G,G,by omega,by omega,G⟩) ?_
 refine gt ?_;refine gj ?_;exact kj (A9 ap);refine gj ?_;exact kj (ag _ _ _ pk);refine gs ?_;refine cd O G (λav O=>?_) (λav O=>?_);refine go ?_;obtain ⟨bm,aw,O⟩:=aR O;refine cz @Ae aw ?_;refine gj ?_;exact kj (ae _ _ _ pk);refine gj ?_;exact kj (ae _ _ _ pk)
theorem Af {a0 I:RI}{r:(List RI)} (O:qU a0 I=some r):
  Cq B w0 41 [.string (a0),.string (I)] H M (P7 r):=by
 unfold qU at O;refine fF func41 ?_;refine g2 ?_;obtain ⟨Y,J,O⟩:=aR O;refine ca @yB J ?_;rintro _ _ _ ⟨rfl,Z,a5,rfl,rfl,a1⟩;have a1:=a1 H;refine go ?_;exact ef
theorem Fj {s:RI} (hs:s.size<=281474976710656) (ht:St B w0 H M w):
  Calls prog 42 [.string s].toArray w (uX B w0 λH' M' v=>H=H'/\∃ ev:RJ,M=M'/\.tuple #[.int .i64 (lO s).1,ev]=v/\JR ev (lO s).2):=by
 unfold lO;obtain ⟨T1,p1,Y⟩:=uL.e1 (B:=B) (w0:=w0);obtain ⟨T2,p2,Z⟩:=uL.e2 (B:=B) (w0:=w0);cases h:Lib.atoiAll s.data.toList with
 | ok v=>
  refine (strconv_Atoi_ok s (by omega) v h w).mono ?_
  rintro e J ⟨rfl,hw⟩;refine ⟨H,M,?_,G,.nilIface,G,G,.inl ⟨G,G⟩⟩
  rcases hw with rfl | ⟨t,rfl⟩
  ·exact ht
  ·exact ht.under (Joins.below_bytesWorld _ _ _ _ (R9 _))
 | range=>
  refine (strconv_Atoi_range_var s hs h T2 p2 w ((ht.var? QR (uL.below (w0:=w0) G)).trans Z)).mono ?_;rintro e J ⟨N,rfl,_,_,I⟩;exact ⟨H,M,ht.under I,G,_,G,G,.inr ⟨G,_,_,G⟩⟩
 | _=>
  refine (strconv_Atoi_syntax_var s hs h T1 p1 w ((ht.var? QQ (uL.below (w0:=w0) G)).trans Y)).mono ?_;rintro e J ⟨N,rfl,_,_,I⟩;exact ⟨H,M,ht.under I,G,_,G,G,.inr ⟨G,_,_,G⟩⟩
theorem yW {a9:RI}{r:(Option aL)×Int×Int} (O:mL a9=some r):
  Cq B w0 12 [.string (a9)] H M (λH M H' M' v=>(r.1=none/\H.le H'/\M=M'/\.tuple #[.pointer none,.int .i64 (r.2.1),.int .i64 (r.2.2)]=v)\/(∃ I:aL,r.1=some I/\H.le H'/\∃ qb0:Nat,∃ Z:RJ,∃ J:List RJ,.obj qb0 (.cells [Z].toArray 96 (0,0))::.row Z 42 (aF.sz aE) I.eV.length J::M=M'/\.tuple #[.pointer (some ⟨qb0,0,none⟩),.int .i64 (r.2.1),.int .i64 (r.2.2)]=v/\Rw H' Z J I.eV)):=by
 unfold mL at O;refine fF func12 ?_;refine g2 ?_;refine gs ?_;refine fK G G R6 G (go ?_);refine cd O G (λan O=>?_) (λan O=>?_);refine gs ?_;obtain rfl:=RQ O;exact Fx G G G G (.inl ⟨G,lE,G,G⟩);refine gs ?_;refine ca @uO (G:fR=_) ?_;rintro _ ao _ ⟨bg,a3,bh,bi,rfl,rfl,ap⟩;refine gs ?_;obtain ⟨af,aq,ar,O⟩:=gQ O;refine cl [(0,_),(5,_)] [] 2 [1] 0 (λu m n H' M' L'=>∃ a5 aa:Int,∃ a0:List aE,∃ a1:RJ,∃ Y:List RJ,af n (a5,aa,a0)=some r/\Rw H' a1 Y a0/\ao.le H'/\.row a1 42 (aF.sz aE) a0.length Y::.obj a3 (.cells [a1].toArray 96 (0,0))::m=M'/\(6,.int .i64 (a5))::(7,.int .u64 (aa))::u=L') eI G ⟨_,_,_,_,_,O,ap,lE,G,G⟩ ?_;rintro ab ag _ _ ⟨a5,aa,a0,a1,Y,O,a6,bj,rfl,rfl⟩
 rcases ab with _ | ab
 exact nomatch (ar _).symm.trans O;have O:=(aq _ _).symm.trans O;generalize au:af ab=bk at O
 try dsimp only at O
 unfold oP at O;refine gs ?_;obtain ⟨bl,O⟩:=aI O;refine nU (l:=(a5:Int).toNat) (h:=a9.size) G G R6 G (.inl ⟨G,G⟩) (.inr ⟨_,_,_,G,G,by omega,by omega,G⟩) ?_
 obtain ⟨ah,av,O⟩:=aR O;refine cz @uV av ?_;refine gs ?_;obtain ⟨aw,ax,O⟩:=aR O;refine ca @Af ax ?_;rintro _ _ _ ⟨rfl,bm,bn,rfl,rfl,ai⟩;have ai:=ai ag;refine gs ?_;refine cj [(0,_),(5,_),(6,_),(7,_),(8,_),(11,_)] [] 0 (λu m H' M' L'=>ag=H'/\m=M'/\(40,.bool ((!ah.2.2) || (!decide ((aw.length:Int)=5))))::u=L') ?_ (λaj=>?_);rintro _ _ _ ⟨rfl,rfl,rfl⟩;refine cd O G (λay O=>?_) (λay O=>?_);refine gs ?_;obtain rfl:=RQ O;refine Ek [2,1] 1 ?_;exact Fx G G G G (.inr ⟨(aL.mk a0),G,lE,a3,a1,Y,G,G,a6⟩);refine gs ?_;obtain ⟨a7,bo,bp,O⟩:=aB O;refine go ?_;obtain ⟨az,O⟩:=aI O;refine f_ call42 G G G (λw ht=>(Fj az ht :)) ?_;rintro _ _ _ ⟨rfl,bq,rfl,rfl,b0⟩;refine gs ?_;obtain ⟨a8,br,bs,O⟩:=aB O;refine go ?_;obtain ⟨b1,O⟩:=aI O;refine f_ call42 G G G (λw ht=>(Fj b1 ht :)) ?_;rintro _ _ _ ⟨rfl,bt,rfl,rfl,b2⟩
 refine gs ?_;obtain ⟨ac,bu,bv,O⟩:=aB O;obtain ⟨ad,bw,bz,O⟩:=aB O;refine pD fm 10 [aG,aG,aG,aG,aG,aG,aG,aG,ph (.agg [.int .i64 ((lO a7).1),.string (ac),.string (ad),.int .i64 ((lO a8).1)].toArray),(λH rs v=>∃ a4:Nat,[.obj a4 (.cells ([.int .i64 (0),.string (⟨#[]⟩),.string (⟨#[]⟩),.int .i64 (0)]:List RJ).toArray 42 (0,0))]=rs/\.pointer (some ⟨a4,0,none⟩)=v)] ⟨om,om,om,om,om,om,om,om,?_,?_,RM⟩ ?_;intro HX hX X Rest hR;refine dr ?_;intro hU hUp;refine eB (css:=[[.int .i64 ((lO a7).1)],[.string (ac)],[.string (ad)],[.int .i64 ((lO a8).1)]]) (zs:=[.int .i64 (0),.string (⟨#[]⟩),.string (⟨#[]⟩),.int .i64 (0)]) (out:=[.int .i64 ((lO a7).1),.string (ac),.string (ad),.int .i64 ((lO a8).1)]) (places:=[(0,1),(1,1),(2,1),(3,1)]) G G G ⟨G,G,G,G,RM⟩ V4 G Wm (λw=>by kernel_rfl) G ?_
 exact o0 ⟨G,G⟩;rintro HX hX X Rest hR hU hUp;refine al (λa4=>?_);exact oe [.obj a4 (.cells ([.int .i64 (0),.string (⟨#[]⟩),.string (⟨#[]⟩),.int .i64 (0)]:List RJ).toArray 42 (0,0))] lE ⟨a4,G,G⟩;intro b3 c0;refine dr ?_;rintro _ _ ⟨a4,rfl,rfl⟩;refine wb ?_;refine Wp [0,0,0,0] ?_;refine wt 0 ?_;refine gs ?_;obtain ⟨c1,b4,O⟩:=aR O;refine cz @rO b4 ?_;obtain ⟨c2,b5,O⟩:=aR O;refine cz @sG b5 ?_;refine g2 ?_;refine DW runUnderlying101 b0 G G G (go ?_);cases ak:((lO a7).2);have O:=dY ak O;refine go ?_;refine DW runUnderlying101 b2 G G G (go ?_);cases am:((lO a8).2);have O:=dY am O;refine go ?_;obtain ⟨c3,b6,O⟩:=aR O;refine cz @rO b6 ?_;obtain ⟨b7,O⟩:=aI O;refine nf G G G G b7 (go ?_);obtain ⟨c4,b8,O⟩:=aR O;refine cz @tA b8 ?_;obtain ⟨b9,O⟩:=aI O;refine nf G G G G b9 (go ?_);refine cd O G (λba O=>?_) (λba O=>?_);refine gs ?_;obtain rfl:=RQ O
 refine Ek [3,2] 2 ?_;exact Fx G G G G (.inr ⟨(aL.mk a0),G,lE,a3,a1,Y,G,G,a6.mm⟩);refine g2 ?_;refine Wp [3,2] ?_;obtain ⟨bb,bc,O⟩:=aR O;refine ca @jD bc ?_;rintro _ _ _ ⟨rfl,bd,be,rfl,rfl,ae⟩;have ae:=ae b3;refine gs ?_;refine cd O G (λbf O=>?_) (λbf O=>?_);refine gs ?_;obtain rfl:=RQ O;refine Ek [0,0] 2 ?_;exact Fx G G G G (.inr ⟨bb.2.2,G,lE,a3,bd,be,G,G,ae⟩);refine gs ?_;refine fK G G R6 G (gj ?_);exact kx [1,0] 2 (A9 au);have O:=dZ am O;refine go ?_;refine cT G ?_;refine gs ?_;obtain rfl:=RQ O;refine Ek [3,2] 2 ?_;exact Fx G G G G (.inr ⟨(aL.mk a0),G,lE,a3,a1,Y,G,G,a6.mm⟩);have O:=dZ ak O;refine go ?_;refine cT G ?_;refine gs ?_;obtain rfl:=RQ O;refine Ek [3,2] 2 ?_;exact Fx G G G G (.inr ⟨(aL.mk a0),G,lE,a3,a1,Y,G,G,a6.mm⟩);refine go ?_;cases c5:(ah.2.2);refine gj ?_
 exact kj (aj _ _ _ pk) kS;refine gj ?_;exact kj (aj _ _ _ pk) kS
theorem rA {a0:aL}{b0:Nat}{v0:RJ}{sX:List RJ}{r:Int} (O:eU a0=some r) (h0:Rw H v0 sX a0.eV):
  Cq B w0 14 [.pointer (some ⟨b0,0,none⟩)] H (.obj b0 (.cells [v0].toArray 96 (0,0))::.row v0 42 (aF.sz aE) a0.eV.length sX::M) (λH _ H' M' v=>H=H'/\.obj b0 (.cells [v0].toArray 96 (0,0))::.row v0 42 (aF.sz aE) a0.eV.length sX::M=M'/\.int .u64 (r)=v):=by
 unfold eU at O;refine fF func14 ?_;refine g2 ?_;refine g2 ?_;refine qK (.tail _ (.head _)) (λa7=>?_);obtain ⟨Z,a8,a9,O⟩:=cO O;refine cl [(9,_),(10,_)] [] 0 [] 0 (λu m n H' M' L'=>∃ (a1:Nat) (I:List aE),∃ J:Int,(a0.eV).drop a1=I/\I.length=n/\Z a1 I J=some r/\H.le H'/\m=M'/\(3,.int .u64 (J))::(11,.int .i64 ((a1:Int)))::u=L') _ G ⟨0,_,_,G,G,O,lE,G,G⟩ ?_;rintro _ ag _ _ ⟨a1,I,J,a6,rfl,O,ah,rfl,rfl⟩;refine g2 ?_;refine bC G (λY=>?_) (λY=>?_);obtain ⟨ai,aa,rfl,ab,ac⟩:=fI a6 Y;have O:=(a8 _ _ _ _).symm.trans O;generalize ad:Z (a1+1) aa=aj at O;unfold nF at O;refine g2 ?_;refine al (λak=>?_);refine wt 0 ?_;refine go ?_;obtain ⟨am,ae,O⟩:=aR O;refine cz @rO ae ?_;obtain ⟨an,af,O⟩:=aR O;refine cz @sG af ?_;refine gt ?_;refine gj ?_;exact kx [1,1] 1 (eb ac ad) G (kK (bV ab a7));obtain rfl:=fH a6 Y
 have O:=(a9 _ _).symm.trans O;refine gs ?_;exact ef
theorem rI {a0:aT}{b0 b1 J:Nat}{I:d_}{r:Int} (O:kM a0=some r) (Y:cR H I a0):
  Cq B w0 15 [.pointer (some ⟨b0,0,none⟩)] H (kH (aV b0 b1 J I a0)::M) (λH _ H' M' v=>H=H'/\kH (aV b0 b1 J I a0)::M=M'/\.int .u64 (r)=v):=by
 unfold kM at O;refine fF func15 ?_;obtain ⟨Z,a3,a4,a5,a6,a7,a8,a9,aa,ab,ac,ad,ae,af,ag,ah,ai,aj,ak,am,an,ao⟩:=I;obtain ⟨ap,aq,ar,au,av,aw,ax,ay,az,b3,b4,b5,b6,b7,b8,b9,ba⟩:=id Y;refine Cu 8 ?_;refine g2 ?_;refine Wp [6,6] ?_;obtain ⟨bb,a1,O⟩:=aR O;refine cz @rA a1 ?_;refine gt ?_;refine gj ?_;refine Ep [2,2,2,2,2,2] ?_;refine yV (aV b0 b1 J bS a0) ?_;exact ef
theorem vS {a1:RI}{a0:aT}{Y b0 b1 J:Nat}{I:d_}{r:Bool} (O:mn a1 a0=some r) (h0:cR H I a0):
  Cq B w0 47 [.string (a1),.pointer (some ⟨Y,0,none⟩)] H (.obj Y (.cells ([.pointer (some ⟨b0,0,none⟩)]:List RJ).toArray 35 (0,0))::kH (aV b0 b1 J I a0)::M) (λH _ H' M' v=>H=H'/\.obj Y (.cells ([.pointer (some ⟨b0,0,none⟩)]:List RJ).toArray 35 (0,0))::kH (aV b0 b1 J I a0)::M=M'/\.bool (r)=v):=by
 unfold mn at O;refine fF func47 ?_;refine Cp [1] ?_;obtain ⟨a3,a4,a5,a6,a7,a8,a9,aa,ab,ac,ad,ae,af,ag,ah,ai,aj,ak,am,an,ao,ap⟩:=I;obtain ⟨aq,ar,au,av,aw,ax,ay,az,b4,b5,b6,b7,b8,b9,ba,bb,bc⟩:=id h0;refine Cu 8 ?_;refine g2 ?_;refine Wp [1] ?_;obtain ⟨bd,Z,O⟩:=aR O;refine cy @cD Z ?_;rintro _ _ _ ⟨rfl,⟨_,rfl,rfl,rfl⟩⟩;refine gt ?_;refine gj ?_;refine Ep [1] ?_;refine yV (aV b0 b1 J bS a0) ?_;refine Ek [1] 0 ?_;exact ef
theorem oc {J:(List RI)}{a1:aT}{v0:RJ}{Z b0 b1 b2:Nat}{I:d_}{r:Int} (O:fE J a1=some r) (h0:aP H v0 J) (h1:cR H I a1):
  Cq B w0 73 [v0,.func (.func 47) [].toArray [.pointer (some ⟨Z,0,none⟩)].toArray] H (.obj Z (.cells ([.pointer (some ⟨b0,0,none⟩)]:List RJ).toArray 35 (0,0))::kH (aV b0 b1 b2 I a1)::M) (λH _ H' M' v=>H=H'/\.obj Z (.cells ([.pointer (some ⟨b0,0,none⟩)]:List RJ).toArray 35 (0,0))::kH (aV b0 b1 b2 I a1)::M=M'/\.int .i64 (r)=v):=by
 unfold fE at O;refine fF func73 ?_;refine g2 ?_;refine gs ?_;obtain ⟨a5,a7,a8,O⟩:=iP O;refine cl [(0,_),(1,_),(7,_)] [] 0 [] 0 (Gi (((J.length:Int):Int).toNat) a5 r H 8) _ G ⟨0,_,Se _,G,O,lE,G,G⟩ ?_;rintro _ af _ _ ⟨a0,a2,a6,rfl,O,ag,rfl,rfl⟩;refine g2 ?_;refine bC G (λY=>?_) (λY=>?_);obtain ⟨a9,rfl,aa,ab⟩:=lF a6 Y;have O:=(a7 _ _ _).symm.trans O;generalize ac:a5 a9 (a0+1)=ah at O;unfold i_ at O;refine g2 ?_;refine gs ?_;obtain ⟨ai,aj,ak,O⟩:=aB O;refine go ?_;obtain ⟨am,ad,O⟩:=aR O;refine oh call47 G G G G (λw ht=>(vS (O:=ad) h1.mm ht :)) ?_;rintro _ _ _ ⟨rfl,rfl,rfl⟩;refine go ?_;refine cd O G (λae O=>?_) (λae O=>?_);refine gs ?_;exact ef;refine gt ?_;refine gj ?_;exact kj (eb aa ac) (kK (eJ ab (eM (k_ (h0).cU))));obtain rfl:=lD a6 Y;have O:=(a8 _ _).symm.trans O;refine gs ?_;exact ef
theorem nS {a4:(List RI)}{I:aT}{v0:RJ}{sX:List RJ}{b3 b0 b1 b2:Nat}{Y:d_}{r:(List RI)} (O:eC a4 I=some r) (h0:Rw H v0 sX a4) (h1:cR H Y I):
  Cq B w0 36 [v0,.func (.func 47) [].toArray [.pointer (some ⟨b3,0,none⟩)].toArray] H (.row v0 9 (aF.sz RI) a4.length sX::.obj b3 (.cells ([.pointer (some ⟨b0,0,none⟩)]:List RJ).toArray 35 (0,0))::kH (aV b0 b1 b2 Y I)::M) (λH _ H' M' v=>H=H'/\∃ Z:RJ,∃ J:List RJ,.row Z 9 (aF.sz RI) r.length J::.obj b3 (.cells ([.pointer (some ⟨b0,0,none⟩)]:List RJ).toArray 35 (0,0))::kH (aV b0 b1 b2 Y I)::M=M'/\Z=v/\uI Z J r):=by
 unfold eC at O;refine fF func36 ?_;refine g2 ?_;obtain ⟨aq,ab,O⟩:=aR O;refine cy @oc ab ?_;rintro _ _ _ ⟨rfl,⟨_,rfl,rfl,rfl⟩⟩;refine g2 ?_;refine cd O G (λac O=>?_) (λac O=>?_);refine gs ?_;exact ef;refine g2 ?_;obtain ⟨a9,ad,ae,O⟩:=gQ O;refine cl [(0,_),(1,_)] [1,1] 1 [] 0 (NR a9 r v0 H 5 6) eI G ⟨_,_,_,_,O,h0,lE,G,G⟩ ?_;rintro a6 af _ _ ⟨a0,a1,a2,a5,O,ag,ar,rfl,rfl⟩
 rcases a6 with _ | a6
 exact nomatch (ae _).symm.trans O;have O:=(ad _ _).symm.trans O;generalize ah:a9 a6=ai at O
 try dsimp only at O
 unfold iT at O;refine g2 ?_;refine cd O G (λaj O=>?_) (λaj O=>?_);refine go ?_;refine cj [(0,_),(1,_),(6,_)] [1,1] 1 (NS (dV a2 ai) r v0 af 5) ?_ (λaa=>?_);rintro _ _ _ ⟨a3,a7,a8,O,au,rfl,rfl,rfl⟩;unfold dV at O;refine gj ?_;exact kj (A9 ah);refine gs ?_;obtain ⟨ak,av,aw,O⟩:=aB O;refine gs ?_;refine Wp [1,1] ?_;obtain ⟨ax,am,O⟩:=aR O;refine oh call47 G G G G (λw ht=>(vS (O:=am) h1.mm ht :)) ?_;rintro _ _ _ ⟨rfl,rfl,rfl⟩;refine go ?_;refine cd O G (λan O=>?_) (λan O=>?_);refine gs ?_;obtain ⟨ay,az,b4,O⟩:=aB O;refine go ?_;refine wF 2 0 ak ?_;intro b5 b6 b7;refine a_ (aS ?_);refine gj ?_;exact kj (aa _ _ _ pk);refine gj ?_;exact kx [2] 0 (aa _ _ _ pk);refine gs ?_;obtain ⟨ao,O⟩:=aI O;refine uv (α:=RI) (zs:=[.string (⟨#[]⟩)]) (ze:=(⟨#[]⟩)) G G (λ_=>G) Ua SS TK TS G G G G G G ag ao ?_
 intro b8 b9 ap;refine gs ?_;obtain ⟨ba,O⟩:=aI O;refine uw (α:=RI) (l:=0) (h:=(a1:Int).toNat) G G SS TK G G ap (by omega) (by omega) (λm hmm=>(.inr ⟨_,_,_,G,G,by omega,by omega,G⟩)) (.inl ⟨G,G⟩) ?_
 intro bb bc bd;refine go ?_;exact ef
theorem xe {a0:aT}{b0 b1 Z:Nat}{I:d_}{r:(List RI)} (O:pT a0=some r) (h0:cR H I a0):
  Cq B w0 18 [.pointer (some ⟨b0,0,none⟩)] H (kH (aV b0 b1 Z I a0)::M) (λH _ H' M' v=>H=H'/\∃ Y:RJ,∃ J:List RJ,.row Y 9 (aF.sz RI) r.length J::kH (aV b0 b1 Z I a0)::M=M'/\Y=v/\uI Y J r):=by
 unfold pT at O;refine fF func18 ?_;obtain ⟨a3,a4,a5,a6,a7,a8,ab,ac,ad,ae,af,ag,ah,ai,aj,ak,am,an,ao,ap,aq,ar⟩:=I;obtain ⟨au,av,aw,ax,ay,az,b3,b4,b5,b6,b7,b8,b9,ba,bb,bc,bd⟩:=id h0;refine Cu 8 ?_;refine gs ?_;refine bx (λbe=>?_);refine gs ?_;refine jN (cs:=[a3,a4,a5,a6,a7,a8]) G G VA Vj G (sr (.tail _ (.head _)) G) G ?_;obtain ⟨bf,a9,O⟩:=aR O;refine ca @vT a9 ?_;rintro _ _ _ ⟨rfl,bg,bh,rfl,rfl,a1⟩;have a1:=a1 H;refine go ?_;refine Wp [2,2,2,2,2,2,2,2] ?_;refine Wk (aV b0 b1 Z bS a0) ?_;refine Wp [1,1] ?_;obtain ⟨bi,aa,O⟩:=aR O;refine ca @nS aa ?_;rintro _ _ _ ⟨rfl,bj,bk,rfl,rfl,a2⟩;have a2:=a2 H;refine Wp [2] ?_;refine Wu 8 ?_;refine go ?_;refine yV (aV b0 b1 Z bS a0) ?_;refine Ek [1,0] 1 ?_;exact ef
theorem ud {I Y:(List RI)}{v0 v1:RJ}{r:Bool} (O:iF I Y=some r) (h0:aP H v0 I) (h1:aP H v1 Y):
  Cq B w0 17 [v0,v1] H M (Ht r):=by
 unfold iF at O;refine fF func17 ?_;refine g2 ?_;refine gs ?_;refine cd O G (λa7 O=>?_) (λa7 O=>?_);refine gs ?_;exact ef;refine g2 ?_;obtain ⟨Z,a8,a9,O⟩:=iP O;refine cl [(0,_),(1,_),(12,_)] [] 0 [] 0 (Gi (((I.length:Int):Int).toNat) Z r H 13) _ G ⟨0,_,Se _,G,O,lE,G,G⟩ ?_;rintro _ af _ _ ⟨a0,a1,a6,rfl,O,ag,rfl,rfl⟩;refine g2 ?_;refine bC G (λJ=>?_) (λJ=>?_);obtain ⟨aa,rfl,ab,ac⟩:=lF a6 J;have O:=(a8 _ _ _).symm.trans O;generalize ad:Z aa (a0+1)=ah at O;unfold lV at O;refine g2 ?_;refine gs ?_;obtain ⟨ai,aj,ak,O⟩:=aB O;obtain ⟨am,an,ao,O⟩:=aB O;refine pD fm 8 [aG,aG,aG,aG,aG,aG,aG,aG] ⟨om,om,om,om,om,om,om,om,RM⟩ ?_;intro ap aq;refine dz ?_;refine go ?_;refine cd O G (λae O=>?_) (λae O=>?_);refine gs ?_;exact ef;refine gt ?_;refine gj ?_;exact kj (eb ab ad) (kK (eJ ac (eM (k_ (h0).cU))))
 obtain rfl:=lD a6 J;have O:=(a9 _ _).symm.trans O;refine gs ?_;exact ef
theorem pz {I Y:(List RI)}{v0 v1:RJ}{r:Bool} (O:eY I Y=some r) (h0:aP H v0 I) (h1:aP H v1 Y):
  Cq B w0 19 [v0,v1] H M (Ht r):=by
 unfold eY at O;refine fF func19 ?_;refine g2 ?_;refine gs ?_;refine cd O G (λa7 O=>?_) (λa7 O=>?_);refine gs ?_;exact ef;refine g2 ?_;obtain ⟨Z,a8,a9,O⟩:=iP O;refine cl [(0,_),(1,_),(12,_)] [] 0 [] 0 (Gi (((I.length:Int):Int).toNat) Z r H 13) _ G ⟨0,_,Se _,G,O,lE,G,G⟩ ?_;rintro _ af _ _ ⟨a0,a1,a6,rfl,O,ag,rfl,rfl⟩;refine g2 ?_;refine bC G (λJ=>?_) (λJ=>?_);obtain ⟨aa,rfl,ab,ac⟩:=lF a6 J;have O:=(a8 _ _ _).symm.trans O;generalize ad:Z aa (a0+1)=ah at O;unfold lq at O;refine g2 ?_;refine gs ?_;obtain ⟨ai,aj,ak,O⟩:=aB O;obtain ⟨am,an,ao,O⟩:=aB O;refine pD fm 8 [aG,aG,aG,aG,aG,aG,aG,aG] ⟨om,om,om,om,om,om,om,om,RM⟩ ?_;intro ap aq;refine dz ?_;refine go ?_;refine cd O G (λae O=>?_) (λae O=>?_);refine gs ?_;exact ef;refine gt ?_;refine gj ?_;exact kj (eb ab ad) (kK (eJ ac (eM (k_ (h0).cU))))
 obtain rfl:=lD a6 J;have O:=(a9 _ _).symm.trans O;refine gs ?_;exact ef
theorem wc {a1:cK}{Z:(List aE)}{v0 v1 v2 v3 v4 v5 v6 v7:RJ}{r:Bool} (O:iZ a1 Z=some r) (h0:aP H v0 a1.bU.bF) (h1:aP H v1 a1.bU.aO) (h2:aP H v2 a1.bU.aJ) (h3:aP H v3 a1.bU.dS) (h4:aP H v4 a1.bU.bE) (h5:aP H v5 a1.bU.bW) (h6:aP H v6 a1.pL) (h7:aP H v7 Z):
  Cq B w0 3 [.agg [v0,v1,v2,v3,v4,v5,v6].toArray,v7] H M (Ht r):=by
 unfold iZ at O;refine fF func3 ?_;refine gs ?_;refine bx (λek=>?_);refine gs ?_;obtain ⟨el,c5,O⟩:=aR O;refine ca @yv c5 ?_;rintro _ em _ ⟨eo,ep,er,es,et,eu,ev,ew,rfl,rfl,ex,ey,ez,fa,fb,fd,fe⟩;refine wt 0 ?_;refine gs ?_;obtain ⟨ah,c6,O⟩:=aR O;refine ca @xA c6 ?_;rintro _ ai _ (⟨c7,ff,rfl,rfl⟩ | ⟨fg,c8,fh,c9,cb,cc,pg126,rfl,rfl,ce⟩);have O:=AM c7 O;refine gs ?_;obtain ⟨cf,cg,O⟩:=aR O;refine cj [(1,_),(2,_),(5,_),(6,_)] [] 0 (λu m H' M' L'=>ai=H'/\m=M'/\(37,.bool (true))::u=L') ?_ (λaj=>?_);rintro _ _ _ ⟨rfl,rfl,rfl⟩;refine cT G ?_;refine gs ?_;obtain ⟨ch,ci,O⟩:=aR O;refine cz @ot ci ?_;refine go ?_;cases b2:(ch);have O:=dY b2 O;refine go ?_;refine Ek [] 1 ?_;exact ef;have O:=dZ b2 O;refine go ?_;refine pN G G Uw G G (go ?_);obtain ⟨fi,ck,O⟩:=aR O;refine cz @yz ck ?_;refine go ?_;refine Ek [] 1 ?_
 exact ef;refine go ?_;refine cz @ot cg ?_;refine go ?_;cases fj:(cf);refine gj ?_;exact kj (aj _ _ _ ⟨G,G,G⟩);refine go ?_;cases fk:(decide (ah.2=0));refine gj ?_;exact kj (aj _ _ _ ⟨G,G,G⟩);refine go ?_;refine pN G G Uw G G (gj ?_);exact kj (aj _ _ _ ⟨G,G,G⟩);have O:=AN c8 O;refine gs ?_;obtain ⟨b3,cm,O⟩:=aR O;refine cj [(1,_),(2,_),(5,_),(6,_)] [] 0 (λu m H' M' L'=>ai=H'/\m=M'/\(37,.bool ((!b3) || (!decide (ah.2=0))))::u=L') ?_ (λak=>?_);rintro _ _ _ ⟨rfl,rfl,rfl⟩;refine cd O G (λam O=>?_) (λam O=>?_);refine gs ?_;obtain ⟨cn,co,O⟩:=aR O;refine cz @ot co ?_;refine go ?_;cases b4:(cn);have O:=dY b4 O;refine go ?_;refine Ek [] 2 ?_;exact ef;have O:=dZ b4 O;refine go ?_;refine pN G G Uw G G (go ?_);refine Ek [] 2 ?_;exact ef;refine g2 ?_;refine Fa G G G G ?_;obtain ⟨fl,O⟩:=aI O;refine vB (α:=aE) (l:=0) (h:=(min (Z.length:Int) 7:Int).toNat) (xs:=Z) G G VI sizeOf42 G h7.mm (by omega) (by omega) (.inl G) (λcap hcap=>by rw [RU G]; exact (.inl ⟨G,G⟩)) (λm hmm=>(.inr ⟨_,_,_,G,G,by omega,by omega,G⟩)) (.inl ⟨G,G⟩) ?_
 intro fn cp fo;refine go ?_;obtain ⟨b5,cq,cr,O⟩:=cO O;refine cl [(2,_),(5,_),(53,_),(54,_)] [1] 1 [] 0 (λu m n H' M' L'=>∃ (a4:Nat) (a6:List aE),∃ a7:aT,∃ I:d_,(tG Z 0 ((min (Z.length:Int) 7:Int).toNat)).drop a4=a6/\a6.length=n/\b5 a4 a6 a7=some r/\cR H' I a7/\ai.le H'/\kH (aV c9 cb cc I a7)::m=M'/\(55,.int .i64 ((a4:Int)))::u=L') _ G ⟨0,_,_,_,G,G,O,ce,lE,G,G⟩ ?_;rintro _ fp _ _ ⟨a4,a6,a7,I,b6,rfl,O,fr,fs,rfl,rfl⟩;refine g2 ?_;refine bC G (λan=>?_) (λan=>?_);obtain ⟨ft,b7,rfl,cs,ct⟩:=fI b6 an;have O:=(cq _ _ _ _).symm.trans O;generalize cu:b5 (a4+1) b7=fu at O;unfold nW at O;refine g2 ?_;refine al (λfv=>?_);refine wt 0 ?_;refine go ?_;refine Wp [1] ?_;obtain ⟨fw,cv,O⟩:=aR O;refine ca @sQ cv ?_;rintro _ fx _ ⟨fy,pg210,rfl,rfl,cw⟩;refine gt ?_;refine gj ?_;exact kx [0,1] 1 (uK (Tq _) ⟨a4+1,b7,_,_,ct,G,((VO cu _).trans O),cw,lE,G,G⟩) G ⟨(R7 (λz=>some (Value.int .i64 z)) (bV cs cp.mm.cU)),G,G,G,G,RM⟩
 obtain rfl:=fH b6 an;have O:=(cr _ _).symm.trans O;refine gs ?_;refine ca @uO (G:fR=_) ?_;rintro _ b8 _ ⟨fz,cx,g0,g1,rfl,rfl,d0⟩;refine g2 ?_;refine pN G G runUnderlying44 G G (go ?_);refine cF G ?_;refine g2 ?_;refine Wp [2] ?_;obtain ⟨d1,d2,O⟩:=aR O;refine ca @wG d2 ?_;rintro _ _ _ ⟨rfl,g3,g4,rfl,rfl,b9⟩;have b9:=b9 b8;refine go ?_;refine qK (.head _) (λd3=>?_);obtain ⟨ba,d4,d5,O⟩:=cO O;refine cl [(2,_),(5,_),(9,_),(67,_),(68,_)] [0,0,2] 2 [3,2] 0 (λu m n H' M' L'=>∃ (a5:Nat) (a8:List aE),∃ a9:List aE,∃ aa:RJ,∃ ao:List RJ,(d1).drop a5=a8/\a8.length=n/\ba a5 a8 a9=some r/\Rw H' aa ao a9/\b8.le H'/\.row aa 42 (aF.sz aE) a9.length ao::.obj cx (.cells [aa].toArray 96 (0,0))::m=M'/\(69,.int .i64 ((a5:Int)))::u=L') _ G ⟨0,_,_,_,_,G,G,O,d0,lE,G,G⟩ ?_;rintro _ d6 _ _ ⟨a5,a8,a9,aa,ao,bb,rfl,O,g5,d7,rfl,rfl⟩
 refine g2 ?_;refine bC G (λap=>?_) (λap=>?_);obtain ⟨g6,bc,rfl,d8,d9⟩:=fI bb ap;have O:=(d4 _ _ _ _).symm.trans O;generalize da:ba (a5+1) bc=g7 at O;unfold nX at O;refine g2 ?_;refine al (λg8=>?_);refine wt 0 ?_;refine gs ?_;refine Wp [2,1] ?_;obtain ⟨g9,db,O⟩:=aR O;refine ca @jD db ?_;rintro _ _ _ ⟨rfl,ga,gb,rfl,rfl,aq⟩;have aq:=aq d6;refine gs ?_;refine cd O G (λdc O=>?_) (λdc O=>?_);refine gs ?_;refine Ek [] 6 ?_;exact ef;refine gt ?_;refine gj ?_;exact kx [1,0,1,1,1] 1 (uK (Tq _) ⟨a5+1,bc,_,_,_,d9,G,((VO da _).trans O),aq,d7,G,G⟩) G ⟨(R7 (λz=>some (Value.int .i64 z)) (bV d8 d3)),G,G,G,G,G,RM⟩;obtain rfl:=fH bb ap;have O:=(d5 _ _).symm.trans O;refine gs ?_;refine Wp [1] ?_;obtain ⟨gc,dd,O⟩:=aR O;refine cz @sk dd ?_;obtain ⟨ar,de,O⟩:=aR O;refine ca @yW de ?_;rintro _ gd _ (⟨df,gf,rfl,rfl⟩ | ⟨gg,dg,gh,gi,gk,gl,rfl,rfl,gm⟩)
 have O:=AM df O;refine g2 ?_;cases bd:(decide (ar.2.2=0));have O:=dY bd O;refine go ?_;refine cT G ?_;refine gs ?_;refine Ek [] 5 ?_;exact ef;have O:=dZ bd O;refine go ?_;refine pN G G runUnderlying44 G G (go ?_);refine cT G ?_;refine gs ?_;refine Ek [] 5 ?_;exact ef;have O:=AN dg O;refine g2 ?_;cases ab:(decide (ar.2.2=0));have O:=dY ab O;refine go ?_;refine cT G ?_;refine gs ?_;refine Ek [] 7 ?_;exact ef;have O:=dZ ab O;refine go ?_;refine pN G G runUnderlying44 G G (go ?_);refine Wp [2,2] ?_;obtain ⟨dh,di,O⟩:=aR O;refine cz @sk di ?_;refine fK G G R6 G (go ?_);cases ac:(decide (ar.2.1=(dh.size:Int)));have O:=dY ac O;refine go ?_;refine cT G ?_;refine gs ?_;refine Ek [] 7 ?_;exact ef;have O:=dZ ac O;refine go ?_;refine Wp [2,2] ?_;obtain ⟨gn,dj,O⟩:=aR O;refine cz @rA dj ?_;refine go ?_;refine Wp [5] ?_;obtain ⟨gp,dk,O⟩:=aR O;refine cz @rI dk ?_
 refine go ?_;refine cd O G (λau O=>?_) (λau O=>?_);refine gs ?_;refine Ek [] 7 ?_;exact ef;refine gs ?_;obtain ⟨av,dl,O⟩:=aR O;refine ca @xA dl ?_;rintro _ ad _ (⟨dm,gq,rfl,rfl⟩ | ⟨gr,dn,gu,dp,dq,ds,pg310,rfl,rfl,dt⟩);have O:=AM dm O;refine gs ?_;refine cj [(5,_),(14,_),(17,_)] [0,0,0] 4 (λu m H' M' L'=>ad=H'/\m=M'/\(119,.bool (true))::u=L') ?_ (λbe=>?_);rintro _ _ _ ⟨rfl,rfl,rfl⟩;refine cT G ?_;refine gs ?_;refine Ek [] 3 ?_;exact ef;refine go ?_;cases gv:(decide (av.2=0));refine gj ?_;exact kx [0,0,0] 4 (be _ _ _ ⟨G,G,G⟩);refine go ?_;refine pN G G Uw G G (gj ?_);exact kx [0,0,0] 4 (be _ _ _ ⟨G,G,G⟩);have O:=AN dn O;refine gs ?_;refine cj [(5,_),(14,_),(17,_)] [0,0,0,0] 4 (λu m H' M' L'=>ad=H'/\m=M'/\(119,.bool (!decide (av.2=0)))::u=L') ?_ (λbf=>?_);rintro _ _ _ ⟨rfl,rfl,rfl⟩
 refine cd O G (λdu O=>?_) (λdu O=>?_);refine gs ?_;refine Ek [] 4 ?_;exact ef;refine g2 ?_;refine Wp [2,2] ?_;obtain ⟨dv,dw,O⟩:=aR O;refine ca @pO dw ?_;rintro _ _ _ ⟨rfl,gw,gx,rfl,rfl,bg⟩;have bg:=bg ad;refine go ?_;refine qK (.head _) (λaw=>?_);obtain ⟨bh,dx,dy,O⟩:=cO O;refine cl [(5,_),(17,_),(121,_),(122,_)] [0,3] 3 [3,0,2] 2 (λu m n H' M' L'=>∃ (Y:Nat) (ae:List aE),∃ af:aT,∃ J:d_,(dv).drop Y=ae/\ae.length=n/\bh Y ae af=some r/\cR H' J af/\ad.le H'/\kH (aV dp dq ds J af)::m=M'/\(123,.int .i64 ((Y:Int)))::u=L') _ G ⟨0,_,_,_,G,G,O,dt,lE,G,G⟩ ?_;rintro _ a0 _ _ ⟨Y,ae,af,J,bi,rfl,O,bj,bk,rfl,rfl⟩;refine g2 ?_;refine bC G (λax=>?_) (λax=>?_);obtain ⟨bl,ag,rfl,ay,az⟩:=fI bi ax;have O:=(dx _ _ _ _).symm.trans O;generalize b0:bh (Y+1) ag=gy at O;unfold nY at O
 refine g2 ?_;refine al (λgz=>?_);refine wt 0 ?_;refine gs ?_;cases bm:(decide (bl.Kind=(⟨#[115,104,101,100]⟩)));have O:=dY bm O;refine go ?_;cases bn:(decide (bl.Kind=(⟨#[112,114,111,111,102]⟩)));have O:=dY bn O;refine go ?_;refine Wp [1] ?_;obtain ⟨h8,e0,O⟩:=aR O;refine ca @sQ e0 ?_;rintro _ h9 _ ⟨ha,pg385,rfl,rfl,e1⟩;refine go ?_;refine cd O G (λe2 O=>?_) (λe2 O=>?_);refine gs ?_;refine Ek [] 4 ?_;exact ef;refine gt ?_;refine gj ?_;exact kx [0,1,1] 1 (uK (Tq _) ⟨Y+1,ag,_,_,az,G,((VO b0 _).trans O),e1,lE,G,G⟩) G ⟨(R7 (λz=>some (Value.int .i64 z)) (bV ay aw)),G,G,G,G,RM⟩;have O:=dZ bn O;refine go ?_;refine cF G ?_;refine gt ?_;refine gj ?_;exact kx [1,1,1] 1 (uK (Tq _) ⟨Y+1,ag,_,_,az,G,((VO b0 _).trans O),bj,bk,G,G⟩) G ⟨(R7 (λz=>some (Value.int .i64 z)) (bV ay aw)),G,G,G,G,RM⟩
 have O:=dZ bm O;refine go ?_;refine cF G ?_;refine gt ?_;refine gj ?_;exact kx [1,1,1] 1 (uK (Tq _) ⟨Y+1,ag,_,_,az,G,((VO b0 _).trans O),bj,bk,G,G⟩) G ⟨(R7 (λz=>some (Value.int .i64 z)) (bV ay aw)),G,G,G,G,RM⟩;obtain rfl:=fH bi ax;have O:=(dy _ _).symm.trans O;refine gs ?_;obtain ⟨e3,e4,O⟩:=aR O;refine cz @rI e4 ?_;refine go ?_;refine Wp [2] ?_;obtain ⟨e5,e6,O⟩:=aR O;refine cz @rI e6 ?_;refine go ?_;cases bo:(decide (e3=e5));have O:=dY bo O;refine go ?_;refine Ek [] 3 ?_;exact ef;have O:=dZ bo O;refine go ?_;refine Wp [1] ?_;obtain ⟨hb,e7,O⟩:=aR O;refine ca @xe e7 ?_;rintro _ _ _ ⟨rfl,hc,hd,rfl,rfl,bp⟩;have bp:=bp a0;refine go ?_;refine Wp [2] ?_;obtain ⟨he,e8,O⟩:=aR O;refine ca @xe e8 ?_;rintro _ _ _ ⟨rfl,hf,hg,rfl,rfl,bq⟩;have bq:=bq a0;refine Wp [2] ?_;obtain ⟨e9,ea,O⟩:=aR O;refine cY @ud ea ?_
 rintro _ _ _ ⟨rfl,⟨_,rfl,⟨_,rfl,rfl,rfl⟩⟩⟩;refine go ?_;cases br:(e9);have O:=dY br O;refine go ?_;refine Ek [] 5 ?_;exact ef;have O:=dZ br O;refine go ?_;refine Wp [3] ?_;obtain ⟨hh,ec,O⟩:=aR O;refine ca @lN ec ?_;rintro _ _ _ ⟨rfl,hi,hj,hk,hn,rfl,rfl,bs,bt⟩;have bs:=bs a0;have bt:=bt a0;refine s7 G G TC G isAgg58 G G (go ?_);refine Wp [5] ?_;obtain ⟨ho,ed,O⟩:=aR O;refine ca @lN ed ?_;rintro _ _ _ ⟨rfl,hp,hq,hr,hs,rfl,rfl,bu,bv⟩;have bu:=bu a0;have bv:=bv a0;refine s7 G G TC G isAgg58 G G ?_;refine Wp [4,1] ?_;obtain ⟨ee,eg,O⟩:=aR O;refine cY @pz eg ?_;rintro _ _ _ ⟨rfl,⟨_,rfl,⟨_,rfl,rfl,rfl⟩⟩⟩;refine go ?_;cases bw:(ee);have O:=dY bw O;refine go ?_;refine Ek [] 9 ?_;exact ef;have O:=dZ bw O;refine go ?_;refine Wp [5] ?_;obtain ⟨hu,eh,O⟩:=aR O;refine ca @lN eh ?_;rintro _ _ _ ⟨rfl,hv,hw,hx,hy,rfl,rfl,bz,c0⟩
 have bz:=bz a0;have c0:=c0 a0;refine s7 G G TC G isAgg58 G G (go ?_);refine Wp [6] ?_;obtain ⟨hz,ei,O⟩:=aR O;refine ca @lN ei ?_;rintro _ _ _ ⟨rfl,ia,ib,ic,ie,rfl,rfl,c1,c2⟩;have c1:=c1 a0;have c2:=c2 a0;refine s7 G G TC G isAgg58 G G ?_;refine Wp [3] ?_;obtain ⟨ig,ej,O⟩:=aR O;refine cY @pz ej ?_;rintro _ _ _ ⟨rfl,⟨_,rfl,⟨_,rfl,rfl,rfl⟩⟩⟩;refine go ?_;refine Ek [] 13 ?_;exact ef;refine go ?_;cases c3:(decide (av.2=0));refine gj ?_;exact kx [0,0,0,0] 4 (bf _ _ _ ⟨G,G,G⟩) G ⟨(by exact sb (by first | rfl | simp only [am,ab,ac,au,c3,Oq])),G,G,G,RM⟩
 refine go ?_;refine pN G G Uw G G (gj ?_);exact kx [0,0,0,0] 4 (bf _ _ _ ⟨G,G,G⟩) G ⟨(by exact sb (by first | rfl | simp only [am,ab,ac,au,c3,Oq])),G,G,G,RM⟩
 refine go ?_;refine cz @ot cm ?_;refine go ?_;cases b1:(b3);refine gj ?_;exact kj (ak _ _ _ ⟨G,G,G⟩) ⟨(by exact sb (by first | rfl | simp only [b1,Oq])),G,G,G,G,RM⟩
 refine go ?_;cases c4:(decide (ah.2=0));refine gj ?_;exact kj (ak _ _ _ ⟨G,G,G⟩) ⟨(by exact sb (by first | rfl | simp only [b1,c4,Oq])),G,G,G,G,RM⟩
 refine go ?_;refine pN G G Uw G G (gj ?_);exact kj (ak _ _ _ ⟨G,G,G⟩) ⟨(by exact sb (by first | rfl | simp only [b1,c4,Oq])),G,G,G,G,RM⟩
end Go.Sim
namespace Go.Sim
open Go Go.RowKit Go.ChangeShapes Go.WideShapes Go.ChangeAt
open _root_.Go.IntKind (i64 u64 u32 u8)
class Ok (α:Type) where
 ok:α->Prop
abbrev ok {α:Type}[Ok α] (x:α):Prop:=Ok.ok x
def N3 (n:Int):Prop:=-9223372036854775808<=n/\n<=9223372036854775807
instance:Ok Int:=⟨N3⟩
instance:Ok Bool:=⟨λ_=>True⟩
instance:Ok RI:=⟨λs=>s.size<=maxLen⟩
instance:Ok U8:=⟨λx=>0<=x.n/\x.n<=255⟩
instance:Ok Qd:=⟨λx=>0<=x.n/\x.n<=65535⟩
instance:Ok bR:=⟨λx=>0<=x.n/\x.n<=4294967295⟩
instance:Ok Qe:=⟨λx=>0<=x.n/\x.n<=18446744073709551615⟩
instance:Ok Qb:=⟨λx=>-2147483648<=x.n/\x.n<=2147483647⟩
instance {α:Type}[Ok α]:Ok (List α):=⟨λxs=>xs.length<=maxLen/\∀ x ∈ xs,ok x⟩
theorem wf_i64 {n:Int} (h:(Lit.int .i64 n).wf=true):N3 n:=by
 simp [Lit.wf,IntKind.min,IntKind.max,IntKind.signed,IntKind.bits] at h; exact ⟨by omega,by omega⟩
def pG (P:Program) (T:TypeId) (α:Type) [aF α] [Ok α]:Prop:=
 ∀ (Hd:Type) (enc:TypeId×RJ->Hd) (w:World) (I:Nat) (cs:List RJ) (d:DataW Hd×List MemPlace),
  DataW.trod enc P w 0 (λ_=>true) true I T cs=some d->∃ x:α,aF.E (snap w) cs x/\ok x
section
variable {P:Program}{T:TypeId}
theorem kC (ht:P.underlying T=some (.int .i64)):pG P T Int:=λ_ _ _ _ _ _ h=>by
 obtain ⟨n,rfl,rfl,I⟩:=DataW.trod_int ht h; exact ⟨n,rfl,wf_i64 I⟩
theorem zH (ht:P.underlying T=some .bool):pG P T Bool:=λ_ _ _ _ _ _ h=>by
 obtain ⟨b,rfl,rfl⟩:=DataW.trod_bool ht h; exact ⟨b,rfl,RM⟩
theorem fO (ht:P.underlying T=some .string):pG P T RI:=λ_ _ _ _ _ _ h=>by
 obtain ⟨s,rfl,rfl,hs⟩:=DataW.trod_string ht h; exact ⟨s,rfl,hs⟩
theorem Fo {α:Type}{p:Nat->α->Prop}:∀ n,(∀ i,i<n->∃ x,p i x)->∃ xs:List α,xs.length=n/\∀ i x,xs[i]? = some x->p i x:=by
 intro n
 induction n with
 | zero=>exact λ_=>⟨[],rfl,by simp⟩
 | succ n ih=>
  intro h;obtain ⟨xs,hl,I⟩:=ih λi hi=>h i (by omega)
  obtain ⟨y,J⟩:=h n (by omega)
  refine ⟨xs++[y],by simp [hl],λi x hi=>?_⟩
  rw [TY] at hi
  split at hi
  ·exact I i x hi
  ·have:i-xs.length=0:=by
    have:=(RP.1 hi).1;simp at this; omega
   rw [this] at hi;simp at hi; subst hi
   rw [show i=n from by omega]; exact J
theorem pC {e:TypeId}{α:Type}[aF α] [Ok α] (ht:P.underlying T=some (.slice e)) (hs:P.cellsOf e=aF.sz α) (h0:Nat.blt 0 (aF.sz α)=true) (he:pG P e α):pG P T (List α):=λHd enc w fuel cs d h=>by
 have h0':0<aF.sz α:=by simpa [SY] using h0
 rcases DataW.trod_slice ht h with ⟨rfl,rfl⟩ | ⟨a,len,cap,elems,rest,n,rfl,rfl,rfl,_,hl,O,hel,hE,hR,_⟩
 ·exact ⟨[],⟨_,rfl,.inl ⟨⟨_,rfl⟩,rfl⟩⟩,⟨Nat.zero_le _,λ_ h=>by cases h⟩⟩
 ·by_cases hc:cap=0
  ·subst hc
   obtain rfl:len=0:=by omega
   exact ⟨[],⟨_,rfl,.inl ⟨⟨_,rfl⟩,rfl⟩⟩,⟨Nat.zero_le _,λ_ h=>by cases h⟩⟩
  ·have Z:∀ i,i<cap->∃ J d,w.cells? 0 (a.add (i*P.cellsOf e)) (P.cellsOf e)=some J/\DataW.trod enc P w 0 (λ_=>true) true n e J=some d:=by
    intro i hi;have:∃ d,(w.cells? 0 (a.add (i*P.cellsOf e)) (P.cellsOf e)).bind (DataW.trod enc P w 0 (λ_=>true) true n e)=some d:=by
     by_cases hil:i<len
     ·exact ⟨elems[i]'(by omega),by rw [hE i hil]; exact RK _⟩
     ·have:=(hR rfl).2 (i-len) (by omega)
      rw [show len+(i-len)=i from by omega] at this
      exact ⟨rest[i-len]'(by have:=(hR rfl).1; omega),by rw [this]; exact RK _⟩
    obtain ⟨d,hd⟩:=this;obtain ⟨J,h1,h2⟩:=VZ.1 hd;exact ⟨J,d,h1,h2⟩
   have Y:∀ i,i<cap->∀ j,j<aF.sz α->∃ c,w.cell? ((a.add (i*aF.sz α)).add j)=some c:=by
    intro i hi j hj;obtain ⟨J,d,h1,_⟩:=Z i hi;rw [hs] at h1;obtain ⟨_,h2,h3⟩:=World.cells?_some h1;exact ⟨J[j]'(by omega),by rw [h3 j hj]; exact RK _⟩
   obtain ⟨ab,ao,asp⟩:=a;have hb:asp=none/\∃ arr T fz,w.heap[ab]? = some (.cells arr T fz):=by
    obtain ⟨c,I⟩:=Y 0 (by omega) 0 h0'
    rw [Tm] at I;simp only [Addr.add,Vz,World.cell?] at I
    split at I
    ·rename_i arr T fz hh
     refine ⟨?_,arr,T,fz,hh⟩
     split at I
     ·cases I
     ·rename_i hn; cases asp <;> simp_all
    ·cases I
   obtain ⟨rfl,arr,T',fz,hh⟩:=hb;have hat:∀ i,i<cap->∀ j,j<aF.sz α->w.cell? (((⟨ab,ao,none⟩:Addr).add (i*aF.sz α)).add j)=arr[ao+i*aF.sz α+j]? := by
    intro i hi j hj;rw [SU,SU];simp [World.cell?,hh]
   have hsz:ao+cap*aF.sz α<=arr.size:=by
    obtain ⟨c,I⟩:=Y (cap-1) (by omega) (aF.sz α-1) (by omega)
    rw [hat (cap-1) (by omega) _ (by omega)] at I
    have:=(Tc.1 I).1;have e1:cap*aF.sz α=(cap-1)*aF.sz α+aF.sz α:=by
     have:cap=(cap-1)+1:=by omega
     rw [this,Sd,Vy]; simp
    omega
   obtain ⟨xs,hxl,hxs⟩:=Fo (p:=λi (x:α)=>ok x/\∃ cs,aF.E (snap w) cs x/\∀ j c,cs[j]? = some c->arr[ao+i*aF.sz α+j]? = some c) len (by
    intro i hi;obtain ⟨J,d,h1,h2⟩:=Z i (by omega)
    obtain ⟨x,hx,hok⟩:=he _ _ _ _ _ _ h2;refine ⟨x,hok,J,hx,λj c hj=>?_⟩;rw [hs] at h1;obtain ⟨_,h3,h4⟩:=World.cells?_some h1;have hjl:=(RP.1 hj).1;rw [<- hat i (by omega) j (by omega),h4 j (by omega),hj])
   subst hxl;refine ⟨xs,⟨_,rfl,.inr ⟨ab,ao,cap,arr,T',fz,rfl,hl,O,hh,hsz,λk x hk=>(hxs k x hk).2⟩⟩,by omega,λx hx=>?_⟩
   obtain ⟨k,hk⟩:=List.mem_iff_getElem?.1 hx;exact (hxs k x hk).1
theorem bP {Hd:Type}{enc:TypeId×RJ->Hd}{w:World}{n:Nat}{cs:List RJ}{fs:Array Field}{xs:List (DataW Hd×List MemPlace)}{α:Type}[aF α] [Ok α]
  (I:xs.length=fs.size) (hf:∀ (i:Nat) (f:Field),fs[i]? = some f->DataW.trod enc P w 0 (λ_=>true) true n f.type ((cs.drop f.offset).take (P.cellsOf f.type))=xs[i]?)
  (i:Nat) {f:Field}{o:Nat} (hi:fs[i]? = some f) (ho:f.offset=o) (hn:P.cellsOf f.type=aF.sz α) (ht:pG P f.type α):∃ x:α,aF.E (snap w) ((cs.drop o).take (aF.sz α)) x/\ok x:=by
 have h:=hf i f hi;have J:i<xs.length:=by rw [I]; exact (Tc.1 hi).1
 rw [RK J] at h;obtain ⟨x,Z,Y⟩:=ht _ _ _ _ _ _ h;subst ho;rw [hn] at Z;exact ⟨x,Z,Y⟩
theorem piece {cs r s:List RJ}{o n m:Nat} (h:(cs.drop o).take n=r) (O:o+n=m) (k:cs.drop m=s):cs.drop o=r++s:=by
 subst O;rw [<- h,<- k,<- TA,Te]
theorem qY {cs:List RJ}{n m:Nat} (h:cs.length=n) (O:n=m):cs.drop m=[]:=by subst O; rw [<- h]; exact UB
end
section
variable {Hd:Type}{enc:TypeId×RJ->Hd}{P:Program}{W:World}{T:TypeId}{v:RJ}{d:DataW Hd}{p:List MemPlace}{base:Nat}
theorem Fi {α:Type}[aF α] [Ok α] (ht:pG P T α) (h:DataW.Trod enc P W 0 (λ_=>true) true T v d p):∃ x:α,aF.E (snap W) v.cells.toList x/\ok x:=by
 obtain ⟨n,h⟩:=h; exact ht _ _ _ _ _ _ h
theorem IM {e:TypeId}{α:Type}[aF α] [Ok α] (Z:P.underlying T=some (.slice e)) (ht:pG P T (List α)) (hv:Value.okWide P W .any base T v) (h:DataW.Trod enc P W 0 (λ_=>true) true T v d p):
  ∃ x:List α,aP (snap W) v x/\ok x:=by
 obtain ⟨a,l,c,rfl⟩:=okWide_slice Z hv;obtain ⟨x,⟨u,J,Y⟩,I⟩:=Fi ht h;simp [Value.cells] at J; subst J; exact ⟨x,Y,I⟩
theorem Gy {fs:Array Field}{α:Type}[aF α] [Ok α] (J:P.underlying T=some (.struct fs)) (ht:pG P T α) (Y:Value.okWide P W .any base T v) (h:DataW.Trod enc P W 0 (λ_=>true) true T v d p):
  ∃ (x:α) (cs:List RJ),v=.agg cs.toArray/\aF.E (snap W) cs x/\ok x:=by
 obtain ⟨cs,rfl,_⟩:=okWide_struct J Y;obtain ⟨x,Z,I⟩:=Fi ht h;exact ⟨x,cs.toList,by simp,Z,I⟩
end
theorem zl {Hd:Type}{enc:TypeId×RJ->Hd}{P:Program} (hl:laidOutB P=true) {W W':World} (hb:Below W.heap.size W W'):∀ {I:List TypeId}{vs:List RJ}{J:List (DataW Hd)}{Z:List MemPlace},
  (I.all λt=>P.readableRec t && Nat.blt t P.types.size)=true->DataW.TrodAll enc P W 0 (λ_=>true) true I vs J Z->DataW.TrodAll enc P W' 0 (λb=>decide (b<W.heap.size)) true I vs J Z
 | [],[],[],_,_,h=>h
 | t::I,v::vs,d::J,Z,ht,h=>by
  obtain ⟨p,q,h1,h2,rfl⟩:=h;simp only [List.all_cons,Tp,SY] at ht;have Y:∀ x ∈ p,x.block<W.heap.size:=by obtain ⟨m,O⟩:=h1; exact DataW.trod_lt m _ _ _ O
  exact ⟨p,q,Below.trod hl ht.1.1 ht.1.2 h1 hb Y,zl hl hb ht.2 h2,rfl⟩
 | [],_::_,_,_,_,h=>absurd h (by simp [DataW.TrodAll])
 | [],[],_::_,_,_,h=>absurd h (by simp [DataW.TrodAll])
 | _::_,[],_,_,_,h=>absurd h (by simp [DataW.TrodAll])
 | _::_,_::_,[],_,_,h=>absurd h (by simp [DataW.TrodAll])
theorem yI {Hd:Type}{enc:TypeId×RJ->Hd}{P:Program}{W:World}{base:Nat}{I:Nat->Bool}{held:Bool}:∀ {Y:List TypeId}{vs:List RJ}{J:List (DataW Hd)}{Z:List MemPlace},
  DataW.TrodAll enc P W base I held Y vs J Z->J.length=Y.length
 | [],[],[],_,_=>rfl
 | t::Y,v::vs,d::J,Z,h=>by
  obtain ⟨p,q,h1,h2,rfl⟩:=h;simp [yI h2]
 | [],_::_,_,_,h=>absurd h (by simp [DataW.TrodAll])
 | [],[],_::_,_,h=>absurd h (by simp [DataW.TrodAll])
 | _::_,[],_,_,h=>absurd h (by simp [DataW.TrodAll])
 | _::_,_::_,[],_,h=>absurd h (by simp [DataW.TrodAll])
theorem KW {Hd:Type}{enc:TypeId×RJ->Hd}{P:Program}{Y:Func}{s:ChangeSpec}{W W':World}{args:Array RJ}{J gs:List (DataW Hd)}{I:List MemPlace}{tb:TypeId}
  (hl:laidOutB P=true) (hs:s.vars=[]) (hr:Y.resultTypes=#[tb]) (hb:P.underlying tb=some .bool) (hp:(Y.params.toList.all λt=>P.readableRec t && Nat.blt t P.types.size)=true)
  (hW:DataW.Whole enc P Y.params.toList s.vars false W args.toList J gs I)
  (hfn:J.length=Y.params.toList.length->s.fn Hd (J++[])={ results:=[.lit (.bool true)],args:=J })
  (Z:Below W.heap.size W W'):s.post enc P Y false true false false W args (.bool true) W':=by
 have hW':=hW;obtain ⟨p,q,hA,hV,rfl,hfz,hnd⟩:=hW;rw [hs] at hV;obtain ⟨rfl,rfl⟩:=trodVars_none hV;have hlen:J.length=Y.params.toList.length:=by
  exact yI hA
 have e:=hfn hlen;have hA':=zl hl Z hp hA;refine ⟨J,[],_,[],p,[],hW',?_,?_,?_,Z.frame _,λh=>by cases h⟩
 ·rw [hr,e]; exact trodAll_mk1 (shut_bool hb _)
 ·rw [e]; exact hA'
 ·rw [hs,e]; rfl
end Go.Sim
