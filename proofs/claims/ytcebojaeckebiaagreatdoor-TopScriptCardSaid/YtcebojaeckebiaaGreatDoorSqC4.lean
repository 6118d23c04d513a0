/-
  The proof, part C4.
-/
import Derived.ProofKit
import Derived.Test.YtcebojaeckebiaaGreatDoorSqC3
set_option linter.unusedVariables false
set_option linter.unusedSimpArgs false
set_option linter.unusedSectionVars false
set_option linter.unnecessarySimpa false
namespace Go.Sim
open Go Go.Proofs.Tryz
open _root_.Go.IntKind (i64 u64 u32 u8)
set_option maxRecDepth 100000
set_option maxHeartbeats 4000000
variable {B:Nat}{w0 w:World}[wg B w0] {H:Hp}{M:List bQ}
theorem vQ {a1:aV}{r:Int} (hm:kB a1=some r):
  Cq B w0 25 [.agg [.string (a1.iB),.string (a1.Name),.int .i64 (a1.N)].toArray] H M (yQ r):=by
 unfold kB at hm;refine fF func25 ?_;refine gs ?_;refine bx (λai=>?_);refine gs ?_;obtain ⟨a0,Y,hm⟩:=aT hm;refine cz @tC Y ?_;refine go ?_;refine al (λaj=>?_);refine wt 0 ?_;refine g2 ?_;refine cd hm G (λa3 hm=>?_) (λa3 hm=>?_);refine gs ?_;refine Ek [] 2 ?_;exact ef;refine gs ?_;cases a2:(a0.1.name);have hm:=eF a2 hm;refine go ?_;refine cF G ?_;refine cj [(1,_),(3,_)] [] 0 (wc H 23 ((!decide (a1.Name=(⟨#[]⟩))) || ((!a0.1.n) && (!decide (a1.N=0))))) ?_ (λI=>?_);rintro _ _ _ ⟨rfl,rfl,rfl⟩;refine cd hm G (λad hm=>?_) (λad hm=>?_);refine gs ?_;refine Ek [] 2 ?_;exact ef;refine cj [] [] 2 (wc H 42 (a0.1.n && ((decide (a1.N<a0.1.fG)) || (decide (a0.1.dK<a1.N))))) ?_ (λJ=>?_);rintro _ _ _ ⟨rfl,rfl,rfl⟩;refine cd hm G (λZ hm=>?_) (λZ hm=>?_);refine gs ?_;exact ef;refine gs ?_;exact ef;refine go ?_;cases ak:(a0.1.n);refine gj ?_
 exact kx [] 2 (J _ _ _ pk) G kS;refine go ?_;cases am:(decide (a1.N<a0.1.fG));refine gj ?_;exact kx [] 2 (J _ _ _ pk) G kS;refine gj ?_;exact kx [] 2 (J _ _ _ pk) G kS;refine go ?_;cases a5:(decide (a1.Name=(⟨#[]⟩)));refine gj ?_;exact kj (I _ _ _ pk) kS;refine go ?_;cases a6:(a0.1.n);refine gj ?_;exact kx [] 0 (I _ _ _ ⟨G,G,G⟩) (by simp only [a3,a2,a5,a6]; rfl) ⟨(by exact sb (by first | rfl | simp only [a3,a2,a5,a6,Io])),G,G,Q3⟩
 refine gj ?_;exact kx [] 0 (I _ _ _ ⟨G,G,G⟩) (by simp only [a3,a2,a5,a6]; rfl) ⟨(by exact sb (by first | rfl | simp only [a3,a2,a5,a6,Io])),G,G,Q3⟩
 have hm:=eG a2 hm;refine go ?_;obtain ⟨an,af,hm⟩:=aT hm;refine cz @mK af ?_;refine go ?_;refine cd hm G (λa4 hm=>?_) (λa4 hm=>?_);refine gs ?_;refine Ek [] 2 ?_;exact ef;refine cj [(1,_),(3,_)] [] 0 (wc H 23 ((!a0.1.n) && (!decide (a1.N=0)))) ?_ (λab=>?_);rintro _ _ _ ⟨rfl,rfl,rfl⟩;refine cd hm G (λag hm=>?_) (λag hm=>?_);refine gs ?_;refine Ek [] 2 ?_;exact ef;refine cj [] [] 2 (wc H 42 (a0.1.n && ((decide (a1.N<a0.1.fG)) || (decide (a0.1.dK<a1.N))))) ?_ (λO=>?_);rintro _ _ _ ⟨rfl,rfl,rfl⟩;refine cd hm G (λah hm=>?_) (λah hm=>?_);refine gs ?_;exact ef;refine gs ?_;exact ef;refine go ?_;cases ao:(a0.1.n);refine gj ?_;exact kx [] 2 (O _ _ _ pk) G kS;refine go ?_;cases ap:(decide (a1.N<a0.1.fG));refine gj ?_;exact kx [] 2 (O _ _ _ pk) G kS;refine gj ?_;exact kx [] 2 (O _ _ _ pk) G kS;refine go ?_;cases a7:(a0.1.n);refine gj ?_
 exact kx [] 0 (ab _ _ _ ⟨G,G,G⟩) (by simp only [a3,a2,a4,a7]; rfl) ⟨(by exact sb (by first | rfl | simp only [a3,a2,a4,a7,Io])),G,G,Q3⟩
 refine gj ?_;exact kx [] 0 (ab _ _ _ ⟨G,G,G⟩) (by simp only [a3,a2,a4,a7]; rfl) ⟨(by exact sb (by first | rfl | simp only [a3,a2,a4,a7,Io])),G,G,Q3⟩
theorem zK {n:Int} (hn:-9223372036854775808<=n/\n<=9223372036854775807) (ht:St B w0 H M w):
  Calls prog 27 [.int .i64 n].toArray w (uC B w0 (FV (gV n) H M)):=by
 have I:Lib.TabIs prog w "internal/strconv.uint64pow10" .u64 Lib.pow10Tab:=by
  have e:O3=Lib.pow10Tab:=by decide +kernel
  rw [<- e]; exact ht.Qr (wg.t0 (B:=B) (w0:=w0)) P2 (wg.below (w0:=w0) rfl)
 refine (strconv_Itoa n hn.1 hn.2 w I).mono ?_;rintro e J ⟨rfl,k,os,rfl⟩;exact ⟨H,M,ht.under (Lib.below_grow _ w (Rq _) k os),G,G,G⟩
theorem zN {a0:aV}{r:Q1×Int} (hm:qA a0=some r):
  Cq B w0 7 [.agg [.string (a0.iB),.string (a0.Name),.int .i64 (a0.N)].toArray] H M (λH M H' M' v=>H=H'/\M=M'/\.tuple #[.string (r.1),.int .i64 (r.2)]=v):=by
 unfold qA at hm;refine fF func7 ?_;refine gs ?_;refine bx (λag=>?_);refine g2 ?_;obtain ⟨ah,a5,hm⟩:=aT hm;refine cz @vQ a5 ?_;refine gs ?_;refine cd hm G (λa6 hm=>?_) (λa6 hm=>?_);refine gs ?_;refine Ek [] 1 ?_;exact ef;refine gs ?_;obtain ⟨a7,I,hm⟩:=aT hm;refine cz @tC I ?_;refine go ?_;refine al (λai=>?_);refine wt 0 ?_;refine gs ?_;refine cj [(1,_),(5,_)] [] 0 (λu m H' M' L'=>∃ a1:Q1,lX a0 a7 a1=some r/\H=H'/\m=M'/\(7,.string (a1))::u=L') ?_ (λa3=>?_);rintro _ _ _ ⟨a1,hm,rfl,rfl,rfl⟩;unfold lX at hm;refine cj [] [] 2 (λu m H' M' L'=>∃ a2:Q1,pR a2=some r/\H=H'/\m=M'/\(7,.string (a2))::u=L') ?_ (λa4=>?_);rintro _ _ _ ⟨a2,hm,rfl,rfl,rfl⟩;unfold pR at hm;refine gs ?_;exact ef;refine gs ?_;refine cd hm G (λJ hm=>?_) (λJ hm=>?_);refine go ?_;obtain ⟨O,hm⟩:=aI hm;refine fQ call27 G G G (λw ht=>(zK O ht :)) ?_
 rintro _ _ _ ⟨rfl,rfl,rfl⟩;obtain ⟨ab,hm⟩:=aI hm;refine mV G G G G ab ?_;obtain ⟨Y,hm⟩:=aI hm;refine mV G G G G Y (gj ?_);exact kx [] 2 (a4 _ _ _ pk);refine gj ?_;exact kx [] 2 (a4 _ _ _ pk);refine gs ?_;refine cd hm G (λad hm=>?_) (λad hm=>?_);refine go ?_;obtain ⟨Z,hm⟩:=aI hm;refine mV G G G G Z ?_;obtain ⟨af,hm⟩:=aI hm;refine mV G G G G af (gj ?_);exact kj (a3 _ _ _ pk);refine gj ?_;exact kj (a3 _ _ _ pk)
theorem nU {a0 I:Q1}{r:Bool} (hm:eK a0 I=some r):
  Cq B w0 78 [.string (a0),.string (I)] H M (G4 r):=by
 unfold eK at hm;refine fF func78 ?_;refine g2 ?_;refine eH G G Rk G (go ?_);refine eH G G Rk G (go ?_);cases a1:(decide ((I.size:Int)<=(a0.size:Int)));have hm:=eF a1 hm;refine go ?_;exact ef;have hm:=eG a1 hm;refine go ?_;refine eH G G Rk G (go ?_);refine eH G G Rk G (go ?_);obtain ⟨a2,hm⟩:=aI hm;refine mM (l:=(i64.wrap ((a0.size:Int)-(I.size:Int)):Int).toNat) (h:=a0.size) G G Rk G (.inl ⟨G,G⟩) (.inr ⟨_,_,_,G,G,by omega,by omega,G⟩) ?_
 refine go ?_;exact ef
theorem r7 {a0 I r:Q1} (hm:hO a0 I=some r):
  Cq B w0 77 [.string (a0),.string (I)] H M (FV r):=by
 unfold hO at hm;refine fF func77 ?_;refine g2 ?_;refine gs ?_;obtain ⟨a3,a1,hm⟩:=aT hm;refine cz @nU a1 ?_;refine go ?_;refine cd hm G (λa2 hm=>?_) (λa2 hm=>?_);refine gs ?_;refine eH G G Rk G (go ?_);refine eH G G Rk G (go ?_);obtain ⟨a4,hm⟩:=aI hm;refine mM (l:=0) (h:=(i64.wrap ((a0.size:Int)-(I.size:Int)):Int).toNat) G G Rk G (.inr ⟨_,_,_,G,G,by omega,by omega,G⟩) (.inl ⟨G,G⟩) ?_
 refine go ?_;exact ef;refine gs ?_;exact ef
theorem xm {a0 I r:Q1} (hm:my a0 I=some r):
  Cq B w0 40 [.string (a0),.string (I)] H M (FV r):=by
 unfold my at hm;refine fF func40 ?_;refine g2 ?_;obtain ⟨a2,a1,hm⟩:=aT hm;refine cz @r7 a1 ?_;refine go ?_;exact ef
theorem vY {a0 I:Q1}{r:Int} (hm:oC a0 I=some r):
  Cq B w0 110 [.string (a0),.string (I)] H M (yQ r):=by
 unfold oC at hm;refine fF func110 ?_;refine g2 ?_;obtain ⟨a2,a1,hm⟩:=aT hm;refine cz @px a1 ?_;refine go ?_;exact ef
theorem zW {a3 I:Q1}{r:Int} (hm:qD a3 I=some r):
  Cq B w0 109 [.string (a3),.string (I)] H M (yQ r):=by
 unfold qD at hm;refine fF func109 ?_;refine g2 ?_;refine gs ?_;refine eH G G Rk G (go ?_);refine cd hm G (λa5 hm=>?_) (λa5 hm=>?_);refine gs ?_;cases hm;refine g2 ?_;refine eH G G Rk G (go ?_);refine cd hm G (λa6 hm=>?_) (λa6 hm=>?_);refine gs ?_;obtain ⟨af,a7,J,hm⟩:=aC hm;refine w_ G G Rk G G a7 J (BE (E8 func145 (by kernel_rfl) (by kernel_rfl) (by kernel_rfl) (by kernel_rfl) _ _) G G G (go ?_))
 exact ef;refine gs ?_;obtain ⟨a4,O,Y,hm⟩:=iZ hm;refine cl [(1,_)] [] 0 [] 0 (λu m n H' M' L'=>∃ a0:Q1,∃ a1:Int,a4 n (a0,a1)=some r/\H.le H'/\m=M'/\(0,.string (a0))::(5,.int .i64 (a1))::u=L') eY G ⟨_,_,hm,lE,G,G⟩ ?_;rintro a2 ag _ _ ⟨a0,a1,hm,ah,rfl,rfl⟩
 rcases a2 with _ | a2
 exact nomatch (Y _).symm.trans hm;have hm:=(O _ _).symm.trans hm;generalize ab:a4 a2=ai at hm
 try dsimp only at hm
 unfold vz at hm;refine gs ?_;obtain ⟨Z,ad,hm⟩:=aT hm;refine cz @vY ad ?_;refine g2 ?_;refine cd hm G (λae hm=>?_) (λae hm=>?_);refine gs ?_;exact ef;refine gs ?_;refine eH G G Rk G (go ?_);obtain ⟨aj,hm⟩:=aI hm;refine mM (l:=(i64.wrap (Z+(I.size:Int)):Int).toNat) (h:=a0.size) G G Rk G (.inl ⟨G,G⟩) (.inr ⟨_,_,_,G,G,by omega,by omega,G⟩) ?_
 refine gj ?_;exact kj (CX ab)
theorem ym {a6 J:Q1}{I ad:Int}{r:(List Q1)} (hm:qk a6 J I ad=some r):
  Cq B w0 76 [.string (a6),.string (J),.int .i64 (I),.int .i64 (ad)] H M (PC r):=by
 unfold qk at hm;refine fF func76 ?_;refine g2 ?_;refine gs ?_;refine cd hm G (λai hm=>?_) (λai hm=>?_);refine bI (aL (aJ G G G (aZ (aQ ?_))));refine gj ?_;refine bW 9 (aG.sz Q1) ?_;exact ef;refine g2 ?_;refine cd hm G (λaj hm=>?_) (λaj hm=>?_);refine gs ?_;cases hm;refine go ?_;refine cj [(0,_),(1,_),(2,_)] [] 0 (Lx (lU a6 J I) r H 3) ?_ (λae=>?_);rintro _ _ _ ⟨a7,hm,rfl,rfl,rfl⟩;unfold lU at hm;refine gs ?_;refine eH G G Rk G (go ?_);refine EU G G G G (gs ?_);obtain ⟨af,hm⟩:=aI hm;refine eT (α:=Q1) (zs:=[.string (⟨#[]⟩)]) (ze:=(⟨#[]⟩)) G G Tt ⟨_,G,G,G,G⟩ G G G G G G af.1 af.2 ?_;intro a1 ax ak;refine g2 ?_;refine cj [(9,_)] [] 1 (λu m H' M' L'=>∃ a2:Q1,∃ a3:List Q1,∃ a4:Int,∃ O:List Q2,lT a2 a3 a4=some r/\Rw H' a1 O a3/\H.le H'/\.row a1 9 (aG.sz Q1) a3.length O::m=M'/\(0,.string (a2))::(10,.int .i64 (a4))::u=L') ?_ (λag=>?_)
 rintro ay _ _ ⟨a2,a3,a4,O,hm,az,b0,rfl,rfl⟩;unfold lT at hm;refine gs ?_;obtain ⟨b1,b2,b3,hm⟩:=aC hm;refine go ?_;refine wF 0 0 a2 ?_;intro b4 am b5;refine gs ?_;obtain ⟨b6,hm⟩:=aI hm;refine t_ (α:=Q1) (l:=0) (h:=(i64.wrap (a4+1):Int).toNat) G G R9 S1 G G am (by omega) (by omega) (λm hmm=>(.inr ⟨_,_,_,G,G,by omega,by omega,G⟩)) (.inl ⟨G,G⟩) ?_
 intro b7 b8 b9;refine go ?_;exact ef;refine go ?_;obtain ⟨ah,an,ao,hm⟩:=iZ hm;refine cl [(1,_),(2,_),(3,_),(9,_)] [] 1 [] 0 (λu m n H' M' L'=>∃ a0:Q1,∃ a5:List Q1,∃ Y:Int,∃ Z:List Q2,ah n (a0,a5,Y)=some r/\Rw H' a1 Z a5/\H.le H'/\.row a1 9 (aG.sz Q1) a5.length Z::m=M'/\(0,.string (a0))::(10,.int .i64 (Y))::u=L') eY G ⟨_,_,_,_,hm,ak,lE,G,G⟩ ?_;rintro ab ba _ _ ⟨a0,a5,Y,Z,hm,bb,bc,rfl,rfl⟩
 rcases ab with _ | ab
 exact nomatch (ao _).symm.trans hm;have hm:=(an _ _).symm.trans hm;generalize ap:ah ab=bd at hm
 try dsimp only at hm
 unfold oa at hm;refine g2 ?_;refine cd hm G (λaq hm=>?_) (λaq hm=>?_);refine gs ?_;obtain ⟨ac,ar,hm⟩:=aT hm;refine cz @vY ar ?_;refine g2 ?_;refine cd hm G (λau hm=>?_) (λau hm=>?_);refine gj ?_;exact kj (ag _ _ _ pk);refine gs ?_;obtain ⟨be,hm⟩:=aI hm;refine mM (l:=0) (h:=(i64.wrap (ac+I):Int).toNat) G G Rk G (.inr ⟨_,_,_,G,G,by omega,by omega,G⟩) (.inl ⟨G,G⟩) ?_
 obtain ⟨bf,bg,bh,hm⟩:=aC hm;refine go ?_;refine wF 0 0 (a0.extract 0 ((i64.wrap (ac+I):Int).toNat)) ?_;intro bi bj bk;refine gs ?_;refine eH G G Rk G (go ?_);obtain ⟨bl,hm⟩:=aI hm;refine mM (l:=(i64.wrap (ac+(J.size:Int)):Int).toNat) (h:=a0.size) G G Rk G (.inl ⟨G,G⟩) (.inr ⟨_,_,_,G,G,by omega,by omega,G⟩) ?_
 refine gt ?_;refine gj ?_;exact kj (CX ap);refine gj ?_;exact kj (ag _ _ _ pk);refine gs ?_;refine cd hm G (λav hm=>?_) (λav hm=>?_);refine go ?_;obtain ⟨bm,aw,hm⟩:=aT hm;refine cz @zW aw ?_;refine gj ?_;exact kj (ae _ _ _ pk);refine gj ?_;exact kj (ae _ _ _ pk)
theorem vZ {a0 I:Q1}{r:(List Q1)} (hm:oD a0 I=some r):
  Cq B w0 39 [.string (a0),.string (I)] H M (PC r):=by
 unfold oD at hm;refine fF func39 ?_;refine g2 ?_;obtain ⟨a3,a2,hm⟩:=aT hm;refine ca @ym a2 ?_;rintro _ _ _ ⟨rfl,a4,a5,rfl,rfl,a1⟩;have a1:=a1 H;refine go ?_;exact ef
theorem xR {a0 I:Q1}{r:Bool} (hm:np a0 I=some r):
  Cq B w0 41 [.string (a0),.string (I)] H M (G4 r):=by
 unfold np at hm;refine fF func41 ?_;refine g2 ?_;obtain ⟨a2,a1,hm⟩:=aT hm;refine cz @nU a1 ?_;refine go ?_;exact ef
theorem JM {s:Q1} (hs:s.size<=281474976710656) (ht:St B w0 H M w):
  Calls prog 79 [.string s].toArray w (uC B w0 λH' M' v=>H=H'/\∃ ev:Q2,M=M'/\.tuple #[.int .i64 (xB s).1,ev]=v/\Jt ev (xB s).2):=by
 unfold xB;obtain ⟨T1,p1,O⟩:=wg.e2 (B:=B) (w0:=w0);obtain ⟨T2,p2,Y⟩:=wg.e3 (B:=B) (w0:=w0);cases h:Lib.atoiAll s.data.toList with
 | ok v=>
  refine (strconv_Atoi_ok s (by omega) v h w).mono ?_
  rintro e J ⟨rfl,Z⟩;refine ⟨H,M,?_,G,.nilIface,G,G,.inl ⟨G,G⟩⟩
  rcases Z with rfl | ⟨t,rfl⟩
  ·exact ht
  ·exact ht.under (Joins.below_bytesWorld _ _ _ _ (Rq _))
 | range=>
  refine (strconv_Atoi_range_var s hs h T2 p2 w ((ht.var? Ql (wg.below (w0:=w0) G)).trans Y)).mono ?_;rintro e J ⟨N,rfl,_,_,I⟩;exact ⟨H,M,ht.under I,G,_,G,G,.inr ⟨G,_,_,G⟩⟩
 | _=>
  refine (strconv_Atoi_syntax_var s hs h T1 p1 w ((ht.var? Qk (wg.below (w0:=w0) G)).trans O)).mono ?_;rintro e J ⟨N,rfl,_,_,I⟩;exact ⟨H,M,ht.under I,G,_,G,G,.inr ⟨G,_,_,G⟩⟩
theorem zM {Z:Q1}{r:aV×Int} (hm:qz Z=some r):
  Cq B w0 42 [.string (Z)] H M (λH M H' M' v=>H=H'/\M=M'/\.tuple #[.agg [.string (r.1.iB),.string (r.1.Name),.int .i64 (r.1.N)].toArray,.int .i64 (r.2)]=v):=by
 unfold qz at hm;refine fF func42 ?_;refine qs ?_;refine al (λbd=>?_);refine qs ?_;refine cU (css:=[]) (zs:=[.string (⟨#[]⟩),.string (⟨#[]⟩),.int .i64 (0)]) (out:=[.string (⟨#[]⟩),.string (⟨#[]⟩),.int .i64 (0)]) (places:=[(0,1),(1,1),(2,1)]) G G G Q3 zeroValue41 G runUnderlying41 (λw=>by kernel_rfl) G ?_
 refine al (λbe=>?_);refine wt 0 ?_;refine q2 ?_;refine eH G G Rk G (qg ?_);refine cd hm G (λap hm=>?_) (λap hm=>?_);refine qs ?_;refine wt 1 ?_;refine qg ?_;obtain rfl:=Q8 hm;exact vM lE G (eM.agg G isAgg41 sizeOf41 (.head _) G) (eM.tmp G) (.cons _ (.cons _ (.refl _))) (.refl _) ⟨G,G,G⟩;refine qs ?_;obtain ⟨a5,aq,hm⟩:=aT hm;refine ca @vZ aq ?_;rintro _ _ _ ⟨rfl,ar,bf,rfl,rfl,a0⟩;have a0:=a0 H;refine qs ?_;obtain ⟨bg,bh,aa,hm⟩:=aC hm;refine te aa ?_;obtain ⟨_,rfl,au⟩:=(a0).elem aa;refine xH au ?_;obtain ⟨a3,av,hm⟩:=aT hm;refine cz @tC av ?_;refine qg ?_;refine al (λbi=>?_);refine wt 0 ?_;refine qs ?_;refine cj [(2,_),(4,_),(5,_),(6,_),(7,_)] [] 0 (Lx (jA a5 a3) r H 8) ?_ (λab=>?_);rintro _ _ _ ⟨a7,hm,rfl,rfl,rfl⟩;unfold jA at hm;refine cj [(2,_),(4,_),(5,_),(6,_),(7,_)] [] 0 (Lx (i_ a5 a3) r H 8) ?_ (λac=>?_)
 rintro _ _ _ ⟨a1,hm,rfl,rfl,rfl⟩;unfold i_ at hm;refine qs ?_;refine cj [(2,_),(4,_),(5,_),(6,_),(8,_)] [] 0 (wc H 42 ((!a3.2) || (!decide ((a5.length:Int)=a1)))) ?_ (λad=>?_);rintro _ _ _ ⟨rfl,rfl,rfl⟩;refine cd hm G (λaw hm=>?_) (λaw hm=>?_);refine qs ?_;refine wt 3 ?_;refine qg ?_;obtain rfl:=Q8 hm;exact vM lE G (eM.agg G isAgg41 sizeOf41 (.head _) G) (eM.tmp G) (.cons _ (.cons _ (.cons _ (.cons _ (.refl _))))) (.refl _) ⟨G,G,G⟩;refine qs ?_;obtain ⟨a2,bj,ae,hm⟩:=aC hm;refine te ae ?_;obtain ⟨_,rfl,ax⟩:=(a0).elem ae;refine xH ax ?_;refine cU (css:=[[.string (a2)]]) (zs:=[.string (⟨#[]⟩),.string (⟨#[]⟩),.int .i64 (0)]) (out:=[.string (a2),.string (⟨#[]⟩),.int .i64 (0)]) (places:=[(0,1),(1,1),(2,1)]) G G G ⟨G,Q3⟩ zeroValue41 G runUnderlying41 (λw=>by kernel_rfl) G ?_
 refine al (λaf=>?_);refine wt 0 ?_;refine qg ?_;refine cj [(2,_),(4,_),(5,_),(6,_),(8,_),(9,_)] [1,1,1,1] 1 (λu m H' M' L'=>∃ a4:Q1,lW a5 a3 a1 a2 a4=some r/\H=H'/\.obj af (.cells ([.string (a2),.string (a4),.int .i64 (0)]:List Q2).toArray 41 (0,0))::m=M'/\u=L') ?_ (λag=>?_);rintro _ _ _ ⟨a4,hm,rfl,rfl,rfl⟩;unfold lW at hm;refine cj [(2,_),(4,_),(9,_)] [3,3] 3 (λu m H' M' L'=>∃ Y:Int,lV a2 a4 Y=some r/\H.le H'/\.obj af (.cells ([.string (a2),.string (a4),.int .i64 (Y)]:List Q2).toArray 41 (0,0))::m=M'/\u=L') ?_ (λah=>?_);rintro bk _ _ ⟨Y,hm,ai,rfl,rfl⟩;unfold lV at hm;refine q2 ?_;obtain ⟨bl,ay,hm⟩:=aT hm;refine cz @vQ ay ?_;refine qs ?_;refine cd hm G (λaz hm=>?_) (λaz hm=>?_);refine qs ?_;refine wt 2 ?_;refine qg ?_;obtain rfl:=Q8 hm;exact vM ai G (eM.agg G isAgg41 sizeOf41 (.head _) G) (eM.tmp G) (.cons _ (.cons _ (.cons _ (.refl _)))) (.refl _) ⟨G,G,G⟩
 refine qs ?_;refine wt 2 ?_;refine qg ?_;obtain rfl:=Q8 hm;exact vM ai G (eM.agg G isAgg41 sizeOf41 (.head _) G) (eM.tmp G) (.cons _ (.cons _ (.cons _ (.refl _)))) (.refl _) ⟨G,G,G⟩;refine qs ?_;refine cd hm G (λb0 hm=>?_) (λb0 hm=>?_);refine qs ?_;obtain ⟨aj,bm,ak,hm⟩:=aC hm;refine te ak ?_;obtain ⟨_,rfl,b1⟩:=(a0).elem ak;refine xH b1 ?_;obtain ⟨b2,hm⟩:=aI hm;refine fQ call79 G G G (λw ht=>(JM b2 ht :)) ?_;rintro _ _ _ ⟨rfl,bn,rfl,rfl,am⟩;refine q2 ?_;cases a6:((xB aj).2);have hm:=eF a6 hm;obtain ⟨b3,hm⟩:=aI hm;obtain ⟨b4,bo,an,hm⟩:=aC hm;obtain ⟨_,rfl,b5⟩:=(a0).elem an;refine oZ fm 10 [ph _,ph (.bool (false)),ph _,ph _,ph (.string (gV ((xB aj).1))),ph _,ph _,ph _,ph (.pointer (some ((Value.base (ar)).add ((i64.wrap (a1-1):Int).toNat*aG.sz Q1)))),ph (.string (b4))] ⟨qm,?_,qm,qm,?_,qm,qm,qm,?_,?_,Q3⟩ ?_
 rintro J O X Rest hR _ _ ⟨rfl,rfl⟩ hU I;refine DJ runUnderlying158 am G G G ?_;exact o0 ⟨G,(by first | rfl | (rw [a6]; try rfl))⟩
 intro J O X Rest hR;refine dr ?_;intro hU I;refine fQ call27 G G G (λw ht=>(zK b3 ht :)) ?_;rintro _ _ _ ⟨rfl,rfl,rfl⟩;exact o0 ⟨G,G⟩;intro J O X Rest hR;refine dr ?_;intro hU I;refine te an ?_;exact o0 ⟨G,G⟩;rintro J O X Rest hR _ _ ⟨rfl,rfl⟩ _ _ ⟨rfl,rfl⟩ hU I;refine xH b5 ?_;exact o0 ⟨G,G⟩;intro bp b6;refine dz ?_;refine qg ?_;refine cd hm G (λb7 hm=>?_) (λb7 hm=>?_);refine qs ?_;refine wt 4 ?_;refine qg ?_;obtain rfl:=Q8 hm;exact vM b6 G (eM.agg G isAgg41 sizeOf41 (.head _) G) (eM.tmp G) (.cons _ (.cons _ (.cons _ (.cons _ (.cons _ (.refl _)))))) (.refl _) ⟨G,G,G⟩;refine qg ?_;refine wt 0 ?_;refine qj ?_;exact kx [0,2,2] 2 (ah _ _ _ pk);have hm:=eG a6 hm;refine oZ fm 10 [ph _,ph (.bool (true)),ph _,ph _,ph _,ph _,ph _,ph _,ph _,ph _] ⟨qm,?_,qm,qm,qm,qm,qm,qm,qm,qm,Q3⟩ ?_;rintro J O X Rest hR _ _ ⟨rfl,rfl⟩ hU I
 refine DJ runUnderlying158 am G G G ?_;exact o0 ⟨G,(by first | rfl | (rw [a6]; try rfl))⟩
 intro bq b8;refine dz ?_;refine qg ?_;refine cT G ?_;refine qs ?_;refine wt 4 ?_;refine qg ?_;obtain rfl:=Q8 hm;exact vM b8 G (eM.agg G isAgg41 sizeOf41 (.head _) G) (eM.tmp G) (.cons _ (.cons _ (.cons _ (.cons _ (.cons _ (.refl _)))))) (.refl _) ⟨G,G,G⟩;refine qj ?_;exact kx [0,2,2] 2 (ah _ _ _ pk);refine qs ?_;refine cd hm G (λb9 hm=>?_) (λb9 hm=>?_);refine qg ?_;obtain ⟨br,bs,ao,hm⟩:=aC hm;refine te ao ?_;obtain ⟨_,rfl,ba⟩:=(a0).elem ao;refine xH ba ?_;refine qg ?_;refine wt 0 ?_;refine qj ?_;exact kj (ag _ _ _ pk);refine qj ?_;exact kj (ag _ _ _ pk);refine qg ?_;cases bt:(a3.2);refine qj ?_;exact kj (ad _ _ _ pk) kS;refine qj ?_;exact kj (ad _ _ _ pk) kS;refine qs ?_;refine cd hm G (λbb hm=>?_) (λbb hm=>?_);refine qj ?_;exact kj (ac _ _ _ pk);refine qj ?_;exact kj (ac _ _ _ pk);refine qs ?_;refine cd hm G (λbc hm=>?_) (λbc hm=>?_)
 refine qj ?_;exact kj (ab _ _ _ pk);refine qj ?_;exact kj (ab _ _ _ pk)
theorem zf {J:Q1}{time:Int}{r:(List aE)×Int×Int} (hm:pw J time=some r):
  Cq B w0 9 [.string (J),.int .i64 (time)] H M (λH M H' M' v=>H=H'/\∃ O:Q2,∃ I:List Q2,.row O 46 (aG.sz aE) r.1.length I::M=M'/\.tuple #[O,.int .i64 (r.2.1),.int .i64 (r.2.2)]=v/\uq O I r.1):=by
 unfold pw at hm;refine fF func9 ?_;refine g2 ?_;refine gs ?_;refine eH G G Rk G (go ?_);refine cd hm G (λah hm=>?_) (λah hm=>?_);refine bI (aL (aJ G G G (aJ G G G (aJ G G G (aZ (aQ ?_))))));refine gj ?_;refine bW 46 (aG.sz aE) ?_;exact ef;refine cj [(0,_),(1,_)] [] 0 (wc H 17 ((decide (time<0)) || (decide (200000<time)))) ?_ (λad=>?_);rintro _ _ _ ⟨rfl,rfl,rfl⟩;refine cd hm G (λai hm=>?_) (λai hm=>?_);refine bI (aL (aJ G G G (aJ G G G (aJ G G G (aZ (aQ ?_))))));refine gj ?_;refine bW 46 (aG.sz aE) ?_;exact ef;refine gs ?_;refine cd hm G (λaj hm=>?_) (λaj hm=>?_);refine bI (aL (aJ G G G (aJ G G G (aJ G G G (aZ (aQ ?_))))));refine gj ?_;refine bW 46 (aG.sz aE) ?_;exact ef;refine gs ?_;obtain ⟨bb,ak,hm⟩:=aT hm;refine cz @xm ak ?_;obtain ⟨am,an,hm⟩:=aT hm;refine ca @vZ an ?_;rintro _ _ _ ⟨rfl,bc,bd,rfl,rfl,ae⟩;have ae:=ae H
 refine g2 ?_;obtain ⟨be,ao,hm⟩:=aT hm;refine cz @xR ao ?_;refine go ?_;refine cd hm G (λap hm=>?_) (λap hm=>?_);refine bI (aL (bV G G G (Am (.head _) G G R9 G (u7 G G G G G (aJ G G G (aJ G G G (aJ G G G (aZ (aQ ?_)))))))));refine gj ?_;refine bW 46 (aG.sz aE) ?_;refine Ek [0] 1 ?_;exact ef;refine g2 ?_;refine gs ?_;refine q8 (.head _) (λaq=>?_);refine jP 46 (aG.sz aE) ?_;obtain ⟨af,ar,au,hm⟩:=cR hm;refine cl [(36,_),(37,_)] [1] 1 [] 0 (λu m n H' M' L'=>∃ (a2:Nat) (a4:List Q1),∃ a1:Int,∃ a3:List aE,∃ a5:Q2,∃ Y:List Q2,(am).drop a2=a4/\a4.length=n/\af a2 a4 (a1,a3)=some r/\Rw H' a5 Y a3/\H.le H'/\.row a5 46 (aG.sz aE) a3.length Y::m=M'/\(1,.int .i64 (a1))::(8,a5)::(38,.int .i64 ((a2:Int)))::u=L') _ G ⟨0,_,_,_,_,_,G,G,hm,Rw.nil,lE,G,G⟩ ?_;rintro _ av _ _ ⟨a2,a4,a1,a3,a5,Y,ag,rfl,hm,aw,bf,rfl,rfl⟩
 refine g2 ?_;refine bE G (λZ=>?_) (λZ=>?_);obtain ⟨bg,ax,rfl,ay,az⟩:=fK ag Z;have hm:=(ar _ _ _ _).symm.trans hm;generalize b0:af (a2+1) ax=b1 at hm
 try dsimp only at hm
 unfold rI at hm;refine go ?_;refine cj [(36,_),(37,_),(38,_)] [1] 1 (λu m H' M' L'=>∃ aa:Int,∃ a6:List aE,∃ a7:Q2,∃ ab:List Q2,lx b1 aa a6=some r/\Rw H' a7 ab a6/\av.le H'/\.row a7 46 (aG.sz aE) a6.length ab::m=M'/\(1,.int .i64 (aa))::(8,a7)::u=L') ?_ (λac=>?_);rintro bh _ _ ⟨aa,a6,a7,ab,hm,bi,bj,rfl,rfl⟩;unfold lx at hm;refine gj ?_;exact kj (eb az b0) (kK (cA ay aq));refine g2 ?_;obtain ⟨a0,b2,hm⟩:=aT hm;refine cz @zM b2 ?_;refine go ?_;refine al (λbk=>?_);refine wt 0 ?_;refine g2 ?_;refine cd hm G (λb3 hm=>?_) (λb3 hm=>?_);refine bI (aL (bV G G G (bV G G G (aJ G G G (aJ G G G (aJ G G G (aZ (aQ ?_))))))));refine gj ?_;refine bW 46 (aG.sz aE) ?_;refine Ek [0] 3 ?_;exact ef;refine g2 ?_;refine cd hm G (λb4 hm=>?_) (λb4 hm=>?_);refine gj ?_;exact kx [1,1] 1 (ac _ _ _ pk);refine gs ?_;refine cd hm G (λb5 hm=>?_) (λb5 hm=>?_)
 refine g2 ?_;refine cd hm G (λb6 hm=>?_) (λb6 hm=>?_);refine bI (aL (bV G G G (aJ G G G (aJ G G G (aJ G G G (aZ (aQ ?_)))))));refine gj ?_;refine bW 46 (aG.sz aE) ?_;refine Ek [0] 3 ?_;exact ef;refine gj ?_;exact kx [1,1] 1 (ac _ _ _ pk);refine go ?_;refine cU (css:=[[.int .i64 (a1)],[.string (a0.1.iB)],[.string (a0.1.Name)],[.int .i64 (a0.1.N)]]) (zs:=[.int .i64 (0),.string (⟨#[]⟩),.string (⟨#[]⟩),.int .i64 (0)]) (out:=[.int .i64 (a1),.string (a0.1.iB),.string (a0.1.Name),.int .i64 (a0.1.N)]) (places:=[(0,1),(1,1),(2,1),(3,1)]) G G G ⟨G,G,G,G,Q3⟩ UG G U3 (λw=>by kernel_rfl) G ?_
 refine c_ (α:=aE) (css:=[[.int .i64 (a1),.string (a0.1.iB),.string (a0.1.Name),.int .i64 (a0.1.N)]]) (zs:=[.int .i64 (0),.string (⟨#[]⟩),.string (⟨#[]⟩),.int .i64 (0)]) (out:=[.int .i64 (a1),.string (a0.1.iB),.string (a0.1.Name),.int .i64 (a0.1.N)]) (ys:=[(aE.mk a1 a0.1.iB a0.1.Name a0.1.N)]) G G G ⟨G,Q3⟩ U4 sizeOf46 G UG (by kernel_rfl) G G G G ⟨[.int .i64 (a1),.string (a0.1.iB),.string (a0.1.Name),.int .i64 (a0.1.N)],[],G,G,G⟩ G ?_
 intro bl b7 bm b8 bn b9;have bo:Value.ob b7=([(aE.mk a1 a0.1.iB a0.1.Name a0.1.N)]).length:=by rw [b8]; rfl
 obtain ⟨ba,hm⟩:=aI hm;refine Wp [1] ?_;refine cW (α:=aE) (l:=a3) (ys:=[(aE.mk a1 a0.1.iB a0.1.Name a0.1.N)]) G G underlying47 ⟨_,G,G,G,G⟩ G G G G G aw.mm b9 ba ?_;intro bp bq br;refine gj ?_;exact kx [0,1] 1 (ac _ _ _ pk);obtain rfl:=fJ ag Z;have hm:=(au _ _).symm.trans hm
 try dsimp only at hm
 refine gs ?_;refine Ek [0] 1 ?_;exact ef;refine go ?_;cases bs:(decide (time<0));refine gj ?_;exact kj (ad _ _ _ pk) kS;refine gj ?_;exact kj (ad _ _ _ pk) kS
theorem Ay {a0:aE}{r:Q1} (hm:q_ a0=some r):
  Cq B w0 81 [.agg [.int .i64 (a0.Time),.string (a0.Kind),.string (a0.Name),.int .i64 (a0.Value)].toArray] H M (FV r):=by
 unfold q_ at hm;refine fF func81 ?_;refine gs ?_;refine bx (λZ=>?_);refine gs ?_;obtain ⟨a1,hm⟩:=aI hm;obtain ⟨a2,hm⟩:=aI hm;obtain ⟨a3,hm⟩:=aI hm;obtain ⟨a4,hm⟩:=aI hm;obtain ⟨a5,hm⟩:=aI hm;obtain ⟨a6,hm⟩:=aI hm;obtain ⟨a7,hm⟩:=aI hm;refine oZ fm 15 [ph _,ph _,ph (.string (gV a0.Time)),ph (.string ((gV a0.Time)++(⟨#[32]⟩))),ph _,ph _,ph (.string (((gV a0.Time)++(⟨#[32]⟩))++a0.Kind)),ph (.string ((((gV a0.Time)++(⟨#[32]⟩))++a0.Kind)++(⟨#[32]⟩))),ph _,ph _,ph (.string (((((gV a0.Time)++(⟨#[32]⟩))++a0.Kind)++(⟨#[32]⟩))++a0.Name)),ph (.string ((((((gV a0.Time)++(⟨#[32]⟩))++a0.Kind)++(⟨#[32]⟩))++a0.Name)++(⟨#[32]⟩))),ph _,ph _,ph (.string (gV a0.Value))] ⟨om,om,?_,?_,om,om,?_,?_,om,om,?_,?_,om,om,?_,Q3⟩ ?_;rintro J O X Rest hR _ _ ⟨rfl,rfl⟩ hU I;refine fQ call27 G G G (λw ht=>(zK a1 ht :)) ?_
 rintro _ _ _ ⟨rfl,rfl,rfl⟩;exact o0 ⟨G,G⟩;rintro J O X Rest hR _ _ ⟨rfl,rfl⟩ hU I;refine mV G G G G a2 ?_;exact o0 ⟨G,G⟩;rintro J O X Rest hR _ _ ⟨rfl,rfl⟩ _ _ ⟨rfl,rfl⟩ hU I;refine mV G G G G a3 ?_;exact o0 ⟨G,G⟩;rintro J O X Rest hR _ _ ⟨rfl,rfl⟩ hU I;refine mV G G G G a4 ?_;exact o0 ⟨G,G⟩;rintro J O X Rest hR _ _ ⟨rfl,rfl⟩ _ _ ⟨rfl,rfl⟩ hU I;refine mV G G G G a5 ?_;exact o0 ⟨G,G⟩;rintro J O X Rest hR _ _ ⟨rfl,rfl⟩ hU I;refine mV G G G G a6 ?_;exact o0 ⟨G,G⟩;rintro J O X Rest hR _ _ ⟨rfl,rfl⟩ _ _ ⟨rfl,rfl⟩ hU I;refine fQ call27 G G G (λw ht=>(zK a7 ht :)) ?_;rintro _ _ _ ⟨rfl,rfl,rfl⟩;exact o0 ⟨G,G⟩;intro aa ab;refine dz ?_;obtain ⟨Y,hm⟩:=aI hm;refine mV G G G G Y (go ?_);refine Ek [] 1 ?_;exact ef
theorem zd {a6:Int}{I:Q1}{r:Int} (hm:pq a6 I=some r):
  Cq B w0 80 [.int .u64 (a6),.string (I)] H M (λH M H' M' v=>H=H'/\M=M'/\.int .u64 (r)=v):=by
 unfold pq at hm;refine fF func80 ?_;refine q2 ?_;refine qs ?_;obtain ⟨O,hm⟩:=aI hm;refine mV G G G G O ?_;obtain ⟨Y,hm⟩:=aI hm;refine vK G G Rk UR Vi G Y ?_;intro ai ab aj a1;refine lr a1 ?_;refine qg ?_;obtain ⟨a7,Z,ad,hm⟩:=cR hm;refine cl [(9,_),(10,_)] [] 0 [] 0 (λu m n H' M' L'=>∃ (a0:Nat) (a2:List U8),∃ a3:Int,(iY (I++(⟨#[10]⟩))).drop a0=a2/\a2.length=n/\a7 a0 a2 a3=some r/\ab.le H'/\m=M'/\(0,.int .u64 (a3))::(11,.int .i64 ((a0:Int)))::u=L') _ G ⟨0,_,_,G,G,hm,lE,G,G⟩ ?_;rintro _ ak _ _ ⟨a0,a2,a3,J,rfl,hm,am,rfl,rfl⟩;refine q2 ?_;refine bE G (λa4=>?_) (λa4=>?_);obtain ⟨an,ae,rfl,a5,af⟩:=fK J a4;have hm:=(Z _ _ _ _).symm.trans hm;generalize ag:a7 (a0+1) ae=ao at hm;unfold uE at hm;refine q2 ?_;obtain ⟨_,rfl,ah⟩:=(a1).elem a5;refine A2 a1 a5 ?_
 refine lh ah 0 ?_;refine aJ G G G (aZ (aQ (aL (bV G G G (bV G G G (rp G G Vi runUnderlying50 G (u7 G G G G G (u7 G G G G G (aJ G G G (aZ (mn (aQ ?_))))))))))));refine qj ?_;exact kj (eb af ag) (kK (cA a5 a1.mm.cZ));obtain rfl:=fJ J a4;have hm:=(ad _ _).symm.trans hm;refine qs ?_;exact ef
theorem ve {a0:bG}{b0:Nat}{v0:Q2}{tn:List Q2}{r:Int} (hm:mi a0=some r) (h0:Rw H v0 tn a0.jL):
  Cq B w0 43 [.pointer (some ⟨b0,0,none⟩)] H (.obj b0 (.cells [v0].toArray 125 (0,0))::.row v0 46 (aG.sz aE) a0.jL.length tn::M) (λH _ H' M' v=>H=H'/\.obj b0 (.cells [v0].toArray 125 (0,0))::.row v0 46 (aG.sz aE) a0.jL.length tn::M=M'/\.int .u64 (r)=v):=by
 unfold mi at hm;refine fF func43 ?_;refine g2 ?_;refine g2 ?_;refine q8 (.tail _ (.head _)) (λa7=>?_);obtain ⟨a5,I,J,hm⟩:=cR hm;refine cl [(9,_),(10,_)] [] 0 [] 0 (λu m n H' M' L'=>∃ (a1:Nat) (a2:List aE),∃ a3:Int,(a0.jL).drop a1=a2/\a2.length=n/\a5 a1 a2 a3=some r/\H.le H'/\m=M'/\(3,.int .u64 (a3))::(11,.int .i64 ((a1:Int)))::u=L') _ G ⟨0,_,_,G,G,hm,lE,G,G⟩ ?_;rintro _ ag _ _ ⟨a1,a2,a3,a6,rfl,hm,ah,rfl,rfl⟩;refine g2 ?_;refine bE G (λa4=>?_) (λa4=>?_);obtain ⟨ai,O,rfl,ab,Y⟩:=fK a6 a4;have hm:=(I _ _ _ _).symm.trans hm;generalize ad:a5 (a1+1) O=aj at hm;unfold nt at hm;refine g2 ?_;refine al (λak=>?_);refine wt 0 ?_;refine go ?_;obtain ⟨am,Z,hm⟩:=aT hm;refine cz @Ay Z ?_;obtain ⟨an,af,hm⟩:=aT hm;refine cz @zd af ?_;refine gt ?_;refine gj ?_;exact kx [1,1] 1 (eb Y ad) G (kK (cA ab a7))
 obtain rfl:=fJ a6 a4;have hm:=(J _ _).symm.trans hm;refine gs ?_;exact ef
theorem ug {a0:aP}{b0 b1 J:Nat}{I:dX}{r:Int} (hm:kE a0=some r) (O:cN H I a0):
  Cq B w0 10 [.pointer (some ⟨b0,0,none⟩)] H (jT (aU b0 b1 J I a0)::M) (λH _ H' M' v=>H=H'/\jT (aU b0 b1 J I a0)::M=M'/\.int .u64 (r)=v):=by
 unfold kE at hm;refine fF func10 ?_;obtain ⟨a2,a3,a4,a5,a6,a7,Y,Z,aa,ab,ac,ad,ae,af,ag,ah,ai,aj,ak,am,an,ao⟩:=I;obtain ⟨ap,aq,ar,au,av,aw,ax,ay,az,b3,b4,b5,b6,b7,b8,b9,ba⟩:=id O;refine Cu 8 ?_;refine g2 ?_;refine Wp [6,6] ?_;obtain ⟨bb,a1,hm⟩:=aT hm;refine cz @ve a1 ?_;refine gt ?_;refine gj ?_;refine Ep [2,2,2,2,2,2] ?_;refine yF (aU b0 b1 J ⟨_,_,_,_,_,_,_,_,_,_,_,_,_,_,_,_,_,_,_,_,_,_⟩ a0) ?_;exact ef
theorem vx {a1:Q1}{a0:aP}{O b0 b1 J:Nat}{I:dX}{r:Bool} (hm:me a1 a0=some r) (Y:cN H I a0):
  Cq B w0 44 [.string (a1),.pointer (some ⟨O,0,none⟩)] H (.obj O (.cells ([.pointer (some ⟨b0,0,none⟩)]:List Q2).toArray 35 (0,0))::jT (aU b0 b1 J I a0)::M) (λH _ H' M' v=>H=H'/\.obj O (.cells ([.pointer (some ⟨b0,0,none⟩)]:List Q2).toArray 35 (0,0))::jT (aU b0 b1 J I a0)::M=M'/\.bool (r)=v):=by
 unfold me at hm;refine fF func44 ?_;refine Cp [1] ?_;obtain ⟨a3,a4,a5,a6,a7,Z,a9,aa,ab,ac,ad,ae,af,ag,ah,ai,aj,ak,am,an,ao,ap⟩:=I;obtain ⟨aq,ar,au,av,aw,ax,ay,az,b4,b5,b6,b7,b8,b9,ba,bb,bc⟩:=id Y;refine Cu 8 ?_;refine g2 ?_;refine Wp [1] ?_;obtain ⟨bd,a2,hm⟩:=aT hm;refine cy @cG a2 ?_;rintro _ _ _ ⟨rfl,⟨_,rfl,rfl,rfl⟩⟩;refine gt ?_;refine gj ?_;refine Ep [1] ?_;refine yF (aU b0 b1 J ⟨_,_,_,_,_,_,_,_,_,_,_,_,_,_,_,_,_,_,_,_,_,_⟩ a0) ?_;refine Ek [1] 0 ?_;exact ef
theorem nZ {a3:(List Q1)}{a1:aP}{v0:Q2}{J b0 b1 O:Nat}{I:dX}{r:Int} (hm:fC a3 a1=some r) (h0:aO H v0 a3) (h1:cN H I a1):
  Cq B w0 71 [v0,.func (.func 44) [].toArray [.pointer (some ⟨J,0,none⟩)].toArray] H (.obj J (.cells ([.pointer (some ⟨b0,0,none⟩)]:List Q2).toArray 35 (0,0))::jT (aU b0 b1 O I a1)::M) (λH _ H' M' v=>H=H'/\.obj J (.cells ([.pointer (some ⟨b0,0,none⟩)]:List Q2).toArray 35 (0,0))::jT (aU b0 b1 O I a1)::M=M'/\.int .i64 (r)=v):=by
 unfold fC at hm;refine fF func71 ?_;refine g2 ?_;refine gs ?_;obtain ⟨a5,a7,Y,hm⟩:=iI hm;refine cl [(0,_),(1,_),(7,_)] [] 0 [] 0 (FW (((a3.length:Int):Int).toNat) a5 r H 8) _ G ⟨0,_,Rv _,G,hm,lE,G,G⟩ ?_;rintro _ af _ _ ⟨a0,a2,a6,rfl,hm,ag,rfl,rfl⟩;refine g2 ?_;refine bE G (λa4=>?_) (λa4=>?_);obtain ⟨Z,rfl,aa,ab⟩:=lu a6 a4;have hm:=(a7 _ _ _).symm.trans hm;generalize ac:a5 Z (a0+1)=ah at hm;unfold iV at hm;refine g2 ?_;refine gs ?_;obtain ⟨ai,aj,ak,hm⟩:=aC hm;refine go ?_;obtain ⟨am,ad,hm⟩:=aT hm;refine n7 call44 G G G G (λw ht=>(vx (hm:=ad) h1.mm ht :)) ?_;rintro _ _ _ ⟨rfl,rfl,rfl⟩;refine go ?_;refine cd hm G (λae hm=>?_) (λae hm=>?_);refine gs ?_;exact ef;refine gt ?_;refine gj ?_;exact kj (eb aa ac) (kK (eI ab (eL (kW (h0).cZ))));obtain rfl:=lq a6 a4;have hm:=(Y _ _).symm.trans hm;refine gs ?_
 exact ef
theorem nM {a4:(List Q1)}{I:aP}{v0:Q2}{tn:List Q2}{Z b0 b1 b2:Nat}{O:dX}{r:(List Q1)} (hm:dZ a4 I=some r) (h0:Rw H v0 tn a4) (h1:cN H O I):
  Cq B w0 35 [v0,.func (.func 44) [].toArray [.pointer (some ⟨Z,0,none⟩)].toArray] H (.row v0 9 (aG.sz Q1) a4.length tn::.obj Z (.cells ([.pointer (some ⟨b0,0,none⟩)]:List Q2).toArray 35 (0,0))::jT (aU b0 b1 b2 O I)::M) (λH _ H' M' v=>H=H'/\∃ Y:Q2,∃ J:List Q2,.row Y 9 (aG.sz Q1) r.length J::.obj Z (.cells ([.pointer (some ⟨b0,0,none⟩)]:List Q2).toArray 35 (0,0))::jT (aU b0 b1 b2 O I)::M=M'/\Y=v/\uq Y J r):=by
 unfold dZ at hm;refine fF func35 ?_;refine g2 ?_;obtain ⟨aq,ab,hm⟩:=aT hm;refine cy @nZ ab ?_;rintro _ _ _ ⟨rfl,⟨_,rfl,rfl,rfl⟩⟩;refine g2 ?_;refine cd hm G (λac hm=>?_) (λac hm=>?_);refine gs ?_;exact ef;refine g2 ?_;obtain ⟨a9,ad,ae,hm⟩:=iZ hm;refine cl [(0,_),(1,_)] [1,1] 1 [] 0 (Nk a9 r v0 H 5 6) eY G ⟨_,_,_,_,hm,h0,lE,G,G⟩ ?_;rintro a6 af _ _ ⟨a0,a1,a2,a5,hm,ag,ar,rfl,rfl⟩
 rcases a6 with _ | a6
 exact nomatch (ae _).symm.trans hm;have hm:=(ad _ _).symm.trans hm;generalize ah:a9 a6=ai at hm
 try dsimp only at hm
 unfold iL at hm;refine g2 ?_;refine cd hm G (λaj hm=>?_) (λaj hm=>?_);refine go ?_;refine cj [(0,_),(1,_),(6,_)] [1,1] 1 (Nl (dU a2 ai) r v0 af 5) ?_ (λaa=>?_);rintro _ _ _ ⟨a3,a7,a8,hm,au,rfl,rfl,rfl⟩;unfold dU at hm;refine gj ?_;exact kj (CX ah);refine gs ?_;obtain ⟨ak,av,aw,hm⟩:=aC hm;refine gs ?_;refine Wp [1,1] ?_;obtain ⟨ax,am,hm⟩:=aT hm;refine n7 call44 G G G G (λw ht=>(vx (hm:=am) h1.mm ht :)) ?_;rintro _ _ _ ⟨rfl,rfl,rfl⟩;refine go ?_;refine cd hm G (λan hm=>?_) (λan hm=>?_);refine gs ?_;obtain ⟨ay,az,b4,hm⟩:=aC hm;refine go ?_;refine wF 2 0 ak ?_;intro b5 b6 b7;refine aZ (aQ ?_);refine gj ?_;exact kj (aa _ _ _ pk);refine gj ?_;exact kx [2] 0 (aa _ _ _ pk);refine gs ?_;obtain ⟨ao,hm⟩:=aI hm;refine tZ (α:=Q1) (zs:=[.string (⟨#[]⟩)]) (ze:=(⟨#[]⟩)) G G (λ_=>G) Tt R9 S1 Tc G G G G G G ag ao ?_
 intro b8 b9 ap;refine gs ?_;obtain ⟨ba,hm⟩:=aI hm;refine t_ (α:=Q1) (l:=0) (h:=(a1:Int).toNat) G G R9 S1 G G ap (by omega) (by omega) (λm hmm=>(.inr ⟨_,_,_,G,G,by omega,by omega,G⟩)) (.inl ⟨G,G⟩) ?_
 intro bb bc bd;refine go ?_;exact ef
theorem wR {a0:aP}{b0 b1 Y:Nat}{I:dX}{r:(List Q1)} (hm:pB a0=some r) (h0:cN H I a0):
  Cq B w0 12 [.pointer (some ⟨b0,0,none⟩)] H (jT (aU b0 b1 Y I a0)::M) (λH _ H' M' v=>H=H'/\∃ O:Q2,∃ J:List Q2,.row O 9 (aG.sz Q1) r.length J::jT (aU b0 b1 Y I a0)::M=M'/\O=v/\uq O J r):=by
 unfold pB at hm;refine fF func12 ?_;obtain ⟨a3,a4,a5,a6,a7,Z,ab,ac,ad,ae,af,ag,ah,ai,aj,ak,am,an,ao,ap,aq,ar⟩:=I;obtain ⟨au,av,aw,ax,ay,az,b3,b4,b5,b6,b7,b8,b9,ba,bb,bc,bd⟩:=id h0;refine Cu 8 ?_;refine gs ?_;refine bx (λbe=>?_);refine gs ?_;refine jN (cs:=[a3,a4,a5,a6,a7,Z]) G G UW UF G (r8 (.tail _ (.head _)) G) G ?_;obtain ⟨bf,a9,hm⟩:=aT hm;refine ca @vy a9 ?_;rintro _ _ _ ⟨rfl,bg,bh,rfl,rfl,a1⟩;have a1:=a1 H;refine go ?_;refine Wp [2,2,2,2,2,2,2,2] ?_;refine Wk (aU b0 b1 Y ⟨_,_,_,_,_,_,_,_,_,_,_,_,_,_,_,_,_,_,_,_,_,_⟩ a0) ?_;refine Wp [1,1] ?_;obtain ⟨bi,aa,hm⟩:=aT hm;refine ca @nM aa ?_;rintro _ _ _ ⟨rfl,bj,bk,rfl,rfl,a2⟩;have a2:=a2 H;refine Wp [2] ?_;refine Wu 8 ?_;refine go ?_;refine yF (aU b0 b1 Y ⟨_,_,_,_,_,_,_,_,_,_,_,_,_,_,_,_,_,_,_,_,_,_⟩ a0) ?_
 refine Ek [1,0] 1 ?_;exact ef
theorem tL {a2 a4:(List Q1)}{v0 v1:Q2}{r:Bool} (hm:gZ a2 a4=some r) (h0:aO H v0 a2) (h1:aO H v1 a4):
  Cq B w0 11 [v0,v1] H M (G4 r):=by
 unfold gZ at hm;refine fF func11 ?_;refine g2 ?_;refine gs ?_;refine cd hm G (λa7 hm=>?_) (λa7 hm=>?_);refine gs ?_;exact ef;refine g2 ?_;obtain ⟨a5,I,J,hm⟩:=iI hm;refine cl [(0,_),(1,_),(12,_)] [] 0 [] 0 (FW (((a2.length:Int):Int).toNat) a5 r H 13) _ G ⟨0,_,Rv _,G,hm,lE,G,G⟩ ?_;rintro _ af _ _ ⟨a0,a1,a6,rfl,hm,ag,rfl,rfl⟩;refine g2 ?_;refine bE G (λa3=>?_) (λa3=>?_);obtain ⟨O,rfl,ab,Y⟩:=lu a6 a3;have hm:=(I _ _ _).symm.trans hm;generalize ad:a5 O (a0+1)=ah at hm;unfold lM at hm;refine g2 ?_;refine gs ?_;obtain ⟨ai,aj,ak,hm⟩:=aC hm;obtain ⟨am,an,ao,hm⟩:=aC hm;refine oZ fm 8 [ph _,ph _,ph _,ph _,ph _,ph _,ph _,ph _] ⟨om,om,om,om,om,om,om,om,Q3⟩ ?_;intro ap aq;refine dz ?_;refine go ?_;refine cd hm G (λZ hm=>?_) (λZ hm=>?_);refine gs ?_;exact ef;refine gt ?_;refine gj ?_;exact kj (eb ab ad) (kK (eI Y (eL (kW (h0).cZ))))
 obtain rfl:=lq a6 a3;have hm:=(J _ _).symm.trans hm;refine gs ?_;exact ef
theorem vG {a0:cM}{a2:(List aV)}{v0 v1 v2 v3 v4 v5 v6 v7:Q2}{r:Bool} (hm:iU a0 a2=some r) (h0:aO H v0 a0.bX.bH) (h1:aO H v1 a0.bX.aN) (h2:aO H v2 a0.bX.aK) (h3:aO H v3 a0.bX.dS) (h4:aO H v4 a0.bX.bF) (h5:aO H v5 a0.bX.bY) (h6:aO H v6 a0.pG) (h7:aO H v7 a2):
  Cq B w0 3 [.agg [v0,v1,v2,v3,v4,v5,v6].toArray,v7] H M (G4 r):=by
 unfold iU at hm;refine fF func3 ?_;refine qs ?_;refine bx (λdl=>?_);refine qs ?_;obtain ⟨dm,bm,hm⟩:=aT hm;refine ca @yg bm ?_;rintro _ dn _ ⟨dp,dq,ds,dt,du,dv,dw,dx,rfl,rfl,dy,e0,e1,e2,e3,e4,e5⟩;refine wt 0 ?_;refine qs ?_;obtain ⟨a1,bn,hm⟩:=aT hm;refine ca @uQ bn ?_;rintro _ e6 _ (⟨bo,e7,rfl,rfl⟩ | ⟨e8,bp,e9,ay,az,b0,pg126,rfl,rfl,bq⟩);have hm:=AE bo hm;refine qs ?_;obtain ⟨b1,br,hm⟩:=aT hm;refine ca @uQ br ?_;rintro _ Y _ (⟨bs,ea,rfl,rfl⟩ | ⟨ec,bt,ed,ee,eg,eh,pg141,rfl,rfl,ei⟩);have hm:=AE bs hm;refine qs ?_;obtain ⟨bu,bv,hm⟩:=aT hm;refine cj [(1,_),(5,_),(6,_),(7,_),(8,_)] [] 1 (No Y 45) ?_ (λag=>?_);rintro _ _ _ ⟨rfl,rfl,rfl⟩;refine cT G ?_;obtain ⟨b2,bw,hm⟩:=aT hm;refine cj [] [] 0 (wc Y 4 (b2 && (decide (a1.2=b1.2)))) ?_ (λb3=>?_);rintro _ _ _ ⟨rfl,rfl,rfl⟩;refine qg ?_;exact ef;refine qg ?_
 refine cz @fR bw ?_;refine qg ?_;cases b4:(b2);refine qj ?_;exact kj (b3 _ _ _ ⟨G,G,G⟩) ⟨(by exact sb (by first | rfl | simp only [b4,Io])),Q3⟩
 refine qg ?_;refine oE G G S4 G G (qj ?_);exact kj (b3 _ _ _ ⟨G,G,G⟩) ⟨(by exact sb (by first | rfl | simp only [b4,Io])),Q3⟩
 refine qg ?_;refine cz @fR bv ?_;refine qg ?_;cases ej:(bu);refine qj ?_;exact kx [] 1 (ag _ _ _ ⟨G,G,G⟩);refine qg ?_;cases ek:(decide (a1.2=0));refine qj ?_;exact kx [] 1 (ag _ _ _ ⟨G,G,G⟩);refine qg ?_;refine oE G G S4 G G (qj ?_);exact kx [] 1 (ag _ _ _ ⟨G,G,G⟩);have hm:=AF bt hm;refine qs ?_;obtain ⟨bz,c0,hm⟩:=aT hm;refine cj [(1,_),(5,_),(6,_),(7,_),(8,_)] [0] 1 (No Y 45) ?_ (λah=>?_);rintro _ _ _ ⟨rfl,rfl,rfl⟩;refine cT G ?_;obtain ⟨b5,c1,hm⟩:=aT hm;refine cj [] [] 1 (wc Y 4 (b5 && (decide (a1.2=b1.2)))) ?_ (λb6=>?_);rintro _ _ _ ⟨rfl,rfl,rfl⟩;refine qg ?_;exact ef;refine qg ?_;refine cz @fR c1 ?_;refine qg ?_;cases b7:(b5);refine qj ?_;exact kx [] 1 (b6 _ _ _ ⟨G,G,G⟩) G ⟨(by exact sb (by first | rfl | simp only [b7,Io])),Q3⟩
 refine qg ?_;refine oE G G S4 G G (qj ?_);exact kx [] 1 (b6 _ _ _ ⟨G,G,G⟩) G ⟨(by exact sb (by first | rfl | simp only [b7,Io])),Q3⟩
 refine qg ?_;refine cz @fR c0 ?_;refine qg ?_;cases el:(bz);refine qj ?_;exact kx [0] 1 (ah _ _ _ ⟨G,G,G⟩);refine qg ?_;cases em:(decide (a1.2=0));refine qj ?_;exact kx [0] 1 (ah _ _ _ ⟨G,G,G⟩);refine qg ?_;refine oE G G S4 G G (qj ?_);exact kx [0] 1 (ah _ _ _ ⟨G,G,G⟩);have hm:=AF bp hm;refine qs ?_;obtain ⟨eo,c2,hm⟩:=aT hm;refine ca @uQ c2 ?_;rintro _ a6 _ (⟨c3,ep,rfl,rfl⟩ | ⟨er,c4,es,c5,c6,c7,pg188,rfl,rfl,c8⟩);have hm:=AE c3 hm;refine qs ?_;obtain ⟨c9,cb,hm⟩:=aT hm;refine cj [(1,_),(5,_),(6,_),(7,_),(8,_)] [0] 1 (No a6 45) ?_ (λai=>?_);rintro _ _ _ ⟨rfl,rfl,rfl⟩;refine cT G ?_;obtain ⟨cc,ce,hm⟩:=aT hm;refine cj [] [] 1 (λu m H' M' L'=>a6=H'/\m=M'/\(4,.bool (false))::u=L') ?_ (λb8=>?_);rintro _ _ _ ⟨rfl,rfl,rfl⟩;refine qg ?_;exact ef;refine qg ?_;refine cz @fR ce ?_;refine qg ?_;cases et:(cc);refine qj ?_
 exact kx [] 1 (b8 _ _ _ ⟨G,G,G⟩);refine qg ?_;refine oE G G S4 G G (qj ?_);exact kx [] 1 (b8 _ _ _ ⟨G,G,G⟩);refine qg ?_;refine cz @fR cb ?_;refine qg ?_;cases eu:(c9);refine qj ?_;exact kx [0] 1 (ai _ _ _ ⟨G,G,G⟩);refine qg ?_;cases ev:(decide (a1.2=0));refine qj ?_;exact kx [0] 1 (ai _ _ _ ⟨G,G,G⟩);refine qg ?_;refine oE G G S4 G G (qg ?_);refine oE G G S4 G G (qj ?_);exact kx [0] 1 (ai _ _ _ ⟨G,G,G⟩);have hm:=AF c4 hm;refine qs ?_;obtain ⟨b9,cf,hm⟩:=aT hm;refine cj [(1,_),(5,_),(6,_),(7,_),(8,_)] [0,0] 1 (wc a6 45 ((!b9) || (!decide (a1.2=0)))) ?_ (λaj=>?_);rintro _ _ _ ⟨rfl,rfl,rfl⟩;refine cd hm G (λcg hm=>?_) (λcg hm=>?_);obtain ⟨ch,ci,hm⟩:=aT hm;refine cj [] [] 2 (λu m H' M' L'=>a6=H'/\m=M'/\(4,.bool (false))::u=L') ?_ (λba=>?_);rintro _ _ _ ⟨rfl,rfl,rfl⟩;refine qg ?_
 exact ef;refine qg ?_;refine cz @fR ci ?_;refine qg ?_;cases ew:(ch);refine qj ?_;exact kx [] 2 (ba _ _ _ ⟨G,G,G⟩);refine qg ?_;refine oE G G S4 G G (qj ?_);exact kx [] 2 (ba _ _ _ ⟨G,G,G⟩);refine q2 ?_;refine qs ?_;refine lr h7 ?_;refine EU G G G G ?_;obtain ⟨ex,hm⟩:=aI hm;refine u9 (α:=aV) (l:=0) (h:=(min (a2.length:Int) 7:Int).toNat) (xs:=a2) G G runUnderlying33 sizeOf41 G h7.mm (by omega) (by omega) (.inl G) (λcap hcap=>by rw [Rb G]; exact (.inl ⟨G,G⟩)) (λm hmm=>(.inr ⟨_,_,_,G,G,by omega,by omega,G⟩)) (.inl ⟨G,G⟩) ?_
 intro ey Z ez;refine lr Z ?_;refine qg ?_;obtain ⟨bb,ck,cm,hm⟩:=cR hm;refine cl [(5,_),(7,_),(60,_),(61,_)] [0] 1 [1] 0 (λu m n H' M' L'=>∃ (a3:Nat) (aa:List aV),∃ ak:Q1,∃ a7:Int,∃ ab:aP,∃ I:dX,(sJ a2 0 ((min (a2.length:Int) 7:Int).toNat)).drop a3=aa/\aa.length=n/\bb a3 aa (ak,a7,ab)=some r/\cN H' I ab/\a6.le H'/\jT (aU ay az b0 I ab)::m=M'/\(9,.string (ak))::(10,.int .i64 (a7))::(62,.int .i64 ((a3:Int)))::u=L') _ G ⟨0,_,_,_,_,_,G,G,hm,bq.mm,lE,G,G⟩ ?_;rintro _ am _ _ ⟨a3,aa,ak,a7,ab,I,bc,rfl,hm,an,fa,rfl,rfl⟩;refine q2 ?_;refine bE G (λao=>?_) (λao=>?_);obtain ⟨a4,bd,rfl,ap,cn⟩:=fK bc ao;have hm:=(ck _ _ _ _).symm.trans hm;generalize co:bb (a3+1) bd=cp at hm
 try dsimp only at hm
 unfold jC at hm;refine qg ?_;refine cj [(5,_),(7,_),(60,_),(61,_),(62,_)] [1] 1 (λu m H' M' L'=>∃ aq:Q1,∃ ar:Int,∃ ac:aP,∃ J:dX,e_ cp aq ar ac=some r/\cN H' J ac/\am.le H'/\jT (aU ay az b0 J ac)::m=M'/\(9,.string (aq))::(10,.int .i64 (ar))::u=L') ?_ (λad=>?_);rintro fb _ _ ⟨aq,ar,ac,J,hm,cq,fd,rfl,rfl⟩;unfold e_ at hm;refine qj ?_;exact kj (w8 (S7 _) ⟨a3+1,bd,_,_,_,_,cn,G,((congrFun co _).trans hm),cq,lE,G,G⟩) ⟨G,G,(Rn (λz=>some (Value.int .i64 z)) (cA ap Z.mm.cZ)),G,G,G,G,Q3⟩;refine qs ?_;obtain ⟨_,⟨rfl⟩,cr⟩:=(Z).elem ap;refine A2 Z ap ?_;refine OI cr ?_;refine al (λfe=>?_);refine wt 0 ?_;refine qs ?_;obtain ⟨ff,cs,hm⟩:=aT hm;refine cz @zN cs ?_;refine q2 ?_;refine cd hm G (λct hm=>?_) (λct hm=>?_);refine qj ?_;exact kx [1,1] 1 (ad _ _ _ ⟨_,_,_,_,hm,an,lE,G,G⟩)
 refine qs ?_;obtain ⟨cu,hm⟩:=aI hm;refine mV G G G G cu ?_;obtain ⟨cv,hm⟩:=aI hm;refine mV G G G G cv (q2 ?_);refine cd hm G (λcw hm=>?_) (λcw hm=>?_);refine qj ?_;exact kx [1,1] 1 (ad _ _ _ ⟨_,_,_,_,hm,an,lE,G,G⟩);refine qs ?_;refine cd hm G (λcx hm=>?_) (λcx hm=>?_);refine qj ?_;exact kx [1,1] 1 (ad _ _ _ ⟨_,_,_,_,hm,an,lE,G,G⟩);refine qg ?_;refine cU (css:=[[.int .i64 (a7)],[.string (a4.iB)],[.string (a4.Name)],[.int .i64 (a4.N)]]) (zs:=[.int .i64 (0),.string (⟨#[]⟩),.string (⟨#[]⟩),.int .i64 (0)]) (out:=[.int .i64 (a7),.string (a4.iB),.string (a4.Name),.int .i64 (a4.N)]) (places:=[(0,1),(1,1),(2,1),(3,1)]) G G G ⟨G,G,G,G,Q3⟩ UG G U3 (λw=>by kernel_rfl) G ?_
 refine Wp [1] ?_;obtain ⟨fg,d0,hm⟩:=aT hm;refine ca @sB d0 ?_;rintro _ fh _ ⟨d1,pg374,rfl,rfl,d2⟩;refine qj ?_;exact kx [0,1] 1 (ad _ _ _ ⟨_,_,_,_,hm,d2,d1,G,G⟩);obtain rfl:=fJ bc ao;have hm:=(cm _ _).symm.trans hm
 try dsimp only at hm
 refine qs ?_;obtain ⟨d3,d4,hm⟩:=aT hm;refine ca @zf d4 ?_;rintro _ _ _ ⟨rfl,fi,fj,rfl,rfl,au⟩;have au:=au am;refine q2 ?_;refine cd hm G (λd5 hm=>?_) (λd5 hm=>?_);refine qs ?_;refine Ek [] 3 ?_;exact ef;refine q2 ?_;refine q8 (.head _) (λd6=>?_);obtain ⟨be,d7,d8,hm⟩:=cR hm;refine cl [(5,_),(7,_),(106,_),(107,_)] [0,0] 1 [2] 0 (λu m n H' M' L'=>∃ (a5:Nat) (ae:List aE),∃ af:aP,∃ O:dX,(d3.1).drop a5=ae/\ae.length=n/\be a5 ae af=some r/\cN H' O af/\am.le H'/\jT (aU c5 c6 c7 O af)::m=M'/\(108,.int .i64 ((a5:Int)))::u=L') _ G ⟨0,_,_,_,G,G,hm,c8.mm,lE,G,G⟩ ?_;rintro _ bf _ _ ⟨a5,ae,af,O,bg,rfl,hm,fk,fl,rfl,rfl⟩;refine q2 ?_;refine bE G (λav=>?_) (λav=>?_);obtain ⟨fn,bh,rfl,aw,d9⟩:=fK bg av;have hm:=(d7 _ _ _ _).symm.trans hm;generalize da:be (a5+1) bh=fo at hm
 unfold nQ at hm;refine q2 ?_;refine te aw ?_;obtain ⟨_,rfl,db⟩:=(au).elem aw;refine P6 db ?_;refine al (λfp=>?_);refine wt 0 ?_;refine qg ?_;refine Wp [1] ?_;obtain ⟨fr,dc,hm⟩:=aT hm;refine ca @sB dc ?_;rintro _ fs _ ⟨ft,pg431,rfl,rfl,dd⟩;refine qt ?_;refine qj ?_;exact kx [0,1,1] 1 (w8 (S7 _) ⟨a5+1,bh,_,_,d9,G,((congrFun da _).trans hm),dd,lE,G,G⟩) G ⟨(Rn (λz=>some (Value.int .i64 z)) (cA aw d6)),G,G,G,G,Q3⟩;obtain rfl:=fJ bg av;have hm:=(d8 _ _).symm.trans hm;refine qs ?_;refine Wp [2] ?_;obtain ⟨de,df,hm⟩:=aT hm;refine cz @ug df ?_;refine qg ?_;refine Wp [1] ?_;obtain ⟨dg,dh,hm⟩:=aT hm;refine cz @ug dh ?_;refine qg ?_;cases bi:(decide (de=dg));have hm:=eF bi hm;refine qg ?_;refine Ek [] 3 ?_;exact ef;have hm:=eG bi hm;refine qg ?_;refine Wp [1] ?_;obtain ⟨fu,di,hm⟩:=aT hm;refine ca @wR di ?_;rintro _ _ _ ⟨rfl,fv,fw,rfl,rfl,bj⟩
 have bj:=bj bf;refine qg ?_;refine Wp [2] ?_;obtain ⟨fx,dj,hm⟩:=aT hm;refine ca @wR dj ?_;rintro _ _ _ ⟨rfl,fy,fz,rfl,rfl,bk⟩;have bk:=bk bf;refine Wp [2] ?_;obtain ⟨g0,dk,hm⟩:=aT hm;refine cY @tL dk ?_;rintro _ _ _ ⟨rfl,⟨_,rfl,⟨_,rfl,rfl,rfl⟩⟩⟩;refine qg ?_;refine Ek [] 5 ?_;exact ef;refine qg ?_;refine cz @fR cf ?_;refine qg ?_;cases ax:(b9);refine qj ?_;exact kx [0,0] 1 (aj _ _ _ ⟨G,G,G⟩) G ⟨(by exact sb (by first | rfl | simp only [ax,Io])),G,G,G,G,G,Q3⟩
 refine qg ?_;cases bl:(decide (a1.2=0));refine qj ?_;exact kx [0,0] 1 (aj _ _ _ ⟨G,G,G⟩) G ⟨(by exact sb (by first | rfl | simp only [ax,bl,Io])),G,G,G,G,G,Q3⟩
 refine qg ?_;refine oE G G S4 G G (qg ?_);refine oE G G S4 G G (qj ?_);exact kx [0,0] 1 (aj _ _ _ ⟨G,G,G⟩) G ⟨(by exact sb (by first | rfl | simp only [ax,bl,Io])),G,G,G,G,G,Q3⟩
end Go.Sim
namespace Go.Sim
open Go Go.RowKit Go.ChangeShapes Go.WideShapes Go.ChangeAt
open _root_.Go.IntKind (i64 u64 u32 u8)
class Ok (α:Type) where
 ok:α->Prop
abbrev ok {α:Type}[Ok α] (x:α):Prop:=Ok.ok x
def Nz (n:Int):Prop:=-9223372036854775808<=n/\n<=9223372036854775807
instance:Ok Int:=⟨Nz⟩
instance:Ok Bool:=⟨λ_=>True⟩
instance:Ok Q1:=⟨λs=>s.size<=maxLen⟩
instance:Ok U8:=⟨λx=>0<=x.n/\x.n<=255⟩
instance:Ok PK:=⟨λx=>0<=x.n/\x.n<=65535⟩
instance:Ok bT:=⟨λx=>0<=x.n/\x.n<=4294967295⟩
instance:Ok PL:=⟨λx=>0<=x.n/\x.n<=18446744073709551615⟩
instance:Ok PI:=⟨λx=>-2147483648<=x.n/\x.n<=2147483647⟩
instance {α:Type}[Ok α]:Ok (List α):=⟨λxs=>xs.length<=maxLen/\∀ x ∈ xs,ok x⟩
theorem wf_i64 {n:Int} (h:(Lit.int .i64 n).wf=true):Nz n:=by
 simp [Lit.wf,IntKind.min,IntKind.max,IntKind.signed,IntKind.bits] at h; exact ⟨by omega,by omega⟩
def pd (P:Program) (T:TypeId) (α:Type) [aG α] [Ok α]:Prop:=
 ∀ (Hd:Type) (enc:TypeId×Q2->Hd) (w:World) (I:Nat) (cs:List Q2) (d:DataW Hd×List MemPlace),
  DataW.trod enc P w 0 (λ_=>true) true I T cs=some d->∃ x:α,aG.E (snap w) cs x/\ok x
section
variable {P:Program}{T:TypeId}
theorem kR (ht:P.underlying T=some (.int .i64)):pd P T Int:=λ_ _ _ _ _ _ h=>by
 obtain ⟨n,rfl,rfl,I⟩:=DataW.trod_int ht h; exact ⟨n,rfl,wf_i64 I⟩
theorem zq (ht:P.underlying T=some .bool):pd P T Bool:=λ_ _ _ _ _ _ h=>by
 obtain ⟨b,rfl,rfl⟩:=DataW.trod_bool ht h; exact ⟨b,rfl,Q3⟩
theorem fL (ht:P.underlying T=some .string):pd P T Q1:=λ_ _ _ _ _ _ h=>by
 obtain ⟨s,rfl,rfl,hs⟩:=DataW.trod_string ht h; exact ⟨s,rfl,hs⟩
theorem E7 {α:Type}{p:Nat->α->Prop}:∀ n,(∀ i,i<n->∃ x,p i x)->∃ xs:List α,xs.length=n/\∀ i x,xs[i]? = some x->p i x:=by
 intro n
 induction n with
 | zero=>exact λ_=>⟨[],rfl,by simp⟩
 | succ n ih=>
  intro h;obtain ⟨xs,hl,I⟩:=ih λi hi=>h i (by omega)
  obtain ⟨y,J⟩:=h n (by omega)
  refine ⟨xs++[y],by simp [hl],λi x hi=>?_⟩
  rw [Tj] at hi
  split at hi
  ·exact I i x hi
  ·have:i-xs.length=0:=by
    have:=(Q7.1 hi).1;simp at this; omega
   rw [this] at hi;simp at hi; subst hi
   rw [show i=n from by omega]; exact J
theorem oY {e:TypeId}{α:Type}[aG α] [Ok α] (ht:P.underlying T=some (.slice e)) (hs:P.cellsOf e=aG.sz α) (h0:Nat.blt 0 (aG.sz α)=true) (he:pd P e α):pd P T (List α):=λHd enc w fuel cs d h=>by
 have h0':0<aG.sz α:=by simpa [Sh] using h0
 rcases DataW.trod_slice ht h with ⟨rfl,rfl⟩ | ⟨a,len,cap,Z,rest,n,rfl,rfl,rfl,_,hl,hm,hel,hE,hR,_⟩
 ·exact ⟨[],⟨_,rfl,.inl ⟨⟨_,rfl⟩,rfl⟩⟩,⟨Nat.zero_le _,λ_ h=>by cases h⟩⟩
 ·by_cases hc:cap=0
  ·subst hc
   obtain rfl:len=0:=by omega
   exact ⟨[],⟨_,rfl,.inl ⟨⟨_,rfl⟩,rfl⟩⟩,⟨Nat.zero_le _,λ_ h=>by cases h⟩⟩
  ·have Y:∀ i,i<cap->∃ J d,w.cells? 0 (a.add (i*P.cellsOf e)) (P.cellsOf e)=some J/\DataW.trod enc P w 0 (λ_=>true) true n e J=some d:=by
    intro i hi;have:∃ d,(w.cells? 0 (a.add (i*P.cellsOf e)) (P.cellsOf e)).bind (DataW.trod enc P w 0 (λ_=>true) true n e)=some d:=by
     by_cases hil:i<len
     ·exact ⟨Z[i]'(by omega),by rw [hE i hil]; exact Q4 _⟩
     ·have:=(hR rfl).2 (i-len) (by omega)
      rw [show len+(i-len)=i from by omega] at this
      exact ⟨rest[i-len]'(by have:=(hR rfl).1; omega),by rw [this]; exact Q4 _⟩
    obtain ⟨d,hd⟩:=this;obtain ⟨J,h1,h2⟩:=Vj.1 hd;exact ⟨J,d,h1,h2⟩
   have O:∀ i,i<cap->∀ j,j<aG.sz α->∃ c,w.cell? ((a.add (i*aG.sz α)).add j)=some c:=by
    intro i hi j hj;obtain ⟨J,d,h1,_⟩:=Y i hi;rw [hs] at h1;obtain ⟨_,h2,h3⟩:=World.cells?_some h1;exact ⟨J[j]'(by omega),by rw [h3 j hj]; exact Q4 _⟩
   obtain ⟨ab,ao,asp⟩:=a;have hb:asp=none/\∃ arr T fz,w.heap[ab]? = some (.cells arr T fz):=by
    obtain ⟨c,I⟩:=O 0 (by omega) 0 h0'
    rw [SI] at I;simp only [Addr.add,UM,World.cell?] at I
    split at I
    ·rename_i arr T fz hh
     refine ⟨?_,arr,T,fz,hh⟩
     split at I
     ·cases I
     ·rename_i hn; cases asp <;> simp_all
    ·cases I
   obtain ⟨rfl,arr,T',fz,hh⟩:=hb;have hat:∀ i,i<cap->∀ j,j<aG.sz α->w.cell? (((⟨ab,ao,none⟩:Addr).add (i*aG.sz α)).add j)=arr[ao+i*aG.sz α+j]? := by
    intro i hi j hj;rw [Sf,Sf];simp [World.cell?,hh]
   have hsz:ao+cap*aG.sz α<=arr.size:=by
    obtain ⟨c,I⟩:=O (cap-1) (by omega) (aG.sz α-1) (by omega)
    rw [hat (cap-1) (by omega) _ (by omega)] at I
    have:=(Sz.1 I).1;have e1:cap*aG.sz α=(cap-1)*aG.sz α+aG.sz α:=by
     have:cap=(cap-1)+1:=by omega
     rw [this,Ru,UU]; simp
    omega
   obtain ⟨xs,hxl,hxs⟩:=E7 (p:=λi (x:α)=>ok x/\∃ cs,aG.E (snap w) cs x/\∀ j c,cs[j]? = some c->arr[ao+i*aG.sz α+j]? = some c) len (by
    intro i hi;obtain ⟨J,d,h1,h2⟩:=Y i (by omega)
    obtain ⟨x,hx,hok⟩:=he _ _ _ _ _ _ h2;refine ⟨x,hok,J,hx,λj c hj=>?_⟩;rw [hs] at h1;obtain ⟨_,h3,h4⟩:=World.cells?_some h1;have hjl:=(Q7.1 hj).1;rw [<- hat i (by omega) j (by omega),h4 j (by omega),hj])
   subst hxl;refine ⟨xs,⟨_,rfl,.inr ⟨ab,ao,cap,arr,T',fz,rfl,hl,hm,hh,hsz,λk x hk=>(hxs k x hk).2⟩⟩,by omega,λx hx=>?_⟩
   obtain ⟨k,hk⟩:=List.mem_iff_getElem?.1 hx;exact (hxs k x hk).1
theorem bU {Hd:Type}{enc:TypeId×Q2->Hd}{w:World}{n:Nat}{cs:List Q2}{fs:Array Field}{xs:List (DataW Hd×List MemPlace)}{α:Type}[aG α] [Ok α]
  (I:xs.length=fs.size) (Z:∀ (i:Nat) (f:Field),fs[i]? = some f->DataW.trod enc P w 0 (λ_=>true) true n f.type ((cs.drop f.offset).take (P.cellsOf f.type))=xs[i]?)
  (i:Nat) {f:Field}{o:Nat} (hi:fs[i]? = some f) (ho:f.offset=o) (hn:P.cellsOf f.type=aG.sz α) (ht:pd P f.type α):∃ x:α,aG.E (snap w) ((cs.drop o).take (aG.sz α)) x/\ok x:=by
 have h:=Z i f hi;have J:i<xs.length:=by rw [I]; exact (Sz.1 hi).1
 rw [Q4 J] at h;obtain ⟨x,Y,O⟩:=ht _ _ _ _ _ _ h;subst ho;rw [hn] at Y;exact ⟨x,Y,O⟩
theorem piece {cs r s:List Q2}{o n m:Nat} (h:(cs.drop o).take n=r) (hm:o+n=m) (k:cs.drop m=s):cs.drop o=r++s:=by
 subst hm;rw [<- h,<- k,<- SV,SA]
theorem qI {cs:List Q2}{n m:Nat} (h:cs.length=n) (hm:n=m):cs.drop m=[]:=by subst hm; rw [<- h]; exact TY
end
section
variable {Hd:Type}{enc:TypeId×Q2->Hd}{P:Program}{W:World}{T:TypeId}{v:Q2}{d:DataW Hd}{p:List MemPlace}{base:Nat}
theorem E2 {α:Type}[aG α] [Ok α] (ht:pd P T α) (h:DataW.Trod enc P W 0 (λ_=>true) true T v d p):∃ x:α,aG.E (snap W) v.cells.toList x/\ok x:=by
 obtain ⟨n,h⟩:=h; exact ht _ _ _ _ _ _ h
theorem Ik {e:TypeId}{α:Type}[aG α] [Ok α] (Y:P.underlying T=some (.slice e)) (ht:pd P T (List α)) (Z:Value.okWide P W .any base T v) (h:DataW.Trod enc P W 0 (λ_=>true) true T v d p):
  ∃ x:List α,aO (snap W) v x/\ok x:=by
 obtain ⟨a,l,c,rfl⟩:=okWide_slice Y Z;obtain ⟨x,⟨u,J,O⟩,I⟩:=E2 ht h;simp [Value.cells] at J; subst J; exact ⟨x,O,I⟩
theorem F8 {fs:Array Field}{α:Type}[aG α] [Ok α] (J:P.underlying T=some (.struct fs)) (ht:pd P T α) (O:Value.okWide P W .any base T v) (h:DataW.Trod enc P W 0 (λ_=>true) true T v d p):
  ∃ (x:α) (cs:List Q2),v=.agg cs.toArray/\aG.E (snap W) cs x/\ok x:=by
 obtain ⟨cs,rfl,_⟩:=okWide_struct J O;obtain ⟨x,Y,I⟩:=E2 ht h;exact ⟨x,cs.toList,by simp,Y,I⟩
end
theorem yW {Hd:Type}{enc:TypeId×Q2->Hd}{P:Program} (hl:laidOutB P=true) {W Z:World} (hb:Below W.heap.size W Z):∀ {I:List TypeId}{vs:List Q2}{J:List (DataW Hd)}{Y:List MemPlace},
  (I.all λt=>P.readableRec t && Nat.blt t P.types.size)=true->DataW.TrodAll enc P W 0 (λ_=>true) true I vs J Y->DataW.TrodAll enc P Z 0 (λb=>decide (b<W.heap.size)) true I vs J Y
 | [],[],[],_,_,h=>h
 | t::I,v::vs,d::J,Y,ht,h=>by
  obtain ⟨p,q,h1,h2,rfl⟩:=h;simp only [List.all_cons,SK,Sh] at ht;have O:∀ x ∈ p,x.block<W.heap.size:=by obtain ⟨m,hm⟩:=h1; exact DataW.trod_lt m _ _ _ hm
  exact ⟨p,q,Below.trod hl ht.1.1 ht.1.2 h1 hb O,yW hl hb ht.2 h2,rfl⟩
 | [],_::_,_,_,_,h=>absurd h (by simp [DataW.TrodAll])
 | [],[],_::_,_,_,h=>absurd h (by simp [DataW.TrodAll])
 | _::_,[],_,_,_,h=>absurd h (by simp [DataW.TrodAll])
 | _::_,_::_,[],_,_,h=>absurd h (by simp [DataW.TrodAll])
theorem yv {Hd:Type}{enc:TypeId×Q2->Hd}{P:Program}{W:World}{base:Nat}{I:Nat->Bool}{held:Bool}:∀ {O:List TypeId}{vs:List Q2}{J:List (DataW Hd)}{Y:List MemPlace},
  DataW.TrodAll enc P W base I held O vs J Y->J.length=O.length
 | [],[],[],_,_=>rfl
 | t::O,v::vs,d::J,Y,h=>by
  obtain ⟨p,q,h1,Z,rfl⟩:=h;simp [yv Z]
 | [],_::_,_,_,h=>absurd h (by simp [DataW.TrodAll])
 | [],[],_::_,_,h=>absurd h (by simp [DataW.TrodAll])
 | _::_,[],_,_,h=>absurd h (by simp [DataW.TrodAll])
 | _::_,_::_,[],_,h=>absurd h (by simp [DataW.TrodAll])
theorem KA {Hd:Type}{enc:TypeId×Q2->Hd}{P:Program}{O:Func}{s:ChangeSpec}{W W':World}{args:Array Q2}{J gs:List (DataW Hd)}{I:List MemPlace}{tb:TypeId}
  (hl:laidOutB P=true) (hs:s.vars=[]) (hr:O.resultTypes=#[tb]) (hb:P.underlying tb=some .bool) (hp:(O.params.toList.all λt=>P.readableRec t && Nat.blt t P.types.size)=true)
  (hW:DataW.Whole enc P O.params.toList s.vars false W args.toList J gs I)
  (hfn:J.length=O.params.toList.length->s.fn Hd (J++[])={ results:=[.lit (.bool true)],args:=J })
  (Y:Below W.heap.size W W'):s.post enc P O false true false false W args (.bool true) W':=by
 have hW':=hW;obtain ⟨p,q,hA,hV,rfl,hfz,hnd⟩:=hW;rw [hs] at hV;obtain ⟨rfl,rfl⟩:=trodVars_none hV;have Z:J.length=O.params.toList.length:=by
  exact yv hA
 have e:=hfn Z;have hA':=yW hl Y hp hA;refine ⟨J,[],_,[],p,[],hW',?_,?_,?_,Y.frame _,λh=>by cases h⟩
 ·rw [hr,e]; exact trodAll_mk1 (shut_bool hb _)
 ·rw [e]; exact hA'
 ·rw [hs,e]; rfl
end Go.Sim
