/-
  The proof, part F1.
-/
import Derived.KernelRfl
import Derived.Lib.ItoaNum
import Derived.Lib.ParseIntB
import Derived.Test.YtoghilnkfnpcoaaGreatDoorSqA2
set_option linter.unusedVariables false
set_option linter.unusedSimpArgs false
set_option linter.unusedSectionVars false
set_option linter.unnecessarySimpa false
namespace Go.Sim
abbrev Sn := @BitVec.ofInt_natCast
abbrev So := @BitVec.toNat_ofNat
abbrev Sp := @Bool.eq_false_or_eq_true
abbrev Ss := @Int.mul_add
abbrev Su := @Int.mul_assoc
abbrev Sv := @Int.mul_sub
abbrev Sw := @Int.natCast_add
abbrev Sy := @Int.tdiv_eq_ediv_of_nonneg
abbrev Sz := @Go.Lib.decDigits_one
abbrev SA := @List.Perm.refl
abbrev SB := @List.drop_of_length_le
abbrev SC := @List.eq_nil_or_concat
abbrev SG := @List.getLast?_eq_getElem?
abbrev SH := @List.length_eq_one_iff
abbrev SI := @List.length_nil
abbrev SJ := @List.length_pos_iff
abbrev SK := @List.mem_or_eq_of_mem_set
abbrev SL := @List.mem_replicate
abbrev SN := @Nat.and_two_pow_sub_one_eq_mod
abbrev SO := @Nat.div_eq_of_lt
abbrev SP := @Nat.div_lt_iff_lt_mul
abbrev SQ := @Nat.le_div_iff_mul_le
abbrev SR := @Nat.lt_of_mul_lt_mul_left
abbrev SS := @Nat.mod_add_div
abbrev SU := @Nat.mul_add
abbrev SV := @Nat.mul_assoc
abbrev SW := @Nat.mul_comm
abbrev SX := @Nat.mul_le_mul_left
abbrev SY := @Nat.mul_zero
abbrev SZ := @Nat.pow_add
abbrev S0 := @Nat.pow_le_pow_left
abbrev S1 := @Nat.pow_le_pow_right
abbrev S2 := @Nat.pow_lt_pow_iff_right
abbrev S3 := @Nat.pow_mul
abbrev S4 := @Nat.pow_pos
abbrev S5 := @Nat.pow_succ
abbrev S6 := @Nat.pow_zero
abbrev Ta := @Rat.div_def
abbrev Tc := @Rat.intCast_mul
abbrev Td := @Rat.intCast_neg
abbrev Te := @Rat.le_refl
abbrev Tf := @Rat.le_trans
abbrev Tg := @Rat.mul_eq_zero
abbrev Th := @Rat.mul_inv_cancel
abbrev Ti := @Rat.mul_nonneg
abbrev Tm := @decide_eq_false
end Go.Sim
namespace Go.Sim
open Go
open _root_.Go.IntKind (i64 u64 u32 u8)
theorem wi {n:Int} (I:-2000000<=n) (J:n<=2000000):i64.wrap n=n:=cK ⟨by omega,by omega⟩
theorem AV {α:Type} (l:List α) (i j:Nat) (hi:i<l.length) (I:j<l.length):((l.set i l[j]).set j l[i]).Perm l:=by
 have h:=Array.swap_perm (xs:=l.toArray) (i:=i) (j:=j) (by simpa using hi) (by simpa using I)
 rw [Array.perm_iff_toList_perm] at h;simpa [Array.toList_swap] using h
section
variable {R α:Type}{Q:R->Prop}
theorem Gd.uk {l:List α}{i:Int}{k:α->Option R} (I:0<=i) (O:i<l.length) (J:∀ y,Gd (k y) Q):Gd (idx l i k) Q:=
 Gd.ix I (N5 (by omega)) (J _)
theorem Gd.swp {l:List α}{i j:Int}{k:α->α->Option R} (hi:0<=i) (hi2:i<l.length) (Z:0<=j) (Y:j<l.length)
  (hk:∀ y O,((l.set i.toNat y).set j.toNat O).Perm l->Gd (k y O) Q):Gd (idx l j λy=>idx l i λO=>idx l i λ_=>idx (l.set i.toNat y) j λ_=>k y O) Q:=by
 have I:i.toNat<l.length:=by omega
 have J:j.toNat<l.length:=by omega
 refine Gd.ix Z (N5 J) (Gd.ix hi (N5 I) (Gd.ix hi (N5 I) (Gd.uk Z (by simpa using Y) (λ_=>hk _ _ (AV l _ _ I J)))))
end
theorem HT:(List.range 50).all (λn=>decide (n<8) || match jN (n:Int) with | some m=>decide (1<=m) && decide (m<=2*(n:Int)) | none=>false)=true:=by kernel_rfl
theorem Nl {n:Int} (I:8<=n) (h:n<=49):∃ m,jN n=some m/\1<=m/\m<=2*n:=by
 obtain ⟨k,rfl⟩:∃ k:Nat,n=k:=⟨n.toNat,by omega⟩
 have:=Pa.1 HT k (OS.2 (by omega))
 cases hm:jN (k:Int) with
 | none=>rw [hm] at this; simp at this; omega
 | some m=>
  rw [hm] at this;simp at this;exact ⟨m,rfl,by omega,by omega⟩
theorem HI:(List.range 50).all (λn=>(np (u64.wrap ((n:Nat):Int))).isSome)=true:=by kernel_rfl
theorem Kx {n:Nat} (h:n<=49):∃ z,np (u64.wrap (n:Int))=some z:=
 Option.isSome_iff_exists.1 (Pa.1 HI n (OS.2 (by omega)))
theorem CD (x:Int) {m:Int} (Z:1<=m) (h2:m<=98):
  0<=i64.wrap (u64.wrap ((BitVec.ofInt (u64).bits x &&& BitVec.ofInt (u64).bits (u64.wrap (m-1))).toNat))/\i64.wrap (u64.wrap ((BitVec.ofInt (u64).bits x &&& BitVec.ofInt (u64).bits (u64.wrap (m-1))).toNat))<m:=by
 have I:∀ z:Int,0<=z->z<1000->u64.wrap z=z:=λz J g2=>by
  show z%18446744073709551616=z;exact Int.emod_eq_of_lt J (by omega)
 rw [I (m-1) (by omega) (by omega)]
 have O:(BitVec.ofInt (u64).bits (m-1)).toNat=(m-1).toNat:=by
  rw [BitVec.toNat_ofInt];show ((m-1)%18446744073709551616).toNat=_;rw [Int.emod_eq_of_lt (by omega) (by omega)]
 have Y:(BitVec.ofInt (u64).bits x &&& BitVec.ofInt (u64).bits (m-1)).toNat<=(m-1).toNat:=by
  rw [BitVec.toNat_and,O];exact Nat.and_le_right
 rw [I _ (by omega) (by omega),wi (by omega) (by omega)]
 omega
theorem Gm {R:Type}{Q:R->Prop}{b:Bool}{A B:Option R} (I:Gd A Q) (J:Gd B Q):Gd (if b=true then A else B) Q:=Gd.ite (λ_=>I) (λ_=>J)
theorem MN (l:List N2) (a b:Int) (hl:l.length<=49) (ha:0<=a) (hab:a<=b) (hb:b<=l.length):Gd (g_ l a b) (λr=>r.Perm l):=by
 unfold g_;rw [wi (n:=a+1) (by omega) (by omega)]
 refine Gd.cE (λ(s:List N2×Int)=>s.1.Perm l/\a+1<=s.2) (λs=>(b+1-s.2).toNat) ?_ a_ _ ⟨SA _,by simp only; omega⟩ (by simp only [a_]; omega)
 rintro ⟨d,i⟩ nx ⟨O,hi⟩ hn;simp only at O hi
 dsimp only
 have hd:=O.length_eq;unfold kH;refine Gd.ite (λh=>?_) (λh=>Gd.ret O);have h:i<b:=N9 h;refine Gd.cE (λ(s:List N2×Int)=>s.1.Perm l/\a<=s.2/\s.2<=i) (λs=>(s.2-a).toNat) ?_ a_ _ ⟨O,by simp only; omega,by simp only; omega⟩ (by simp only [a_]; omega)
 rintro ⟨e,j⟩ nx2 ⟨I,hj,Z⟩ hn2;simp only at I hj Z
 dsimp only
 have he:=I.length_eq;have J:∀ Y,Y.Perm l->Gd (nx (Y,i64.wrap (i+1))) (λr=>r.Perm l):=λY h'=>by
  rw [wi (n:=i+1) (by omega) (by omega)]
  exact hn _ ⟨h',by simp only; omega⟩ (by simp only; omega)
 unfold kI;refine Gd.ite (λh0=>?_) (λ_=>J _ I);have h0:a<j:=N9 h0;rw [wi (n:=j-1) (by omega) (by omega)]
 refine Gd.uk (by omega) (by omega) (λ_=>Gd.uk (by omega) (by omega) (λ_=>Gm (Gd.swp (by omega) (by omega) (by omega) (by omega) (λy y2 hs=>?_)) (J _ I)))
 exact hn2 _ ⟨hs.trans I,by simp only; omega,by simp only; omega⟩ (by simp only; omega)
theorem KD (l:List N2) (lo hi first:Int) (hl:l.length<=49) (h0:0<=lo) (Y:lo<=hi) (hf:0<=first) (hh:first+hi<=l.length):Gd (iB l lo hi first) (λr=>r.Perm l):=by
 unfold iB;refine Gd.cE (λ(s:List N2×Int)=>s.1.Perm l/\0<=s.2/\s.2<=hi) (λs=>(hi-s.2).toNat) ?_ a_ _ ⟨SA _,h0,Y⟩ (by simp only [a_]; omega)
 rintro ⟨d,n⟩ nx ⟨I,Z,hnh⟩ hn;simp only at I Z hnh
 dsimp only
 have hd:=I.length_eq;have key:∀ c,c<hi->n<c->Gd (eR first d n nx c) (λr=>r.Perm l):=λc hc hnc=>by
  unfold eR;rw [wi (n:=first+n) (by omega) (by omega),wi (n:=first+c) (by omega) (by omega)]
  refine Gd.uk (by omega) (by omega) (λ_=>Gd.uk (by omega) (by omega) (λ_=>Gm (Gd.ret I) (Gd.swp (by omega) (by omega) (by omega) (by omega) (λy y2 hs=>?_))))
  exact hn _ ⟨hs.trans I,by simp only; omega,by simp only; omega⟩ (by simp only; omega)
 unfold lL;rw [wi (n:=2*n) (by omega) (by omega),wi (n:=2*n+1) (by omega) (by omega),wi (n:=2*n+1+1) (by omega) (by omega)]
 refine Gd.ite (λ_=>Gd.ret I) (λJ=>?_);have J:2*n+1<hi:=by simpa using J
 refine Gd.ite (λO=>?_) (λ_=>key _ J (by omega))
 have O:2*n+1+1<hi:=N9 O;rw [wi (n:=first+(2*n+1)) (by omega) (by omega),wi (n:=first+(2*n+1)+1) (by omega) (by omega)]
 exact Gd.uk (by omega) (by omega) (λ_=>Gd.uk (by omega) (by omega) (λ_=>Gm (key _ O (by omega)) (key _ J (by omega))))
theorem LK (l:List N2) (a b:Int) (hl:l.length<=49) (ha:0<=a) (hab:a<b) (hb:b<=l.length):Gd (jC l a b) (λr=>r.Perm l):=by
 unfold jC;rw [wi (n:=b-a) (by omega) (by omega),wi (n:=b-a-1) (by omega) (by omega),Sy (by omega),wi (n:=(b-a-1) / 2) (by omega) (by omega)]
 refine Gd.cE (λ(s:List N2×Int)=>s.1.Perm l/\s.2<=b-a) (λs=>(s.2+1).toNat) ?_ a_ _ ⟨SA _,by simp only; omega⟩ (by simp only [a_]; omega)
 rintro ⟨d,n⟩ nx ⟨O,J⟩ hn;simp only at O J
 dsimp only
 have hd:=O.length_eq;unfold lH;rw [wi (n:=b-a) (by omega) (by omega)]
 refine Gd.ite (λh=>?_) (λh=>?_)
 ·have h:0<=n:=N9 h
  rw [wi (n:=n-1) (by omega) (by omega)]
  refine Gd.hO (KD d n (b-a) a (by omega) h J ha (by omega)) (λr hr=>hn _ ⟨hr.trans O,by simp only; omega⟩ (by simp only; omega))
 ·rw [wi (n:=b-a-1) (by omega) (by omega)]
  refine Gd.cE (λ(s:List N2×Int)=>s.1.Perm l/\s.2<=b-a-1) (λs=>(s.2+1).toNat) ?_ a_ _ ⟨O,by simp only; omega⟩ (by simp only [a_]; omega)
  rintro ⟨e,k⟩ nx2 ⟨I,Y⟩ Z;simp only at I Y
  dsimp only
  have he:=I.length_eq;unfold lI;refine Gd.ite (λh=>?_) (λh=>Gd.ret I);have h:0<=k:=N9 h;rw [wi (n:=a+k) (by omega) (by omega),wi (n:=k-1) (by omega) (by omega)]
  refine Gd.swp (by omega) (by omega) (by omega) (by omega) (λy y2 hs=>?_)
  have hsl:=hs.length_eq;exact Gd.hO (KD _ 0 k a (by omega) (by omega) h ha (by omega)) (λr hr=>Z _ ⟨hr.trans (hs.trans I),by simp only; omega⟩ (by simp only; omega))
theorem H7 (l:List N2) (lo hi i j s:Int) (O:0<=lo) (Y:hi<=l.length) (I:lo<=i/\i<hi) (J:lo<=j/\j<hi):
  Gd (gI l i j s) (λr=>(lo<=r.1/\r.1<hi)/\lo<=r.2.1/\r.2.1<hi):=by
 unfold gI;exact Gd.uk (by omega) (by omega) (λ_=>Gd.uk (by omega) (by omega) (λ_=>Gm (Gd.ret ⟨J,I⟩) (Gd.ret ⟨I,J⟩)))
theorem MQ (l:List N2) (lo hi i j k s:Int) (I:0<=lo) (J:hi<=l.length) (O:lo<=i/\i<hi) (Z:lo<=j/\j<hi) (hk:lo<=k/\k<hi):
  Gd (iN l i j k s) (λr=>lo<=r.1/\r.1<hi):=by
 unfold iN;refine Gd.hO (H7 l lo hi i j s I J O Z) (λr Y=>Gd.hO (H7 l lo hi _ k _ I J Y.2 hk) (λq hq=>Gd.hO (H7 l lo hi _ _ _ I J Y.1 hq.1) (λp hp=>Gd.ret hp.2)))
theorem Jf (l:List N2) (a b:Int) (hl:l.length<=49) (Z:0<=a) (hab:a<b) (hb:b<=l.length):Gd (iM l a b) (λr=>a<=r.1/\r.1<b):=by
 have O:∀ n s,a<=n->n<b->Gd (fA n s) (λr=>a<=r.1/\r.1<b):=λn s I J=>by
  unfold fA;exact Gd.ite (λ_=>Gd.ret ⟨I,J⟩) (λ_=>Gd.ite (λ_=>Gd.ret ⟨I,J⟩) (λ_=>Gd.ret ⟨I,J⟩))
 unfold iM;rw [wi (n:=b-a) (by omega) (by omega),Sy (by omega),wi (n:=(b-a) / 4) (by omega) (by omega),wi (n:=(b-a) / 4*1) (by omega) (by omega),wi (n:=(b-a) / 4*2) (by omega) (by omega),wi (n:=(b-a) / 4*3) (by omega) (by omega),
  wi (n:=a+(b-a) / 4*1) (by omega) (by omega),wi (n:=a+(b-a) / 4*2) (by omega) (by omega),wi (n:=a+(b-a) / 4*3) (by omega) (by omega)]
 refine Gd.ite (λ_=>Gd.ite (λh=>?_) (λ_=>?_)) (λ_=>O _ _ (by omega) (by omega))
 ·have:=N9 h
  omega
 ·unfold gS
  exact Gd.hO (MQ l a b _ _ _ _ Z hb (by omega) (by omega) (by omega)) (λr Y=>O _ _ Y.1 Y.2)
theorem M5 (l:List N2) (a b:Int) (hl:l.length<=49) (Y:0<=a) (J:a<b) (Z:b<=l.length):Gd (iH l a b) (λr=>r.Perm l):=by
 unfold iH;rw [wi (n:=b-1) (by omega) (by omega)]
 refine Gd.cE (λ(s:List N2×Int×Int)=>s.1.Perm l/\a<=s.2.1/\s.2.2<b) (λs=>(s.2.2-s.2.1).toNat) ?_ a_ _ ⟨SA _,by simp only; omega,by simp only; omega⟩ (by simp only [a_]; omega)
 rintro ⟨d,i,j⟩ nx ⟨I,hi,O⟩ hn;simp only at I hi O
 dsimp only
 have hd:=I.length_eq;unfold kX;refine Gd.ite (λh=>?_) (λh=>Gd.ret I);have h:i<j:=N9 h;rw [wi (n:=i+1) (by omega) (by omega),wi (n:=j-1) (by omega) (by omega)]
 refine Gd.swp (by omega) (by omega) (by omega) (by omega) (λy y2 hs=>?_)
 exact hn _ ⟨hs.trans I,by simp only; omega,by simp only; omega⟩ (by simp only; omega)
theorem MX (l:List N2) (a b:Int) (hl:l.length<=49) (ha:0<=a) (O:a<b) (hb:b<=l.length):Gd (e_ l a b) (λr=>r.2=l):=by
 unfold e_;rw [wi (n:=a+1) (by omega) (by omega)]
 refine Gd.cE (λ(s:List N2×Int×Int)=>s=(l,a+1,0)) (λ_=>0) ?_ a_ _ rfl (by simp only [a_]; omega)
 rintro _ Y rfl hn
 dsimp only
 unfold iW;refine Gd.ite (λ_=>?_) (λ_=>Gd.ret rfl);refine Gd.cE (λ(i:Int)=>a+1<=i/\i<=b) (λi=>(b-i).toNat) ?_ a_ _ ⟨by omega,by omega⟩ (by simp only [a_]; omega)
 rintro i Z ⟨h1,h2⟩ J;have I:Gd (dH a b l 0 Y i) (λr=>r.2=l):=by
  unfold dH;rw [wi (n:=b-a) (by omega) (by omega)]
  refine Gd.ite (λ_=>Gd.ret rfl) (λ_=>Gd.ite (λ_=>Gd.ret rfl) (λh=>?_));have:=Og h;omega
 unfold iX;refine Gd.ite (λh=>?_) (λ_=>I);have h:i<b:=N9 h;rw [wi (n:=i-1) (by omega) (by omega),wi (n:=i+1) (by omega) (by omega)]
 exact Gd.uk (by omega) (by omega) (λ_=>Gd.uk (by omega) (by omega) (λ_=>Gm (J _ ⟨by omega,by omega⟩ (by omega)) I))
theorem LY (l:List N2) (a b p:Int) (hl:l.length<=49) (ha:0<=a) (hab:a<b) (hb:b<=l.length) (hp:a<=p/\p<b):
  Gd (fF l a b p) (λr=>(a<=r.1/\r.1<b)/\r.2.2.Perm l):=by
 unfold fF;rw [wi (n:=a+1) (by omega) (by omega)]
 refine Gd.swp (by omega) (by omega) (by omega) (by omega) (λy y2 hs=>?_)
 have hsl:=hs.length_eq;have rest:∀ (d:List N2) (i j:Int),d.Perm l->a+1<=i->a<=j->j<b->Gd (cE (λs n=>jG a s.1 s.2.1 s.2.2 n) a_ (d,i,j)) (λr=>(a<=r.1/\r.1<b)/\r.2.2.Perm l):=λd i j hd hi hj hjb=>by
  refine Gd.cE (λ(s:List N2×Int×Int)=>s.1.Perm l/\a+1<=s.2.1/\a<=s.2.2/\s.2.2<b) (λs=>(s.2.2-s.2.1+2).toNat) ?_ a_ _ ⟨hd,hi,hj,hjb⟩ (by simp only [a_]; omega)
  rintro ⟨d,i,j⟩ nx ⟨hd,hi,hj,hjb⟩ hn;simp only at hd hi hj hjb hn
  dsimp only
  have hdl:=hd.length_eq;unfold jG;have Z:∀ i',i<=i'->Gd (fJ a d j nx i') (λr=>(a<=r.1/\r.1<b)/\r.2.2.Perm l):=λi' hi'=>by
   unfold fJ;have Y:∀ I,a<=I->I<=j->Gd (fI a d nx i' I) (λr=>(a<=r.1/\r.1<b)/\r.2.2.Perm l):=λI J h2=>by
    unfold fI jF;refine Gd.ite (λ_=>Gd.swp (by omega) (by omega) (by omega) (by omega) (λy y2 hs=>Gd.ret ⟨⟨J,by simp only; omega⟩,hs.trans hd⟩)) (λh=>?_)
    have h:¬ I<i':=Og h;rw [wi (n:=i'+1) (by omega) (by omega),wi (n:=I-1) (by omega) (by omega)]
    refine Gd.swp (by omega) (by omega) (by omega) (by omega) (λy y2 hs=>?_)
    exact hn _ ⟨hs.trans hd,by simp only; omega,by simp only; omega,by simp only; omega⟩ (by simp only; omega)
   refine Gd.cE (λ(I:Int)=>a<=I/\I<=j) (λI=>(I-a).toNat) ?_ a_ _ ⟨hj,by omega⟩ (by simp only [a_]; omega)
   rintro I nx3 ⟨J,h2⟩ O;unfold ln;refine Gd.ite (λh=>?_) (λ_=>Y _ J h2);have h:i'<=I:=N9 h;rw [wi (n:=I-1) (by omega) (by omega)]
   exact Gd.uk (by omega) (by omega) (λ_=>Gd.uk (by omega) (by omega) (λ_=>Gm (O _ ⟨by omega,by omega⟩ (by omega)) (Y _ J h2)))
  refine Gd.cE (λ(i':Int)=>i<=i') (λi'=>(j+1-i').toNat) ?_ a_ _ (Pw _) (by simp only [a_]; omega)
  rintro i' nx3 J O;unfold lq;refine Gd.ite (λh=>?_) (λ_=>Z _ J);have h:i'<=j:=N9 h;rw [wi (n:=i'+1) (by omega) (by omega)]
  exact Gd.uk (by omega) (by omega) (λ_=>Gd.uk (by omega) (by omega) (λ_=>Gm (O _ (by omega) (by omega)) (Z _ J)))
 have Z:∀ i',a+1<=i'->Gd (fL l a b p y y2 i') (λr=>(a<=r.1/\r.1<b)/\r.2.2.Perm l):=λi' hi'=>by
  unfold fL;rw [wi (n:=b-1) (by omega) (by omega)]
  have Y:∀ I,a<=I->I<b->Gd (fK l a p y y2 i' I) (λr=>(a<=r.1/\r.1<b)/\r.2.2.Perm l):=λI J h2=>by
   unfold fK;refine Gd.ite (λ_=>Gd.swp (by omega) (by omega) (by omega) (by omega) (λy y2 hs2=>Gd.ret ⟨⟨J,by simp only; omega⟩,hs2.trans hs⟩)) (λh=>?_)
   have h:¬ I<i':=Og h;rw [wi (n:=i'+1) (by omega) (by omega),wi (n:=I-1) (by omega) (by omega)]
   refine Gd.swp (by omega) (by omega) (by omega) (by omega) (λy y2 hs2=>?_)
   exact rest _ _ _ (hs2.trans hs) (by omega) (by omega) (by omega)
  refine Gd.cE (λ(I:Int)=>a<=I/\I<b) (λI=>(I-a).toNat) ?_ a_ _ ⟨by omega,by omega⟩ (by simp only [a_]; omega)
  rintro I nx3 ⟨J,h2⟩ O;unfold lu;refine Gd.ite (λh=>?_) (λ_=>Y _ J h2);have h:i'<=I:=N9 h;rw [wi (n:=I-1) (by omega) (by omega)]
  exact Gd.uk (by omega) (by omega) (λ_=>Gd.uk (by omega) (by omega) (λ_=>Gm (O _ ⟨by omega,by omega⟩ (by omega)) (Y _ J h2)))
 refine Gd.cE (λ(i':Int)=>a+1<=i') (λi'=>(b-i').toNat) ?_ a_ _ (Pw _) (by simp only [a_]; omega)
 rintro i' nx3 J O;unfold lv;rw [wi (n:=b-1) (by omega) (by omega)]
 refine Gd.ite (λh=>?_) (λ_=>Z _ J);have h:i'<=b-1:=N9 h;rw [wi (n:=i'+1) (by omega) (by omega)]
 exact Gd.uk (by omega) (by omega) (λ_=>Gd.uk (by omega) (by omega) (λ_=>Gm (O _ (by omega) (by omega)) (Z _ J)))
theorem MU (l:List N2) (a b p:Int) (hl:l.length<=49) (ha:0<=a) (hab:a<b) (hb:b<=l.length) (hp:a<=p/\p<b):
  Gd (gU l a b p) (λr=>(a<r.1/\r.1<=b)/\r.2.Perm l):=by
 unfold gU;rw [wi (n:=a+1) (by omega) (by omega),wi (n:=b-1) (by omega) (by omega)]
 refine Gd.swp (by omega) (by omega) (by omega) (by omega) (λy y2 hs=>?_)
 have hsl:=hs.length_eq;refine Gd.cE (λ(s:List N2×Int×Int)=>s.1.Perm l/\(a+1<=s.2.1/\s.2.1<=b)/\a<=s.2.2/\s.2.2<b) (λs=>(s.2.2-s.2.1+2).toNat) ?_ a_ _ ⟨hs,⟨by simp only; omega,by simp only; omega⟩,by simp only; omega,by simp only; omega⟩ (by simp only [a_]; omega)
 rintro ⟨d,i,j⟩ nx ⟨hd,hi,hj,hjb⟩ hn;simp only at hd hi hj hjb hn
 dsimp only
 have hdl:=hd.length_eq;unfold ko;have low:∀ i',i<=i'->i'<=b->Gd (dY a d j nx i') (λr=>(a<r.1/\r.1<=b)/\r.2.Perm l):=λi' hi' hib=>by
  unfold dY;have Z:∀ I,a<=I->I<=j->Gd (dX d nx i' I) (λr=>(a<r.1/\r.1<=b)/\r.2.Perm l):=λI O Y=>by
   unfold dX iK;refine Gd.ite (λ_=>Gd.ret ⟨⟨by simp only; omega,hib⟩,hd⟩) (λh=>?_)
   have h:¬ I<i':=Og h;rw [wi (n:=i'+1) (by omega) (by omega),wi (n:=I-1) (by omega) (by omega)]
   refine Gd.swp (by omega) (by omega) (by omega) (by omega) (λy y2 hs=>?_)
   exact hn _ ⟨hs.trans hd,⟨by simp only; omega,by simp only; omega⟩,by simp only; omega,by simp only; omega⟩ (by simp only; omega)
  refine Gd.cE (λ(I:Int)=>a<=I/\I<=j) (λI=>(I-a).toNat) ?_ a_ _ ⟨hj,by omega⟩ (by simp only [a_]; omega)
  rintro I nx3 ⟨O,Y⟩ J;unfold kq;refine Gd.ite (λh=>?_) (λ_=>Z _ O Y);have h:i'<=I:=N9 h;rw [wi (n:=I-1) (by omega) (by omega)]
  exact Gd.uk (by omega) (by omega) (λ_=>Gd.uk (by omega) (by omega) (λ_=>Gm (J _ ⟨by omega,by omega⟩ (by omega)) (Z _ O Y)))
 refine Gd.cE (λ(i':Int)=>i<=i'/\i'<=b) (λi'=>(b-i').toNat) ?_ a_ _ ⟨Pw _,hi.2⟩ (by simp only [a_]; omega)
 rintro i' nx3 ⟨O,Y⟩ J;unfold kr;refine Gd.ite (λh=>?_) (λ_=>low _ O Y);have h:i'<=j:=N9 h;rw [wi (n:=i'+1) (by omega) (by omega)]
 exact Gd.uk (by omega) (by omega) (λ_=>Gd.uk (by omega) (by omega) (λ_=>Gm (J _ ⟨by omega,by omega⟩ (by omega)) (low _ O Y)))
theorem MD (l:List N2) (a b:Int) (hl:l.length<=49) (ha:0<=a) (hab:a<b) (hb:b<=l.length):Gd (gZ l a b) (λr=>r.Perm l):=by
 unfold gZ;rw [wi (n:=b-a) (by omega) (by omega)]
 refine Gd.ite (λh=>?_) (λ_=>Gd.ret (SA _));have h8:8<=b-a:=N9 h;obtain ⟨m,hm,Y,hm2⟩:=Nl (n:=b-a) h8 (by omega)
 refine Gd.bind_eq hm ?_;rw [Sy (by omega),wi (n:=(b-a) / 4) (by omega) (by omega),wi (n:=(b-a) / 4*2) (by omega) (by omega),wi (n:=a+(b-a) / 4*2) (by omega) (by omega),wi (n:=a+(b-a) / 4*2-1) (by omega) (by omega)]
 generalize u64.wrap (b-a)=seed;refine Gd.cE (λ(s:List N2×Int×Int)=>s.1.Perm l/\a+(b-a) / 4*2-1<=s.2.1) (λs=>(a+(b-a) / 4*2+2-s.2.1).toNat) ?_ a_ _ ⟨SA _,by simp only; omega⟩ (by simp only [a_]; omega)
 rintro ⟨d,i,x⟩ nx ⟨O,hi⟩ hn;simp only at O hi hn
 dsimp only
 have hdl:=O.length_eq;have key:∀ o,0<=o->o<b-a->i<=a+(b-a) / 4*2+1->Gd (eL a d i x nx o) (λr=>r.Perm l):=λo h1 h2 I=>by
  unfold eL;rw [wi (n:=a+o) (by omega) (by omega),wi (n:=i+1) (by omega) (by omega)]
  refine Gd.swp (by omega) (by omega) (by omega) (by omega) (λy y2 hs=>?_)
  exact hn _ ⟨hs.trans O,by simp only; omega⟩ (by simp only; omega)
 unfold kG;rw [wi (n:=b-a) (by omega) (by omega),Sy (by omega),wi (n:=(b-a) / 4) (by omega) (by omega),wi (n:=(b-a) / 4*2) (by omega) (by omega),wi (n:=a+(b-a) / 4*2) (by omega) (by omega),wi (n:=a+(b-a) / 4*2+1) (by omega) (by omega)]
 refine Gd.ite (λI=>?_) (λ_=>Gd.ret O);have I:i<=a+(b-a) / 4*2+1:=N9 I;obtain ⟨Z,o2⟩:=CD ((dA ⟨x⟩)).1 Y (show m<=98 by omega)
 generalize i64.wrap (u64.wrap ((BitVec.ofInt (u64).bits ((dA ⟨x⟩)).1 &&& BitVec.ofInt (u64).bits (u64.wrap (m-1))).toNat))=o at Z o2 ⊢;refine Gd.ite (λJ=>?_) (λJ=>key _ Z (by have:=Og J; omega) I)
 have J:b-a<=o:=N9 J;rw [wi (n:=o-(b-a)) (by omega) (by omega)]
 exact key _ (by omega) (by omega) I
theorem L3:∀ (m:Nat) (f:Nat) (l:List N2) (a b O:Int),m<f->(b-a).toNat<=m->l.length<=49->0<=a->a<=b->b<=l.length->Gd (bO f l a b O) (λr=>r.Perm l)
 | m,0,l,a,b,O,hf,_,_,_,_,_=>by omega
 | m,f+1,l,a0,b0,limit0,hf,hm,hl,ha0,hab0,hb0=>by
  show Gd (iG (bO f) l a0 b0 limit0) _;unfold iG;refine Gd.cE (λ(s:List N2×Int×Int×Int×Bool×Bool)=>s.1.Perm l/\a0<=s.2.1/\s.2.1<=s.2.2.1/\s.2.2.1<=b0) (λs=>(s.2.2.1-s.2.1).toNat) ?_ a_ _ ⟨SA _,Pw _,hab0,Pw _⟩ (by simp only [a_]; omega)
  rintro ⟨d,a,b,O,c1,c2⟩ nx ⟨hd,h1,h2,h3⟩ hn;simp only at hd h1 h2 h3 hn
  dsimp only
  have hdl:=hd.length_eq;have ih:∀ (e:List N2) (Z b' k:Int),e.Perm l->a<=Z->Z<=b'->b'<=b->b'-Z<b-a->Gd (bO f e Z b' k) (λr=>r.Perm l):=λe Z b' k J g1 g2 g3 g4=>
   (L3 (m-1) f e Z b' k (by omega) (by omega) (by rw [J.length_eq]; exact hl) (by omega) g2 (by rw [J.length_eq]; omega)).mono (λr I=>I.trans J)
  unfold lK;rw [wi (n:=b-a) (by omega) (by omega)]
  refine Gd.ite (λ_=>Gd.hO (MN d a b (by omega) (by omega) h2 (by omega)) (λr I=>Gd.ret (I.trans hd))) (λh12=>?_)
  have h12:¬ b-a<=12:=Og h12;refine Gd.ite (λ_=>Gd.hO (LK d a b (by omega) (by omega) (by omega) (by omega)) (λr I=>Gd.ret (I.trans hd))) (λ_=>?_)
  have b11:∀ (e:List N2) (p k:Int),e.Perm l->a<=p->p<b->Gd (gB (bO f) a b c1 c2 nx k p e) (λr=>r.Perm l):=λe p k J p1 p2=>by
   have hel:=J.length_eq;have split:Gd ((fF e a b p).bind λr=>if decide ((i64.wrap (r.1-a))<(i64.wrap (b-r.1))) then ((bO f r.2.2 a r.1 k).bind λq=>nx (q,i64.wrap (r.1+1),b,k,decide ((i64.wrap (Int.tdiv (i64.wrap (b-a)) 8))<=(i64.wrap (r.1-a))),r.2.1))
     else ((bO f r.2.2 (i64.wrap (r.1+1)) b k).bind λq=>nx (q,a,r.1,k,decide ((i64.wrap (Int.tdiv (i64.wrap (b-a)) 8))<=(i64.wrap (b-r.1))),r.2.1))) (λr=>r.Perm l):=by
    refine Gd.hO (LY e a b p (by omega) (by omega) (by omega) (by omega) ⟨p1,p2⟩) (λr I=>?_)
    obtain ⟨⟨r1,r2⟩,r3⟩:=I;have hr3:=r3.trans J;rw [wi (n:=r.1+1) (by omega) (by omega)]
    refine Gd.ite (λ_=>Gd.hO (ih _ a r.1 k hr3 (by omega) r1 (by omega) (by omega)) (λq hq=>hn _ ⟨hq,by simp only; omega,by simp only; omega,by simp only; omega⟩ (by simp only; omega)))
     (λ_=>Gd.hO (ih _ (r.1+1) b k hr3 (by omega) (by omega) (by omega) (by omega)) (λq hq=>hn _ ⟨hq,by simp only; omega,by simp only; omega,by simp only; omega⟩ (by simp only; omega)))
   unfold gB;refine Gd.ite (λY=>?_) (λ_=>split);have Y:0<a:=N9 Y;rw [wi (n:=a-1) (by omega) (by omega)]
   refine Gd.uk (by omega) (by omega) (λ_=>Gd.uk (by omega) (by omega) (λ_=>Gm (Gd.hO (MU e a b p (by omega) (by omega) (by omega) (by omega) ⟨p1,p2⟩) (λr I=>hn _ ⟨I.2.trans J,by simp only; omega,by simp only; omega,by simp only; omega⟩ (by simp only; omega))) split))
  have b12:∀ (e:List N2) (p k hint:Int),e.Perm l->a<=p->p<b->Gd (gC (bO f) a b c1 c2 nx k e p hint) (λr=>r.Perm l):=λe p k hint J p1 p2=>by
   have hel:=J.length_eq;unfold gC;refine Gd.ite (λ_=>Gd.hO (MX e a b (by omega) (by omega) (by omega) (by omega)) (λr I=>Gd.ite (λ_=>Gd.ret (by rw [I]; exact J)) (λ_=>?_))) (λ_=>b11 _ _ _ J p1 p2)
   rw [I];exact b11 _ _ _ J p1 p2
  have b13:∀ (e:List N2) (k:Int),e.Perm l->Gd (gE (bO f) a b c1 c2 nx e k) (λr=>r.Perm l):=λe k J=>by
   have hel:=J.length_eq;unfold gE;refine Gd.hO (Jf e a b (by omega) (by omega) (by omega) (by omega)) (λr I=>Gd.ite (λ_=>Gd.hO (M5 e a b (by omega) (by omega) (by omega) (by omega)) (λq hq=>?_)) (λ_=>b12 _ _ _ _ J I.1 I.2))
   rw [wi (n:=b-1) (by omega) (by omega),wi (n:=r.1-a) (by omega) (by omega),wi (n:=b-1-(r.1-a)) (by omega) (by omega)]
   exact b12 _ _ _ _ (hq.trans J) (by omega) (by omega)
  exact Gd.ite (λ_=>Gd.hO (MD d a b (by omega) (by omega) (by omega) (by omega)) (λr I=>b13 _ _ (I.trans hd))) (λ_=>b13 _ _ hd)
theorem IB (l:List N2) (hl:l.length<=49):Gd (kD l) (λr=>r.Perm l):=by
 unfold kD mL;obtain ⟨z,J⟩:=Kx (n:=l.length) hl;exact Gd.bind_eq J (Gd.hO (L3 49 a_ l 0 l.length z (by unfold a_; omega) (by omega) hl (by omega) (by omega) (by omega)) (λr I=>Gd.ret I))
theorem or_some (x y:Int):∃ z,rf [x,y]=some z:=by
 suffices h:Gd (rf [x,y]) (λ_=>True) by
  obtain ⟨z,I,_⟩:=h;exact ⟨z,I⟩
 unfold rf;refine Gd.gM (λ_ _ _=>True) (λi y ys s n _ hn=>?_) (λ_ _ _=>Gd.ret N4) _ _ _ N4;unfold tS;exact Gd.ite (λ_=>Gd.ret N4) (λ_=>hn _ N4)
theorem FL (x y:aA):∃ z,cZ x y=some z:=by
 unfold cZ;obtain ⟨z,I⟩:=or_some (jP x.Time y.Time) (iF x.Name y.Name);exact ⟨z,by rw [I]; rfl⟩
theorem Gl {R:Type}{Q:R->Prop}{x y:aA}{f:Int->Bool}{A B:Option R} (I:Gd A Q) (J:Gd B Q):Gd ((cZ x y).bind λr=>if f r=true then A else B) Q:=by
 obtain ⟨z,O⟩:=FL x y;exact Gd.bind_eq O (Gd.ite (λ_=>I) (λ_=>J))
theorem MM (l:List aA) (a b:Int) (hl:l.length<=49) (ha:0<=a) (hab:a<=b) (hb:b<=l.length):Gd (cN l a b) (λr=>r.Perm l):=by
 unfold cN;rw [wi (n:=a+1) (by omega) (by omega)]
 refine Gd.cE (λ(s:List aA×Int)=>s.1.Perm l/\a+1<=s.2) (λs=>(b+1-s.2).toNat) ?_ a_ _ ⟨SA _,by simp only; omega⟩ (by simp only [a_]; omega)
 rintro ⟨d,i⟩ nx ⟨O,hi⟩ hn;simp only at O hi
 dsimp only
 have hd:=O.length_eq;unfold eO;refine Gd.ite (λh=>?_) (λh=>Gd.ret O);have h:i<b:=N9 h;refine Gd.cE (λ(s:List aA×Int)=>s.1.Perm l/\a<=s.2/\s.2<=i) (λs=>(s.2-a).toNat) ?_ a_ _ ⟨O,by simp only; omega,by simp only; omega⟩ (by simp only [a_]; omega)
 rintro ⟨e,j⟩ nx2 ⟨I,hj,Z⟩ hn2;simp only at I hj Z
 dsimp only
 have he:=I.length_eq;have J:∀ Y,Y.Perm l->Gd (nx (Y,i64.wrap (i+1))) (λr=>r.Perm l):=λY h'=>by
  rw [wi (n:=i+1) (by omega) (by omega)]
  exact hn _ ⟨h',by simp only; omega⟩ (by simp only; omega)
 unfold eP;refine Gd.ite (λh0=>?_) (λ_=>J _ I);have h0:a<j:=N9 h0;rw [wi (n:=j-1) (by omega) (by omega)]
 refine Gd.uk (by omega) (by omega) (λ_=>Gd.uk (by omega) (by omega) (λ_=>Gl (Gd.swp (by omega) (by omega) (by omega) (by omega) (λy y2 hs=>?_)) (J _ I)))
 exact hn2 _ ⟨hs.trans I,by simp only; omega,by simp only; omega⟩ (by simp only; omega)
theorem KC (l:List aA) (lo hi first:Int) (hl:l.length<=49) (h0:0<=lo) (Y:lo<=hi) (hf:0<=first) (hh:first+hi<=l.length):Gd (cB l lo hi first) (λr=>r.Perm l):=by
 unfold cB;refine Gd.cE (λ(s:List aA×Int)=>s.1.Perm l/\0<=s.2/\s.2<=hi) (λs=>(hi-s.2).toNat) ?_ a_ _ ⟨SA _,h0,Y⟩ (by simp only [a_]; omega)
 rintro ⟨d,n⟩ nx ⟨I,Z,hnh⟩ hn;simp only at I Z hnh
 dsimp only
 have hd:=I.length_eq;have key:∀ c,c<hi->n<c->Gd (bA first d n nx c) (λr=>r.Perm l):=λc hc hnc=>by
  unfold bA;rw [wi (n:=first+n) (by omega) (by omega),wi (n:=first+c) (by omega) (by omega)]
  refine Gd.uk (by omega) (by omega) (λ_=>Gd.uk (by omega) (by omega) (λ_=>Gl (Gd.ret I) (Gd.swp (by omega) (by omega) (by omega) (by omega) (λy y2 hs=>?_))))
  exact hn _ ⟨hs.trans I,by simp only; omega,by simp only; omega⟩ (by simp only; omega)
 unfold fS;rw [wi (n:=2*n) (by omega) (by omega),wi (n:=2*n+1) (by omega) (by omega),wi (n:=2*n+1+1) (by omega) (by omega)]
 refine Gd.ite (λ_=>Gd.ret I) (λJ=>?_);have J:2*n+1<hi:=by simpa using J
 refine Gd.ite (λO=>?_) (λ_=>key _ J (by omega))
 have O:2*n+1+1<hi:=N9 O;rw [wi (n:=first+(2*n+1)) (by omega) (by omega),wi (n:=first+(2*n+1)+1) (by omega) (by omega)]
 exact Gd.uk (by omega) (by omega) (λ_=>Gd.uk (by omega) (by omega) (λ_=>Gl (key _ O (by omega)) (key _ J (by omega))))
theorem LJ (l:List aA) (a b:Int) (hl:l.length<=49) (ha:0<=a) (hab:a<b) (hb:b<=l.length):Gd (dB l a b) (λr=>r.Perm l):=by
 unfold dB;rw [wi (n:=b-a) (by omega) (by omega),wi (n:=b-a-1) (by omega) (by omega),Sy (by omega),wi (n:=(b-a-1) / 2) (by omega) (by omega)]
 refine Gd.cE (λ(s:List aA×Int)=>s.1.Perm l/\s.2<=b-a) (λs=>(s.2+1).toNat) ?_ a_ _ ⟨SA _,by simp only; omega⟩ (by simp only [a_]; omega)
 rintro ⟨d,n⟩ nx ⟨O,J⟩ hn;simp only at O J
 dsimp only
 have hd:=O.length_eq;unfold fP;rw [wi (n:=b-a) (by omega) (by omega)]
 refine Gd.ite (λh=>?_) (λh=>?_)
 ·have h:0<=n:=N9 h
  rw [wi (n:=n-1) (by omega) (by omega)]
  refine Gd.hO (KC d n (b-a) a (by omega) h J ha (by omega)) (λr hr=>hn _ ⟨hr.trans O,by simp only; omega⟩ (by simp only; omega))
 ·rw [wi (n:=b-a-1) (by omega) (by omega)]
  refine Gd.cE (λ(s:List aA×Int)=>s.1.Perm l/\s.2<=b-a-1) (λs=>(s.2+1).toNat) ?_ a_ _ ⟨O,by simp only; omega⟩ (by simp only [a_]; omega)
  rintro ⟨e,k⟩ nx2 ⟨I,Y⟩ Z;simp only at I Y
  dsimp only
  have he:=I.length_eq;unfold fQ;refine Gd.ite (λh=>?_) (λh=>Gd.ret I);have h:0<=k:=N9 h;rw [wi (n:=a+k) (by omega) (by omega),wi (n:=k-1) (by omega) (by omega)]
  refine Gd.swp (by omega) (by omega) (by omega) (by omega) (λy y2 hs=>?_)
  have hsl:=hs.length_eq;exact Gd.hO (KC _ 0 k a (by omega) (by omega) h ha (by omega)) (λr hr=>Z _ ⟨hr.trans (hs.trans I),by simp only; omega⟩ (by simp only; omega))
theorem H6 (l:List aA) (lo hi i j s:Int) (O:0<=lo) (Y:hi<=l.length) (I:lo<=i/\i<hi) (J:lo<=j/\j<hi):
  Gd (bL l i j s) (λr=>(lo<=r.1/\r.1<hi)/\lo<=r.2.1/\r.2.1<hi):=by
 unfold bL;exact Gd.uk (by omega) (by omega) (λ_=>Gd.uk (by omega) (by omega) (λ_=>Gl (Gd.ret ⟨J,I⟩) (Gd.ret ⟨I,J⟩)))
theorem MP (l:List aA) (lo hi i j k s:Int) (I:0<=lo) (J:hi<=l.length) (O:lo<=i/\i<hi) (Z:lo<=j/\j<hi) (hk:lo<=k/\k<hi):
  Gd (cD l i j k s) (λr=>lo<=r.1/\r.1<hi):=by
 unfold cD;refine Gd.hO (H6 l lo hi i j s I J O Z) (λr Y=>Gd.hO (H6 l lo hi _ k _ I J Y.2 hk) (λq hq=>Gd.hO (H6 l lo hi _ _ _ I J Y.1 hq.1) (λp hp=>Gd.ret hp.2)))
theorem Je (l:List aA) (a b:Int) (hl:l.length<=49) (Z:0<=a) (hab:a<b) (hb:b<=l.length):Gd (cU l a b) (λr=>a<=r.1/\r.1<b):=by
 have O:∀ n s,a<=n->n<b->Gd (bK n s) (λr=>a<=r.1/\r.1<b):=λn s I J=>by
  unfold bK;exact Gd.ite (λ_=>Gd.ret ⟨I,J⟩) (λ_=>Gd.ite (λ_=>Gd.ret ⟨I,J⟩) (λ_=>Gd.ret ⟨I,J⟩))
 unfold cU;rw [wi (n:=b-a) (by omega) (by omega),Sy (by omega),wi (n:=(b-a) / 4) (by omega) (by omega),wi (n:=(b-a) / 4*1) (by omega) (by omega),wi (n:=(b-a) / 4*2) (by omega) (by omega),wi (n:=(b-a) / 4*3) (by omega) (by omega),
  wi (n:=a+(b-a) / 4*1) (by omega) (by omega),wi (n:=a+(b-a) / 4*2) (by omega) (by omega),wi (n:=a+(b-a) / 4*3) (by omega) (by omega)]
 refine Gd.ite (λ_=>Gd.ite (λh=>?_) (λ_=>?_)) (λ_=>O _ _ (by omega) (by omega))
 ·have:=N9 h
  omega
 ·unfold cH
  exact Gd.hO (MP l a b _ _ _ _ Z hb (by omega) (by omega) (by omega)) (λr Y=>O _ _ Y.1 Y.2)
theorem M4 (l:List aA) (a b:Int) (hl:l.length<=49) (Y:0<=a) (J:a<b) (Z:b<=l.length):Gd (cQ l a b) (λr=>r.Perm l):=by
 unfold cQ;rw [wi (n:=b-1) (by omega) (by omega)]
 refine Gd.cE (λ(s:List aA×Int×Int)=>s.1.Perm l/\a<=s.2.1/\s.2.2<b) (λs=>(s.2.2-s.2.1).toNat) ?_ a_ _ ⟨SA _,by simp only; omega,by simp only; omega⟩ (by simp only [a_]; omega)
 rintro ⟨d,i,j⟩ nx ⟨I,hi,O⟩ hn;simp only at I hi O
 dsimp only
 have hd:=I.length_eq;unfold eY;refine Gd.ite (λh=>?_) (λh=>Gd.ret I);have h:i<j:=N9 h;rw [wi (n:=i+1) (by omega) (by omega),wi (n:=j-1) (by omega) (by omega)]
 refine Gd.swp (by omega) (by omega) (by omega) (by omega) (λy y2 hs=>?_)
 exact hn _ ⟨hs.trans I,by simp only; omega,by simp only; omega⟩ (by simp only; omega)
theorem MW (l:List aA) (a b:Int) (hl:l.length<=49) (ha:0<=a) (O:a<b) (hb:b<=l.length):Gd (b_ l a b) (λr=>r.2=l):=by
 unfold b_;rw [wi (n:=a+1) (by omega) (by omega)]
 refine Gd.cE (λ(s:List aA×Int×Int)=>s=(l,a+1,0)) (λ_=>0) ?_ a_ _ rfl (by simp only [a_]; omega)
 rintro _ Y rfl hn
 dsimp only
 unfold dQ;refine Gd.ite (λ_=>?_) (λ_=>Gd.ret rfl);refine Gd.cE (λ(i:Int)=>a+1<=i/\i<=b) (λi=>(b-i).toNat) ?_ a_ _ ⟨by omega,by omega⟩ (by simp only [a_]; omega)
 rintro i Z ⟨h1,h2⟩ J;have I:Gd (aY a b l 0 Y i) (λr=>r.2=l):=by
  unfold aY;rw [wi (n:=b-a) (by omega) (by omega)]
  refine Gd.ite (λ_=>Gd.ret rfl) (λ_=>Gd.ite (λ_=>Gd.ret rfl) (λh=>?_));have:=Og h;omega
 unfold dR;refine Gd.ite (λh=>?_) (λ_=>I);have h:i<b:=N9 h;rw [wi (n:=i-1) (by omega) (by omega),wi (n:=i+1) (by omega) (by omega)]
 exact Gd.uk (by omega) (by omega) (λ_=>Gd.uk (by omega) (by omega) (λ_=>Gl (J _ ⟨by omega,by omega⟩ (by omega)) I))
theorem LX (l:List aA) (a b p:Int) (hl:l.length<=49) (ha:0<=a) (hab:a<b) (hb:b<=l.length) (hp:a<=p/\p<b):
  Gd (bF l a b p) (λr=>(a<=r.1/\r.1<b)/\r.2.2.Perm l):=by
 unfold bF;rw [wi (n:=a+1) (by omega) (by omega)]
 refine Gd.swp (by omega) (by omega) (by omega) (by omega) (λy y2 hs=>?_)
 have hsl:=hs.length_eq;have rest:∀ (d:List aA) (i j:Int),d.Perm l->a+1<=i->a<=j->j<b->Gd (cE (λs n=>dL a s.1 s.2.1 s.2.2 n) a_ (d,i,j)) (λr=>(a<=r.1/\r.1<b)/\r.2.2.Perm l):=λd i j hd hi hj hjb=>by
  refine Gd.cE (λ(s:List aA×Int×Int)=>s.1.Perm l/\a+1<=s.2.1/\a<=s.2.2/\s.2.2<b) (λs=>(s.2.2-s.2.1+2).toNat) ?_ a_ _ ⟨hd,hi,hj,hjb⟩ (by simp only [a_]; omega)
  rintro ⟨d,i,j⟩ nx ⟨hd,hi,hj,hjb⟩ hn;simp only at hd hi hj hjb hn
  dsimp only
  have hdl:=hd.length_eq;unfold dL;have Z:∀ i',i<=i'->Gd (bQ a d j nx i') (λr=>(a<=r.1/\r.1<b)/\r.2.2.Perm l):=λi' hi'=>by
   unfold bQ;have Y:∀ I,a<=I->I<=j->Gd (bP a d nx i' I) (λr=>(a<=r.1/\r.1<b)/\r.2.2.Perm l):=λI J h2=>by
    unfold bP dK;refine Gd.ite (λ_=>Gd.swp (by omega) (by omega) (by omega) (by omega) (λy y2 hs=>Gd.ret ⟨⟨J,by simp only; omega⟩,hs.trans hd⟩)) (λh=>?_)
    have h:¬ I<i':=Og h;rw [wi (n:=i'+1) (by omega) (by omega),wi (n:=I-1) (by omega) (by omega)]
    refine Gd.swp (by omega) (by omega) (by omega) (by omega) (λy y2 hs=>?_)
    exact hn _ ⟨hs.trans hd,by simp only; omega,by simp only; omega,by simp only; omega⟩ (by simp only; omega)
   refine Gd.cE (λ(I:Int)=>a<=I/\I<=j) (λI=>(I-a).toNat) ?_ a_ _ ⟨hj,by omega⟩ (by simp only [a_]; omega)
   rintro I nx3 ⟨J,h2⟩ O;unfold fB;refine Gd.ite (λh=>?_) (λ_=>Y _ J h2);have h:i'<=I:=N9 h;rw [wi (n:=I-1) (by omega) (by omega)]
   exact Gd.uk (by omega) (by omega) (λ_=>Gd.uk (by omega) (by omega) (λ_=>Gl (O _ ⟨by omega,by omega⟩ (by omega)) (Y _ J h2)))
  refine Gd.cE (λ(i':Int)=>i<=i') (λi'=>(j+1-i').toNat) ?_ a_ _ (Pw _) (by simp only [a_]; omega)
  rintro i' nx3 J O;unfold fC;refine Gd.ite (λh=>?_) (λ_=>Z _ J);have h:i'<=j:=N9 h;rw [wi (n:=i'+1) (by omega) (by omega)]
  exact Gd.uk (by omega) (by omega) (λ_=>Gd.uk (by omega) (by omega) (λ_=>Gl (O _ (by omega) (by omega)) (Z _ J)))
 have Z:∀ i',a+1<=i'->Gd (bS l a b p y y2 i') (λr=>(a<=r.1/\r.1<b)/\r.2.2.Perm l):=λi' hi'=>by
  unfold bS;rw [wi (n:=b-1) (by omega) (by omega)]
  have Y:∀ I,a<=I->I<b->Gd (bR l a p y y2 i' I) (λr=>(a<=r.1/\r.1<b)/\r.2.2.Perm l):=λI J h2=>by
   unfold bR;refine Gd.ite (λ_=>Gd.swp (by omega) (by omega) (by omega) (by omega) (λy y2 hs2=>Gd.ret ⟨⟨J,by simp only; omega⟩,hs2.trans hs⟩)) (λh=>?_)
   have h:¬ I<i':=Og h;rw [wi (n:=i'+1) (by omega) (by omega),wi (n:=I-1) (by omega) (by omega)]
   refine Gd.swp (by omega) (by omega) (by omega) (by omega) (λy y2 hs2=>?_)
   exact rest _ _ _ (hs2.trans hs) (by omega) (by omega) (by omega)
  refine Gd.cE (λ(I:Int)=>a<=I/\I<b) (λI=>(I-a).toNat) ?_ a_ _ ⟨by omega,by omega⟩ (by simp only [a_]; omega)
  rintro I nx3 ⟨J,h2⟩ O;unfold fD;refine Gd.ite (λh=>?_) (λ_=>Y _ J h2);have h:i'<=I:=N9 h;rw [wi (n:=I-1) (by omega) (by omega)]
  exact Gd.uk (by omega) (by omega) (λ_=>Gd.uk (by omega) (by omega) (λ_=>Gl (O _ ⟨by omega,by omega⟩ (by omega)) (Y _ J h2)))
 refine Gd.cE (λ(i':Int)=>a+1<=i') (λi'=>(b-i').toNat) ?_ a_ _ (Pw _) (by simp only [a_]; omega)
 rintro i' nx3 J O;unfold fE;rw [wi (n:=b-1) (by omega) (by omega)]
 refine Gd.ite (λh=>?_) (λ_=>Z _ J);have h:i'<=b-1:=N9 h;rw [wi (n:=i'+1) (by omega) (by omega)]
 exact Gd.uk (by omega) (by omega) (λ_=>Gd.uk (by omega) (by omega) (λ_=>Gl (O _ (by omega) (by omega)) (Z _ J)))
theorem MT (l:List aA) (a b p:Int) (hl:l.length<=49) (ha:0<=a) (hab:a<b) (hb:b<=l.length) (hp:a<=p/\p<b):
  Gd (cJ l a b p) (λr=>(a<r.1/\r.1<=b)/\r.2.Perm l):=by
 unfold cJ;rw [wi (n:=a+1) (by omega) (by omega),wi (n:=b-1) (by omega) (by omega)]
 refine Gd.swp (by omega) (by omega) (by omega) (by omega) (λy y2 hs=>?_)
 have hsl:=hs.length_eq;refine Gd.cE (λ(s:List aA×Int×Int)=>s.1.Perm l/\(a+1<=s.2.1/\s.2.1<=b)/\a<=s.2.2/\s.2.2<b) (λs=>(s.2.2-s.2.1+2).toNat) ?_ a_ _ ⟨hs,⟨by simp only; omega,by simp only; omega⟩,by simp only; omega,by simp only; omega⟩ (by simp only [a_]; omega)
 rintro ⟨d,i,j⟩ nx ⟨hd,hi,hj,hjb⟩ hn;simp only at hd hi hj hjb hn
 dsimp only
 have hdl:=hd.length_eq;unfold eG;have low:∀ i',i<=i'->i'<=b->Gd (bE a d j nx i') (λr=>(a<r.1/\r.1<=b)/\r.2.Perm l):=λi' hi' hib=>by
  unfold bE;have Z:∀ I,a<=I->I<=j->Gd (bD d nx i' I) (λr=>(a<r.1/\r.1<=b)/\r.2.Perm l):=λI O Y=>by
   unfold bD dD;refine Gd.ite (λ_=>Gd.ret ⟨⟨by simp only; omega,hib⟩,hd⟩) (λh=>?_)
   have h:¬ I<i':=Og h;rw [wi (n:=i'+1) (by omega) (by omega),wi (n:=I-1) (by omega) (by omega)]
   refine Gd.swp (by omega) (by omega) (by omega) (by omega) (λy y2 hs=>?_)
   exact hn _ ⟨hs.trans hd,⟨by simp only; omega,by simp only; omega⟩,by simp only; omega,by simp only; omega⟩ (by simp only; omega)
  refine Gd.cE (λ(I:Int)=>a<=I/\I<=j) (λI=>(I-a).toNat) ?_ a_ _ ⟨hj,by omega⟩ (by simp only [a_]; omega)
  rintro I nx3 ⟨O,Y⟩ J;unfold eH;refine Gd.ite (λh=>?_) (λ_=>Z _ O Y);have h:i'<=I:=N9 h;rw [wi (n:=I-1) (by omega) (by omega)]
  exact Gd.uk (by omega) (by omega) (λ_=>Gd.uk (by omega) (by omega) (λ_=>Gl (J _ ⟨by omega,by omega⟩ (by omega)) (Z _ O Y)))
 refine Gd.cE (λ(i':Int)=>i<=i'/\i'<=b) (λi'=>(b-i').toNat) ?_ a_ _ ⟨Pw _,hi.2⟩ (by simp only [a_]; omega)
 rintro i' nx3 ⟨O,Y⟩ J;unfold eI;refine Gd.ite (λh=>?_) (λ_=>low _ O Y);have h:i'<=j:=N9 h;rw [wi (n:=i'+1) (by omega) (by omega)]
 exact Gd.uk (by omega) (by omega) (λ_=>Gd.uk (by omega) (by omega) (λ_=>Gl (J _ ⟨by omega,by omega⟩ (by omega)) (low _ O Y)))
theorem MC (l:List aA) (a b:Int) (hl:l.length<=49) (ha:0<=a) (hab:a<b) (hb:b<=l.length):Gd (cM l a b) (λr=>r.Perm l):=by
 unfold cM;rw [wi (n:=b-a) (by omega) (by omega)]
 refine Gd.ite (λh=>?_) (λ_=>Gd.ret (SA _));have h8:8<=b-a:=N9 h;obtain ⟨m,hm,Y,hm2⟩:=Nl (n:=b-a) h8 (by omega)
 refine Gd.bind_eq hm ?_;rw [Sy (by omega),wi (n:=(b-a) / 4) (by omega) (by omega),wi (n:=(b-a) / 4*2) (by omega) (by omega),wi (n:=a+(b-a) / 4*2) (by omega) (by omega),wi (n:=a+(b-a) / 4*2-1) (by omega) (by omega)]
 generalize u64.wrap (b-a)=seed;refine Gd.cE (λ(s:List aA×Int×Int)=>s.1.Perm l/\a+(b-a) / 4*2-1<=s.2.1) (λs=>(a+(b-a) / 4*2+2-s.2.1).toNat) ?_ a_ _ ⟨SA _,by simp only; omega⟩ (by simp only [a_]; omega)
 rintro ⟨d,i,x⟩ nx ⟨O,hi⟩ hn;simp only at O hi hn
 dsimp only
 have hdl:=O.length_eq;have key:∀ o,0<=o->o<b-a->i<=a+(b-a) / 4*2+1->Gd (bG a d i x nx o) (λr=>r.Perm l):=λo h1 h2 I=>by
  unfold bG;rw [wi (n:=a+o) (by omega) (by omega),wi (n:=i+1) (by omega) (by omega)]
  refine Gd.swp (by omega) (by omega) (by omega) (by omega) (λy y2 hs=>?_)
  exact hn _ ⟨hs.trans O,by simp only; omega⟩ (by simp only; omega)
 unfold eN;rw [wi (n:=b-a) (by omega) (by omega),Sy (by omega),wi (n:=(b-a) / 4) (by omega) (by omega),wi (n:=(b-a) / 4*2) (by omega) (by omega),wi (n:=a+(b-a) / 4*2) (by omega) (by omega),wi (n:=a+(b-a) / 4*2+1) (by omega) (by omega)]
 refine Gd.ite (λI=>?_) (λ_=>Gd.ret O);have I:i<=a+(b-a) / 4*2+1:=N9 I;obtain ⟨Z,o2⟩:=CD ((dA ⟨x⟩)).1 Y (show m<=98 by omega)
 generalize i64.wrap (u64.wrap ((BitVec.ofInt (u64).bits ((dA ⟨x⟩)).1 &&& BitVec.ofInt (u64).bits (u64.wrap (m-1))).toNat))=o at Z o2 ⊢;refine Gd.ite (λJ=>?_) (λJ=>key _ Z (by have:=Og J; omega) I)
 have J:b-a<=o:=N9 J;rw [wi (n:=o-(b-a)) (by omega) (by omega)]
 exact key _ (by omega) (by omega) I
theorem L1:∀ (m:Nat) (f:Nat) (l:List aA) (a b O:Int),m<f->(b-a).toNat<=m->l.length<=49->0<=a->a<=b->b<=l.length->Gd (aH f l a b O) (λr=>r.Perm l)
 | m,0,l,a,b,O,hf,_,_,_,_,_=>by omega
 | m,f+1,l,a0,b0,limit0,hf,hm,hl,ha0,hab0,hb0=>by
  show Gd (cP (aH f) l a0 b0 limit0) _;unfold cP;refine Gd.cE (λ(s:List aA×Int×Int×Int×Bool×Bool)=>s.1.Perm l/\a0<=s.2.1/\s.2.1<=s.2.2.1/\s.2.2.1<=b0) (λs=>(s.2.2.1-s.2.1).toNat) ?_ a_ _ ⟨SA _,Pw _,hab0,Pw _⟩ (by simp only [a_]; omega)
  rintro ⟨d,a,b,O,c1,c2⟩ nx ⟨hd,h1,h2,h3⟩ hn;simp only at hd h1 h2 h3 hn
  dsimp only
  have hdl:=hd.length_eq;have ih:∀ (e:List aA) (Z b' k:Int),e.Perm l->a<=Z->Z<=b'->b'<=b->b'-Z<b-a->Gd (aH f e Z b' k) (λr=>r.Perm l):=λe Z b' k J g1 g2 g3 g4=>
   (L1 (m-1) f e Z b' k (by omega) (by omega) (by rw [J.length_eq]; exact hl) (by omega) g2 (by rw [J.length_eq]; omega)).mono (λr I=>I.trans J)
  unfold fR;rw [wi (n:=b-a) (by omega) (by omega)]
  refine Gd.ite (λ_=>Gd.hO (MM d a b (by omega) (by omega) h2 (by omega)) (λr I=>Gd.ret (I.trans hd))) (λh12=>?_)
  have h12:¬ b-a<=12:=Og h12;refine Gd.ite (λ_=>Gd.hO (LJ d a b (by omega) (by omega) (by omega) (by omega)) (λr I=>Gd.ret (I.trans hd))) (λ_=>?_)
  have b11:∀ (e:List aA) (p k:Int),e.Perm l->a<=p->p<b->Gd (bW (aH f) a b c1 c2 nx k p e) (λr=>r.Perm l):=λe p k J p1 p2=>by
   have hel:=J.length_eq;have split:Gd ((bF e a b p).bind λr=>if decide ((i64.wrap (r.1-a))<(i64.wrap (b-r.1))) then ((aH f r.2.2 a r.1 k).bind λq=>nx (q,i64.wrap (r.1+1),b,k,decide ((i64.wrap (Int.tdiv (i64.wrap (b-a)) 8))<=(i64.wrap (r.1-a))),r.2.1))
     else ((aH f r.2.2 (i64.wrap (r.1+1)) b k).bind λq=>nx (q,a,r.1,k,decide ((i64.wrap (Int.tdiv (i64.wrap (b-a)) 8))<=(i64.wrap (b-r.1))),r.2.1))) (λr=>r.Perm l):=by
    refine Gd.hO (LX e a b p (by omega) (by omega) (by omega) (by omega) ⟨p1,p2⟩) (λr I=>?_)
    obtain ⟨⟨r1,r2⟩,r3⟩:=I;have hr3:=r3.trans J;rw [wi (n:=r.1+1) (by omega) (by omega)]
    refine Gd.ite (λ_=>Gd.hO (ih _ a r.1 k hr3 (by omega) r1 (by omega) (by omega)) (λq hq=>hn _ ⟨hq,by simp only; omega,by simp only; omega,by simp only; omega⟩ (by simp only; omega)))
     (λ_=>Gd.hO (ih _ (r.1+1) b k hr3 (by omega) (by omega) (by omega) (by omega)) (λq hq=>hn _ ⟨hq,by simp only; omega,by simp only; omega,by simp only; omega⟩ (by simp only; omega)))
   unfold bW;refine Gd.ite (λY=>?_) (λ_=>split);have Y:0<a:=N9 Y;rw [wi (n:=a-1) (by omega) (by omega)]
   refine Gd.uk (by omega) (by omega) (λ_=>Gd.uk (by omega) (by omega) (λ_=>Gl (Gd.hO (MT e a b p (by omega) (by omega) (by omega) (by omega) ⟨p1,p2⟩) (λr I=>hn _ ⟨I.2.trans J,by simp only; omega,by simp only; omega,by simp only; omega⟩ (by simp only; omega))) split))
  have b12:∀ (e:List aA) (p k hint:Int),e.Perm l->a<=p->p<b->Gd (bX (aH f) a b c1 c2 nx k e p hint) (λr=>r.Perm l):=λe p k hint J p1 p2=>by
   have hel:=J.length_eq;unfold bX;refine Gd.ite (λ_=>Gd.hO (MW e a b (by omega) (by omega) (by omega) (by omega)) (λr I=>Gd.ite (λ_=>Gd.ret (by rw [I]; exact J)) (λ_=>?_))) (λ_=>b11 _ _ _ J p1 p2)
   rw [I];exact b11 _ _ _ J p1 p2
  have b13:∀ (e:List aA) (k:Int),e.Perm l->Gd (bY (aH f) a b c1 c2 nx e k) (λr=>r.Perm l):=λe k J=>by
   have hel:=J.length_eq;unfold bY;refine Gd.hO (Je e a b (by omega) (by omega) (by omega) (by omega)) (λr I=>Gd.ite (λ_=>Gd.hO (M4 e a b (by omega) (by omega) (by omega) (by omega)) (λq hq=>?_)) (λ_=>b12 _ _ _ _ J I.1 I.2))
   rw [wi (n:=b-1) (by omega) (by omega),wi (n:=r.1-a) (by omega) (by omega),wi (n:=b-1-(r.1-a)) (by omega) (by omega)]
   exact b12 _ _ _ _ (hq.trans J) (by omega) (by omega)
  exact Gd.ite (λ_=>Gd.hO (MC d a b (by omega) (by omega) (by omega) (by omega)) (λr I=>b13 _ _ (I.trans hd))) (λ_=>b13 _ _ hd)
theorem IA (l:List aA) (hl:l.length<=49):Gd (cC l) (λr=>r.Perm l):=by
 unfold cC gF;obtain ⟨z,J⟩:=Kx (n:=l.length) hl;exact Gd.bind_eq J (Gd.hO (L1 49 a_ l 0 l.length z (by unfold a_; omega) (by omega) hl (by omega) (by omega) (by omega)) (λr I=>Gd.ret I))
abbrev WB:Nat:=4294967296
def nv:List bT->Nat
 | []=>0
 | y::l=>y.n.toNat+WB*nv l
def Wf (l:List bT):Prop:=∀ y ∈ l,0<=y.n/\y.n<4294967296
theorem Wf.nil:Wf []:=λy h=>by cases h
theorem Wf.app {a b:List bT} (I:Wf a) (J:Wf b):Wf (a++b):=λy h=>by
 rcases Om.1 h with h | h
 ·exact I y h
 ·exact J y h
theorem Wf.one {v:Int} (h:0<=v/\v<4294967296):Wf [⟨v⟩]:=λy I=>by
 rw [OU] at I; subst I; exact h
theorem Wf.take {l:List bT} (h:Wf l) (k:Nat):Wf (l.take k):=λy I=>h y (QG I)
theorem B1:∀ (a b:List bT),nv (a++b)=nv a+WB ^ a.length*nv b
 | [],b=>by simp [nv]
 | y::a,b=>by
  rw [Qg,nv,B1 a b,nv,Oj,S5];rw [SU,<- SV,SW (WB ^ a.length) WB,Qi]
theorem As (y:bT):nv [y]=y.n.toNat:=by simp [nv]
theorem ur (a:List bT) (y:bT):nv (a++[y])=nv a+WB ^ a.length*y.n.toNat:=by rw [B1,As]
theorem sP:∀ {l:List bT},Wf l->nv l<WB ^ l.length
 | [],_=>by simp [nv]
 | y::l,h=>by
  have I:=sP (l:=l) (λz J=>h z (Od _ J));have O:=h y (by simp)
  rw [nv,Oj,S5];have:WB*nv l+WB<=WB ^ l.length*WB:=by
   rw [SW (WB ^ l.length) WB,<- Nat.mul_succ];exact SX _ I
  have:y.n.toNat<WB:=by show y.n.toNat<4294967296; omega
  omega
theorem rp {l:List bT}{k:Nat}{y:bT} (h:l[k]? = some y):nv (l.take (k+1))=nv (l.take k)+WB ^ k*y.n.toNat:=by
 have I:=(N_.1 h).1;rw [List.take_add_one,h];show nv (l.take k++[y])=_;rw [ur,OF,O7 (by omega)]
theorem HY (n:Nat):nv (List.replicate n (⟨0⟩:bT))=0:=by
 induction n with
 | zero=>rfl
 | succ n ih=>rw [Qt,nv,ih]; rfl
theorem vG {l:List bT}{k:Nat}{v:bT} (h:k<l.length):(l.set k v).take (k+1)=l.take k++[v]:=by
 rw [List.take_add_one,Oz h,QN (Ov _)]; rfl
theorem wC (n:Int):u32.wrap n=n%4294967296:=by simp [IntKind.wrap,IntKind.bits,IntKind.signed]
theorem Cb (n:Int):u64.wrap n=n%18446744073709551616:=by simp [IntKind.wrap,IntKind.bits,IntKind.signed]
theorem jS {n:Int} (h:0<=n/\n<18446744073709551616):u64.wrap n=n:=by rw [Cb]; omega
theorem Bg (n:Int):mO .u64 n 32=n / 4294967296:=by
 unfold mO;rw [show (min (32:Int).toNat u64.bits)=32 by decide,Qy _ (by decide)]
 rfl
theorem Iu (n:Int):mO .i64 n 32=n / 4294967296:=by
 unfold mO;rw [show (min (32:Int).toNat i64.bits)=32 by decide,Qy _ (by decide)]
 rfl
abbrev LI:=aD
structure tr (a:LI):Prop where
 wf:Wf a.words
 top:∀ y,a.words.getLast? = some y->y.n≠0
 sign:a.minus=true->a.words≠[]
def jR (a:LI):Int:=if a.minus=true then -(nv a.words:Int) else (nv a.words:Int)
theorem tB (minus:Bool):∀ (w:List bT),Wf w->w.length<=1000000->Gd (kC minus w) (λr=>tr r/\r.words.length<=w.length/\nv r.words=nv w/\(r.minus=true↔minus=true/\nv w≠0)):=by
 intro w hw hl;unfold kC;refine Gd.cE (λ(l:List bT)=>Wf l/\l.length<=w.length/\nv l=nv w) (λl=>l.length) ?_ a_ w ⟨hw,Ov _,rfl⟩ (by simp only [a_]; omega)
 rintro l nx ⟨Z,h2,Y⟩ hnx;have O:(∀ y,l.getLast? = some y->y.n≠0)->Gd (oF minus l) (λr=>tr r/\r.words.length<=w.length/\nv r.words=nv w/\(r.minus=true↔minus=true/\nv w≠0)):=λht=>by
  have hz:nv l=0->l=[]:=λI=>by
   rcases SC l with h | ⟨a,y,h⟩
   ·exact h
   ·exfalso
    have h:l=a++[y]:=by simpa using h
    have J:=ht y (by rw [h]; simp)
    have hyw:=Z y (by rw [h]; simp)
    rw [h,ur] at I;have hp:0<WB ^ a.length:=S4 (by decide)
    have:0<WB ^ a.length*y.n.toNat:=Nat.mul_pos hp (by omega)
    omega
  unfold oF;refine Gd.ite (λhm=>Gd.ret ⟨⟨Z,ht,?_⟩,h2,Y,?_⟩) (λhm=>Gd.ret ⟨⟨Z,ht,λh=>by cases h⟩,h2,Y,?_⟩)
  ·intro h e
   have h:decide (0<(l.length:Int))=true:=h;have e:l=[]:=e;rw [e] at h; simp at h
  ·constructor
   ·intro h
    have h:0<(l.length:Int):=N9 h;refine ⟨hm,λI=>?_⟩;rw [<- Y] at I;have:=hz I;rw [this] at h; simp at h
   ·intro h
    show decide (0<(l.length:Int))=true;rw [PC];cases l with
    | nil=>exact absurd (Y.symm.trans rfl) h.2
    | cons a b=>simp
  ·rw [hm]
   constructor
   ·intro h; cases h
   ·intro h; cases h.1
 unfold tX;refine Gd.ite (λh=>?_) (λh=>O (λy J=>?_))
 ·have hpos:0<l.length:=by have:=N9 h; omega
  have hw1:i64.wrap ((l.length:Int)-1)=((l.length-1:Nat):Int):=by rw [cK ⟨by omega,by omega⟩]; omega
  rw [hw1];refine Gd.mR (by omega) (Gd.ite (λI=>?_) (λI=>O (λy J=>?_)))
  ·have I:(l[l.length-1]).n=0:=N9 I
   refine Gd.nd ⟨by omega,by omega⟩ ?_
   have hs:uW l 0 (((l.length-1:Nat):Int).toNat)=l.take (l.length-1):=by simp [uW]
   rw [hs];refine hnx _ ⟨Z.take _,by rw [OF]; omega,?_⟩ (by rw [OF]; omega)
   have:=rp (l:=l) (k:=l.length-1) (N5 (by omega))
   rw [show l.length-1+1=l.length by omega,PS,I] at this
   rw [<- Y,this]; simp
  ·have I:(l[l.length-1]).n≠0:=Og I
   rw [SG,N5 (by omega)] at J
   rw [<- N8 J]; exact I
 ·have h:¬ 0<(l.length:Int):=Og h
  have:l=[]:=OK (by omega)
  rw [this] at J; cases J
theorem CB {a b:List bT} (ha:Wf a) (hb:Wf b) (hl:b.length<=a.length) (I:a.length<=1000000):
  Gd (mc a b) (λr=>Wf r/\r.length=a.length+1/\nv r=nv a+nv b):=by
 have w1:i64.wrap ((a.length:Int)+1)=((a.length+1:Nat):Int):=by rw [cK ⟨by omega,by omega⟩]; omega
 unfold mc;rw [w1];refine Gd.nd ⟨by omega,by omega⟩ ?_
 refine Gd.mn (λm k (z:List bT×Int)=>k+m=a.length/\z.1.length=a.length+1/\Wf z.1/\0<=z.2/\z.2<=1/\nv (z.1.take k)+WB ^ k*z.2.toNat=nv (a.take k)+nv (b.take k)) ?_ ?_ _ 0 _ ⟨by simp,by simp,λy Y=>?_,Pw _,by show (0:Int)<=1; omega,by simp [nv]⟩
 ·rintro m k ⟨l,c⟩ nx ⟨h0,h1,h2,h3,h4,h5⟩ hnx
  simp only at h1 h2 h3 h4 h5 hnx ⊢;have hka:k<a.length:=by omega
  have J:((k:Int)).toNat=k:=by omega
  obtain ⟨y,Y⟩:∃ y,a[k]? = some y:=⟨_,N5 hka⟩;have hyw:=ha y (Ol Y);have Z:∀ (n:Int) (x:Nat),n=c+y.n+x->x<WB->nv (b.take (k+1))=nv (b.take k)+WB ^ k*x->Gd (mb l nx k n) _:=λn x hn O hb1=>by
   unfold mb;rw [Bg,J,wC];have O:x<4294967296:=O;refine Gd.mR (by omega) (hnx _ ⟨by omega,by simp [h1],?_,by simp only; omega,by simp only; omega,?_⟩)
   ·intro z I
    rcases SK I with I | I
    ·exact h2 z I
    ·rw [I]; simp only; omega
   ·simp only
    rw [vG (by omega),ur,OF,O7 (by omega),rp Y,hb1]
    simp only;have e1:(n%4294967296).toNat+WB*(n / 4294967296).toNat=c.toNat+y.n.toNat+x:=by
     show (n%4294967296).toNat+4294967296*(n / 4294967296).toNat=_;omega
    have e2:WB ^ k*(n%4294967296).toNat+WB ^ (k+1)*(n / 4294967296).toNat=WB ^ k*c.toNat+WB ^ k*y.n.toNat+WB ^ k*x:=by
     rw [S5,SV,<- SU,e1,SU,SU]
    omega
  unfold rD;refine Gd.ix (by omega) (by rw [J]; exact Y) (Gd.ite (λh=>?_) (λh=>?_))
  ·have hkb:k<b.length:=by have:=N9 h; omega
   obtain ⟨x,O⟩:∃ x,b[k]? = some x:=⟨_,N5 hkb⟩;have hxw:=hb x (Ol O);refine Gd.ix (by omega) (by rw [J]; exact O) (Z _ x.n.toNat ?_ (by show x.n.toNat<4294967296; omega) (rp O))
   rw [jS (n:=y.n) (by omega),jS (n:=c+y.n) (by omega),jS (n:=x.n) (by omega),jS (by omega)]
   omega
  ·have hkb:b.length<=k:=by have:=Og h; omega
   refine Z _ 0 ?_ (by decide) ?_
   ·rw [jS (n:=y.n) (by omega),jS (by omega)]; simp
   ·rw [Oo (by omega),Oo (by omega)]; simp
 ·rintro k ⟨l,c⟩ ⟨h0,h1,h2,h3,h4,h5⟩
  simp only at h1 h2 h3 h4 h5 ⊢;have hk:k=a.length:=by omega
  subst hk;have hln:((a.length:Int)).toNat=a.length:=by omega
  rw [hln,wC];refine Gd.mR (by omega) (Gd.ret ⟨?_,by simp [h1],?_⟩)
  ·intro z I
   rcases SK I with I | I
   ·exact h2 z I
   ·rw [I]; simp only; omega
  ·have e:=vG (l:=l) (k:=a.length) (v:=⟨c%4294967296⟩) (by omega)
   rw [Oo (by simp; omega)] at e
   rw [e,ur,OF,O7 (by omega)]
   simp only;rw [PS,Oo hl] at h5;rw [show (c%4294967296).toNat=c.toNat by omega]
   exact h5
 ·rw [SL] at Y
  rw [Y.2]; simp
theorem KL {a b:List bT} (Y:Wf a) (Z:Wf b) (J:a.length<=1000000) (O:b.length<=1000000):
  Gd (pE a b) (λr=>Wf r/\r.length=max a.length b.length+1/\nv r=nv a+nv b):=by
 unfold pE;refine Gd.ite (λh=>(CB Z Y (by have:=N9 h; omega) O).mono ?_) (λh=>(CB Y Z (by have:=Og h; omega) J).mono ?_)
 ·rintro r ⟨I,h2,h3⟩
  have:=N9 h;exact ⟨I,by omega,by omega⟩
 ·rintro r ⟨I,h2,h3⟩
  have:=Og h;exact ⟨I,by omega,by omega⟩
def ve (l:List bT):Prop:=∀ y,l.getLast? = some y->y.n≠0
theorem Dd {l:List bT} (J:Wf l) (ht:ve l) (I:l≠[]):WB ^ (l.length-1)<=nv l:=by
 rcases SC l with h | ⟨a,y,h⟩
 ·exact absurd h I
 ·have h:l=a++[y]:=by simpa using h
  have Y:=ht y (by rw [h]; simp)
  have O:=J y (by rw [h]; simp)
  rw [h,ur,OG,OQ,Nat.add_sub_cancel];have:WB ^ a.length*1<=WB ^ a.length*y.n.toNat:=SX _ (by omega)
  omega
theorem uU {a b:List bT} (J:Wf a) (O:Wf b) (I:ve b) (h:a.length<b.length):nv a<nv b:=by
 have Y:=sP J;have Z:=Dd O I (by intro e; rw [e] at h; simp at h)
 have h3:WB ^ a.length<=WB ^ (b.length-1):=S1 (by decide) (by omega)
 omega
theorem HU {a b:List bT} (J:Wf a) (O:Wf b):a.length=b.length->nv a=nv b->a=b:=by
 induction a generalizing b with
 | nil=>intro h _; exact (OK h.symm).symm
 | cons x a ih=>
  intro h e;cases b with
  | nil=>simp at h
  | cons y b=>
   have Y:=J x (by simp); have Z:=O y (by simp)
   rw [nv,nv] at e;have e1:x.n.toNat=y.n.toNat:=by
    have:=Pc (·%WB) e;simp only [Nat.add_mul_mod_self_left] at this;rw [PT (by show x.n.toNat<4294967296; omega),PT (by show y.n.toNat<4294967296; omega)] at this
    exact this
   have e2:nv a=nv b:=by
    rw [e1] at e;exact Nat.eq_of_mul_eq_mul_left (by decide) (Nat.add_left_cancel e)
   have:=ih (λz I=>J z (Od _ I)) (λz I=>O z (Od _ I)) (by simpa using h) e2
   cases x; cases y
   simp only at e1 Y Z;rw [this]
   congr 2; omega
theorem q_ {l:List bT}{k:Nat}{x:bT} (h:l[k]? = some x):l.drop k=x::l.drop (k+1):=by
 obtain ⟨I,J⟩:=N_.1 h;rw [O6 I,J]
theorem vD {l:List bT}{k:Nat}{x:bT} (h:l[k]? = some x):nv l=nv (l.take k)+WB ^ k*(x.n.toNat+WB*nv (l.drop (k+1))):=by
 have I:=(N_.1 h).1;have e:nv l=nv (l.take k++l.drop k):=by rw [PE]
 rw [e,B1,q_ h,OF,O7 (by omega)]
 rfl
def Mw (r:Int) (x y:Nat):Prop:=(r<0↔x<y)/\(r=0↔x=y)
theorem G3 {a b : List bT} (ha : Wf a) (hb : Wf b) (hta : ve a) (htb : ve b) (hza : a.length ≤ 1000000) (hzb : b.length ≤ 1000000) : Gd (nR a b) (fun r => Mw r (nv a) (nv b)) := by
  unfold nR;refine Gd.ite (fun h => Gd.ret ?_) (fun h => ?_)
  · have h : ¬ (a.length : Int) = b.length := by simpa using h
    rw [cK ⟨by omega, by omega⟩]
    rcases Nat.lt_or_gt_of_ne (show a.length ≠ b.length by omega) with hl | hl
    · have := uU ha hb htb hl
      exact ⟨⟨fun _ => this, fun _ => by omega⟩, ⟨fun h => by omega, fun h => by omega⟩⟩
    · have := uU hb ha hta hl
      exact ⟨⟨fun h => by omega, fun h => by omega⟩, ⟨fun h => by omega, fun h => by omega⟩⟩
  · have hl : a.length = b.length := by have : (a.length : Int) = b.length := by simpa using h
                                        omega
    rw [cK ⟨by omega, by omega⟩]
    refine Gd.cE (fun (i : Int) => -1 ≤ i ∧ i < a.length ∧ a.drop (i + 1).toNat = b.drop (i + 1).toNat) (fun i => (i + 1).toNat) ?_ a_ _ ⟨by omega, by omega, ?_⟩ (by simp only [a_]; omega)
    · rintro i nx ⟨h1, h2, Y⟩ hnx
      unfold rE;refine Gd.ite (fun hi => ?_) (fun hi => Gd.ret ?_)
      · have hi : 0 ≤ i := N9 hi
        obtain ⟨k, rfl⟩ : ∃ k : Nat, i = k := ⟨i.toNat, by omega⟩
        obtain ⟨x, hx⟩ : ∃ x, a[k]? = some x := ⟨_, N5 (by omega)⟩
        obtain ⟨y, hy⟩ : ∃ y, b[k]? = some y := ⟨_, N5 (by omega)⟩
        have hxw := ha x (Ol hx); have hyw := hb y (Ol hy)
        have O : ((k : Int)).toNat = k := by omega
        rw [show ((k : Int) + 1).toNat = k + 1 by omega] at Y
        have sa := vD hx;have sb := vD hy;rw [← Y] at sb;have la := sP (ha.take k); have lb := sP (hb.take k)
        rw [OF, O7 (by omega)] at la lb
        generalize nv (a.drop (k + 1)) = T at sa sb;generalize nv (a.take k) = ta at sa la;generalize nv (b.take k) = tb at sb lb;generalize WB ^ k = P at sa sb la lb;have I : ∀ (u v tu tv : Nat), u < v → tu < P → tu + P * (u + WB * T) < tv + P * (v + WB * T) := fun u v tu tv huv hu => by
          have : P * (u + 1) ≤ P * v := SX _ huv;rw [SU] at this;rw [SU, SU];omega
        refine Gd.ix (by omega) (by rw [O]; exact hx) (Gd.ix (by omega) (by rw [O]; exact hy) (Gd.ite (fun Z => ?_) (fun he => ?_)))
        · have Z : ¬ x.n = y.n := by simpa using Z
          refine Gd.ix (by omega) (by rw [O]; exact hx) (Gd.ix (by omega) (by rw [O]; exact hy) (Gd.ite (fun J => Gd.ret ?_) (fun J => Gd.ret ?_)))
          · have J : x.n < y.n := N9 J
            have := I x.n.toNat y.n.toNat ta tb (by omega) la
            rw [← sa, ← sb] at this;exact ⟨⟨fun _ => this, fun _ => by omega⟩, ⟨fun h => by omega, fun h => by omega⟩⟩
          · have J : ¬ x.n < y.n := Og J
            have := I y.n.toNat x.n.toNat tb ta (by omega) lb
            rw [← sa, ← sb] at this;exact ⟨⟨fun h => by omega, fun h => by omega⟩, ⟨fun h => by omega, fun h => by omega⟩⟩
        · have he : x.n = y.n := by simpa using he
          rw [cK ⟨by omega, by omega⟩]
          refine hnx _ ⟨by omega, by omega, ?_⟩ (by omega)
          rw [show ((k : Int) - 1 + 1).toNat = k by omega, q_ hx, q_ hy, Y]
          have : x = y := by cases x; cases y; simp only at he; rw [he]
          rw [this]
      · have hi : ¬ 0 ≤ i := Og hi
        have : (i + 1).toNat = 0 := by omega
        rw [this, PB, PB] at Y;rw [Y];exact ⟨⟨fun h => by omega, fun h => by omega⟩, ⟨fun _ => rfl, fun _ => rfl⟩⟩
    · rw [show ((a.length : Int) - 1 + 1).toNat = a.length by omega, Q3, SB (by omega)]
theorem ID {a b:List bT} (ha:Wf a) (hb:Wf b) (hle:nv b<=nv a) (hl:b.length<=a.length) (hz:a.length<=1000000):
  Gd (nU a b) (λr=>Wf r/\r.length=a.length/\nv r=nv a-nv b):=by
 unfold nU;refine Gd.nd ⟨by omega,by omega⟩ ?_
 refine Gd.mn (λm k (z:List bT×Int)=>k+m=a.length/\z.1.length=a.length/\Wf z.1/\-1<=z.2/\z.2<=0/\(nv (z.1.take k):Int)+(WB ^ k:Nat)*z.2=nv (a.take k)-nv (b.take k)) ?_ ?_ _ 0 _ ⟨by simp,by simp,λy hy=>?_,by show (-1:Int)<=0; omega,Pw _,by simp [nv]⟩
 ·rintro m k ⟨l,c⟩ nx ⟨h0,J,O,h3,h4,Y⟩ hnx
  simp only at J O h3 h4 Y hnx ⊢;have hka:k<a.length:=by omega
  have I:((k:Int)).toNat=k:=by omega
  obtain ⟨y,hy⟩:∃ y,a[k]? = some y:=⟨_,N5 hka⟩;have hyw:=ha y (Ol hy);have fin:∀ (n:Int) (x:Nat),n=c+y.n-x->x<WB->nv (b.take (k+1))=nv (b.take k)+WB ^ k*x->Gd (me l nx k n) _:=λn x hn Z hb1=>by
   unfold me;rw [Iu,I,wC];have Z:x<4294967296:=Z;refine Gd.mR (by omega) (hnx _ ⟨by omega,by simp [J],?_,by simp only; omega,by simp only; omega,?_⟩)
   ·intro z hz
    rcases SK hz with hz | hz
    ·exact O z hz
    ·rw [hz]; simp only; omega
   ·simp only
    rw [vG (by omega),ur,OF,O7 (by omega),rp hy,hb1]
    simp only;have e1:((n%4294967296).toNat:Int)+4294967296*(n / 4294967296)=c+y.n.toNat-x:=by omega
    have e2:((WB ^ k:Nat):Int)*((n%4294967296).toNat:Int)+((WB ^ (k+1):Nat):Int)*(n / 4294967296)=((WB ^ k:Nat):Int)*c+((WB ^ k:Nat):Int)*(y.n.toNat:Int)-((WB ^ k:Nat):Int)*(x:Int):=by
     rw [S5,OW,Su,<- Ss,show ((WB:Nat):Int)=4294967296 from rfl,e1,Sv,Ss]
    simp only [Sw,OW] at *
    omega
  unfold rG;refine Gd.ix (by omega) (by rw [I]; exact hy) (Gd.ite (λh=>?_) (λh=>?_))
  ·have hkb:k<b.length:=by have:=N9 h; omega
   obtain ⟨x,Z⟩:∃ x,b[k]? = some x:=⟨_,N5 hkb⟩;have hxw:=hb x (Ol Z);refine Gd.ix (by omega) (by rw [I]; exact Z) (fin _ x.n.toNat ?_ (by show x.n.toNat<4294967296; omega) (rp Z))
   rw [cK (n:=y.n) (by omega),cK (n:=c+y.n) (by omega),cK (n:=x.n) (by omega),cK (by omega)]
   omega
  ·have hkb:b.length<=k:=by have:=Og h; omega
   refine fin _ 0 ?_ (by decide) ?_
   ·rw [cK (n:=y.n) (by omega),cK (by omega)]; simp
   ·rw [Oo (by omega),Oo (by omega)]; simp
 ·rintro k ⟨l,c⟩ ⟨h0,J,O,h3,h4,Y⟩
  simp only at J O h3 h4 Y ⊢;have hk:k=a.length:=by omega
  subst hk;rw [PS,Oo hl,Oo (by omega)] at Y
  have hlt:=sP O;rw [J] at hlt;have hc:c=0:=by
   rcases (show c = -1\/c=0 by omega) with h | h
   ·exfalso; rw [h] at Y; omega
   ·exact h
  rw [hc] at Y;exact Gd.ret ⟨O,J,by omega⟩
 ·rw [SL] at hy
  rw [hy.2]; simp
theorem tr.tp {a:LI} (h:tr a):ve a.words:=h.top
theorem xa {r:LI}{m:Bool}{n:Nat} (O:nv r.words=n) (J:r.minus=true↔m=true/\n≠0):jR r=if m=true then -(n:Int) else n:=by
 unfold jR;rw [O]
 by_cases I:r.minus=true
 ·rw [Oc I,Oc (J.1 I).1]
 ·rw [Ob I]
  by_cases hm:m=true
  ·have:n=0:=by
    by_cases hn:n=0
    ·exact hn
    ·exact absurd (J.2 ⟨hm,hn⟩) I
   rw [Oc hm,this]; rfl
  ·rw [Ob hm]
theorem BZ {a:LI} (h:tr a) (J:a.words.length<=1000000):Gd (mh a) (λr=>tr r/\r.words.length<=a.words.length/\jR r = -jR a):=by
 unfold mh;refine Gd.hO (tB (!a.minus) a.words h.wf J) (λr I=>Gd.ret ⟨I.1,I.2.1,?_⟩);rw [xa I.2.2.1 I.2.2.2];unfold jR;cases a.minus <;> simp
theorem BQ {a b:LI} (O:tr a) (Y:tr b) (hza:a.words.length<=900000) (hzb:b.words.length<=900000):
  Gd (mg a b) (λr=>tr r/\r.words.length<=max a.words.length b.words.length+1/\jR r=jR a+jR b):=by
 unfold mg;refine Gd.ite (λh=>?_) (λh=>?_)
 ·have h:a.minus=b.minus:=N9 h
  refine Gd.hO (KL O.wf Y.wf (by omega) (by omega)) (λw Z=>Gd.hO (tB a.minus w Z.1 (by omega)) (λr J=>Gd.ret ⟨J.1,by omega,?_⟩))
  rw [xa J.2.2.1 J.2.2.2,Z.2.2];unfold jR;rw [<- h];cases a.minus <;> simp <;> omega
 ·have h:a.minus≠b.minus:=Og h
  refine Gd.hO (G3 O.wf Y.wf O.tp Y.tp (by omega) (by omega)) (λc hc=>Gd.ite (λh0=>?_) (λh0=>?_))
  ·have h0:0<=c:=N9 h0
   have hle:nv b.words<=nv a.words:=by
    have:=hc.1; omega
   have I:b.words.length<=a.words.length:=by
    rcases PW a.words.length b.words.length with hlt | hge
    ·have:=uU O.wf Y.wf Y.tp hlt; omega
    ·exact hge
   refine Gd.hO (ID O.wf Y.wf hle I (by omega)) (λw Z=>Gd.hO (tB a.minus w Z.1 (by omega)) (λr J=>Gd.ret ⟨J.1,by omega,?_⟩))
   rw [xa J.2.2.1 J.2.2.2,Z.2.2];unfold jR;cases ea:a.minus <;> cases eb:b.minus <;> first | (rw [ea,eb] at h; exact absurd rfl h) | (simp; omega)
  ·have h0:¬ 0<=c:=Og h0
   have hlt:nv a.words<nv b.words:=hc.1.1 (by omega)
   have I:a.words.length<=b.words.length:=by
    rcases PW b.words.length a.words.length with hl | hge
    ·have:=uU Y.wf O.wf O.tp hl; omega
    ·exact hge
   refine Gd.hO (ID Y.wf O.wf (by omega) I (by omega)) (λw Z=>Gd.hO (tB b.minus w Z.1 (by omega)) (λr J=>Gd.ret ⟨J.1,by omega,?_⟩))
   rw [xa J.2.2.1 J.2.2.2,Z.2.2];unfold jR;cases ea:a.minus <;> cases eb:b.minus <;> first | (rw [ea,eb] at h; exact absurd rfl h) | (simp; omega)
theorem Jr {a b:LI} (Y:tr a) (Z:tr b) (I:a.words.length<=900000) (hzb:b.words.length<=900000):
  Gd (oD a b) (λr=>tr r/\r.words.length<=max a.words.length b.words.length+1/\jR r=jR a-jR b):=by
 unfold oD;refine Gd.hO (BZ Z (by omega)) (λc J=>Gd.hO (BQ Y J.1 I (by omega)) (λr O=>Gd.ret ⟨O.1,by omega,by rw [O.2.2,J.2.2]; omega⟩))
theorem At {l:List bT}{k:Nat}{x v:bT} (h:l[k]? = some x):nv (l.set k v)+WB ^ k*x.n.toNat=nv l+WB ^ k*v.n.toNat:=by
 have O:=(N_.1 h).1;have I:=vD h;have J:nv (l.set k v)=nv (l.take k)+WB ^ k*(v.n.toNat+WB*nv (l.drop (k+1))):=by
  have:=vD (l:=l.set k v) (k:=k) (x:=v) (Oz O);rw [QN (Ov _),Qs (by omega)] at this
  exact this
 rw [SU] at I J;omega
theorem Wf.set {l:List bT} (h:Wf l) {k:Nat}{v:Int} (J:0<=v/\v<4294967296):Wf (l.set k ⟨v⟩):=λz I=>by
 rcases SK I with I | I
 ·exact h z I
 ·rw [I]; exact J
theorem HP {nz I J P W c xN x y s B T:Nat} (Y:I+P*xN=nz+P*(s%W)) (hs:s=c+xN+x*y) (Z:nz+P*c=J+x*T*B):I+P*W*(s / W)=J+x*T*B+P*x*y:=by
 have O:s%W+W*(s / W)=s:=SS s W;have e:P*(s%W)+P*(W*(s / W))=P*s:=by rw [<- SU,O]
 have e2:P*s=P*c+P*xN+P*(x*y):=by rw [hs,SU,SU]
 rw [SV P W,SV P x];omega
theorem vi {a b:LI} (ha:tr a) (hb:tr b) (hz:a.words.length+b.words.length<=900000):
  Gd (iJ a b) (λr=>tr r/\r.words.length<=a.words.length+b.words.length/\jR r=jR a*jR b):=by
 have wN:i64.wrap ((a.words.length:Int)+(b.words.length:Int))=((a.words.length+b.words.length:Nat):Int):=by rw [cK ⟨by omega,by omega⟩]; omega
 unfold iJ;rw [wN];refine Gd.nd ⟨by omega,by omega⟩ ?_
 refine Gd.gM (λi ys (z:List bT)=>ys=a.words.drop i/\i<=a.words.length/\z.length=a.words.length+b.words.length/\Wf z/\nv z=nv (a.words.take i)*nv b.words/\∀ q,i+b.words.length<=q->∀ y,z[q]? = some y->y.n=0) ?_ ?_ _ 0 _ ⟨by simp,by omega,by simp; omega,λy J=>?_,by rw [HY]; simp [nv],λq _ y J=>?_⟩
 ·rintro i x ys z0 nx ⟨e0,e1,e2,e3,e4,e5⟩ hnx
  have hi:i<a.words.length:=by
   have:=Pc List.length e0;simp at this; omega
  have hx:a.words[i]? = some x:=by
   have:=Pc (·[0]?) e0;simpa [ON] using this.symm
  have hys:ys=a.words.drop (i+1):=by
   have:=Pc (List.drop 1) e0;simpa using this
  have hxw:=ha.wf x (Ol hx);unfold sf;refine Gd.gM (λk bs (z:List bT×Int)=>bs=b.words.drop k/\k<=b.words.length/\z.1.length=a.words.length+b.words.length/\Wf z.1/\0<=z.2/\z.2<4294967296/\nv z.1+WB ^ (i+k)*z.2.toNat=nv z0+x.n.toNat*nv (b.words.take k)*WB ^ i/\∀ q,i+k<=q->z.1[q]? = z0[q]?) ?_ ?_ _ 0 _ ⟨by simp,by omega,e2,e3,Pw _,by show (0:Int)<4294967296; omega,by simp [nv],λq _=>rfl⟩
  ·rintro k y bs ⟨l,c⟩ nx2 ⟨f0,f1,f2,f3,f4,f5,f6,f7⟩ O
   simp only at f2 f3 f4 f5 f6 f7 O ⊢;have hk:k<b.words.length:=by
    have:=Pc List.length f0;simp at this; omega
   have J:b.words[k]? = some y:=by
    have:=Pc (·[0]?) f0;simpa [ON] using this.symm
   have hbs:bs=b.words.drop (k+1):=by
    have:=Pc (List.drop 1) f0;simpa using this
   have Z:=hb.wf y (Ol J);obtain ⟨o,Y⟩:∃ o,l[i+k]? = some o:=⟨_,N5 (by omega)⟩
   have how:=f3 o (Ol Y);have wj:i64.wrap ((i:Int)+(k:Int))=((i+k:Nat):Int):=by rw [cK ⟨by omega,by omega⟩]; omega
   have I:(((i+k:Nat):Int)).toNat=i+k:=by omega
   have hxy0:0<=x.n*y.n:=Int.mul_nonneg hxw.1 Z.1;have hxy:x.n*y.n<=4294967295*4294967295:=Int.mul_le_mul (by omega) (by omega) Z.1 (by omega)
   have hs:u64.wrap (c+(u64.wrap ((u64.wrap (o.n))+(u64.wrap ((u64.wrap (x.n))*(u64.wrap (y.n)))))))=c+o.n+x.n*y.n:=by
    rw [jS (n:=o.n) (by omega),jS (n:=x.n) (by omega),jS (n:=y.n) (by omega),jS (n:=x.n*y.n) (by omega),jS (n:=o.n+x.n*y.n) (by omega),jS (by omega)]
    omega
   unfold sh;rw [wj];refine Gd.ix (by omega) (by rw [I]; exact Y) (Gd.ix (by omega) (by rw [I]; exact Y) ?_)
   rw [hs,I,Bg,wC];have hxyn:x.n*y.n=((x.n.toNat*y.n.toNat:Nat):Int):=by
    rw [OW,Q5 hxw.1,Q5 Z.1]
   have hsn:c+o.n+x.n*y.n=((c.toNat+o.n.toNat+x.n.toNat*y.n.toNat:Nat):Int):=by rw [hxyn]; omega
   refine O _ ⟨hbs,by omega,by simp [f2],f3.set (by omega),by simp only; omega,by simp only; omega,?_,λq hq=>?_⟩
   ·simp only
    have g:=At (l:=l) (k:=i+k) (x:=o) (v:=⟨(c+o.n+x.n*y.n)%4294967296⟩) Y;simp only at g;have g1:((c+o.n+x.n*y.n)%4294967296).toNat=(c.toNat+o.n.toNat+x.n.toNat*y.n.toNat)%WB:=by rw [hsn]; show _=_%4294967296; omega
    have g2:((c+o.n+x.n*y.n) / 4294967296).toNat=(c.toNat+o.n.toNat+x.n.toNat*y.n.toNat) / WB:=by rw [hsn]; show _=_ / 4294967296; omega
    rw [g1] at g;have:=HP g rfl f6;rw [g2,show i+(k+1)=(i+k)+1 by omega,S5,this,rp J,SZ]
    rw [SU,Ou,Qi]
    congr 2
    rw [SW (WB ^ i) (WB ^ k),SW (WB ^ k*WB ^ i) x.n.toNat,SV,SV,SV,SV,SW y.n.toNat,SW (WB ^ i) y.n.toNat]
   ·simp only
    rw [Ow (by omega)]
    exact f7 q (by omega)
  ·rintro k ⟨l,c⟩ ⟨f0,f1,f2,f3,f4,f5,f6,f7⟩
   simp only at f2 f3 f4 f5 f6 f7 ⊢;have hk:k=b.words.length:=by
    have:=Pc List.length f0;simp at this; omega
   subst hk;have wj:i64.wrap ((i:Int)+(b.words.length:Int))=((i+b.words.length:Nat):Int):=by rw [cK ⟨by omega,by omega⟩]; omega
   have I:(((i+b.words.length:Nat):Int)).toNat=i+b.words.length:=by omega
   obtain ⟨o,Y⟩:∃ o,l[i+b.words.length]? = some o:=⟨_,N5 (by omega)⟩
   have ho0:o.n=0:=e5 _ (Ov _) o (by rw [<- f7 _ (Ov _)]; exact Y)
   rw [wj];refine Gd.ix (by omega) (by rw [I]; exact Y) ?_
   rw [I,wC,show c%4294967296=c by omega]
   refine hnx _ ⟨hys,by omega,by simp [f2],f3.set (by omega),?_,λq hq y J=>?_⟩
   ·have g:=At (l:=l) (k:=i+b.words.length) (x:=o) (v:=⟨c⟩) Y
    simp only [ho0] at g;rw [PS] at f6;rw [rp hx,Ou,<- e4];have e:WB ^ i*x.n.toNat*nv b.words=x.n.toNat*nv b.words*WB ^ i:=by rw [SW (WB ^ i),SV,SW (WB ^ i),<- SV]
    rw [e];simp at g;omega
   ·rw [Ow (by omega),f7 _ (by omega)] at J
    exact e5 _ (by omega) y J
 ·rintro i z ⟨e0,e1,e2,e3,e4,e5⟩
  have hi:i=a.words.length:=by
   have:=Pc List.length e0;simp at this; omega
  subst hi;rw [PS] at e4;refine Gd.hO (tB _ z e3 (by omega)) (λr hr=>Gd.ret ⟨hr.1,by omega,?_⟩)
  rw [xa hr.2.2.1 hr.2.2.2,e4];unfold jR;cases a.minus <;> cases b.minus <;> simp [Int.mul_neg,Int.neg_mul]
 ·rw [SL] at J
  rw [J.2]; simp
 ·have:=Ol J
  rw [SL] at this;rw [this.2]
theorem yl {r y:Int} (I:0<=r/\r<4294967296) (J:0<=y/\y<4294967296):
  u64.wrap ((BitVec.ofInt (u64).bits (pz .u64 r 32) ||| BitVec.ofInt (u64).bits (u64.wrap y)).toNat)=r*4294967296+y:=by
 obtain ⟨n,rfl⟩:∃ n:Nat,r=n:=⟨r.toNat,by omega⟩
 obtain ⟨m,rfl⟩:∃ m:Nat,y=m:=⟨y.toNat,by omega⟩
 have e1:pz .u64 (n:Int) 32=((n*4294967296:Nat):Int):=by
  unfold pz;rw [show (min (32:Int).toNat u64.bits)=32 by decide,Cb]
  show (n:Int)*4294967296%18446744073709551616=_;omega
 rw [e1,jS (n:=(m:Int)) (by omega)]
 show u64.wrap (((BitVec.ofInt 64 ((n*4294967296:Nat):Int) ||| BitVec.ofInt 64 ((m:Nat):Int)).toNat:Nat):Int)=_;rw [Sn,Sn,BitVec.toNat_or,So,So,PT (by omega),PT (by omega)]
 have e2:n*4294967296 ||| m=n*4294967296+m:=by
  have:=Nat.shiftLeft_add_eq_or_of_lt (i:=32) (b:=m) (by omega) n
  rw [Nat.shiftLeft_eq] at this;exact this.symm
 rw [e2,jS (by omega)]
 omega
theorem Gc {r y d:Int} (hr:0<=r/\r<d) (hy:0<=y/\y<4294967296) (hd:0<d/\d<4294967296):
  ∃ q m:Nat,Int.tdiv (r*4294967296+y) d=q/\Int.tmod (r*4294967296+y) d=m/\q<4294967296/\(m:Int)<d/\m+d.toNat*q=WB*r.toNat+y.toNat:=by
 obtain ⟨I,rfl⟩:∃ I:Nat,d=I:=⟨d.toNat,by omega⟩
 obtain ⟨J,rfl⟩:∃ J:Nat,r=J:=⟨r.toNat,by omega⟩
 obtain ⟨Y,rfl⟩:∃ Y:Nat,y=Y:=⟨y.toNat,by omega⟩
 have O:0<I:=by omega
 have e:∀ W:Nat,Y<W->∃ q m:Nat,Int.tdiv ((J:Int)*W+Y) I=q/\Int.tmod ((J:Int)*W+Y) I=m/\q<W/\m<I/\m+I*q=W*J+Y:=λW hW=>by
  have hN:J*W+Y<I*W:=by
   have:(J+1)*W<=I*W:=On _ (by omega)
   rw [Ou] at this;omega
  have hc:(J:Int)*W+Y=((J*W+Y:Nat):Int):=by rw [Sw,OW]
  rw [hc];refine ⟨(J*W+Y) / I,(J*W+Y)%I,rfl,rfl,?_,QQ _ O,?_⟩
  ·rw [SP O,SW W I]; exact hN
  ·rw [SS,SW J W]
 obtain ⟨q,m,Z,h2,h3,h4,h5⟩:=e WB (by show Y<4294967296; omega)
 refine ⟨q,m,Z,h2,h3,by omega,?_⟩
 simp only [N7];exact h5
theorem Ge {q I B m Y J:Nat} (O:m+I*q=WB*J+Y):(q+WB*B)*I+m=Y+WB*(B*I+J):=by
 rw [Ou,SU,SV WB,SW q I];generalize I*q=Z at O;generalize WB*J=X at O ⊢;generalize WB*(B*I)=T;omega
theorem Dp {a:List bT} (ha:Wf a) (hz:a.length<=1000000) {d:Int} (hd:0<d/\d<4294967296):
  Gd (nT a d) (λr=>Wf r.1/\r.1.length=a.length/\nv r.1=nv a / d.toNat/\r.2=(nv a%d.toNat:Nat)):=by
 unfold nT;refine Gd.nd ⟨by omega,by omega⟩ ?_
 rw [cK ⟨by omega,by omega⟩]
 refine Gd.cE (λ(z:List bT×Int×Int)=>-1<=z.2.2/\z.2.2<a.length/\z.1.length=a.length/\Wf z.1/\0<=z.2.1/\z.2.1<d/\nv (z.1.drop (z.2.2+1).toNat)*d.toNat+z.2.1.toNat=nv (a.drop (z.2.2+1).toNat)) (λz=>(z.2.2+1).toNat) ?_ a_ _ ⟨by simp only; omega,by simp only; omega,by simp,λy J=>?_,Pw _,by simp only; omega,?_⟩ (by simp only [a_]; omega)
 ·rintro ⟨l,r,i⟩ nx ⟨h1,h2,h3,h4,h5,h6,I⟩ Y
  simp only at h1 h2 h3 h4 h5 h6 I Y ⊢;unfold rF;refine Gd.ite (λhi=>?_) (λhi=>Gd.ret ?_)
  ·have hi:0<=i:=N9 hi
   obtain ⟨k,rfl⟩:∃ k:Nat,i=k:=⟨i.toNat,by omega⟩
   obtain ⟨y,J⟩:∃ y,a[k]? = some y:=⟨_,N5 (by omega)⟩
   have Z:=ha y (Ol J);have O:((k:Int)).toNat=k:=by omega
   rw [jS (n:=d) (by omega)]
   refine Gd.ix (by omega) (by rw [O]; exact J) (Gd.nd (by omega) (Gd.mR (show k<l.length by omega) (Gd.nd (by omega) ?_)))
   rw [yl ⟨h5,by omega⟩ Z]
   rw [show ((k:Int)+1).toNat=k+1 by omega] at I
   obtain ⟨q,m,e1,e2,hqlt,hmlt,hdm⟩:=Gc ⟨h5,h6⟩ Z hd;rw [e1,e2,O,jS (n:=(q:Int)) (by omega),wC,cK ⟨by omega,by omega⟩,show (q:Int)%4294967296=(q:Int) by omega]
   refine Y _ ⟨by simp only; omega,by simp only; omega,by simp [h3],h4.set (by omega),by simp only; omega,by simp only; omega,?_⟩ (by simp only; omega)
   simp only;rw [show ((k:Int)-1+1).toNat=k by omega,q_ J,q_ (l:=l.set k _) (Oz (by omega)),Qs (by omega),nv,nv,<- I]
   simp only [N7];exact Ge hdm
  ·have hi:¬ 0<=i:=Og hi
   rw [show (i+1).toNat=0 by omega,PB,PB] at I
   have hdn:0<d.toNat:=by omega
   refine ⟨h4,h3,?_,?_⟩
   ·simp only
    rw [<- I,SW,Nat.mul_add_div hdn,SO (by omega)]; rfl
   ·simp only
    rw [wC,<- I,SW,Nat.mul_add_mod,PT (by omega)]
    omega
 ·rw [SL] at J
  rw [J.2]; simp
 ·simp only
  rw [show ((a.length:Int)-1+1).toNat=a.length by omega,Q3,SB (by simp)]
  simp [nv]
theorem Av {n:Int} (h:-9223372036854775808<=n/\n<=9223372036854775807):Gd (nk n) (λr=>tr r/\r.words.length<=2/\jR r=n):=by
 have I:∀ m:Int,0<=m->m<18446744073709551616->(m=n/\0<=n\/m = -n/\n<0)->Gd (qi n m) (λr=>tr r/\r.words.length<=2/\jR r=n):=λm J h1 Z=>by
  unfold qi;rw [Bg,wC,wC];have hw:Wf [⟨m%4294967296⟩,⟨m / 4294967296%4294967296⟩]:=λy Y=>by
   rcases OM.1 Y with rfl | Y
   ·simp only; omega
   ·rw [OU] at Y; subst Y; simp only; omega
  have hv:nv [⟨m%4294967296⟩,⟨m / 4294967296%4294967296⟩]=m.toNat:=by
   simp only [nv];show (m%4294967296).toNat+4294967296*((m / 4294967296%4294967296).toNat+4294967296*0)=_;omega
  refine Gd.hO (tB _ _ hw (by simp)) (λr O=>Gd.ret ⟨O.1,O.2.1,?_⟩)
  rw [xa O.2.2.1 O.2.2.2,hv];rcases Z with ⟨rfl,Z⟩ | ⟨rfl,Z⟩
  ·rw [Ob (by simp; omega)]; omega
  ·rw [Oc (by simp; omega)]; omega
 unfold nk;refine Gd.ite (λJ=>I _ ?_ ?_ (.inr ⟨?_,?_⟩)) (λJ=>I _ ?_ ?_ (.inl ⟨?_,?_⟩))
 ·rw [Cb]; omega
 ·rw [Cb]; omega
 ·have:=N9 J
  rw [Cb,Cb]; omega
 ·exact N9 J
 ·rw [Cb]; omega
 ·rw [Cb]; omega
 ·have:=Og J
  rw [Cb]; omega
 ·have:=Og J; omega
theorem K6 {c x s:Nat} (hs:s<=31) (I:c<2 ^ s) (Y:x<4294967296):
  u64.wrap ((BitVec.ofInt (u64).bits (c:Int) ||| BitVec.ofInt (u64).bits (pz .u64 (u64.wrap (x:Int)) (s:Int))).toNat)=((c+x*2 ^ s:Nat):Int):=by
 have J:(2:Nat) ^ s<=2147483648:=S1 (by decide) hs
 have O:x*2 ^ s<=4294967295*2147483648:=Nat.mul_le_mul (by omega) J
 rw [jS (n:=(x:Int)) (by omega)]
 have e1:pz .u64 (x:Int) (s:Int)=((x*2 ^ s:Nat):Int):=by
  unfold pz;rw [show (min ((s:Int)).toNat u64.bits)=s by show min ((s:Int)).toNat 64=s; omega]
  rw [show (x:Int)*2 ^ s=((x*2 ^ s:Nat):Int) by rw [OW,Int.natCast_pow]; rfl]
  rw [jS (by omega)]
 rw [e1];show u64.wrap (((BitVec.ofInt 64 ((c:Nat):Int) ||| BitVec.ofInt 64 ((x*2 ^ s:Nat):Int)).toNat:Nat):Int)=_;rw [Sn,Sn,BitVec.toNat_or,So,So,PT (by omega),PT (by omega)]
 have e2:c ||| x*2 ^ s=c+x*2 ^ s:=by
  have:=Nat.shiftLeft_add_eq_or_of_lt (i:=s) (b:=c) I x;rw [Nat.shiftLeft_eq] at this;rw [Nat.or_comm,<- this,Qw]
 rw [e2,jS (by omega)]
theorem En {A P c x S W out o I:Nat} (h:out+P*c=A*S) (J:o+W*I=c+x*S):(out+P*o)+P*W*I=(A+P*x)*S:=by
 have e:P*o+P*(W*I)=P*c+P*(x*S):=by rw [<- SU,J,SU]
 rw [SV P W,Ou,SV P x];omega
theorem AF {a:List bT} (ha:Wf a) (hz:a.length<=1000000) {s:Nat} (hs:s<=31):
  Gd (oG a (s:Int)) (λr=>Wf r/\r.length=a.length+1/\nv r=nv a*2 ^ s/\∃ t,r[a.length]? = some t/\t.n.toNat<2 ^ s):=by
 have w1:i64.wrap ((a.length:Int)+1)=((a.length+1:Nat):Int):=by rw [cK ⟨by omega,by omega⟩]; omega
 have hp:(2:Nat) ^ s<=2147483648:=S1 (by decide) hs
 have hp0:0<(2:Nat) ^ s:=S4 (by decide)
 unfold oG;rw [w1];refine Gd.nd ⟨by omega,by omega⟩ ?_
 refine Gd.gM (λk ys (z:List bT×Int)=>ys=a.drop k/\k<=a.length/\z.1.length=a.length+1/\Wf z.1/\0<=z.2/\z.2.toNat<2 ^ s/\nv (z.1.take k)+WB ^ k*z.2.toNat=nv (a.take k)*2 ^ s) ?_ ?_ _ 0 _ ⟨by simp,by omega,by simp,λy hy=>?_,Pw _,by simpa using hp0,by simp [nv]⟩
 ·rintro k x ys ⟨l,c⟩ nx ⟨Z,h1,h2,h3,h4,Y,I⟩ hnx
  simp only at h2 h3 h4 Y I hnx ⊢;have hk:k<a.length:=by
   have:=Pc List.length Z;simp at this; omega
  have hx:a[k]? = some x:=by
   have:=Pc (·[0]?) Z;simpa [ON] using this.symm
  have hys:ys=a.drop (k+1):=by
   have:=Pc (List.drop 1) Z;simpa using this
  have hxw:=ha x (Ol hx);obtain ⟨cn,rfl⟩:∃ cn:Nat,c=cn:=⟨c.toNat,by omega⟩
  obtain ⟨X,hX⟩:∃ X:Nat,x.n=X:=⟨x.n.toNat,by omega⟩
  have O:((k:Int)).toNat=k:=by omega
  unfold sj;rw [hX];simp only [N7] at Y I;rw [K6 hs Y (by omega)]
  refine Gd.nd (by omega) (Gd.mR (show k<l.length by omega) ?_)
  rw [O,wC,Bg];have hb:cn+X*2 ^ s<4294967296*2 ^ s:=by
   have:(X+1)*2 ^ s<=4294967296*2 ^ s:=On _ (by omega)
   rw [Ou] at this;omega
  have J:=SS (cn+X*2 ^ s) WB;have hq:(cn+X*2 ^ s) / WB<2 ^ s:=by
   rw [SP (by decide),SW (2 ^ s)]; exact hb
  have e1:((cn+X*2 ^ s:Nat):Int)%4294967296=(((cn+X*2 ^ s)%WB:Nat):Int):=rfl;have e2:((cn+X*2 ^ s:Nat):Int) / 4294967296=(((cn+X*2 ^ s) / WB:Nat):Int):=rfl;have hm:(cn+X*2 ^ s)%WB<WB:=QQ _ (by decide)
  rw [e1,e2];generalize (cn+X*2 ^ s)%WB=o at J hm;generalize (cn+X*2 ^ s) / WB=c' at J hq;refine hnx _ ⟨hys,by omega,by simp [h2],h3.set ⟨by omega,by have:o<4294967296:=hm; omega⟩,by simp only; omega,by simp only [N7]; exact hq,?_⟩
  simp only;rw [vG (by omega),ur,OF,O7 (by omega),rp hx,hX,S5]
  simp only [N7];exact En I J
 ·rintro k ⟨l,c⟩ ⟨Z,h1,h2,h3,h4,Y,I⟩
  simp only at h2 h3 h4 Y I ⊢;have hk:k=a.length:=by
   have:=Pc List.length Z;simp at this; omega
  subst hk;have O:((a.length:Int)).toNat=a.length:=by omega
  rw [O,wC,show c%4294967296=c by omega]
  refine Gd.mR (by omega) (Gd.ret ⟨h3.set (by omega),by simp [h2],?_,⟨⟨c⟩,Oz (by omega),Y⟩⟩)
  have e:=vG (l:=l) (k:=a.length) (v:=⟨c⟩) (by omega)
  rw [Oo (by simp; omega)] at e
  rw [e,ur,OF,O7 (by omega)]
  rw [PS] at I;exact I
 ·rw [SL] at hy
  rw [hy.2]; simp
section
variable {W R v1 v2 vl u2 ul top q V U:Nat}
structure EC (W R v1 v2 vl u2 ul top V U:Nat):Prop where
 V:V=(v1*W+v2)*R+vl
 U:U=(top*W+u2)*R+ul
 vl:vl<R
 ul:ul<R
 u2:u2<W
 v2:v2<W
theorem EC.Lb (h:EC W R v1 v2 vl u2 ul top V U) (hq:q*V<=U):q*v1<=top:=by
 rcases PW top (q*v1) with J | I
 ·exfalso
  have O:(top+1)*(W*R)<=q*v1*(W*R):=On _ J;have Y:v1*(W*R)<=V:=by
   rw [h.V,Ou,SV v1]; omega
  have h3:q*(v1*(W*R))<=q*V:=SX _ Y;have h4:U<(top+1)*(W*R):=by
   have e1:(u2+1)*R<=W*R:=On _ h.u2;rw [Ou] at e1;have Z:=h.ul;rw [h.U,Ou,SV top,Ou top];omega
  rw [SV q] at O;omega
 ·exact I
theorem EC.BV (h:EC W R v1 v2 vl u2 ul top V U) (hq:q*V<=U):q*(v1*W+v2)<=top*W+u2:=by
 rcases PW (top*W+u2) (q*(v1*W+v2)) with J | I
 ·exfalso
  have O:(top*W+u2+1)*R<=q*(v1*W+v2)*R:=On _ J;have Y:(v1*W+v2)*R<=V:=by rw [h.V]; omega
  have h3:q*((v1*W+v2)*R)<=q*V:=SX _ Y;have Z:=h.ul;have hU:=h.U;rw [Ou _ 1] at O;rw [SV q] at O;omega
 ·exact I
theorem EC.MS (h:EC W R v1 v2 vl u2 ul top V U) {g:Nat} (J:g<=W) (O:1<=v1) (hl:g*(v1*W+v2)<=top*W+u2):g*V<U+V:=by
 have Y:g*(v1*W+v2)*R<=(top*W+u2)*R:=On _ hl;have Z:g*vl<=W*vl:=On _ J;have I:W*(vl+1)<=W*R:=SX _ h.vl;have h4:1*(W*R)<=v1*(W*R):=On _ O;have e1:g*V=g*(v1*W+v2)*R+g*vl:=by rw [h.V,SU,SV]
 have e2:V=v1*(W*R)+v2*R+vl:=by rw [h.V,Ou,SV]
 have hU:=h.U;have hR:0<R:=by have:=h.vl; omega
 have hW:0<W:=by have:=h.u2; omega
 rw [SU,QE] at I;omega
structure Gs (W R v1 v2 vl u2 ul top V U q g rest:Nat):Prop where
 ge:q<=g
 eq:g*v1+rest=top
 rest:rest<W
 le:g<=W+1
structure Ls (W V U q g:Nat):Prop where
 ge:q<=g
 le:g<=q+1
 w:g<=W
theorem EC.out (h:EC W R v1 v2 vl u2 ul top V U) {g:Nat} (hq:U<(q+1)*V) (J:q<=g) (Y:g<=W) (hv:1<=v1) (hl:g*(v1*W+v2)<=top*W+u2):Ls W V U q g:=by
 refine ⟨J,?_,Y⟩;have h1:=h.MS Y hv hl;rcases PW (q+1) g with O | I
 ·exfalso
  have Z:(q+2)*V<=g*V:=On _ O;rw [Ou] at Z hq;omega
 ·exact I
theorem Gs.stop (h:EC W R v1 v2 vl u2 ul top V U) {g rest:Nat} (hs:Gs W R v1 v2 vl u2 ul top V U q g rest) (I:U<(q+1)*V) (J:1<=v1) (O:g<W) (ht:g*v2<=rest*W+u2):Ls W V U q g:=by
 refine h.out I hs.ge (by omega) J ?_
 rw [<- hs.eq,SU,Ou,SV];omega
theorem Gs.less (h:EC W R v1 v2 vl u2 ul top V U) {g rest:Nat} (hs:Gs W R v1 v2 vl u2 ul top V U q g rest) (Z:q*V<=U) (hqW:q<W) (ht:W<=g\/rest*W+u2<g*v2):q<g:=by
 rcases ht with ht | ht
 ·omega
 ·have O:=h.BV Z
  rw [<- hs.eq] at O;rcases PW q g with J | I
  ·exact J
  ·exfalso
   have Y:g*(v1*W+v2)<=q*(v1*W+v2):=On _ I;rw [SU g] at Y;rw [Ou (g*v1),SV] at O;omega
theorem Gs.next {g rest:Nat} (hs:Gs W R v1 v2 vl u2 ul top V U q g rest) (hl:q<g) (J:rest+v1<W):Gs W R v1 v2 vl u2 ul top V U q (g-1) (rest+v1):=by
 have h:=hs.eq; have I:=hs.le
 obtain ⟨k,rfl⟩:∃ k,g=k+1:=⟨g-1,by omega⟩
 rw [Ou] at h;exact ⟨by omega,by rw [Nat.add_sub_cancel]; omega,J,by omega⟩
theorem Gs.over (h:EC W R v1 v2 vl u2 ul top V U) {g rest:Nat} (hs:Gs W R v1 v2 vl u2 ul top V U q g rest) (Z:U<(q+1)*V) (hv:1<=v1) (hl:q<g) (hr:W<=rest+v1):Ls W V U q (g-1):=by
 have O:=hs.eq; have Y:=hs.le; have I:=h.v2
 obtain ⟨k,rfl⟩:∃ k,g=k+1:=⟨g-1,by omega⟩
 rw [Nat.add_sub_cancel];rw [Ou] at O;refine h.out Z (by omega) (by omega) hv ?_
 have h1:k*v2<=W*v2:=On _ (by omega)
 have J:W*(v2+1)<=W*W:=SX _ I;have h3:W*W<=(rest+v1)*W:=On _ hr;have e:top=k*v1+(rest+v1):=by omega
 rw [e,SU k,Ou (k*v1),SV];rw [SU] at J;omega
end
def E2:List U8:=ml (⟨#[0,1,2,2,3,3,3,3,4,4,4,4,4,4,4,4,5,5,5,5,5,5,5,5,5,5,5,5,5,5,5,5,6,6,6,6,6,6,6,6,6,6,6,6,6,6,6,6,6,6,6,6,6,6,6,6,6,6,6,6,6,6,6,6,7,7,7,7,7,7,7,7,7,7,7,7,7,7,7,7,7,7,7,7,7,7,7,7,7,7,7,7,7,7,7,7,7,7,7,7,7,7,7,7,7,7,7,7,7,7,7,7,7,7,7,7,7,7,7,7,7,7,7,7,7,7,7,7,8,8,8,8,8,8,8,8,8,8,8,8,8,8,8,8,8,8,8,8,8,8,8,8,8,8,8,8,8,8,8,8,8,8,8,8,8,8,8,8,8,8,8,8,8,8,8,8,8,8,8,8,8,8,8,8,8,8,8,8,8,8,8,8,8,8,8,8,8,8,8,8,8,8,8,8,8,8,8,8,8,8,8,8,8,8,8,8,8,8,8,8,8,8,8,8,8,8,8,8,8,8,8,8,8,8,8,8,8,8,8,8,8,8,8,8,8,8,8,8,8,8,8,8,8,8,8,8]⟩)
def HH (i:Nat) (y:U8):Bool:=decide (1<=y.n) && (decide (y.n<=8) && (decide (2 ^ (y.n.toNat-1)<=i) && decide (i<2 ^ y.n.toNat)))
theorem JA:∀ i:Nat,1<=i->i<256->∃ y,E2[i]? = some y/\HH i y=true:=by
 have h:(List.range 256).all (λi=>decide (i=0) || (match E2[i]? with | some y=>HH i y | none=>false))=true:=by decide +kernel
 intro i O J;have:=Pa.1 h i (by simpa using J)
 rw [Tm (by omega),Bool.false_or] at this
 cases I:E2[i]? with
 | none=>rw [I] at this; cases this
 | some y=>rw [I] at this; exact ⟨y,rfl,this⟩
theorem BW {n m:Int} (h1:1<=n) (h2:n<256) (hm:0<=m/\m<=24):Gd (lR n m) (λr=>∃ L:Nat,r=m+L/\1<=L/\L<=8/\2 ^ (L-1)<=n.toNat/\n.toNat<2 ^ L):=by
 obtain ⟨y,Z,I⟩:=JA n.toNat (by omega) (by omega)
 simp only [HH,PZ,PC] at I;obtain ⟨b1,b2,J,O⟩:=I;have Y:u8.wrap n=n:=by
  rw [show u8.wrap n=n%256 by simp [IntKind.wrap,IntKind.bits,IntKind.signed]]; omega
 unfold lR;rw [Y];refine Gd.ix (l:=E2) (by omega) Z (Gd.ret ⟨y.n.toNat,?_,by omega,by omega,J,O⟩)
 rw [cK (n:=y.n) (by omega),cK (by omega)]
 omega
theorem Eo {n:Int}{k:Nat} (I:k<=32):mO .u32 n (k:Int)=n / (2 ^ k:Nat):=by
 unfold mO;rw [show (min ((k:Int)).toNat u32.bits)=k by show min ((k:Int)).toNat 32=k; omega,Qy _ (Int.le_of_lt (Int.pow_pos (by decide)))]
 rw [Int.natCast_pow]; rfl
theorem LS {x:Int} (h1:1<=x) (h2:x<4294967296):Gd (kT x) (λr=>∃ s:Nat,r=s/\s<=31/\2147483648<=x.toNat*2 ^ s/\x.toNat*2 ^ s<4294967296):=by
 have O:∀ (o:Option Int),Gd o (λr=>∃ l:Nat,r=l/\1<=l/\l<=32/\2 ^ (l-1)<=x.toNat/\x.toNat<2 ^ l)->Gd (o.bind λJ=>some (i64.wrap (32-J))) (λr=>∃ s:Nat,r=s/\s<=31/\2147483648<=x.toNat*2 ^ s/\x.toNat*2 ^ s<4294967296):=λo Z=>by
  refine Gd.hO Z (λr hr=>Gd.ret ?_);obtain ⟨l,rfl,l1,l2,l3,l4⟩:=hr;refine ⟨32-l,by rw [cK (by omega)]; omega,by omega,?_,?_⟩
  ·have:2 ^ (l-1)*2 ^ (32-l)<=x.toNat*2 ^ (32-l):=On _ l3
   rw [<- SZ,show l-1+(32-l)=31 by omega] at this
   exact this
  ·have:x.toNat*2 ^ (32-l)<2 ^ l*2 ^ (32-l):=Nat.mul_lt_mul_of_pos_right l4 (S4 (by decide))
   rw [<- SZ,show l+(32-l)=32 by omega] at this
   exact this
 have part:∀ (n:Int) (base:Nat),n=x / (2 ^ base:Nat)->base<=24->∀ L:Nat,1<=L->2 ^ (L-1)<=n.toNat->n.toNat<2 ^ L->2 ^ (base+L-1)<=x.toNat/\x.toNat<2 ^ (base+L):=λn base hn hb L l1 l2 l3=>by
  have e:n.toNat=x.toNat / 2 ^ base:=by
   rw [hn];obtain ⟨X,rfl⟩:∃ X:Nat,x=X:=⟨x.toNat,by omega⟩
   rfl
  have Y:0<2 ^ base:=S4 (by decide)
  rw [e] at l2 l3;rw [SQ Y,<- SZ] at l2;rw [SP Y,<- SZ] at l3;rw [show base+L-1=L-1+base by omega,Qw base L]
  exact ⟨l2,l3⟩
 unfold kT;refine O _ ?_;unfold qH;refine Gd.ite (λh=>?_) (λh=>?_)
 ·have h:=N9 h
  rw [show mO .u32 x 16=x / 65536 from Eo (k:=16) (by omega)]
  unfold lS;refine Gd.ite (λI=>?_) (λI=>?_)
  ·have I:=N9 I
   rw [show mO .u32 (x / 65536) 8=x / 65536 / 256 from Eo (k:=8) (by omega),show i64.wrap (16+8)=24 by decide]
   refine (BW (by omega) (by omega) (by omega)).mono ?_
   rintro r ⟨L,rfl,l1,l2,l3,l4⟩;obtain ⟨p1,p2⟩:=part (x / 65536 / 256) 24 (by show _=x / 16777216; omega) (by omega) L l1 l3 l4
   exact ⟨24+L,by omega,by omega,by omega,p1,p2⟩
  ·have I:=Og I
   refine (BW (by omega) (by omega) (by omega)).mono ?_
   rintro r ⟨L,rfl,l1,l2,l3,l4⟩;obtain ⟨p1,p2⟩:=part (x / 65536) 16 (by show _=x / 65536; omega) (by omega) L l1 l3 l4
   exact ⟨16+L,by omega,by omega,by omega,p1,p2⟩
 ·have h:=Og h
  unfold lS;refine Gd.ite (λI=>?_) (λI=>?_)
  ·have I:=N9 I
   rw [show mO .u32 x 8=x / 256 from Eo (k:=8) (by omega),show i64.wrap (0+8)=8 by decide]
   refine (BW (by omega) (by omega) (by omega)).mono ?_
   rintro r ⟨L,rfl,l1,l2,l3,l4⟩;obtain ⟨p1,p2⟩:=part (x / 256) 8 (by show _=x / 256; omega) (by omega) L l1 l3 l4
   exact ⟨8+L,by omega,by omega,by omega,p1,p2⟩
  ·have I:=Og I
   refine (BW (by omega) (by omega) (by omega)).mono ?_
   rintro r ⟨L,rfl,l1,l2,l3,l4⟩;obtain ⟨p1,p2⟩:=part x 0 (by show _=x / 1; omega) (by omega) L l1 l3 l4
   exact ⟨0+L,by omega,by omega,by omega,p1,p2⟩
theorem I_ {t:Nat} (h:t<18446744073709551616):u64.wrap ((BitVec.ofInt (u64).bits (t:Int) &&& BitVec.ofInt (u64).bits 4294967295).toNat)=((t%WB:Nat):Int):=by
 have e:(BitVec.ofInt (u64).bits 4294967295).toNat=4294967295:=by decide
 have e2:(BitVec.ofInt (u64).bits (t:Int)).toNat=t:=by
  show (BitVec.ofInt 64 (t:Int)).toNat=t;rw [Sn,So,PT h]
 rw [BitVec.toNat_and,e,e2];have:=SN t 32;rw [show (2:Nat) ^ 32-1=4294967295 from rfl] at this;rw [this,show (2:Nat) ^ 32=WB from rfl];have hm:t%WB<WB:=QQ _ (by decide)
 rw [jS ⟨by omega,by have:t%WB<4294967296:=hm; omega⟩]
theorem E8 {l:List bT}{k:Nat}{x v:bT} (h:l[k]? = some x) (J:0<=x.n) (I:0<=v.n):(nv (l.set k v):Int)+((WB ^ k:Nat):Int)*x.n=nv l+((WB ^ k:Nat):Int)*v.n:=by
 have:=Pc (λn:Nat=>(n:Int)) (At (v:=v) h);simp only [Sw,OW] at this;rw [Q5 J,Q5 I] at this;exact this
theorem JF {nl Y o nw P W bo ca O J I Z gy:Int} (hA:Y+P*o=nl+P*nw) (hB:nw+W*I=bo+o-O) (hC:O+W*J=ca+gy) (hI:nl+P*(bo-ca)=Z):
  Y+P*W*(I-J)=Z-P*gy:=by
 have e:W*(I-J)=bo+o-nw-ca-gy:=by rw [Sv]; omega
 rw [Su,e,<- hI,Sv,Sv,Sv,Ss,Sv];omega
theorem E_ {l I:List bT}{m:Nat} (h:∀ p,m<=p->l[p]? = I[p]?) (hm:m<=l.length):nv l=nv (l.take m)+WB ^ m*nv (I.drop m):=by
 have e:l.drop m=I.drop m:=by
  apply PO;intro i;rw [ON,ON];exact h _ (by omega)
 have:nv l=nv (l.take m++l.drop m):=by rw [PE]
 rw [this,B1,e,OF,O7 hm]
theorem Au (l:List bT) {m:Nat} (hm:m<=l.length):nv l=nv (l.take m)+WB ^ m*nv (l.drop m):=E_ (λ_ _=>rfl) hm
theorem LU {b r134 vs:List bT}{j g:Nat}{Z:List bT}{fin:List bT×Int×Int->Option (List bT×List bT)}{Q:List bT×List bT->Prop}
  (hvs:uW r134 0 (((b.length:Int):Int).toNat)=vs) (hvl:vs.length=b.length) (hvw:Wf vs) (hl:Wf Z) (hjn:j+b.length<Z.length) (hN:Z.length<=1000001) (hg:g<=WB)
  (hk:∀ l O ca,l.length=Z.length->Wf l->-1<=O->O<=0->0<=ca->ca<4294967296->(nv l:Int)+((WB ^ (j+b.length):Nat):Int)*(O-ca)=nv Z-((WB ^ j:Nat):Int)*((g:Int)*(nv vs:Int)) ->
   (∀ p,j+b.length<=p->l[p]? = Z[p]?)->(∀ p,p<j->l[p]? = Z[p]?)->Gd (fin (l,O,ca)) Q):
  Gd (mn (λk J n=>oP b r134 (j:Int) (g:Int) k J.1 J.2.1 J.2.2 n) fin b.length 0 (Z,0,0)) Q:=by
 have hg:g<=4294967296:=hg;refine Gd.mn (λm k (z:List bT×Int×Int)=>k+m=b.length/\z.1.length=Z.length/\Wf z.1/\-1<=z.2.1/\z.2.1<=0/\0<=z.2.2/\z.2.2<4294967296/\(nv z.1:Int)+((WB ^ (j+k):Nat):Int)*(z.2.1-z.2.2)=nv Z-((WB ^ j:Nat):Int)*((g:Int)*(nv (vs.take k):Int))/\(∀ p,j+k<=p->z.1[p]? = Z[p]?)/\(∀ p,p<j->z.1[p]? = Z[p]?)) ?_ ?_ _ 0 _ ⟨by omega,rfl,hl,by show (-1:Int)<=0; omega,Pw _,Pw _,by show (0:Int)<4294967296; omega,by simp [nv],λp _=>rfl,λp _=>rfl⟩
 ·rintro m k ⟨l,O,ca⟩ nx ⟨h0,h1,h2,h3,h4,h5,h6,h7,h8,h9⟩ hnx
  simp only at h1 h2 h3 h4 h5 h6 h7 h8 h9 hnx ⊢;have hkb:k<b.length:=by omega
  obtain ⟨y,hy⟩:∃ y,vs[k]? = some y:=⟨_,N5 (by omega)⟩
  have hyw:=hvw y (Ol hy);obtain ⟨o,ho⟩:∃ o,l[j+k]? = some o:=⟨_,N5 (by omega)⟩
  have how:=h2 o (Ol ho);have wj:i64.wrap ((k:Int)+(j:Int))=((j+k:Nat):Int):=by rw [cK ⟨by omega,by omega⟩]; omega
  have hjk:(((j+k:Nat):Int)).toNat=j+k:=by omega
  unfold oP;rw [hvs,wj];refine Gd.ix (by omega) (by rw [N7]; exact hy) (Gd.ix (by omega) (by rw [hjk]; exact ho) (Gd.ix (by omega) (by rw [hjk]; exact ho) ?_))
  obtain ⟨Y,hY⟩:∃ Y:Nat,y.n=Y:=⟨y.n.toNat,by omega⟩
  obtain ⟨cn,rfl⟩:∃ cn:Nat,ca=cn:=⟨ca.toNat,by omega⟩
  have hgy:g*Y<=4294967296*4294967295:=Nat.mul_le_mul hg (by omega)
  have ht:u64.wrap ((cn:Int)+(u64.wrap ((g:Int)*(u64.wrap (y.n)))))=((cn+g*Y:Nat):Int):=by
   rw [hY,jS (n:=(Y:Int)) (by omega),show (g:Int)*(Y:Int)=((g*Y:Nat):Int) by rw [OW],jS (n:=((g*Y:Nat):Int)) (by omega),jS (by omega)]
   omega
  rw [ht,I_ (by omega),Bg]
  have hdm:=SS (cn+g*Y) WB;have hlow:(cn+g*Y)%WB<WB:=QQ _ (by decide)
  have hcl:(cn+g*Y) / WB<4294967296:=by
   rw [SP (by decide)]
   show cn+g*Y<4294967296*4294967296;omega
  have e2:((cn+g*Y:Nat):Int) / 4294967296=(((cn+g*Y) / WB:Nat):Int):=rfl;rw [e2];have hC:(((cn+g*Y)%WB:Nat):Int)+4294967296*(((cn+g*Y) / WB:Nat):Int)=(cn:Int)+((g*Y:Nat):Int):=by
   have:(cn+g*Y)%WB+4294967296*((cn+g*Y) / WB)=cn+g*Y:=hdm;omega
  generalize (cn+g*Y)%WB=I at hlow hC;generalize (cn+g*Y) / WB=c2 at hcl hC;have hlow:I<4294967296:=hlow;have hnb:i64.wrap (O+(i64.wrap ((i64.wrap (o.n))-(i64.wrap ((I:Nat):Int)))))=O+o.n-I:=by
   rw [cK (n:=o.n) (by omega),cK (n:=(I:Int)) (by omega),cK (n:=o.n-I) (by omega),cK (by omega)]
   omega
  rw [hnb,hjk,wC,Iu];refine hnx _ ⟨by omega,by simp [h1],h2.set (by omega),by simp only; omega,by simp only; omega,by simp only; omega,by simp only; omega,?_,λp hp=>?_,λp hp=>?_⟩
  ·simp only
   have hA:=E8 (l:=l) (k:=j+k) (x:=o) (v:=⟨(O+o.n-I)%4294967296⟩) ho how.1 (by simp only; omega)
   simp only at hA;have hB:(O+o.n-I)%4294967296+4294967296*((O+o.n-I) / 4294967296)=O+o.n-I:=by omega
   have:=JF hA hB hC h7;rw [show j+(k+1)=(j+k)+1 by omega,S5,OW,show ((WB:Nat):Int)=4294967296 from rfl,this,rp hy,hY,SZ]
   simp only [N7,Sw,OW];rw [Ss (g:Int),Ss ((WB ^ j:Nat):Int),Su ((WB ^ j:Nat):Int) ((WB ^ k:Nat):Int)];have e:(g:Int)*(((WB ^ k:Nat):Int)*(Y:Int))=((WB ^ k:Nat):Int)*((g:Int)*(Y:Int)):=by
    rw [<- Su,Int.mul_comm (g:Int),Su]
   rw [e];omega
  ·simp only
   rw [Ow (by omega)]
   exact h8 p (by omega)
  ·simp only
   rw [Ow (by omega)]
   exact h9 p hp
 ·rintro k ⟨l,O,ca⟩ ⟨h0,h1,h2,h3,h4,h5,h6,h7,h8,h9⟩
  simp only at h1 h2 h3 h4 h5 h6 h7 h8 h9;have hk':k=b.length:=by omega
  subst hk';rw [<- hvl,PS] at h7;rw [hvl] at h7;exact hk l O ca h1 h2 h3 h4 h5 h6 h7 h8 h9
theorem I9 {J I o s P W c Y T T' B X:Nat} (h1:I+P*o=J+P*(s%W)) (hs:s=c+o+Y) (h2:J+P*c=X+B*T) (hP:P*Y=B*(T'-T)) (hT:T<=T'):I+P*W*(s / W)=X+B*T':=by
 have O:s%W+W*(s / W)=s:=SS s W;have e:P*(s%W)+P*(W*(s / W))=P*s:=by rw [<- SU,O]
 have e2:P*s=P*c+P*o+P*Y:=by rw [hs,SU,SU]
 have Z:B*T'=B*T+B*(T'-T):=by rw [<- SU]; congr 1; omega
 rw [SV P W];omega
theorem LB {b J vs:List bT}{j:Nat}{l1:List bT}{fin:List bT×Int->Option (List bT×List bT)}{Q:List bT×List bT->Prop}
  (hvs:uW J 0 (((b.length:Int):Int).toNat)=vs) (hvl:vs.length=b.length) (hvw:Wf vs) (hl:Wf l1) (hjn:j+b.length<l1.length) (hN:l1.length<=1000001)
  (hk:∀ l c,l.length=l1.length->Wf l->0<=c->c<=1->nv l+WB ^ (j+b.length)*c.toNat=nv l1+WB ^ j*nv vs->(∀ p,j+b.length<=p->l[p]? = l1[p]?)->(∀ p,p<j->l[p]? = l1[p]?)->Gd (fin (l,c)) Q):
  Gd (mn (λk I n=>oQ b J (j:Int) k I.1 I.2 n) fin b.length 0 (l1,0)) Q:=by
 refine Gd.mn (λm k (z:List bT×Int)=>k+m=b.length/\z.1.length=l1.length/\Wf z.1/\0<=z.2/\z.2<=1/\nv z.1+WB ^ (j+k)*z.2.toNat=nv l1+WB ^ j*nv (vs.take k)/\(∀ p,j+k<=p->z.1[p]? = l1[p]?)/\(∀ p,p<j->z.1[p]? = l1[p]?)) ?_ ?_ _ 0 _ ⟨by omega,rfl,hl,Pw _,by show (0:Int)<=1; omega,by simp [nv],λp _=>rfl,λp _=>rfl⟩
 ·rintro m k ⟨l,c⟩ nx ⟨h0,h1,Z,h3,h4,O,h8,h9⟩ hnx
  simp only at h1 Z h3 h4 O h8 h9 hnx ⊢;obtain ⟨y,hy⟩:∃ y,vs[k]? = some y:=⟨_,N5 (by omega)⟩
  have hyw:=hvw y (Ol hy);obtain ⟨o,ho⟩:∃ o,l[j+k]? = some o:=⟨_,N5 (by omega)⟩
  have how:=Z o (Ol ho);have wj:i64.wrap ((k:Int)+(j:Int))=((j+k:Nat):Int):=by rw [cK ⟨by omega,by omega⟩]; omega
  have Y:(((j+k:Nat):Int)).toNat=j+k:=by omega
  unfold oQ;rw [hvs,wj];refine Gd.ix (by omega) (by rw [Y]; exact ho) (Gd.ix (by omega) (by rw [N7]; exact hy) (Gd.ix (by omega) (by rw [Y]; exact ho) ?_))
  have hs:u64.wrap (c+(u64.wrap ((u64.wrap (o.n))+(u64.wrap (y.n)))))=c+o.n+y.n:=by
   rw [jS (n:=o.n) (by omega),jS (n:=y.n) (by omega),jS (n:=o.n+y.n) (by omega),jS (by omega)]
   omega
  rw [hs,Y,Bg,wC];have hsn:c+o.n+y.n=((c.toNat+o.n.toNat+y.n.toNat:Nat):Int):=by omega
  refine hnx _ ⟨by omega,by simp [h1],Z.set (by omega),by simp only; omega,by simp only; omega,?_,λp hp=>?_,λp hp=>?_⟩
  ·simp only
   have g:=At (l:=l) (k:=j+k) (x:=o) (v:=⟨(c+o.n+y.n)%4294967296⟩) ho;simp only at g;have g1:((c+o.n+y.n)%4294967296).toNat=(c.toNat+o.n.toNat+y.n.toNat)%WB:=by rw [hsn]; show _=_%4294967296; omega
   have g2:((c+o.n+y.n) / 4294967296).toNat=(c.toNat+o.n.toNat+y.n.toNat) / WB:=by rw [hsn]; show _=_ / 4294967296; omega
   rw [g1] at g;rw [g2,show j+(k+1)=(j+k)+1 by omega,S5]
   refine I9 g rfl O (T':=nv (vs.take (k+1))) ?_ ?_
   ·rw [rp hy,P5,SZ,SV]
   ·rw [rp hy]; omega
  ·simp only
   rw [Ow (by omega)]
   exact h8 p (by omega)
  ·simp only
   rw [Ow (by omega)]
   exact h9 p hp
 ·rintro k ⟨l,c⟩ ⟨h0,h1,Z,h3,h4,O,h8,h9⟩
  simp only at h1 Z h3 h4 O h8 h9;have hk':k=b.length:=by omega
  subst hk';rw [<- hvl,PS] at O;rw [hvl] at O;exact hk l c h1 Z h3 h4 O h8 h9
theorem GP {qs l':List bT}{j:Nat}{g:Int}{I:List bT×List bT×Int->Option (List bT×List bT)}{Q:List bT×List bT->Prop} (J:j<qs.length) (hN:qs.length<=1000001) (O:0<=g/\g<4294967296)
  (hn:Gd (I (qs.set j ⟨g⟩,l',(j:Int)-1)) Q):Gd (lQ qs (j:Int) I l' g) Q:=by
 unfold lQ;refine Gd.mR J ?_;rw [N7,wC,cK (by omega),show g%4294967296=g by omega]
 exact hn
theorem KO {W P B I U V O:Nat} (h0:O=I+P*U) (J:I<P) (hV:V<=B) (hU:U<W*V):O<P*(W*B):=by
 have Y:U+1<=W*B:=Pn hU (SX _ hV);have Z:P*(U+1)<=P*(W*B):=SX _ Y;rw [SU] at Z;omega
theorem zC {J X M T:Nat} (h:J=X+M*T) (O:J<M):T=0:=by
 rcases Nat.eq_zero_or_pos T with I | I
 ·exact I
 ·have:M*1<=M*T:=SX _ I
  omega
theorem Hf {b r134 vs:List bT}{j g q U:Nat}{I qs:List bT}{nx:List bT×List bT×Int->Option (List bT×List bT)}{Q:List bT×List bT->Prop}
  (hvs:uW r134 0 (((b.length:Int):Int).toNat)=vs) (hvl:vs.length=b.length) (hvw:Wf vs) (hl:Wf I) (hjn:j+b.length<I.length) (hN:I.length<=1000001) (hj:j<qs.length) (hqN:qs.length<=1000001)
  (hU:nv (I.drop j)=U) (hV:nv vs<=WB ^ b.length) (hUW:U<WB*nv vs) (hq1:q*nv vs<=U) (hq2:U<(q+1)*nv vs) (hqW:q<WB) (hg:Ls WB (nv vs) U q g)
  (hn:∀ l',l'.length=I.length->Wf l'->nv l'+WB ^ j*(q*nv vs)=nv I->(∀ p,p<j->l'[p]? = I[p]?)->Gd (nx (qs.set j ⟨(q:Int)⟩,l',(j:Int)-1)) Q):
  Gd (iU b r134 qs I (j:Int) nx (g:Int)) Q:=by
 have hqW':q<4294967296:=hqW;have wjn:i64.wrap ((j:Int)+(b.length:Int))=((j+b.length:Nat):Int):=by rw [cK ⟨by omega,by omega⟩]; omega
 have hjk:(((j+b.length:Nat):Int)).toNat=j+b.length:=by omega
 have h0:=Au I (m:=j) (by omega)
 rw [hU] at h0;have hlow:=sP (hl.take j);rw [OF,O7 (by omega)] at hlow
 have hpow:WB ^ (j+b.length+1)=WB ^ j*(WB*WB ^ b.length):=by rw [S5,SZ,SW WB,SV]
 have hbig:nv I<WB ^ (j+b.length+1):=by rw [hpow]; exact KO h0 hlow hV hUW
 have habove:nv (I.drop (j+b.length+1))=0:=zC (Au I (m:=j+b.length+1) (by omega)) hbig
 have small:∀ l:List bT,l.length=I.length->Wf l->(∀ p,j+b.length+1<=p->l[p]? = I[p]?)->nv l<WB ^ (j+b.length+1):=λl h1 h2 h3=>by
  rw [E_ h3 (by omega),habove,SY,PF]
  have:=sP (h2.take (j+b.length+1));rw [OF,O7 (by omega)] at this
  exact this
 unfold iU;rw [show ((b.length:Int):Int).toNat=b.length by omega] at hvs
 rw [show ((b.length:Int):Int).toNat=b.length by omega]
 refine LU (by rw [show ((b.length:Int):Int).toNat=b.length by omega]; exact hvs) hvl hvw hl hjn hN hg.w (λl O ca e1 e2 e3 e4 e5 e6 e7 e8 e9=>?_)
 obtain ⟨o,ho⟩:∃ o,l[j+b.length]? = some o:=⟨_,N5 (by omega)⟩
 have how:=e2 o (Ol ho);simp only;rw [wjn];refine Gd.ix (by omega) (by rw [hjk]; exact ho) (Gd.ix (by omega) (by rw [hjk]; exact ho) ?_)
 have hnb:i64.wrap (O+(i64.wrap ((i64.wrap (o.n))-(i64.wrap ca))))=O+o.n-ca:=by
  rw [cK (n:=o.n) (by omega),cK (n:=ca) (by omega),cK (n:=o.n-ca) (by omega),cK (by omega)]
  omega
 rw [hnb,hjk,wC];have hA:=E8 (l:=l) (k:=j+b.length) (x:=o) (v:=⟨(O+o.n-ca)%4294967296⟩) ho how.1 (by simp only; omega)
 simp only at hA;have hW1:Wf (l.set (j+b.length) ⟨(O+o.n-ca)%4294967296⟩):=e2.set (by omega)
 have J:(l.set (j+b.length) (⟨(O+o.n-ca)%4294967296⟩:bT)).length=I.length:=by simp [e1]
 have hab1:∀ p,j+b.length+1<=p->(l.set (j+b.length) (⟨(O+o.n-ca)%4294967296⟩:bT))[p]? = I[p]? := λp hp=>by
  rw [Ow (by omega)]; exact e8 p (by omega)
 have hbe1:∀ p,p<j->(l.set (j+b.length) (⟨(O+o.n-ca)%4294967296⟩:bT))[p]? = I[p]? := λp hp=>by
  rw [Ow (by omega)]; exact e9 p hp
 have hsm1:=small _ J hW1 hab1;generalize l.set (j+b.length) (⟨(O+o.n-ca)%4294967296⟩:bT)=l1 at hA hW1 J hab1 hbe1 hsm1;have hPW:((WB ^ (j+b.length+1):Nat):Int)=((WB ^ (j+b.length):Nat):Int)*4294967296:=by rw [S5,OW,show ((WB:Nat):Int)=4294967296 from rfl]
 have hZ:(nv l1:Int)+((WB ^ (j+b.length):Nat):Int)*(O+o.n-ca-(O+o.n-ca)%4294967296)=nv I-((WB ^ j:Nat):Int)*((g:Int)*(nv vs:Int)):=by
  rw [<- e7,Sv,Sv,Ss,Sv];omega
 have hZU:(nv I:Int)-((WB ^ j:Nat):Int)*((g:Int)*(nv vs:Int))=nv (I.take j)+((WB ^ j:Nat):Int)*((U:Int)-(g:Int)*(nv vs:Int)):=by
  rw [h0,Sw,OW,Sv]; omega
 have hge:=hg.ge; have hle:=hg.le
 refine Gd.ite (λhneg=>?_) (λhpos=>?_)
 ·have hneg:O+o.n-ca<0:=N9 hneg
  have hdiv:O+o.n-ca-(O+o.n-ca)%4294967296 = -4294967296:=by omega
  rw [hdiv] at hZ;have hZ1:(nv l1:Int)-((WB ^ (j+b.length+1):Nat):Int)=nv I-((WB ^ j:Nat):Int)*((g:Int)*(nv vs:Int)):=by
   rw [hPW,<- hZ,Int.mul_neg]; omega
  have hgq:g=q+1:=by
   rcases (show g=q\/g=q+1 by omega) with h | h
   ·exfalso
    rw [h] at hZ1 hZU;have h0':(0:Int)<=(U:Int)-(q:Int)*(nv vs:Int):=by
     have h1':((q*nv vs:Nat):Int)<=U:=by omega
     rw [OW] at h1'; omega
    have:(0:Int)<=((WB ^ j:Nat):Int)*((U:Int)-(q:Int)*(nv vs:Int)):=Int.mul_nonneg (by omega) h0'
    omega
   ·exact h
  refine LB (j:=j) (l1:=l1) (by rw [show ((b.length:Int):Int).toNat=b.length by omega]; exact hvs) hvl hvw hW1 (by omega) (by omega) (λl2 c f1 f2 f3 f4 f5 f6 f7=>?_)
  obtain ⟨Z,ho2⟩:∃ Z,l2[j+b.length]? = some Z:=⟨_,N5 (by omega)⟩
  have how2:=f2 Z (Ol ho2);simp only;refine Gd.ix (by omega) (by rw [hjk]; exact ho2) (Gd.ix (by omega) (by rw [hjk]; exact ho2) ?_)
  rw [wC,wC,show c%4294967296=c by omega]
  have hg1:u64.wrap ((g:Int)-1)=(q:Int):=by rw [hgq,jS (by omega)]; omega
  rw [hg1];have hB:=At (l:=l2) (k:=j+b.length) (x:=Z) (v:=⟨(Z.n+c)%4294967296⟩) ho2;simp only at hB;have hW2:Wf (l2.set (j+b.length) ⟨(Z.n+c)%4294967296⟩):=f2.set (by omega)
  have Y:(l2.set (j+b.length) (⟨(Z.n+c)%4294967296⟩:bT)).length=I.length:=by simp [f1,J]
  have hab2:∀ p,j+b.length+1<=p->(l2.set (j+b.length) (⟨(Z.n+c)%4294967296⟩:bT))[p]? = I[p]? := λp hp=>by
   rw [Ow (by omega),f6 p (by omega)]; exact hab1 p hp
  have hbe2:∀ p,p<j->(l2.set (j+b.length) (⟨(Z.n+c)%4294967296⟩:bT))[p]? = I[p]? := λp hp=>by
   rw [Ow (by omega),f7 p hp]; exact hbe1 p hp
  have hsm2:=small _ Y hW2 hab2;generalize l2.set (j+b.length) (⟨(Z.n+c)%4294967296⟩:bT)=l3 at hB hW2 Y hab2 hbe2 hsm2;refine GP hj hqN (by omega) (hn l3 Y hW2 ?_ hbe2)
  obtain ⟨κ,hκ⟩:∃ κ:Nat,Z.n.toNat+c.toNat=((Z.n+c)%4294967296).toNat+WB*κ:=by
   refine ⟨((Z.n+c) / 4294967296).toNat,?_⟩;have eW:WB=4294967296:=rfl;rw [eW]; omega
  have hsum:nv l3+WB ^ (j+b.length+1)*κ=nv l1+WB ^ j*nv vs:=by
   have e:WB ^ (j+b.length)*Z.n.toNat+WB ^ (j+b.length)*c.toNat=WB ^ (j+b.length)*((Z.n+c)%4294967296).toNat+WB ^ (j+b.length)*(WB*κ):=by
    rw [<- SU,hκ,SU]
   rw [S5,SV];omega
  have hVlt:WB ^ j*nv vs<WB ^ (j+b.length+1):=by
   have h1:WB ^ j*nv vs<=WB ^ j*WB ^ b.length:=SX _ hV;have h2:WB ^ j*WB ^ b.length<WB ^ (j+b.length+1):=by
    rw [<- SZ]; exact Nat.pow_lt_pow_right (by decide) (by omega)
   omega
  have hZq:(nv l1:Int)+((WB ^ j*nv vs:Nat):Int)=nv (I.take j)+((WB ^ j:Nat):Int)*((U:Int)-(q:Int)*(nv vs:Int))+((WB ^ (j+b.length+1):Nat):Int):=by
   rw [hgq] at hZ1 hZU;have e:((WB ^ j:Nat):Int)*((U:Int)-((q+1:Nat):Int)*(nv vs:Int))=((WB ^ j:Nat):Int)*((U:Int)-(q:Int)*(nv vs:Int))-((WB ^ j*nv vs:Nat):Int):=by
    rw [OW,<- Sv]
    congr 1
    rw [show ((q+1:Nat):Int)=(q:Int)+1 by omega,Int.add_mul]
    omega
   rw [e] at hZU;omega
  have hnn:(0:Int)<=((WB ^ j:Nat):Int)*((U:Int)-(q:Int)*(nv vs:Int)):=Int.mul_nonneg (by omega) (by
   have:((q*nv vs:Nat):Int)<=U:=by omega
   rw [OW] at this; omega)
  have hκ1:κ=1:=by
   rcases PW κ 1 with h | h
   ·exfalso
    have:κ=0:=by omega
    rw [this] at hsum; omega
   ·rcases PW 1 κ with h2 | h2
    ·exfalso
     have:WB ^ (j+b.length+1)*2<=WB ^ (j+b.length+1)*κ:=SX _ h2;omega
    ·omega
  rw [hκ1,QE] at hsum;have e:((WB ^ j:Nat):Int)*((U:Int)-(q:Int)*(nv vs:Int))=((WB ^ j*U:Nat):Int)-((WB ^ j*(q*nv vs):Nat):Int):=by
   rw [Sv,OW,OW,OW]
  rw [e] at hZq;omega
 ·have hpos:¬ O+o.n-ca<0:=Og hpos
  have hdiv:O+o.n-ca-(O+o.n-ca)%4294967296=0:=by omega
  rw [hdiv,Int.mul_zero,Int.add_zero] at hZ;have hgq:g=q:=by
   rcases (show g=q\/g=q+1 by omega) with h | h
   ·exact h
   ·exfalso
    rw [h] at hZ hZU;have h1:(U:Int)-((q+1:Nat):Int)*(nv vs:Int)<=-1:=by
     have:(U:Int)<(((q+1)*nv vs:Nat):Int):=by omega
     rw [OW] at this; omega
    have h2:((WB ^ j:Nat):Int)*((U:Int)-((q+1:Nat):Int)*(nv vs:Int))<=((WB ^ j:Nat):Int)*(-1):=Int.mul_le_mul_of_nonneg_left h1 (by omega)
    omega
  rw [hgq] at hZ ⊢;refine GP hj hqN (by omega) (hn l1 J hW1 ?_ hbe1)
  have e:((WB ^ j:Nat):Int)*((q:Int)*(nv vs:Int))=((WB ^ j*(q*nv vs):Nat):Int):=by rw [OW,OW]
  rw [e] at hZ;omega
theorem E9 {l:List bT}{m:Nat}{x y:bT} (J:l[m+1]? = some x) (O:l[m]? = some y) (I:nv (l.drop (m+2))=0):nv l=(x.n.toNat*WB+y.n.toNat)*WB ^ m+nv (l.take m):=by
 have e:=vD O;have e1:nv (l.drop (m+1))=x.n.toNat+WB*nv (l.drop (m+2)):=by rw [q_ J,nv]
 rw [e,e1,I,SY,PF,SW (WB ^ m),Qw (nv (l.take m)),Qw y.n.toNat,SW WB x.n.toNat]
theorem HW {l:List bT}{m:Nat}{x y z:bT} (J:l[m+2]? = some x) (O:l[m+1]? = some y) (Y:l[m]? = some z) (I:nv (l.drop (m+3))=0):nv l=((x.n.toNat*WB+y.n.toNat)*WB+z.n.toNat)*WB ^ m+nv (l.take m):=by
 have e:=vD Y;have e1:nv (l.drop (m+1))=y.n.toNat+WB*nv (l.drop (m+2)):=by rw [q_ O,nv]
 have e2:nv (l.drop (m+2))=x.n.toNat+WB*nv (l.drop (m+3)):=by rw [q_ J,nv]
 rw [e,e1,e2,I,SY,PF,SW (WB ^ m),Qw (nv (l.take m)),Qw z.n.toNat,SW WB (y.n.toNat+_),Qw y.n.toNat,SW WB x.n.toNat]
theorem Hu {b J vs:List bT}{j Z q U R v1 v2 vl u2 ul top:Nat}{l0 qs:List bT}{nx:List bT×List bT×Int->Option (List bT×List bT)}{Q:List bT×List bT->Prop}
  (hb:b.length=Z+2) (hvs:uW J 0 (((b.length:Int):Int).toNat)=vs) (hvl:vs.length=b.length) (hl0:j+b.length<l0.length) (hN:l0.length<=1000001)
  (y1 y2 z2:bT) (hy1:vs[Z+1]? = some y1) (hy2:vs[Z]? = some y2) (hz2:l0[j+Z]? = some z2) (e1:y1.n=v1) (e2:y2.n=v2) (e3:z2.n=u2) (w1:v1<4294967296) (hv1:1<=v1)
  (hS:EC WB R v1 v2 vl u2 ul top (nv vs) U) (hq1:q*nv vs<=U) (hq2:U<(q+1)*nv vs) (hqW:q<WB)
  (hk:∀ g,Ls WB (nv vs) U q g->Gd (iU b J qs l0 (j:Int) nx (g:Int)) Q)
  {g0 I:Nat} (h0:Gs WB R v1 v2 vl u2 ul top (nv vs) U q g0 I):
  Gd (cE (λO n=>oR b J qs l0 (j:Int) nx O.1 O.2 n) a_ ((g0:Int),(I:Int))) Q:=by
 have hu2:u2<4294967296:=hS.u2;have hv2:v2<4294967296:=hS.v2;have eW:WB=4294967296:=rfl;refine Gd.cE (λ(z:Int×Int)=>∃ g rest:Nat,z=((g:Int),(rest:Int))/\Gs WB R v1 v2 vl u2 ul top (nv vs) U q g rest) (λz=>z.1.toNat) ?_ a_ _ ⟨g0,I,rfl,h0⟩ ?_
 ·rintro z nx2 ⟨g,rest,rfl,Y⟩ hnx
  simp only at hnx ⊢;have hrest:rest<4294967296:=Y.rest;have hgW:g<=4294967297:=Y.le;have wn1:i64.wrap ((b.length:Int)-1)=((Z+1:Nat):Int):=by rw [hb,cK (by omega)]; omega
  have wn2:i64.wrap ((b.length:Int)-2)=((Z:Nat):Int):=by rw [hb,cK (by omega)]; omega
  have wjn:i64.wrap ((i64.wrap ((j:Int)+(b.length:Int)))-2)=((j+Z:Nat):Int):=by rw [hb,cK (n:=(j:Int)+_) (by omega),cK (by omega)]; omega
  have dec:q<g->Gd (if decide (4294967296<=(u64.wrap ((rest:Int)+(u64.wrap (y1.n))))) then (iU b J qs l0 (j:Int) nx (u64.wrap ((g:Int)-1))) else (nx2 (u64.wrap ((g:Int)-1),u64.wrap ((rest:Int)+(u64.wrap (y1.n)))))) Q:=λhlt=>by
   have er:u64.wrap ((rest:Int)+(u64.wrap (y1.n)))=((rest+v1:Nat):Int):=by
    rw [e1,jS (n:=(v1:Int)) (by omega),jS (by omega)]; omega
   have eg:u64.wrap ((g:Int)-1)=((g-1:Nat):Int):=by rw [jS (by omega)]; omega
   rw [er,eg];refine Gd.ite (λh=>hk _ (Y.over hS hq2 hv1 hlt (by rw [eW]; have:=N9 h; omega))) (λh=>hnx _ ⟨g-1,rest+v1,rfl,Y.next hlt (by rw [eW]; have:=Og h; omega)⟩ ?_)
   simp only [N7];omega
  unfold oR;rw [hvs,wn1,wn2,wjn];refine Gd.ite (λh=>?_) (λh=>?_)
  ·have h:=N9 h
   refine Gd.ix (by omega) (by rw [N7]; exact hy1) (dec (Y.less hS hq1 hqW (.inl (by rw [eW]; omega))))
  ·have h:=Og h
   refine Gd.ix (by omega) (by rw [N7]; exact hy2) (Gd.ix (by omega) (by rw [N7]; exact hz2) ?_)
   have eor:u64.wrap ((BitVec.ofInt (u64).bits (pz .u64 (rest:Int) 32) ||| BitVec.ofInt (u64).bits (u64.wrap (z2.n))).toNat)=((rest*WB+u2:Nat):Int):=by
    rw [yl ⟨by omega,by omega⟩ (by rw [e3]; omega),e3,eW]; omega
   have egv:u64.wrap ((g:Int)*(u64.wrap (y2.n)))=((g*v2:Nat):Int):=by
    have hb2:g*v2<=4294967296*4294967295:=Nat.mul_le_mul (by omega) (by omega)
    rw [e2,jS (n:=(v2:Int)) (by omega),show (g:Int)*(v2:Int)=((g*v2:Nat):Int) by rw [OW],jS (by omega)]
   rw [eor,egv];refine Gd.ite (λh2=>Gd.ix (by omega) (by rw [N7]; exact hy1) (dec (Y.less hS hq1 hqW (.inr ?_)))) (λh2=>hk g (Y.stop hS hq2 hv1 (by rw [eW]; omega) ?_))
   ·exact Int.ofNat_lt.1 (N9 h2)
   ·have:=Og h2
    exact Int.ofNat_le.1 (Int.not_lt.1 this)
 ·simp only [a_,N7]
  have:g0<=4294967297:=h0.le;omega
theorem Ht {W R v1 v2 vl u2 ul u0 u1 V U q:Nat} (h:EC W R v1 v2 vl u2 ul (u0*W+u1) V U) (Y:q*V<=U) (J:1<=v1) (hv1:v1<W) (hW:W<=2*v1) (I:u0<=v1) (Z:u1<W):
  Gs W R v1 v2 vl u2 ul (u0*W+u1) V U q ((u0*W+u1) / v1) ((u0*W+u1)%v1):=by
 have hm:(u0*W+u1)%v1<v1:=QQ _ J;refine ⟨(SQ J).2 (h.Lb Y),?_,by omega,?_⟩
 ·rw [SW,Qw,SS]
 ·have h1:u0*W<=v1*W:=On _ I
  have O:u0*W+u1<(W+2)*v1:=by
   rw [Ou,SW W v1]; omega
  have:=(SP J).2 O;omega
theorem BV {W R u0 u1 v1 v2 vl ul V X:Nat} (Y:X=(u0*W+u1)*R+ul) (O:V=(v1*W+v2)*R+vl) (Z:X<V) (hvl:vl<R) (I:v2<W):u0<=v1:=by
 rcases PW v1 u0 with h | h
 ·exfalso
  have h1:(v1+1)*W*R<=u0*W*R:=On _ (On _ h);have J:(v2+1)*R<=W*R:=On _ I;have e1:(v1+1)*W*R=v1*W*R+W*R:=by rw [Ou,Ou,Rx]
  have e2:X=u0*W*R+u1*R+ul:=by rw [Y,Ou]
  have e3:V=v1*W*R+v2*R+vl:=by rw [O,Ou]
  rw [Ou] at J;omega
 ·exact h
theorem Hy {q W D V P I J U0:Nat} (O:I+P*(q*V)=J) (Y:D*V*(P*W)+J=U0):(q+W*D)*V*P+I=U0:=by
 have e1:(q+W*D)*V*P=P*(q*V)+D*V*(P*W):=by
  rw [Ou,Ou,SW P (q*V)]
  congr 1
  rw [SW W D,SV D W V,SW W V,<- SV D V W,SV (D*V) W P,SW W P]
 omega
theorem JG {W x y V:Nat} (J:x<W) (I:y<V):x+W*y<W*V:=by
 have:W*(y+1)<=W*V:=SX _ I;rw [SU] at this; omega
theorem Il {P a x q V U:Nat} (hP:0<P) (J:a+P*x+P*(q*V)=a+P*U) (I:U<(q+1)*V):x<V:=by
 have e:P*(x+q*V)=P*U:=by rw [SU]; omega
 have:=Nat.eq_of_mul_eq_mul_left hP e;rw [Ou] at I;omega
theorem FO {b r134 vs:List bT}{r127:Int}{I N U0:Nat}{Q:List bT×List bT->Prop}
  (hb:b.length=I+2) (hvs:uW r134 0 (((b.length:Int):Int).toNat)=vs) (hvl:vs.length=b.length) (hvw:Wf vs) (hN:N<=1000001)
  (O y2:bT) (hy1:vs[I+1]? = some O) (hy2:vs[I]? = some y2) (hnorm:2147483648<=O.n)
  (J u0:List bT) (hq0:J.length+b.length=N) (hqw:Wf J) (hu0:u0.length=N) (huw:Wf u0) (hstart:nv (u0.drop J.length)<nv vs) (hval:nv u0=U0)
  (hk:∀ qs u,qs.length=J.length->Wf qs->u.length=N->Wf u->nv qs*nv vs+nv u=U0->nv u<nv vs ->
   Gd (fU (0<=(b.length:Int)/\(b.length:Int)*4<=140737488355328) (mn (λk Z n=>mT r127 u k Z n) (λZ=>some (qs,Z)) ((b.length:Int):Int).toNat 0 (List.replicate ((b.length:Int):Int).toNat (⟨0⟩:bT)))) Q):
  Gd (cE (λY n=>oO b r127 r134 Y.1 Y.2.1 Y.2.2 n) a_ (J,u0,(J.length:Int)-1)) Q:=by
 have hy1w:=hvw O (Ol hy1); have hy2w:=hvw y2 (Ol hy2)
 have hVB:nv vs<=WB ^ b.length:=by have:=sP hvw; rw [hvl] at this; omega
 refine Gd.cE (λ(z:List bT×List bT×Int)=>z.1.length=J.length/\Wf z.1/\z.2.1.length=N/\Wf z.2.1/\-1<=z.2.2/\z.2.2<J.length/\nv (z.1.drop (z.2.2+1).toNat)*nv vs*WB ^ (z.2.2+1).toNat+nv z.2.1=U0/\nv (z.2.1.drop (z.2.2+1).toNat)<nv vs) (λz=>(z.2.2+1).toNat) ?_ a_ _ ⟨rfl,hqw,hu0,huw,by simp only; omega,by simp only; omega,?_,?_⟩ (by simp only [a_]; omega)
 ·rintro ⟨qs,u,j⟩ nx ⟨h1,h2,h3,h4,h5,h6,h7,h8⟩ hnx
  simp only at h1 h2 h3 h4 h5 h6 h7 h8 hnx ⊢;unfold oO;refine Gd.ite (λhj=>?_) (λhj=>?_)
  ·have hj:=N9 hj
   obtain ⟨k,rfl⟩:∃ k:Nat,j=k:=⟨j.toNat,by omega⟩
   rw [show ((k:Int)+1).toNat=k+1 by omega] at h7 h8
   obtain ⟨t0,ht0⟩:∃ t,u[k+I+2]? = some t:=⟨_,N5 (by omega)⟩
   obtain ⟨t1,ht1⟩:∃ t,u[k+I+1]? = some t:=⟨_,N5 (by omega)⟩
   obtain ⟨t2,ht2⟩:∃ t,u[k+I]? = some t:=⟨_,N5 (by omega)⟩
   have w0:=h4 t0 (Ol ht0); have w1:=h4 t1 (Ol ht1); have w2:=h4 t2 (Ol ht2)
   have wjn:i64.wrap ((k:Int)+(b.length:Int))=((k+I+2:Nat):Int):=by rw [hb,cK (by omega)]; omega
   have wjm:i64.wrap (((k+I+2:Nat):Int)-1)=((k+I+1:Nat):Int):=by rw [cK (by omega)]; omega
   have wn1:i64.wrap ((b.length:Int)-1)=((I+1:Nat):Int):=by rw [hb,cK (by omega)]; omega
   rw [hvs,wjn,wjm,wn1];have ey1:u64.wrap O.n=O.n:=jS (by omega)
   refine Gd.ix (by omega) (by rw [N7]; exact ht0) (Gd.ix (by omega) (by rw [N7]; exact ht1) (Gd.ix (by omega) (by rw [N7]; exact hy1) (Gd.nd (by rw [ey1]; omega) (Gd.ix (by omega) (by rw [N7]; exact hy1) (Gd.nd (by rw [ey1]; omega) ?_)))))
   rw [jS (n:=t0.n) (by omega),yl w0 w1,ey1]
   obtain ⟨x,hx⟩:∃ x,u[k]? = some x:=⟨_,N5 (by omega)⟩
   have hxw:=h4 x (Ol hx);have hU1:nv (u.drop k)=x.n.toNat+WB*nv (u.drop (k+1)):=by rw [q_ hx,nv]
   have hUlt:nv (u.drop k)<WB*nv vs:=by rw [hU1]; exact JG (by show x.n.toNat<4294967296; omega) h8
   have hVlt:nv vs<WB ^ (I+2):=by have:=sP hvw; rw [hvl,hb] at this; exact this
   have hz:nv (u.drop (k+1+(I+2)))=0:=by
    have e:=Au (u.drop (k+1)) (m:=I+2) (by rw [PI]; omega)
    rw [Qa] at e;exact zC e (by omega)
   have hVe:=E9 hy1 hy2 (by rw [SB (by omega)]; rfl)
   have hXe:=E9 (l:=u.drop (k+1)) (m:=I) (x:=t0) (y:=t1) (by rw [ON,show k+1+(I+1)=k+I+2 by omega]; exact ht0) (by rw [ON,show k+1+I=k+I+1 by omega]; exact ht1) (by rw [Qa]; exact hz)
   have hUe:=HW (l:=u.drop k) (m:=I) (x:=t0) (y:=t1) (z:=t2) (by rw [ON,show k+(I+2)=k+I+2 by omega]; exact ht0) (by rw [ON,show k+(I+1)=k+I+1 by omega]; exact ht1) (by rw [ON]; exact ht2) (by rw [Qa,show k+(I+3)=k+1+(I+2) by omega]; exact hz)
   have hvl':nv (vs.take I)<WB ^ I:=by have:=sP (hvw.take I); rw [OF,O7 (by omega)] at this; exact this
   have hul':nv ((u.drop k).take I)<WB ^ I:=by
    have:=sP (l:=(u.drop k).take I) (λz hz=>h4 z (List.mem_of_mem_drop (QG hz)));rw [OF,PI,O7 (by omega)] at this; exact this
   have hS:EC WB (WB ^ I) O.n.toNat y2.n.toNat (nv (vs.take I)) t2.n.toNat (nv ((u.drop k).take I)) (t0.n.toNat*WB+t1.n.toNat) (nv vs) (nv (u.drop k)):=
    ⟨hVe,hUe,hvl',hul',by show t2.n.toNat<4294967296; omega,by show y2.n.toNat<4294967296; omega⟩
   have hle:t0.n.toNat<=O.n.toNat:=BV hXe hVe h8 hvl' (by show y2.n.toNat<4294967296; omega)
   have hVpos:0<nv vs:=by omega
   obtain ⟨q,hq1,hq2,hqW⟩:∃ q,q*nv vs<=nv (u.drop k)/\nv (u.drop k)<(q+1)*nv vs/\q<WB:=by
    refine ⟨nv (u.drop k) / nv vs,Nat.div_mul_le_self _ _,?_,(SP hVpos).2 hUlt⟩;have:=Oh (nv (u.drop k) / nv vs);exact (SP hVpos).1 this
   have hG:=Ht hS hq1 (show 1<=O.n.toNat by omega) (show O.n.toNat<WB by show O.n.toNat<4294967296; omega) (show WB<=2*O.n.toNat by show 4294967296<=2*O.n.toNat; omega) hle (show t1.n.toNat<WB by show t1.n.toNat<4294967296; omega)
   have hg0:=hG.le;have etop:t0.n*4294967296+t1.n=((t0.n.toNat*WB+t1.n.toNat:Nat):Int):=by
    show _=((t0.n.toNat*4294967296+t1.n.toNat:Nat):Int); omega
   have ey:O.n=((O.n.toNat:Nat):Int):=by omega
   have ed:Int.tdiv (t0.n*4294967296+t1.n) O.n=(((t0.n.toNat*WB+t1.n.toNat) / O.n.toNat:Nat):Int):=by
    rw [etop,ey]; rfl
   have em:Int.tmod (t0.n*4294967296+t1.n) O.n=(((t0.n.toNat*WB+t1.n.toNat)%O.n.toNat:Nat):Int):=by
    rw [etop,ey]; rfl
   rw [ed,em];generalize (t0.n.toNat*WB+t1.n.toNat) / O.n.toNat=g0 at hG hg0 ⊢;generalize (t0.n.toNat*WB+t1.n.toNat)%O.n.toNat=rest0 at hG ⊢;have eW:(WB:Nat)=4294967296:=rfl;rw [eW] at hg0;rw [jS (n:=(g0:Int)) (by omega)]
   refine Hu hb hvs hvl (by omega) (by omega) O y2 t2 hy1 hy2 ht2 (by omega) (by omega) (by omega) (by omega) (by omega) hS hq1 hq2 hqW (λg hg=>?_) hG
   refine Hf hvs hvl hvw h4 (by omega) (by omega) (by omega) (by omega) rfl hVB hUlt hq1 hq2 hqW hg (λl' f1 f2 f3 f4=>?_)
   have ek:((k:Int)-1+1).toNat=k:=by omega
   refine hnx _ ⟨by rw [Pp]; exact h1,h2.set (by rw [eW] at hqW; omega),by simp only; omega,f2,by simp only; omega,by simp only; omega,?_,?_⟩ (by simp only; omega)
   ·simp only
    rw [ek,q_ (Oz (by omega)),nv,Qs (by omega)]
    rw [N7];rw [S5] at h7;exact Hy f3 h7
   ·simp only
    rw [ek];have e1:=Au l' (m:=k) (by omega)
    have e2:=Au u (m:=k) (by omega)
    have e3:l'.take k=u.take k:=by
     apply PO;intro i;rw [O5,O5]
     by_cases hi:i<k
     ·rw [Oc hi,Oc hi]; exact f4 i hi
     ·rw [Ob hi,Ob hi]
    rw [e3] at e1;refine Il (a:=nv (u.take k)) (P:=WB ^ k) (S4 (by decide)) ?_ hq2
    omega
  ·have hj:=Og hj
   rw [show (j+1).toNat=0 by omega,PB,S6,QE] at h7
   rw [show (j+1).toNat=0 by omega,PB] at h8
   exact hk qs u h1 h2 h3 h4 h7 h8
 ·simp only
  rw [show ((J.length:Int)-1+1).toNat=J.length by omega,Q3]
  simp [nv,hval]
 ·simp only
  rw [show ((J.length:Int)-1+1).toNat=J.length by omega]
  exact hstart
theorem AX {W S M u0 u1 hi:Nat} (J:W=S*M) (I:0<S):
  (u0+W*(u1+W*hi)) / S%W=(u1*W+u0) / S%W:=by
 have e:u0+W*(u1+W*hi)=(u1*W+u0)+S*(M*(W*hi)):=by
  have e1:W*(W*hi)=S*(M*(W*hi)):=by rw [<- SV S M,<- J]
  rw [SU,e1,SW W u1]; omega
 rw [e,Nat.add_mul_div_left _ _ I];have e2:M*(W*hi)=W*(M*hi):=by rw [<- SV,SW M W,SV]
 rw [e2,Nat.add_mul_mod_self_left]
theorem Cc {W S u0 T:Nat} (I:u0<W):(u0+W*T) / S / W=T / S:=by
 rw [Nat.div_div_eq_div_mul,SW S W,<- Nat.div_div_eq_div_mul,Nat.add_mul_div_left _ _ (by omega),SO I,OB]
theorem La {n:Int}{k:Nat} (I:k<=64):mO .u64 n (k:Int)=n / (2 ^ k:Nat):=by
 unfold mO;rw [show (min ((k:Int)).toNat u64.bits)=k by show min ((k:Int)).toNat 64=k; omega,Qy _ (Int.le_of_lt (Int.pow_pos (by decide)))]
 rw [Int.natCast_pow]; rfl
theorem Dt {A P d W D I Z:Nat} (h:A+P*D=Z) (O:D%W=d) (J:D / W=I):(A+P*d)+P*W*I=Z:=by
 have e:d+W*I=D:=by rw [<- O,<- J,SS]
 rw [SV P W,Qi,<- SU,e,h]
theorem Ev {n s:Nat} (hs:s<=31) {u:List bT} (hu:Wf u) (hl:n<u.length) (hz:u.length<=1000001) {qs:List bT}{Q:List bT×List bT->Prop} (hlt:nv u / 2 ^ s<WB ^ n)
  (hk:∀ r,Wf r->r.length=n->nv r=nv u / 2 ^ s->Q (qs,r)):
  Gd (mn (λk I n=>mT (s:Int) u k I n) (λI=>some (qs,I)) n 0 (List.replicate n (⟨0⟩:bT))) Q:=by
 have hS:0<(2:Nat) ^ s:=S4 (by decide)
 have hWS:WB=2 ^ s*2 ^ (32-s):=by rw [<- SZ,show s+(32-s)=32 by omega]
 refine Gd.mn (λm k (z:List bT)=>k+m=n/\z.length=n/\Wf z/\nv (z.take k)+WB ^ k*(nv (u.drop k) / 2 ^ s)=nv u / 2 ^ s) ?_ ?_ _ 0 _ ⟨by omega,by simp,λy hy=>?_,by simp [nv]⟩
 ·rintro m k l nx ⟨h0,h1,h2,h3⟩ hnx
  obtain ⟨J,Y⟩:∃ t,u[k]? = some t:=⟨_,N5 (by omega)⟩
  obtain ⟨O,Z⟩:∃ t,u[k+1]? = some t:=⟨_,N5 (by omega)⟩
  have w0:=hu J (Ol Y); have w1:=hu O (Ol Z)
  have wk:i64.wrap ((k:Int)+1)=((k+1:Nat):Int):=by rw [cK (by omega)]; omega
  unfold mT;rw [wk];refine Gd.ix (by omega) (by rw [N7]; exact Z) (Gd.ix (by omega) (by rw [N7]; exact Y) (Gd.nd (by omega) (Gd.mR (by omega) ?_)))
  rw [jS (n:=O.n) (by omega),yl w1 w0,La (by omega),wC,N7]
  have e1:O.n*4294967296+J.n=((O.n.toNat*WB+J.n.toNat:Nat):Int):=by
   show _=((O.n.toNat*4294967296+J.n.toNat:Nat):Int); omega
  have e2:(O.n*4294967296+J.n) / ((2 ^ s:Nat):Int)%4294967296=(((O.n.toNat*WB+J.n.toNat) / 2 ^ s%WB:Nat):Int):=by
   rw [e1]; rfl
  rw [e2];have hd:nv (u.drop k)=J.n.toNat+WB*nv (u.drop (k+1)):=by rw [q_ Y,nv]
  have hd1:nv (u.drop (k+1))=O.n.toNat+WB*nv (u.drop (k+2)):=by rw [q_ Z,nv]
  have hm:=AX (u0:=J.n.toNat) (u1:=O.n.toNat) (hi:=nv (u.drop (k+2))) hWS hS;rw [<- hd1,<- hd] at hm;have hn:=Cc (W:=WB) (S:=2 ^ s) (u0:=J.n.toNat) (T:=nv (u.drop (k+1))) (by show J.n.toNat<4294967296; omega)
  rw [<- hd] at hn;have hlt':(O.n.toNat*WB+J.n.toNat) / 2 ^ s%WB<WB:=QQ _ (by decide)
  refine hnx _ ⟨by omega,by rw [Pp]; exact h1,h2.set ⟨by omega,by have:(WB:Nat)=4294967296:=rfl; rw [this] at hlt'; omega⟩,?_⟩
  rw [vG (by omega),ur,OF,O7 (by omega),S5,N7]
  exact Dt h3 hm hn
 ·rintro k l ⟨h0,h1,h2,h3⟩
  have hk':k=n:=by omega
  subst hk';rw [Oo (by omega)] at h3
  have h0':=zC h3.symm hlt;rw [h0',SY,PF] at h3;exact Gd.ret (hk l h2 h1 h3)
 ·rw [SL] at hy
  rw [hy.2]; simp
theorem KW {q V a b S u:Nat} (J:0<S) (O:V=b*S) (h:q*V+u=a*S) (Y:u<V):u / S=a-q*b/\a-q*b<b/\q*b<=a:=by
 have e:q*V=q*b*S:=by rw [O,SV]
 have I:q*b<=a:=by
  have Z:q*b*S<=a*S:=by omega
  exact Nat.le_of_mul_le_mul_right Z J
 have e2:u=(a-q*b)*S:=by rw [Nat.mul_sub_right_distrib]; omega
 refine ⟨by rw [e2,Nat.mul_div_cancel _ J],?_,I⟩
 rw [e2,O] at Y;exact Nat.lt_of_mul_lt_mul_right Y
theorem LF {q a b:Nat} (I:a-q*b<b) (J:q*b<=a):q=a / b/\a-q*b=a%b:=by
 have:=(Nat.div_mod_unique (a:=a) (b:=b) (c:=a-q*b) (d:=q) (by omega)).2 ⟨by rw [SW b q]; omega,I⟩
 exact ⟨this.1.symm,this.2.symm⟩
theorem IF {W S M x B P:Nat} (I:W=S*M) (J:x*S<W) (Z:B<(x+1)*P):B*S<W*P:=by
 have O:x<M:=by rw [I,SW] at J; exact SR J
 have Y:(x+1)*S<=W:=by rw [I,SW S M]; exact On _ O
 have hS:0<S:=by
  rcases Nat.eq_zero_or_pos S with h | h
  ·rw [h] at I; simp at I; rw [I] at J; omega
  ·exact h
 have h3:B*S<(x+1)*P*S:=(Nat.mul_lt_mul_right hS).2 Z;have h4:(x+1)*P*S=(x+1)*S*P:=by rw [SV,SW P S,<- SV]
 have h5:(x+1)*S*P<=W*P:=On _ Y;omega
theorem Hg {a b:List bT} (ha:Wf a) (hb:Wf b) (hta:ve a) (O:ve b) (hne:b≠[]) (hza:a.length<=900000) (hzb:b.length<=900000):
  Gd (nS a b) (λr=>Wf r.1/\Wf r.2/\r.1.length<=a.length/\r.2.length<=a.length/\nv r.1=nv a / nv b/\nv r.2=nv a%nv b):=by
 unfold nS;refine Gd.hO (G3 ha hb hta O (by omega) (by omega)) (λc hc=>Gd.ite (λh=>?_) (λh=>?_))
 ·have hlt:=hc.1.1 (N9 h)
  exact Gd.ret ⟨Wf.nil,ha,by simp,Ov _,by rw [SO hlt]; rfl,by rw [PT hlt]⟩
 ·have hge:nv b<=nv a:=by
   have h:=Og h;have:=mt hc.1.2 h;omega
  have hbl:0<b.length:=SJ.2 hne;have hle:b.length<=a.length:=by
   rcases PW a.length b.length with h | h
   ·have:=uU ha hb O h; omega
   ·exact h
  refine Gd.ite (λZ=>?_) (λZ=>?_)
  ·have Z:=N9 Z
   have Z:b.length=1:=by omega
   obtain ⟨x,rfl⟩:=SH.1 Z;have hx:=hb x (by simp)
   have hx0:x.n≠0:=O x (by simp)
   refine Gd.ix (y:=x) (by omega) (by simp) (Gd.hO (Dp ha (by omega) (d:=x.n) (by omega)) (λr hr=>Gd.ret ?_))
   obtain ⟨r1,r2,r3,r4⟩:=hr;have hm:nv a%x.n.toNat<x.n.toNat:=QQ _ (by omega)
   refine ⟨r1,?_,by simp only; omega,by simp at hle ⊢; omega,by rw [r3,As],?_⟩
   ·refine Wf.one ?_
    rw [r4]; omega
   ·simp only
    rw [As,As,r4,N7]
  ·have Z:=Og Z
   obtain ⟨I,J⟩:∃ I,b.length=I+2:=⟨b.length-2,by omega⟩
   have wn1:i64.wrap ((b.length:Int)-1)=((I+1:Nat):Int):=by rw [J,cK (by omega)]; omega
   have wab:i64.wrap ((a.length:Int)-(b.length:Int))=((a.length-b.length:Nat):Int):=by rw [cK (by omega)]; omega
   have wab1:i64.wrap (((a.length-b.length:Nat):Int)+1)=((a.length-b.length+1:Nat):Int):=by rw [cK (by omega)]; omega
   rw [wn1,wab,wab1];obtain ⟨x,hx⟩:∃ t,b[I+1]? = some t:=⟨_,N5 (by omega)⟩
   have hxw:=hb x (Ol hx);have hx0:x.n≠0:=O x (by rw [SG,J]; exact hx)
   refine Gd.ix (by omega) (by rw [N7]; exact hx) (Gd.hO (LS (x:=x.n) (by omega) hxw.2) ?_)
   rintro sv ⟨s,rfl,hs1,hs2,hs3⟩;refine Gd.hO (AF ha (by omega) hs1) (λu0 hu0=>Gd.hO (AF hb (by omega) hs1) (λY hv0=>?_))
   obtain ⟨p1,p2,p3,p4⟩:=hu0;obtain ⟨q1,q2,q3,t,q4,q5⟩:=hv0;refine Gd.nd (by omega) (Gd.nd (by omega) ?_)
   have hS:0<(2:Nat) ^ s:=S4 (by decide)
   have hWS:WB=2 ^ s*2 ^ (32-s):=by rw [<- SZ,show s+(32-s)=32 by omega]
   have hbs:nv b=nv (b.take (I+1))+WB ^ (I+1)*x.n.toNat:=by
    have:=rp hx;rw [Oo (by omega)] at this; exact this
   have hbt:nv (b.take (I+1))<WB ^ (I+1):=by
    have:=sP (hb.take (I+1)); rw [OF,O7 (by omega)] at this; exact this
   have hb2:nv b<(x.n.toNat+1)*WB ^ (I+1):=by rw [Ou,SW x.n.toNat]; omega
   have hvlt:nv Y<WB ^ (I+2):=by
    rw [q3,S5,SW _ WB];exact IF hWS hs3 hb2
   have hvs:nv (Y.take b.length)=nv Y/\Wf (Y.take b.length)/\(Y.take b.length).length=b.length:=by
    refine ⟨?_,q1.take _,by rw [OF]; omega⟩
    have e:=Au Y (m:=b.length) (by omega)
    have hz:nv (Y.drop b.length)=0:=zC e (by rw [J]; exact hvlt)
    rw [hz,SY,PF] at e;exact e.symm
   have hsl:uW Y 0 (((b.length:Int):Int).toNat)=Y.take b.length:=by
    rw [N7]; rfl
   generalize Y.take b.length=vs at hvs hsl;obtain ⟨v1,v2,v3⟩:=hvs;obtain ⟨y1,hy1⟩:∃ t,vs[I+1]? = some t:=⟨_,N5 (by omega)⟩
   obtain ⟨y2,hy2⟩:∃ t,vs[I]? = some t:=⟨_,N5 (by omega)⟩
   have hy1w:=v2 y1 (Ol hy1);have hVS:nv vs=nv b*2 ^ s:=by rw [v1,q3]
   have hnorm:2147483648<=y1.n:=by
    have e1:nv vs=nv (vs.take (I+1))+WB ^ (I+1)*y1.n.toNat:=by
     have:=rp hy1;rw [Oo (by omega)] at this; exact this
    have e2:nv (vs.take (I+1))<WB ^ (I+1):=by
     have:=sP (v2.take (I+1)); rw [OF,O7 (by omega)] at this; exact this
    have e3:WB ^ (I+1)*x.n.toNat*2 ^ s<=nv b*2 ^ s:=On _ (by omega)
    rw [SV] at e3;have e4:WB ^ (I+1)*(x.n.toNat*2 ^ s)<WB ^ (I+1)*(y1.n.toNat+1):=by rw [SU (WB ^ (I+1)) y1.n.toNat 1]; omega
    have e5:=SR e4;omega
   have hst:nv (u0.drop (a.length-b.length+1))<nv vs:=by
    have e:=Au u0 (m:=a.length-b.length+1) (by omega)
    have Z:WB ^ (I+1)<=nv b:=by have:=Dd hb O hne; rw [J] at this; exact this
    have h2:nv a<WB ^ a.length:=sP ha;have h3:nv u0<WB ^ a.length*2 ^ s:=by rw [p3]; exact (Nat.mul_lt_mul_right hS).2 h2
    have h4:WB ^ a.length*2 ^ s=WB ^ (a.length-b.length+1)*(WB ^ (I+1)*2 ^ s):=by
     rw [<- SV,<- SZ]; congr 2; omega
    have h5:nv (u0.drop (a.length-b.length+1))<WB ^ (I+1)*2 ^ s:=by
     rw [h4] at h3;exact SR (a:=WB ^ (a.length-b.length+1)) (by omega)
    have h6:WB ^ (I+1)*2 ^ s<=nv b*2 ^ s:=On _ Z;omega
   have hstart:((a.length-b.length:Nat):Int)=((List.replicate (a.length-b.length+1) (⟨0⟩:bT)).length:Int)-1:=by
    rw [Pl]; omega
   rw [N7,hstart];refine FO (N:=a.length+1) (U0:=nv a*2 ^ s) J hsl v3 v2 (by omega) y1 y2 hy1 hy2 hnorm _ u0 (by rw [Pl]; omega) (λy hy=>by rw [SL] at hy; rw [hy.2]; simp) p2 p1 (by rw [Pl]; exact hst) p3 ?_
   intro qs u f1 f2 f3 f4 f5 f6;obtain ⟨g1,g2,g3⟩:=KW hS hVS f5 f6;obtain ⟨g4,g5⟩:=LF g2 g3;refine Gd.nd (by omega) ?_
   rw [N7];refine Ev hs1 f4 (by omega) (by omega) ?_ (λr r1 r2 r3=>⟨f2,r1,?_,?_,g4,?_⟩)
   ·rw [g1]; have:=sP hb; omega
   ·simp only; rw [f1,Pl]; omega
   ·simp only; omega
   ·simp only; rw [r3,g1,g5]
theorem vU {w:List bT} (J:Wf w) (ht:ve w):nv w=0↔w=[]:=by
 constructor
 ·intro h
  rcases SC w with I | ⟨a,y,I⟩
  ·exact I
  ·have:=Dd J ht (by rw [I]; simp)
   have O:0<WB ^ (w.length-1):=S4 (by decide)
   omega
 ·intro h; rw [h]; rfl
theorem HV {a b:List bT} (J:Wf a) (O:Wf b) (Y:ve a) (Z:ve b) (h:nv a=nv b):a=b:=by
 rcases QJ a.length b.length with I | I | I
 ·have:=uU J O Z I; omega
 ·exact HU J O I h
 ·have:=uU O J Y I; omega
theorem tr.ext' {a b:LI} (I:tr a) (J:tr b) (h:jR a=jR b):a=b:=by
 obtain ⟨O,Y⟩:=a; obtain ⟨Z,bw⟩:=b
 have za:=vU I.wf I.tp; have zb:=vU J.wf J.tp
 have sa:=I.sign; have sb:=J.sign
 simp only [jR] at h za zb sa sb;have key:O=Z->Y=bw->(aD.mk O Y)=aD.mk Z bw:=by rintro rfl rfl; rfl
 cases O <;> cases Z <;> simp at h sa sb
 ·exact key rfl (HV I.wf J.wf I.tp J.tp (by omega))
 ·have:nv bw=0:=by omega
  exact absurd (zb.1 this) sb
 ·have:nv Y=0:=by omega
  exact absurd (za.1 this) sa
 ·exact key rfl (HV I.wf J.wf I.tp J.tp (by omega))
def Lo (A B:Nat):Nat:=if B=0 then 0 else 2*Nat.log2 (A*B)+2+(if A<B then 1 else 0)
theorem KZ {A B:Nat} (hB:B≠0):Lo B (A%B)<Lo A B:=by
 unfold Lo;rw [Ob hB]
 by_cases hR:A%B=0
 ·rw [Oc hR]; omega
 ·rw [Ob hR]
  have hlt:A%B<B:=QQ _ (by omega)
  rw [Ob (by omega:¬ B<A%B)]
  by_cases I:A<B
  ·rw [Oc I,PT I,SW B A]; omega
  ·rw [Ob I]
   have hle:2*(B*(A%B))<=A*B:=by
    have h1:A%B+B*(A / B)=A:=SS A B;have O:1<=A / B:=(SQ (by omega)).2 (by omega)
    have h3:B*1<=B*(A / B):=SX _ O;have Y:B*(2*(A%B))<=B*A:=SX _ (by omega)
    rw [SW A B,<- SV,SW 2 B,SV]; exact Y
   have J:0<B*(A%B):=Nat.mul_pos (by omega) (by omega)
   have h5:Nat.log2 (B*(A%B))<Nat.log2 (A*B):=by
    have h6:2 ^ Nat.log2 (B*(A%B))<=B*(A%B):=Nat.log2_self_le (by omega)
    have Z:2 ^ (Nat.log2 (B*(A%B))+1)<=A*B:=by rw [S5]; omega
    exact (Nat.le_log2 (by omega)).2 Z
   omega
theorem zK (n:Nat):WB ^ n=2 ^ (32*n):=by rw [S3]
theorem KY {a b:List bT} (O:Wf a) (Y:Wf b) (Z:a.length<=900000) (hzb:b.length<=900000):Lo (nv a) (nv b)<=200000000:=by
 unfold Lo
 split
 ·omega
 ·rename_i h
  have h1:Nat.log2 (nv a*nv b)<=64000000:=by
   by_cases I:nv a*nv b=0
   ·rw [I]; decide
   ·have J:nv a*nv b<2 ^ (32*(a.length+b.length)):=by
     rw [<- zK,SZ];exact Nat.mul_lt_mul_of_lt_of_le (sP O) (Nat.le_of_lt (sP Y)) (S4 (by decide))
    have:=(Nat.log2_lt I).2 J;omega
  split <;> omega
theorem sign_zero {a:LI} (h:tr a):iI a=0↔nv a.words=0:=by
 unfold iI;rw [vU h.wf h.tp]
 by_cases I:a.words=[]
 ·simp [I]
 ·have:a.words.length≠0:=λh=>I (OK h)
  rw [Ob (by simp; exact I)]
  constructor
  ·intro h; split at h <;> omega
  ·intro h; exact absurd h I
theorem tr.pos {w:List bT} (I:Wf w) (ht:ve w):tr (aD.mk false w):=⟨I,ht,λh=>by simp at h⟩
theorem KX {a b:LI} (ha:tr a) (hb:tr b) {L:Nat} (hL:L<=900000) (hza:a.words.length<=L) (hzb:b.words.length<=L):
  Gd (qX a b) (λr=>tr r/\r.minus=false/\r.words.length<=L/\nv r.words=Nat.gcd (nv a.words) (nv b.words)):=by
 unfold qX;refine Gd.cE (λ(z:Bool×List bT×Bool×List bT)=>z.1=false/\z.2.2.1=false/\Wf z.2.1/\ve z.2.1/\Wf z.2.2.2/\ve z.2.2.2/\z.2.1.length<=L/\z.2.2.2.length<=L/\Nat.gcd (nv z.2.2.2) (nv z.2.1)=Nat.gcd (nv a.words) (nv b.words)) (λz=>Lo (nv z.2.2.2) (nv z.2.1)) ?_ a_ _ ⟨rfl,rfl,hb.wf,hb.tp,ha.wf,ha.tp,hzb,hza,rfl⟩ ?_
 ·rintro ⟨c1,l1,c2,l2⟩ nx ⟨h1,h2,J,O,h5,h6,h7,h8,Y⟩ I
  simp only at h1 h2 J O h5 h6 h7 h8 Y I ⊢;subst h1 h2;unfold uI sH;have hs:=sign_zero (tr.pos J O);simp only at hs;refine Gd.ite (λh=>?_) (λh=>?_)
  ·have Z:nv l1≠0:=by
    intro e;rw [hs.2 e] at h; simp at h
   refine Gd.hO (Hg h5 J h6 O (λe=>Z (by rw [e]; rfl)) (by omega) (by omega)) (λr hr=>?_)
   obtain ⟨r1,r2,r3,r4,r5,r6⟩:=hr;refine Gd.nd (by omega) (Gd.hO (tB false r.2 r2 (by omega)) (λs hs'=>?_))
   obtain ⟨s1,s2,s3,s4⟩:=hs';have hm:s.minus=false:=by
    rcases Sp s.minus with h | h
    ·have:=s4.1 h; simp at this
    ·exact h
   refine I _ ⟨hm,rfl,s1.wf,s1.tp,J,O,by simp only; omega,h7,?_⟩ ?_
   ·simp only
    rw [s3,r6,<- Y,<- Nat.gcd_comm (nv l1) (nv l2),Nat.gcd_rec (nv l1) (nv l2),Nat.gcd_comm]
   ·simp only
    rw [s3,r6];exact KZ Z
  ·have Z:nv l1=0:=by
    apply hs.1;simpa using h
   rw [Z,Nat.gcd_zero_right] at Y;exact Gd.ret ⟨tr.pos h5 h6,rfl,h8,Y⟩
 ·simp only [a_]
  have:=KY ha.wf hb.wf (by omega) (by omega)
  omega
theorem Ku {a b:LI} (Y:tr a) (Z:tr b) (hm:a.minus=false) (h0:nv b.words≠0) (J:a.words.length<=900000) (O:b.words.length<=900000):
  Gd (dM a b) (λr=>tr r.1/\r.1.minus=false/\r.1.words.length<=a.words.length/\nv r.1.words=nv a.words / nv b.words):=by
 unfold dM mB;refine Gd.hO (Hg Y.wf Z.wf Y.tp Z.tp (λe=>h0 (by rw [e]; rfl)) J O) (λr hr=>?_)
 obtain ⟨r1,r2,r3,r4,r5,r6⟩:=hr;refine Gd.nd (by omega) (Gd.hO (tB _ _ r1 (by omega)) (λs hs=>Gd.nd (by omega) (Gd.hO (tB _ _ r2 (by omega)) (λt ht=>?_))))
 obtain ⟨s1,s2,s3,s4⟩:=hs;obtain ⟨t1,t2,t3,t4⟩:=ht;rw [hm] at s4 t4;have I:s.minus=false:=by
  rcases Sp s.minus with h | h
  ·have:=s4.1 h; simp at this
  ·exact h
 refine Gd.ite (λh=>?_) (λh=>Gd.ret ⟨s1,I,by simp only; omega,by simp only; rw [s3,r5]⟩)
 have:=t4.1 h; simp at this
abbrev LR:=aB
structure pd (r:LR):Prop where
 n:tr r.N
 d:tr r.D
 pos:r.D.minus=false
 nz:nv r.D.words≠0
 MG:Nat.Coprime (nv r.N.words) (nv r.D.words)
def rv (r:LR):Rat:=Rat.divInt (jR r.N) (jR r.D)
theorem qR {a:LI} (h:a.minus=false):jR a=(nv a.words:Nat):=by unfold jR; rw [h]; rfl
theorem mz (a:LI):(jR a).natAbs=nv a.words:=by
 unfold jR
 split <;> omega
theorem pd.eq {r:LR} (h:pd r):rv r=Rat.mk' (jR r.N) (nv r.D.words) h.nz (by rw [mz]; exact h.MG):=by
 unfold rv;rw [qR h.pos];exact (Rat.num_divInt_den (Rat.mk' (jR r.N) (nv r.D.words) h.nz (by rw [mz]; exact h.MG)))
theorem pd.num {r:LR} (h:pd r):(rv r).num=jR r.N:=by rw [h.eq]
theorem pd.den {r:LR} (h:pd r):(rv r).den=nv r.D.words:=by rw [h.eq]
theorem pd.ext' {r s:LR} (h:pd r) (k:pd s) (e:rv r=rv s):r=s:=by
 have e1:jR r.N=jR s.N:=by rw [<- h.num,<- k.num,e]
 have e2:nv r.D.words=nv s.D.words:=by rw [<- h.den,<- k.den,e]
 have I:=h.n.ext' k.n e1;have J:=h.d.ext' k.d (by rw [qR h.pos,qR k.pos,e2])
 obtain ⟨a,b⟩:=r; obtain ⟨c,d⟩:=s
 simp only at I J; rw [I,J]
def RL (r:LR) (L:Nat):Prop:=r.N.words.length<=L/\r.D.words.length<=L
theorem RL.mono {r:LR}{L M:Nat} (h:RL r L) (I:L<=M):RL r M:=⟨Pn h.1 I,Pn h.2 I⟩
theorem xv {g a b:Int} (J:g≠0) (I:b≠0):Rat.divInt (g*a) (g*b)=Rat.divInt a b:=by
 rw [Rat.divInt_eq_divInt_iff (Int.mul_ne_zero J I) I];rw [Int.mul_comm g a,Su]
theorem L4 {n d g:LI} (hn:tr n) (hd:tr d) (hg:tr g) (hdm:d.minus=false) (hd0:nv d.words≠0) (Y:nv g.words=Nat.gcd (nv n.words) (nv d.words))
  (hzn:n.words.length<=900000) (hzd:d.words.length<=900000) (hzg:g.words.length<=900000):
  Gd ((dM (aD.mk false n.words) g).bind λJ=>(dM (aD.mk d.minus d.words) g).bind λZ=>if n.minus then (some (aB.mk (aD.mk (decide (0<(J.1.words.length:Int))) J.1.words) Z.1)) else (some (aB.mk (aD.mk false J.1.words) Z.1)))
   (λr=>pd r/\r.N.words.length<=n.words.length/\r.D.words.length<=d.words.length/\rv r=Rat.divInt (jR n) (jR d)):=by
 have hg0:nv g.words≠0:=by
  rw [Y];exact Nat.ne_of_gt (Nat.gcd_pos_of_pos_right _ (by omega))
 have gN:nv g.words ∣ nv n.words:=by rw [Y]; exact Nat.gcd_dvd_left _ _
 have gD:nv g.words ∣ nv d.words:=by rw [Y]; exact Nat.gcd_dvd_right _ _
 have O:Nat.Coprime (nv n.words / nv g.words) (nv d.words / nv g.words):=by
  rw [Y]; exact Nat.coprime_div_gcd_div_gcd (Nat.gcd_pos_of_pos_right _ (by omega))
 obtain ⟨n',hn'⟩:=gN;obtain ⟨d',I⟩:=gD;have en:nv n.words / nv g.words=n':=by rw [hn',Nat.mul_div_cancel_left _ (by omega)]
 have ed:nv d.words / nv g.words=d':=by rw [I,Nat.mul_div_cancel_left _ (by omega)]
 have hd0':d'≠0:=by intro h; rw [h] at I; simp at I; exact hd0 I
 refine Gd.hO (Ku (a:=aD.mk false n.words) (tr.pos hn.wf hn.tp) hg rfl hg0 hzn hzg) (λr hr=>Gd.hO (Ku (a:=aD.mk d.minus d.words) hd hg hdm hg0 hzd hzg) (λt ht=>?_));obtain ⟨r1,r2,r3,r4⟩:=hr;obtain ⟨t1,t2,t3,t4⟩:=ht;simp only at r3 r4 t3 t4;rw [en] at r4 O;rw [ed] at t4 O;have hd2:jR d=(nv g.words:Int)*(d':Int):=by rw [qR hdm,I,OW]
 have ht2:jR t.1=(d':Int):=by rw [qR t2,t4]
 refine Gd.ite (λh=>Gd.ret ?_) (λh=>Gd.ret ?_)
 ·have hN:tr (aD.mk (decide (0<(r.1.words.length:Int))) r.1.words):=⟨r1.wf,r1.tp,λh e=>by simp only at h e; rw [e] at h; simp at h⟩
  refine ⟨⟨hN,t1,t2,by simp only; omega,by simp only; rw [r4,t4]; exact O⟩,r3,t3,?_⟩
  have hi:jR (aD.mk (decide (0<(r.1.words.length:Int))) r.1.words) = -(n':Int):=by
   unfold jR;simp only;rw [r4]
   by_cases hl:r.1.words=[]
   ·rw [hl] at r4 ⊢
    have:n'=0:=r4.symm;rw [this]; simp
   ·have:=SJ.2 hl
    rw [Oc (by simp; omega)]
  have vH:jR n=(nv g.words:Int)*(-(n':Int)):=by
   unfold jR; rw [Oc h,hn',OW,Int.mul_neg]
  unfold rv;simp only;rw [hi,ht2,vH,hd2,xv (by omega) (by omega)]
 ·refine ⟨⟨tr.pos r1.wf r1.tp,t1,t2,by simp only; omega,by simp only; rw [r4,t4]; exact O⟩,r3,t3,?_⟩
  have hi:jR (aD.mk false r.1.words)=(n':Int):=by
   rw [qR rfl]; simp only; rw [r4]
  have vH:jR n=(nv g.words:Int)*(n':Int):=by
   rw [qR h,hn',OW]
  unfold rv;simp only;rw [hi,ht2,vH,hd2,xv (by omega) (by omega)]
theorem De {w:List bT} (h:decide ((w.length:Int)=1)=true):∃ x,w=[x]:=by
 have:=N9 h;exact SH.1 (by omega)
theorem Fa {x:bT} (I:0<=x.n):nv [x]=1↔x.n=1:=by rw [As]; omega
theorem Ij {n d:LI} (hn:tr n) (hd:tr d) (hdm:d.minus=false) (hd0:nv d.words≠0) (hzn:n.words.length<=900000) (hzd:d.words.length<=900000):
  Gd (nQ d.minus d.words n.minus n.words) (λr=>pd r/\r.N.words.length<=n.words.length/\r.D.words.length<=d.words.length/\rv r=Rat.divInt (jR n) (jR d)):=by
 have self:Nat.gcd (nv n.words) (nv d.words)=1->Gd (some (aB.mk (aD.mk n.minus n.words) (aD.mk d.minus d.words))) (λr=>pd r/\r.N.words.length<=n.words.length/\r.D.words.length<=d.words.length/\rv r=Rat.divInt (jR n) (jR d)):=λhg=>
  Gd.ret ⟨⟨hn,hd,hdm,hd0,hg⟩,Ov _,Ov _,rfl⟩
 have part:Gd ((qX (aD.mk n.minus n.words) (aD.mk d.minus d.words)).bind λI=>if decide ((I.words.length:Int)=1) then (idx I.words 0 λy160=>if decide (y160.n=1) then (some (aB.mk (aD.mk n.minus n.words) (aD.mk d.minus d.words))) else ((dM (aD.mk false n.words) I).bind λO=>(dM (aD.mk d.minus d.words) I).bind λZ=>if n.minus then (some (aB.mk (aD.mk (decide (0<(O.1.words.length:Int))) O.1.words) Z.1)) else (some (aB.mk (aD.mk false O.1.words) Z.1)))) else ((dM (aD.mk false n.words) I).bind λJ=>(dM (aD.mk d.minus d.words) I).bind λY=>if n.minus then (some (aB.mk (aD.mk (decide (0<(J.1.words.length:Int))) J.1.words) Y.1)) else (some (aB.mk (aD.mk false J.1.words) Y.1))))
   (λr=>pd r/\r.N.words.length<=n.words.length/\r.D.words.length<=d.words.length/\rv r=Rat.divInt (jR n) (jR d)):=by
  refine Gd.hO (KX (L:=900000) hn hd (by omega) hzn hzd) (λg hg=>?_)
  obtain ⟨g1,g2,g3,g4⟩:=hg;refine Gd.ite (λh=>?_) (λh=>L4 hn hd g1 hdm hd0 g4 hzn hzd g3);obtain ⟨x,hx⟩:=De h;have hxw:=g1.wf x (by rw [hx]; simp)
  refine Gd.ix (y:=x) (by omega) (by rw [hx]; rfl) (Gd.ite (λh2=>self ?_) (λh2=>L4 hn hd g1 hdm hd0 g4 hzn hzd g3))
  rw [<- g4,hx,Fa hxw.1]; exact N9 h2
 unfold nQ;refine Gd.ite (λh=>?_) (λh=>part);obtain ⟨x,hx⟩:=De h;have hxw:=hd.wf x (by rw [hx]; simp)
 refine Gd.ix (y:=x) (by omega) (by rw [hx]; rfl) (Gd.ite (λh2=>self ?_) (λh2=>part))
 have:=(Fa hxw.1).2 (N9 h2);rw [hx,this,Nat.gcd_one_right]
theorem wX {n d:LI} (hn:tr n) (hd:tr d) (J:nv d.words≠0) (hzn:n.words.length<=900000) (hzd:d.words.length<=900000):
  Gd (nL n d) (λr=>pd r/\r.N.words.length<=n.words.length/\r.D.words.length<=d.words.length/\rv r=Rat.divInt (jR n) (jR d)):=by
 unfold nL;refine Gd.ite (λh=>?_) (λh=>Ij hn hd h J hzn hzd);refine Gd.hO (BZ hn (by omega)) (λn' O=>Gd.hO (BZ hd (by omega)) (λY I=>?_))
 have e:nv Y.words=nv d.words:=by rw [<- mz,I.2.2,Int.natAbs_neg,mz]
 have hm:Y.minus=false:=by
  have Z:=I.2.2;unfold jR at Z;rw [Oc h] at Z;rcases Sp Y.minus with h2 | h2
  ·rw [Oc h2] at Z; omega
  ·exact h2
 refine (Ij O.1 I.1 hm (by rw [e]; exact J) (by omega) (by omega)).mono (λr hr=>⟨hr.1,by omega,by omega,?_⟩)
 rw [hr.2.2.2,O.2.2,I.2.2];rw [Rat.neg_divInt_neg]
theorem KB {r:LR} (h:pd r):jR r.D≠0:=by rw [qR h.pos]; have:=h.nz; omega
theorem Eb {a b c:LI} (h:jR c=jR a*jR b) (I:nv a.words≠0) (J:nv b.words≠0):nv c.words≠0:=by
 rw [<- mz,h,Int.natAbs_mul,mz,mz];exact Nat.mul_ne_zero I J
theorem vX {a b:LR} (J:pd a) (O:pd b) {A B:Nat} (la:RL a A) (lb:RL b B) (hz:A+B<=800000):
  Gd (ke a b) (λr=>pd r/\RL r (A+B+1)/\rv r=rv a+rv b):=by
 have:=la.1; have:=la.2; have:=lb.1; have:=lb.2
 unfold ke;refine Gd.hO (vi J.n O.d (by omega)) (λx Z=>Gd.hO (vi O.n J.d (by omega)) (λy hy=>Gd.hO (BQ Z.1 hy.1 (by omega) (by omega)) (λs hs=>Gd.hO (vi J.d O.d (by omega)) (λz I=>?_))))
 refine Gd.hO (wX hs.1 I.1 (Eb I.2.2 J.nz O.nz) (by omega) (by omega)) (λr Y=>Gd.ret ⟨Y.1,⟨by omega,by omega⟩,?_⟩)
 rw [Y.2.2.2,hs.2.2,Z.2.2,hy.2.2,I.2.2];unfold rv;rw [Rat.divInt_add_divInt _ _ (KB J) (KB O)]
theorem Fi {a:LR} (I:pd a) {A:Nat} (la:RL a A) (O:A<=800000):
  Gd (oE a) (λr=>pd r/\RL r A/\rv r = -rv a):=by
 have:=la.1; have:=la.2
 unfold oE;refine Gd.hO (BZ I.n (by omega)) (λx J=>Gd.ret ⟨⟨J.1,I.d,I.pos,I.nz,?_⟩,⟨by simp only; omega,la.2⟩,?_⟩)
 ·have e:nv x.words=nv a.N.words:=by rw [<- mz,J.2.2,Int.natAbs_neg,mz]
  simp only; rw [e]; exact I.MG
 ·unfold rv
  simp only;rw [J.2.2,Rat.neg_divInt]
theorem xd {a b:LR} (O:pd a) (Y:pd b) {A B:Nat} (la:RL a A) (lb:RL b B) (Z:A+B<=800000):
  Gd (kY a b) (λr=>pd r/\RL r (A+B+1)/\rv r=rv a-rv b):=by
 unfold kY;refine Gd.hO (Fi Y lb (by omega)) (λc I=>Gd.hO (vX O I.1 la I.2.1 Z) (λr J=>Gd.ret ⟨J.1,J.2.1,?_⟩))
 rw [J.2.2,I.2.2,Rat.sub_eq_add_neg]
theorem yv {a b:LR} (J:pd a) (O:pd b) {A B:Nat} (la:RL a A) (lb:RL b B) (hz:A+B<=800000):
  Gd (mi a b) (λr=>pd r/\RL r (A+B)/\rv r=rv a*rv b):=by
 have:=la.1; have:=la.2; have:=lb.1; have:=lb.2
 unfold mi;refine Gd.hO (vi J.n O.n (by omega)) (λx Z=>Gd.hO (vi J.d O.d (by omega)) (λz I=>?_))
 refine Gd.hO (wX Z.1 I.1 (Eb I.2.2 J.nz O.nz) (by omega) (by omega)) (λr Y=>Gd.ret ⟨Y.1,⟨by omega,by omega⟩,?_⟩)
 rw [Y.2.2.2,Z.2.2,I.2.2];unfold rv;rw [Rat.divInt_mul_divInt]
theorem Fk {r:LR} (h:pd r):rv r=0↔nv r.N.words=0:=by
 have hn:=h.num;rw [<- mz,Int.natAbs_eq_zero,<- hn,Rat.num_eq_zero]
theorem w7 {n:Int} (h:-9223372036854775808<=n/\n<=9223372036854775807):Gd (mQ n) (λr=>pd r/\RL r 2/\rv r=(n:Rat)):=by
 unfold mQ;refine Gd.hO (Av h) (λx O=>Gd.hO (Av (n:=1) (by omega)) (λy I=>Gd.ret ?_))
 have hm:y.minus=false:=by
  have Y:=I.2.2;unfold jR at Y;rcases Sp y.minus with J | J
  ·rw [Oc J] at Y; omega
  ·exact J
 have Z:nv y.words=1:=by rw [<- mz,I.2.2]; rfl
 refine ⟨⟨O.1,I.1,hm,by simp only; omega,by simp only; rw [Z]; exact Nat.coprime_one_right _⟩,⟨O.2.1,I.2.1⟩,?_⟩
 unfold rv;simp only;rw [O.2.2,I.2.2,Rat.divInt_eq_div,Rat.intCast_one]; grind
theorem EV {n d:Int} (h:-9223372036854775808<=n/\n<=9223372036854775807) (k:-9223372036854775808<=d/\d<=9223372036854775807) (Z:d≠0):
  Gd (ri n d) (λr=>pd r/\RL r 2/\rv r=(n:Rat) / (d:Rat)):=by
 unfold ri;refine Gd.hO (Av h) (λx O=>Gd.hO (Av k) (λy I=>?_));have Y:nv y.words≠0:=by rw [<- mz,I.2.2]; omega
 refine Gd.hO (wX O.1 I.1 Y (by omega) (by omega)) (λr J=>Gd.ret ⟨J.1,⟨by omega,by omega⟩,?_⟩)
 rw [J.2.2.2,O.2.2,I.2.2,Rat.divInt_eq_div]
abbrev bl (s:N2):List UInt8:=s.data.toList
def ba (l:List UInt8):N2:=⟨l.toArray⟩
@[simp] theorem EN (l:List UInt8):bl (ba l)=l:=rfl
@[simp] theorem Kt (s:N2):ba (bl s)=s:=by
 show (⟨s.data.toList.toArray⟩:N2)=s;rw [Array.toArray_toList]
theorem DJ {a b:N2} (h:bl a=bl b):a=b:=by rw [<- Kt a,h,Kt]
theorem BB (s:N2):(bl s).length=s.size:=by show s.data.toList.length=s.data.size; exact Array.length_toList
theorem og (l:List UInt8):(ba l).size=l.length:=(BB (ba l)).symm
theorem GW (a b:N2):bl (a++b)=bl a++bl b:=by show (a++b).data.toList=_; simp
theorem DH (a b:List UInt8):ba a++ba b=ba (a++b):=DJ (GW _ _)
theorem GS {a b:List UInt8} (h:ba a=ba b):a=b:=by have:=Pc bl h; simpa using this
theorem DI (s:N2) (i j:Nat):bl (s.extract i j)=((bl s).take j).drop i:=by
 show (s.extract i j).data.toList=(s.data.toList.take j).drop i;simp [ByteArray.data_extract,Array.toList_extract,Qk]
theorem r7 (l:List UInt8) (i j:Nat):(ba l).extract i j=ba ((l.take j).drop i):=DJ (by rw [DI,EN,EN])
theorem Iv (a b:N2):(a++b).size=a.size+b.size:=by rw [<- BB,GW,OG,BB,BB]
theorem wb (c:UInt8):∀ (l:List UInt8),(c ∉ l/\Lib.indexByte l c = -1)\/∃ a b,l=a++c::b/\c ∉ a/\Lib.indexByte l c=a.length
 | []=>.inl ⟨by simp,rfl⟩
 | x::l=>by
  by_cases e:x=c
  ·subst e
   exact .inr ⟨[],l,rfl,by simp,by simp [Lib.indexByte]⟩
  ·have J:(x == c)=false:=by simpa using e
   rcases wb c l with ⟨O,I⟩ | ⟨a,b,rfl,I,Y⟩
   ·refine .inl ⟨by simp [O]; exact λh=>e h.symm,?_⟩
    simp [Lib.indexByte,J,I]
   ·refine .inr ⟨x::a,b,rfl,by simp [I]; exact λh=>e h.symm,?_⟩
    simp only [Lib.indexByte,J,Y];rw [Ob (by simp),Ob (by simp)]
    simp only [Oj]; omega
theorem DN (c:UInt8):ml (ba [c])=[⟨c.toNat⟩]:=by simp [ml,ba]
theorem CZ (s:N2) (c:UInt8):kd s (ba [c])=some (Lib.indexByte (bl s) c):=by
 unfold kd iT
 by_cases e:ba [c]=s
 ·subst e
  rw [Oc (by simp)]
  simp [Lib.indexByte]
 ·rw [Ob (by simp [og,e]),Oc (by simp [og]),DN]
  simp [idx,K0]
theorem FD (l:List UInt8):ml (ba l)=l.map λb=>(⟨b.toNat⟩:U8):=rfl
theorem CF (l:List UInt8):xV (l.map λb=>(⟨b.toNat⟩:U8))=ba l:=by
 refine DJ ?_;show (List.map _ (List.map _ l)).toArray.toList=l;rw [R_,Qu]
 conv=>rhs; rw [<- List.map_id l]
 refine List.map_congr_left λb _=>?_;simp
def Dx (c:UInt8):Prop:=48<=c.toNat/\c.toNat<=57
instance (c:UInt8):Decidable (Dx c):=by unfold Dx; infer_instance
def Hj (acc:Nat):List UInt8->Nat
 | []=>acc
 | c::r=>Hj (acc*10+(c.toNat-48)) r
def dv (l:List UInt8):Nat:=Hj 0 l
theorem BH:∀ (l:List UInt8) (acc:Nat),Hj acc l=acc*10 ^ l.length+dv l
 | [],acc=>by
  rw [SI,S6,QE]; rfl
 | c::r,acc=>by
  have I:=BH r (0*10+(c.toNat-48));unfold dv Hj;rw [BH r,I,Oj,S5];have:(acc*10+(c.toNat-48))*10 ^ r.length=acc*(10 ^ r.length*10)+(0*10+(c.toNat-48))*10 ^ r.length:=by
   rw [Ou,PG,OB,SV,SW 10]
  rw [this,Qi]
theorem z7 (a b:List UInt8):dv (a++b)=dv a*10 ^ b.length+dv b:=by
 have key:∀ (a:List UInt8) (acc:Nat),Hj acc (a++b)=Hj (Hj acc a) b:=by
  intro a
  induction a with
  | nil=>intro acc; rfl
  | cons c r ih=>intro acc; exact ih _
 unfold dv;rw [key,BH]; rfl
theorem DU (c:UInt8):dv [c]=c.toNat-48:=by
 show 0*10+(c.toNat-48)=_;omega
theorem xX (c:UInt8) (r:List UInt8):dv (c::r)=(c.toNat-48)*10 ^ r.length+dv r:=by
 have:=z7 [c] r;rw [DU] at this; simpa using this
theorem Hl (n:Nat):dv (List.replicate n (48:UInt8))=0:=by
 induction n with
 | zero=>rfl
 | succ n ih=>rw [Qt,xX,ih]; simp
theorem y9:∀ {l:List UInt8},(∀ c ∈ l,Dx c)->dv l<10 ^ l.length
 | [],_=>by
  show 0<10 ^ 0
  decide
 | c::r,h=>by
  have J:=y9 (l:=r) (λz I=>h z (Od _ I));have O:=(h c (Oa ..)).2;rw [xX,Oj,S5,SW (10 ^ r.length) 10];have:(c.toNat-48)*10 ^ r.length<=9*10 ^ r.length:=On _ (by omega)
  generalize 10 ^ r.length=P at *
  omega
theorem Hk {c:UInt8}{r:List UInt8} (J:Dx c) (I:c≠48):10 ^ r.length<=dv (c::r):=by
 have:1<=c.toNat-48:=by
  have:=J.1;have O:c.toNat≠48:=λe=>I (UInt8.toNat_inj.1 (by rw [e]; rfl))
  omega
 rw [xX];have:1*10 ^ r.length<=(c.toNat-48)*10 ^ r.length:=On _ this;generalize 10 ^ r.length=P at *
 omega
structure Lm (l:List UInt8):Prop where
 ET:∀ c ∈ l,Dx c
 ne:l≠[]
 lead:l.head? = some 48->l=[48]
theorem CV {a b:List UInt8} (h:a≠[]):(a++b).head? = a.head? := by
 cases a with
 | nil=>exact absurd rfl h
 | cons x r=>rfl
theorem He {u:Nat} (h:u<10):(UInt8.ofNat (48+u)).toNat=48+u:=by rw [UInt8.toNat_ofNat']; omega
theorem qJ (u:Nat):Lm (Lib.decDigits u)/\dv (Lib.decDigits u)=u:=by
 induction u using Nat.strongRecOn with
 | _ u ih=>
  by_cases h:u<10
  ·rw [Sz h]
   have Y:=He h;refine ⟨⟨λc I=>?_,by simp,λJ=>?_⟩,by rw [DU,Y]; omega⟩
   ·rw [OU] at I; subst I; unfold Dx; omega
   ·simp only [List.head?_cons,Ox] at J
    rw [J]
  ·obtain ⟨O,Z⟩:=ih (u / 10) (by omega)
   have e:Lib.decDigits u=Lib.decDigits (u / 10)++[UInt8.ofNat (48+u%10)]:=by rw [Lib.decDigits,dif_neg h]
   have Y:=He (u:=u%10) (by omega)
   rw [e];refine ⟨⟨λc I=>?_,by simp,λJ=>?_⟩,?_⟩
   ·rcases Om.1 I with I | I
    ·exact O.ET c I
    ·rw [OU] at I; subst I; unfold Dx; omega
   ·rw [CV O.ne] at J
    have:=O.lead J;rw [this] at Z;have:dv [48]=0:=rfl;omega
   ·rw [z7,Z,DU,Y]
    simp only [OQ,Nat.pow_one]; omega
theorem JI:∀ {a b:List UInt8},Lm a->Lm b->dv a=dv b->a=b:=by
 have zero:∀ {a:List UInt8},Lm a->dv a=0->a=[48]:=by
  intro a I h0;cases a with
  | nil=>exact absurd rfl I.ne
  | cons c r=>
   by_cases hc:c=48
   ·exact I.lead (by rw [hc]; rfl)
   ·have:=Hk (r:=r) (I.ET c (Oa ..)) hc
    have:0<10 ^ r.length:=S4 (by decide)
    omega
 have Y:∀ (a b:List UInt8),a.length=b.length->(∀ c ∈ a,Dx c)->(∀ c ∈ b,Dx c)->dv a=dv b->a=b:=by
  intro a
  induction a with
  | nil=>intro b hl _ _ _; cases b with | nil=>rfl | cons _ _=>simp at hl
  | cons c r ih=>
   intro b hl I O h;cases b with
   | nil=>simp at hl
   | cons d s=>
    have Z:r.length=s.length:=by simpa using hl
    have h1:=y9 (l:=r) (λz J=>I z (Od _ J));have h2:=y9 (l:=s) (λz J=>O z (Od _ J));have hc:=I c (Oa ..);have hd:=O d (Oa ..);rw [xX,xX,<- Z] at h;rw [<- Z] at h2;have hP:0<10 ^ r.length:=S4 (by decide)
    have e1:c.toNat-48=d.toNat-48:=by
     have q1:((c.toNat-48)*10 ^ r.length+dv r) / 10 ^ r.length=c.toNat-48:=by
      rw [Qw,Nat.add_mul_div_right _ _ hP,SO h1,OB]
     have q2:((d.toNat-48)*10 ^ r.length+dv s) / 10 ^ r.length=d.toNat-48:=by
      rw [Qw,Nat.add_mul_div_right _ _ hP,SO h2,OB]
     rw [<- q1,h,q2]
    have e2:c=d:=UInt8.toNat_inj.1 (by have:=hc.1; have:=hd.1; omega)
    rw [e1] at h;rw [e2,ih s Z (λz J=>I z (Od _ J)) (λz J=>O z (Od _ J)) (by omega)]
 intro a b I O h
 by_cases h0:dv a=0
 ·rw [zero I h0,zero O (by omega)]
 ·have big:∀ {l:List UInt8},Lm l->dv l≠0->∃ c r,l=c::r/\10 ^ r.length<=dv l:=by
   intro l hl J;cases l with
   | nil=>exact absurd rfl hl.ne
   | cons c r=>
    refine ⟨c,r,rfl,Hk (hl.ET c (Oa ..)) (λhc=>J ?_)⟩;rw [hl.lead (by rw [hc]; rfl)]; rfl
  obtain ⟨c,r,rfl,h1⟩:=big I h0;obtain ⟨d,s,rfl,h2⟩:=big O (by omega)
  have h3:=y9 I.ET;have h4:=y9 O.ET;refine Y _ _ ?_ I.ET O.ET h;rw [h] at h1 h3;have l1:r.length<(d::s).length:=(S2 (by decide)).1 (QT h1 h4)
  have l2:s.length<(c::r).length:=(S2 (by decide)).1 (QT h2 h3)
  simp only [Oj] at l1 l2 ⊢; omega
theorem A9 {u k:Nat} (Y:1<=k) (h:u<10 ^ k):(Lib.decDigits u).length<=k:=by
 obtain ⟨I,J⟩:=qJ u;cases hl:Lib.decDigits u with
 | nil=>simp
 | cons c r=>
  rw [hl] at I J
  by_cases O:c=48
  ·rw [I.lead (by rw [O]; rfl)]; simpa using Y
  ·have:=Hk (r:=r) (I.ET c (Oa ..)) O
   rw [J] at this;have:r.length<k:=(S2 (by decide)).1 (QT this h)
   rw [Oj]; exact this
theorem Ag {u k:Nat} (h:(Lib.decDigits u).length<=k):u<10 ^ k:=by
 obtain ⟨I,J⟩:=qJ u;have:=y9 I.ET;rw [J] at this;exact QC this (S1 (by decide) h)
def pad (k:Nat) (r:Nat):List UInt8:=List.replicate (k-(Lib.decDigits r).length) 48++Lib.decDigits r
theorem JK {k r:Nat} (I:1<=k) (h:r<10 ^ k):(pad k r).length=k:=by
 have:=A9 I h;unfold pad;rw [OG,Pl]; omega
theorem JJ (k r:Nat):∀ c ∈ pad k r,Dx c:=by
 intro c I;rcases Om.1 I with I | I
 ·rw [(SL.1 I).2]; exact ⟨by decide,by decide⟩
 ·exact (qJ r).1.ET c I
theorem KV (k r:Nat):dv (pad k r)=r:=by
 unfold pad;rw [z7,Hl,(qJ r).2]; omega
theorem Jl {k q r:Nat} (Z:1<=k) (hq:0<q) (hr:r<10 ^ k):Lib.decDigits (q*10 ^ k+r)=Lib.decDigits q++pad k r:=by
 obtain ⟨J,O⟩:=qJ q;refine JI (qJ _).1 ⟨λc I=>?_,by simp [J.ne],λY=>?_⟩ ?_
 ·rcases Om.1 I with I | I
  ·exact J.ET c I
  ·exact JJ _ _ c I
 ·rw [CV J.ne] at Y
  rw [J.lead Y] at O;have:dv [48]=0:=rfl;omega
 ·rw [(qJ _).2,z7,O,JK Z hr,KV]
theorem H9 {M:Nat} (J:M<1844674407370955162):∀ (l:List UInt8) (acc:Nat),(∀ c ∈ l,Dx c)->Hj acc l<=M->acc<=M->Lib.parseUintM M acc l=.ok (Hj acc l)
 | [],acc,_,_,_=>rfl
 | c::r,acc,h,hl,ha=>by
  have O:=h c (Oa ..);have I:acc*10+(c.toNat-48)<=M:=by
   have:=BH r (acc*10+(c.toNat-48));have Z:Hj acc (c::r)=Hj (acc*10+(c.toNat-48)) r:=rfl;have hP:1<=10 ^ r.length:=S4 (by decide)
   have:(acc*10+(c.toNat-48))*1<=(acc*10+(c.toNat-48))*10 ^ r.length:=SX _ hP;generalize 10 ^ r.length=P at *
   omega
  rw [Lib.parseUintM,Oc (show 48<=c.toNat/\c.toNat<=57 from O),Ob (by omega),Ob (by omega)]
  exact H9 J r _ (λz Y=>h z (Od _ Y)) hl I
theorem JO {l:List UInt8} (h:∀ c ∈ l,Dx c) (hl:l.length<=9):JN (ba l)=((dv l:Int),false):=by
 unfold JN;have I:=y9 h;have J:10 ^ l.length<=10 ^ 9:=S1 (by decide) hl
 have e:=H9 (M:=4294967295) (by decide) l 0 h (by show dv l<=_; omega) (by omega)
 show (match Lib.parseUintM 4294967295 0 l with | .ok v=>((v:Int),false) | .range=>(4294967295,true) | _=>(0,true))=_
 rw [e]; rfl
theorem Bc (l:List UInt8):gO (ba l) (⟨#[45]⟩)=some (decide (l.head? = some 45)):=by
 have I:(⟨#[45]⟩:N2).size=1:=rfl;unfold gO;rw [I,og];cases l with
 | nil=>rfl
 | cons c r=>
  rw [Oc (by simp; omega)]
  unfold fU;rw [Oc (by simp only [Oj]; omega),show ((1:Nat):Int).toNat=1 from rfl,r7]
  congr 1
  have e:(ba (((c::r).take 1).drop 0)=(⟨#[45]⟩:N2))↔((c::r).head? = some 45):=by
   rw [show (⟨#[45]⟩:N2)=ba [45] from rfl];constructor
   ·intro h
    have:=GS h;simp at this;simp [this]
   ·intro h
    simp only [List.head?_cons,Ox] at h;rw [h]; rfl
  exact decide_eq_decide.2 e
theorem FU (l:List UInt8):nH (ba l) (⟨#[45]⟩)=some (decide (l.head? = some 45)):=by
 unfold nH;rw [Bc l]; rfl
theorem Eu (l:List UInt8):mU (ba l) (⟨#[45]⟩)=some (ba (if l.head? = some 45 then l.tail else l)):=by
 have I:(⟨#[45]⟩:N2).size=1:=rfl;unfold mU ks;rw [Bc l];simp only [QA]
 by_cases h:l.head? = some 45
 ·rw [Oc (by simp [h]),Oc h,I,og]
  cases l with
  | nil=>cases h
  | cons c r=>
   unfold fU;rw [Oc (by simp only [Oj]; omega),show ((1:Nat):Int).toNat=1 from rfl,r7]
   simp
 ·rw [Ob (by simp [h]),Ob h]; rfl
theorem tr.plus {a:LI} (h:tr a) (J:0<=jR a):a.minus=false:=by
 cases hm:a.minus with
 | false=>rfl
 | true=>
  have I:=h.sign hm;have:nv a.words≠0:=λe=>I ((vU h.wf h.tp).1 e);unfold jR at J;rw [Oc hm] at J; omega
theorem Jg {n:Nat} (h:0<n) (I:n<=100000):i64.wrap ((Int.tmod (i64.wrap ((n:Int)-1)) 9)+1)=(((n-1)%9+1:Nat):Int):=by
 rw [cK (n:=(n:Int)-1) ⟨by omega,by omega⟩]
 have:Int.tmod ((n:Int)-1) 9=(((n-1)%9:Nat):Int):=by
  rw [show (n:Int)-1=((n-1:Nat):Int) by omega]
  rw [Int.tmod_eq_emod_of_nonneg (by omega)]; rfl
 rw [this,cK ⟨by omega,by omega⟩]; omega
theorem F8 {D n c v P:Nat} (h:D=0\/n=9) (hP:P=10 ^ n):D*10 ^ 9+c=D*P+c:=by
 rcases h with h | h
 ·rw [h,PG,PG]
 ·rw [hP,h]
theorem Fh {O:List UInt8} (h:∀ c ∈ O,Dx c) (hl:O.length<=2000) (J:Bool):
  Gd (nK (ba (if J=true then 45::O else O))) (λa=>tr a/\a.words.length<=10000/\jR a=if J=true then -(dv O:Int) else dv O):=by
 unfold nK;have hll:(if J=true then 45::O else O).length<=1000000:=by
  split
  ·simp only [Oj]; omega
  ·omega
 have hhd:(if J=true then 45::O else O).head? = some 45↔J=true:=by
  cases J with
  | true=>simp
  | false=>
   simp only [Ps,P1,iff_false];intro hh;cases O with
   | nil=>cases hh
   | cons c r=>
    simp only [List.head?_cons,Ox] at hh;have:=(h c (Oa ..)).1;rw [hh] at this; exact absurd this (by decide)
 have htr:(if (if J=true then 45::O else O).head? = some 45 then (if J=true then 45::O else O).tail else (if J=true then 45::O else O))=O:=by
  cases J with
  | true=>simp
  | false=>rw [Ob (by rw [hhd]; simp)]; simp
 refine Gd.bind_eq (FU _) (Gd.bind_eq (Eu _) ?_);rw [htr];have hdec:decide ((if J=true then 45::O else O).head? = some 45)=J:=by
  cases J with
  | true=>simp
  | false=>rw [Tm (by rw [hhd]; simp)]
 rw [hdec];refine Gd.cE (λ(z:N2×Bool×List bT)=>∃ pre I:List UInt8,O=pre++I/\z.1=ba I/\z.2.1=false/\tr ⟨false,z.2.2⟩/\(nv z.2.2=dv pre)/\z.2.2.length<=5*pre.length/\(pre=[]\/I.length%9=0))
  (λz=>z.1.size) ?_ a_ _ ⟨[],O,rfl,rfl,rfl,⟨Wf.nil,λy hy=>by simp at hy,λhh=>by simp at hh⟩,rfl,by simp,.inl rfl⟩ (by rw [og]; simp only [a_]; omega)
 rintro ⟨s,c,w⟩ nx ⟨pre,I,e1,e2,e3,e4,e5,e6,e7⟩ hnx;simp only at e2 e3 e4 e5 e6 e7 hnx ⊢;subst e2 e3;have hlen:pre.length+I.length<=2000:=by rw [<- OG,<- e1]; exact hl
 unfold tV;rw [og];refine Gd.ite (λh0=>?_) (λh0=>?_)
 ·have h0:0<I.length:=by have:=N9 h0; omega
  rw [Jg h0 (by omega)]
  generalize hn:(I.length-1)%9+1=n;have hn9:n<=9:=by omega
  have hns:n<=I.length:=by have:=Nat.mod_le (I.length-1) 9; omega
  rw [N7,r7,r7,PB,Oo (Ov _),og];have Z:(I.take n).length=n:=by rw [OF]; omega
  have hdg:∀ x ∈ I.take n,Dx x:=λx hx=>h x (by rw [e1]; exact OR _ (QG hx))
  have hpu:=JO hdg (by rw [Z]; exact hn9)
  have hdl:dv (I.take n)<10 ^ 9:=QC (y9 hdg) (S1 (by decide) (by omega))
  rw [hpu,Z];refine Gd.nd ⟨by omega,by omega⟩ (Gd.nd ⟨by omega,by omega,rfl⟩ ?_)
  rw [cK (n:=(dv (I.take n):Int)) ⟨by omega,by omega⟩]
  refine Gd.hO (Av (n:=1000000000) (by omega)) (λt ht=>Gd.hO (vi e4 ht.1 (by simp only; omega)) (λm hm=>Gd.hO (Av (n:=(dv (I.take n):Int)) (by omega)) (λu hu=>Gd.hO (BQ hm.1 hu.1 (by simp only at hm; omega) (by omega)) (λr hr=>Gd.nd ⟨by omega,by omega⟩ ?_))))
  have hiv:jR (⟨false,w⟩:LI)=(dv pre:Int):=by unfold jR; simp only [Ps,P1]; rw [e5]
  have hval:jR r=((dv (pre++I.take n):Nat):Int):=by
   rw [hr.2.2,hm.2.2,ht.2.2,hu.2.2,hiv,z7,Z];have:=F8 (D:=dv pre) (n:=n) (c:=dv (I.take n)) (v:=0) (P:=10 ^ n) (by
    rcases e7 with e7 | e7
    ·left; rw [e7]; rfl
    ·right; omega) rfl
   rw [<- this];have e9:(10 ^ 9:Nat)=1000000000:=rfl;rw [e9];generalize dv pre=A;generalize dv (I.take n)=C;omega
  have hrm:r.minus=false:=hr.1.plus (by rw [hval]; omega)
  refine hnx _ ⟨pre++I.take n,I.drop n,by rw [OJ,PE]; exact e1,rfl,hrm,?_,?_,?_,?_⟩ ?_
  ·rw [<- hrm]; exact hr.1
  ·have:=hval
   unfold jR at this;rw [Ob (by rw [hrm]; simp)] at this
   simp only; omega
  ·simp only at hm ⊢
   rw [OG,Z]; omega
  ·right; rw [PI]; omega
  ·simp only [og,PI]; omega
 ·have h0:¬ 0<I.length:=by have:=Og h0; omega
  have hs0:I=[]:=OK (by omega)
  subst hs0;rw [OX] at e1;subst e1;unfold rV;have e4w:Wf w:=e4.wf;have e4t:ve w:=e4.top;refine Gd.ite (λY=>Gd.ret ⟨⟨e4.wf,e4.top,λhm hw=>?_⟩,by simp only; omega,?_⟩) (λY=>Gd.ret ⟨e4,by simp only; omega,?_⟩)
  ·have hw:w=[]:=hw
   subst hw;simp at hm
  ·rw [Oc Y]
   unfold jR;simp only [PC]
   split
   ·rw [e5]
   ·rename_i hh
    have:w=[]:=OK (by omega)
    rw [this] at e5 ⊢;rw [<- e5]; rfl
  ·rw [Ob (by rw [Y]; simp)]
   unfold jR;simp only [Ps,P1];rw [e5]
def pv:List bT->Nat
 | []=>0
 | y::l=>y.n.toNat+1000000000*pv l
theorem Fg:∀ (a:List bT) (y:bT),pv (a++[y])=pv a+1000000000 ^ a.length*y.n.toNat
 | [],y=>by
  show y.n.toNat+1000000000*0=0+1000000000 ^ 0*y.n.toNat;rw [S6]; omega
 | x::a,y=>by
  rw [Qg,pv,Fg a y,pv,Oj,S5];rw [SU,<- SV,SW (1000000000 ^ a.length) 1000000000,Qi]
theorem JQ {l:List bT}{k:Nat}{y:bT} (h:l[k]? = some y):pv (l.drop k)=pv (l.drop (k+1))*1000000000+y.n.toNat:=by
 rw [q_ h,pv]; omega
theorem GU:(⟨#[48,48,48,48,48,48,48,48,48]⟩:N2)=ba (List.replicate 9 48):=rfl
theorem uy (n:Nat):sV (n:Int)=ba (Lib.decDigits n):=by unfold sV; rw [Lib.itoa_nonneg]; rfl
theorem FZ {n:Nat} (h:0<n):sV (-(n:Int))=ba (45::Lib.decDigits n):=by
 unfold sV Lib.itoa;rw [Oc (by omega),show (-(n:Int)).natAbs=n by omega]; rfl
def IL (D:List UInt8):List U8:=D.map λb=>⟨b.toNat⟩
theorem yE (D:List UInt8):ml (ba D)=IL D:=FD D
theorem IM (a b:List UInt8):IL a++IL b=IL (a++b):=by unfold IL; rw [Pu]
theorem BC (D:List UInt8):xV (IL D)=ba D:=CF D
theorem Cd (D:List UInt8):(IL D).length=D.length:=PJ _
theorem K8 (N:Nat) {Q:List bT} (I:∀ z ∈ Q,0<=z.n/\z.n<1000000000) (hl:Q.length<=N):pv Q<10 ^ (9*N):=by
 have key:∀ (Q:List bT),(∀ z ∈ Q,0<=z.n/\z.n<1000000000)->pv Q<1000000000 ^ Q.length:=by
  intro Q
  induction Q with
  | nil=>intro _; show 0<1000000000 ^ 0; decide
  | cons z Q ih=>
   intro I;have Y:=ih (λx O=>I x (Od _ O));have J:=I z (Oa ..);rw [pv,Oj,S5,SW];generalize 1000000000 ^ Q.length=X at *
   omega
 have J:(1000000000:Nat) ^ Q.length<=1000000000 ^ N:=S1 (by decide) hl
 rw [S3];exact QC (key Q I) J
theorem J_ (n a b:Nat) (J:a<=3*n) (O:10*n<=32*b):10 ^ a<=WB ^ b:=by
 have e1:(10:Nat) ^ a<=10 ^ (3*n):=S1 (by decide) J
 have e2:((10:Nat) ^ 3) ^ n<=(2 ^ 10) ^ n:=S0 (by decide) n
 have I:(2:Nat) ^ (10*n)<=2 ^ (32*b):=S1 (by decide) O
 rw [<- S3,<- S3] at e2;rw [zK b];exact Pn e1 (Pn e2 I)
theorem E4 (n a b:Nat) (O:a<=3*n) (Y:10*n<=32*b) {w:List bT} (hw:Wf w) (ht:ve w) (hl:b<w.length):¬ nv w<10 ^ a:=by
 have J:w≠[]:=λe=>by rw [e] at hl; simp at hl
 have I:=Dd hw ht J;have Z:WB ^ b<=WB ^ (w.length-1):=S1 (by decide) (by omega)
 exact Nat.not_lt.2 (Pn (J_ n a b O Y) (Pn Z I))
theorem Ir (N K:Nat) {w:List bT} (Z:Wf w) (hl:w.length<=N) (Y:32*N<=K):nv w<2 ^ K:=by
 have J:=sP Z;have I:WB ^ w.length<=WB ^ N:=S1 (by decide) hl
 rw [zK N] at I;have O:(2:Nat) ^ (32*N)<=2 ^ K:=S1 (by decide) Y
 exact QC J (Pn I O)
theorem Da {m:Nat} (h:m<=9):(⟨#[48,48,48,48,48,48,48,48,48]⟩:N2).extract m ((⟨#[48,48,48,48,48,48,48,48,48]⟩:N2).size)=ba (List.replicate (9-m) 48):=by
 rw [GU,og,r7,Oo (Ov _),List.drop_replicate]
theorem Jt {a:LI}{P:List bT}{V:Nat} (hP:∀ y ∈ P,0<=y.n/\y.n<1000000000) (hV:pv P=V) (hne:P≠[]) (htop:∀ y,P.getLast? = some y->y.n≠0) (hl:P.length<=1000) (ha:a.minus=true->V≠0):
  Gd (cE (λZ n=>pC a P Z.1 Z.2 n) a_ (i64.wrap ((P.length:Int)-1),([]:List U8)))
   (λr=>r.2=decide ((Lib.decDigits V).length<=2000)/\r.1=sV (if a.minus=true then -(V:Int) else V)/\r.1.size<=10000):=by
 have hpos:0<P.length:=SJ.2 hne;have wl:i64.wrap ((P.length:Int)-1)=(P.length:Int)-1:=cK ⟨by omega,by omega⟩
 rw [wl];refine Gd.cE (λ(z:Int×List U8)=>-1<=z.1/\z.1<P.length/\(z.1=(P.length:Int)-1/\z.2=[]\/z.1<(P.length:Int)-1/\0<pv (P.drop (z.1+1).toNat)/\z.2=IL (Lib.decDigits (pv (P.drop (z.1+1).toNat)))/\z.2.length<=9*1000))
  (λz=>(z.1+1).toNat) ?_ a_ _ ⟨by simp only; omega,by simp only; omega,.inl ⟨rfl,rfl⟩⟩ (by simp only [a_]; omega)
 rintro ⟨n,l⟩ nx ⟨h1,h2,I⟩ hnx;simp only at h1 h2 I hnx ⊢;unfold pC;refine Gd.ite (λhn=>?_) (λhn=>?_)
 ·have hn:0<=n:=N9 hn
  obtain ⟨k,rfl⟩:∃ k:Nat,n=k:=⟨n.toNat,by omega⟩
  obtain ⟨y,hy⟩:∃ y,P[k]? = some y:=⟨_,N5 (by omega)⟩
  have hyw:=hP y (Ol hy);obtain ⟨u,hu⟩:∃ u:Nat,y.n=u:=⟨y.n.toNat,by omega⟩
  have hu9:u<10 ^ 9:=by
   have:(10:Nat) ^ 9=1000000000:=rfl;omega
  have hkn:((k:Int)+1).toNat=k+1:=by omega
  have O:((k:Int)-1+1).toNat=k:=by omega
  refine Gd.ix (by omega) (by rw [N7]; exact hy) ?_
  rw [hu,jS (n:=(u:Int)) (by omega),uy]
  refine Gd.nd ⟨by omega,by omega⟩ ?_
  rw [wl];have hlen:(Lib.decDigits u).length<=9:=A9 (by decide) hu9
  have Y:=JQ hy;have hun:y.n.toNat=u:=by omega
  rw [hun] at Y;have hwk:i64.wrap ((k:Int)-1)=(k:Int)-1:=cK ⟨by omega,by omega⟩
  refine Gd.ite (λJ=>?_) (λJ=>?_)
  ·have J:(k:Int)<(P.length:Int)-1:=N9 J
   rcases I with ⟨I,_⟩ | ⟨_,I,h4,h5⟩
   ·omega
   rw [hkn] at I h4;rw [og,N7,Da hlen,yE];have hsz:(ba (List.replicate (9-(Lib.decDigits u).length) (48:UInt8))).size=9-(Lib.decDigits u).length:=by rw [og,Pl]
   rw [hsz];refine Gd.nd ⟨by omega,by show ((Lib.decDigits u).length:Int)<=((9:Nat):Int); omega⟩ (Gd.nd (by omega) ?_)
   unfold l9;rw [hu,jS (n:=(u:Int)) (by omega),uy,hwk,yE,og]
   rw [OG,Cd,Pl];refine Gd.nd (by omega) ?_
   have hfin:l++IL (List.replicate (9-(Lib.decDigits u).length) (48:UInt8))++IL (Lib.decDigits u)=IL (Lib.decDigits (pv (P.drop k))):=by
    have hdp:=Jl (k:=9) (by decide) I hu9
    rw [show (10:Nat) ^ 9=1000000000 from rfl,<- Y] at hdp;rw [h4,OJ,IM,IM,hdp]
    rfl
   rw [hfin];have hdl:=Ag (u:=pv (P.drop k)) (k:=(Lib.decDigits (pv (P.drop k))).length) (Ov _);refine hnx _ ⟨by simp only; omega,by simp only; omega,.inr ⟨by simp only; omega,by simp only; rw [O,Y]; omega,by simp only; rw [O],?_⟩⟩ (by simp only; omega)
   simp only;rw [Cd];have hb:=K8 1000 (λz hz=>hP z (List.mem_of_mem_drop hz)) (show (P.drop k).length<=1000 by rw [PI]; omega)
   exact A9 (k:=9*1000) (by decide) hb
  ·have J:¬ (k:Int)<(P.length:Int)-1:=Og J
   rcases I with ⟨I,h4⟩ | ⟨I,_⟩
   ·unfold l9
    rw [hu,jS (n:=(u:Int)) (by omega),uy,hwk,yE,og,h4]
    refine Gd.nd (by simp only [SI]; omega) ?_
    have hlast:P.drop (k+1)=[]:=SB (by omega)
    rw [hlast] at Y;have Y:pv (P.drop k)=u:=by rw [Y]; show 0*1000000000+u=u; omega
    have hu0:u≠0:=by
     have:=htop y (by rw [SG,show P.length-1=k by omega]; exact hy)
     omega
    rw [PR];refine hnx _ ⟨by simp only; omega,by simp only; omega,.inr ⟨by simp only; omega,by simp only; rw [O,Y]; omega,by simp only; rw [O,Y],?_⟩⟩ (by simp only; omega)
    simp only;rw [Cd]; omega
   ·omega
 ·have hn:¬ 0<=n:=Og hn
  rcases I with ⟨I,_⟩ | ⟨_,I,h4,h5⟩
  ·omega
  have hz:(n+1).toNat=0:=by omega
  rw [hz,PB,hV] at I h4;subst h4;rw [Cd] at h5 ⊢;have hne':(Lib.decDigits V)≠[]:=(qJ V).1.ne;have hp:0<(Lib.decDigits V).length:=SJ.2 hne';have hsz:((ba (Lib.decDigits V)).size:Int)=((Lib.decDigits V).length:Int):=by rw [og]
  have hdd:decide (((ba (Lib.decDigits V)).size:Int)<=2000)=decide ((Lib.decDigits V).length<=2000):=by
   rw [hsz]; exact decide_eq_decide.2 (by omega)
  refine Gd.nd hp (Gd.ite (λhm=>Gd.nd ?_ ?_) (λhm=>?_))
  ·rw [BC,og,show (⟨#[45]⟩:N2).size=1 from rfl]
   unfold maxLen; omega
  ·unfold l_
   rw [BC];have hx:(⟨#[45]⟩:N2)++ba (Lib.decDigits V)=ba (45::Lib.decDigits V):=by
    rw [show (⟨#[45]⟩:N2)=ba [45] from rfl,DH]; rfl
   refine Gd.ret ⟨hdd,?_,?_⟩
   ·rw [Oc hm,FZ (by have:=ha hm; omega)]; exact hx
   ·simp only
    rw [hx,og,Oj]; omega
  ·unfold l_
   rw [BC];refine Gd.ret ⟨hdd,?_,?_⟩
   ·rw [Ob (by rw [hm]; simp),uy]
   ·simp only
    rw [og]; omega
theorem Eh (K N:Nat) {p n W:Nat} (h:1000000000 ^ p*n<=W) (hn:1<=n) (hW:W<2 ^ K) (hK:K<=29*N):p<N:=by
 rcases PW p N with I | I
 ·exact I
 ·exfalso
  have J:((2:Nat) ^ 29) ^ N<=(1000000000:Nat) ^ N:=S0 (by decide) N
  have Y:(1000000000:Nat) ^ N<=1000000000 ^ p:=S1 (by decide) I
  have O:(1000000000:Nat) ^ p*1<=1000000000 ^ p*n:=SX _ hn;have Z:(2:Nat) ^ K<=2 ^ (29*N):=S1 (by decide) hK
  rw [<- S3] at J;rw [QE] at O;exact absurd hW (Nat.not_lt.2 (Pn Z (Pn J (Pn Y (Pn O h)))))
theorem F7 {V A B n:Nat} (h:V=A+B*n):V=(A+B*(n%1000000000))+B*1000000000*(n / 1000000000):=by
 rw [SV,Qi,<- SU,SS]; exact h
theorem C0 {a:LI} (h:tr a):Gd (nP a) (λr=>r.2=decide ((Lib.decDigits (nv a.words)).length<=2000)/\(r.2=true->r.1=sV (jR a))/\r.1.size<=10000):=by
 unfold nP;refine Gd.ite (λJ=>?_) (λJ=>?_)
 ·have J:a.words=[]:=OK (by have:=N9 J; omega)
  have hm:a.minus=false:=by
   cases hm:a.minus with
   | false=>rfl
   | true=>exact absurd J (h.sign hm)
  refine Gd.ret ⟨?_,λ_=>?_,by decide⟩
  ·rw [J]
   have hx:(Lib.decDigits (nv [])).length<=2000:=by
    show (Lib.decDigits 0).length<=2000;rw [Sz (by omega)]; simp
   rw [decide_eq_true hx]
  ·unfold jR
   rw [Ob (by rw [hm]; simp),J]
   show (⟨#[48]⟩:N2)=sV ((0:Nat):Int);rw [uy,Sz (by omega)]; rfl
 ·have J:a.words.length≠0:=by have:=Og J; omega
  have hne:a.words≠[]:=λe=>J (by rw [e]; rfl)
  refine Gd.ite (λY=>?_) (λY=>?_)
  ·have Y:210<a.words.length:=by have:=N9 Y; omega
   refine Gd.ret ⟨?_,λhh=>absurd hh (by simp),by decide⟩
   symm
   refine Tm λhle=>?_;exact E4 667 2000 210 (by decide) (by decide) h.wf h.tp Y (Ag (k:=2000) hle)
  ·have Y:a.words.length<=210:=by have:=Og Y; omega
   have hW:=Ir 210 6720 h.wf Y (by decide)
   have hnz:nv a.words≠0:=λe=>hne ((vU h.wf h.tp).1 e);refine Gd.cE (λ(z:List bT×List bT)=>(∀ y ∈ z.1,0<=y.n/\y.n<1000000000)/\Wf z.2/\ve z.2/\z.2.length<=210/\nv a.words=pv z.1+1000000000 ^ z.1.length*nv z.2/\z.1.length<=300/\(nv z.2=0->z.1≠[]/\∀ y,z.1.getLast? = some y->y.n≠0))
    (λz=>301-z.1.length) ?_ a_ _ ⟨by simp,h.wf,h.tp,Y,?_,by simp,λe=>absurd e hnz⟩ (by simp only [a_,SI]; omega)
   ·rintro ⟨P,w⟩ nx ⟨i1,i2,i3,i4,i5,i6,i7⟩ hnx
    simp only at i1 i2 i3 i4 i5 i6 i7 hnx ⊢;unfold rC;refine Gd.ite (λZ=>?_) (λZ=>?_)
    ·have Z:0<w.length:=by have:=N9 Z; omega
     have hwn:w≠[]:=λe=>by rw [e] at Z; simp at Z
     have hwz:nv w≠0:=λe=>hwn ((vU i2 i3).1 e);have hpl:=Eh 6720 300 (p:=P.length) (n:=nv w) (W:=nv a.words) (by rw [i5]; exact Nat.le_add_left _ _) (by omega) hW (by decide)
     refine Gd.hO (Dp i2 (by omega) (d:=1000000000) (by omega)) (λr O=>?_)
     have hdn:(1000000000:Int).toNat=1000000000:=rfl;rw [hdn] at O;refine Gd.nd (by simp only [OQ]; omega) (Gd.hO (tB false r.1 O.1 (by omega)) (λq hq=>?_))
     have hrn:0<=r.2/\r.2<1000000000/\r.2.toNat=nv w%1000000000:=by
      have:=QQ (nv w) (show 1000000000 > 0 by omega)
      rw [O.2.2.2]; omega
     refine hnx _ ⟨?_,hq.1.wf,hq.1.tp,by simp only; omega,?_,by simp only [OG,OQ]; omega,λhz=>⟨by simp,λy I=>?_⟩⟩ (by simp only [OG,OQ]; omega)
     ·intro y I
      rcases Om.1 I with I | I
      ·exact i1 y I
      ·rw [OU] at I; subst I; simp only; omega
     ·simp only
      rw [Fg,OG,OQ,S5,hq.2.2.1,O.2.2.1];simp only;rw [hrn.2.2];exact F7 i5
     ·simp only at hz I
      rw [List.getLast?_append,List.getLast?_singleton] at I;simp only [Option.some_or,Ox] at I;subst I;simp only;rw [hq.2.2.1,O.2.2.1] at hz;have:nv w / 1000000000=0:=hz;omega
    ·have Z:w=[]:=OK (by have:=Og Z; omega)
     subst Z;obtain ⟨j1,j2⟩:=i7 rfl;have hVV:pv P=nv a.words:=by
      rw [i5];show pv P=pv P+1000000000 ^ P.length*0;rw [SY]; rfl
     refine (Jt (a:=a) i1 hVV j1 j2 (by omega) (λ_=>hnz)).mono (λr O=>⟨O.1,λ_=>?_,O.2.2⟩)
     rw [O.2.1]; rfl
   ·show nv a.words=0+1000000000 ^ 0*nv a.words
    rw [S6]; omega
def KR (q:Rat):List UInt8:=Lib.itoa q.num++(if q.den=1 then [] else 47::Lib.decDigits q.den)
def ctext (q:Rat):N2:=ba (KR q)
def fits (q:Rat):Prop:=(Lib.decDigits q.num.natAbs).length<=2000/\(Lib.decDigits q.den).length<=2000
instance (q:Rat):Decidable (fits q):=by unfold fits; infer_instance
theorem HS {l:List UInt8} (h:∀ c ∈ l,Dx c):(47:UInt8) ∉ l:=λhm=>absurd (h 47 hm) (by unfold Dx; decide)
theorem BS (n:Int):Lib.itoa n=if n<0 then 45::Lib.decDigits n.natAbs else Lib.decDigits n.natAbs:=by
 unfold Lib.itoa
 split
 ·rfl
 ·rw [show n.toNat=n.natAbs by omega]
theorem D3 {c:UInt8}{l:List UInt8} (h:c ∉ l):Lib.indexByte l c = -1:=by
 rcases wb c l with ⟨_,I⟩ | ⟨a,b,rfl,_⟩
 ·exact I
 ·exact absurd (by simp) h
theorem CY {c:UInt8}{b:List UInt8}:∀ {a:List UInt8},c ∉ a->Lib.indexByte (a++c::b) c=a.length
 | [],_=>by simp [Lib.indexByte]
 | x::a,h=>by
  have I:(x == c)=false:=by simp only [OM,not_or] at h; simpa using λe=>h.1 e.symm
  have ih:=CY (b:=b) (a:=a) (λhm=>h (Od _ hm));rw [Qg];simp only [Lib.indexByte,I,ih];rw [Ob (by simp),Ob (by simp)]
  simp only [Oj]; omega
theorem G6 {l:List UInt8} (h:(47:UInt8) ∉ l):pq (ba l) (⟨#[47]⟩)=some (ba l,⟨#[]⟩,false):=by
 unfold pq kR;rw [show (⟨#[47]⟩:N2)=ba [47] from rfl,CZ,EN,D3 h]
 rfl
theorem G7 {a b:List UInt8} (h:(47:UInt8) ∉ a) (hs:a.length+1+b.length<=maxLen):pq (ba (a++47::b)) (⟨#[47]⟩)=some (ba a,ba b,true):=by
 have I:(ba (a++47::b)).size=a.length+1+b.length:=by rw [og]; simp; omega
 unfold maxLen at hs;unfold pq kR;rw [show (⟨#[47]⟩:N2)=ba [47] from rfl,CZ,EN,CY h];simp only [QA];rw [Oc (by simp),I,show (ba [47]).size=1 from rfl,cK ⟨by omega,by omega⟩]
 unfold fU;rw [Oc ⟨by omega,by omega⟩,Oc ⟨by omega,by omega⟩,N7,show ((a.length:Int)+((1:Nat):Int)).toNat=a.length+1 by omega,r7,r7]
 simp only [QA,PB];rw [Rm,Oo (by simp; omega),show a++47::b=(a++[47])++b by simp,List.drop_left' (by simp)]
theorem Ik {n:List UInt8} (hn:Lm n) (l1:n.length<=2000):Gd (nK (ba n)) (λa=>tr a/\a.words.length<=10000/\jR a=dv n):=by
 have:=Fh hn.ET l1 false;simpa using this
theorem ES:Lib.decDigits 1=[49]:=Sz (by omega)
theorem Jk {a b:Nat} (h:Lib.decDigits a=Lib.decDigits b):a=b:=by
 have I:=(qJ a).2;rw [h,(qJ b).2] at I; exact I.symm
theorem ER {u k:Nat}{l:List bT} (J:Wf l) (ht:ve l) (I:(Lib.decDigits (nv l)).length<=2000):l.length<=300:=by
 rcases PW 300 l.length with h | h
 ·exact absurd (Ag (k:=2000) I) (E4 667 2000 300 (by decide) (by decide) J ht h)
 ·exact h
theorem pd.small {a:LR} (h:pd a) (O:fits (rv a)):RL a 300:=by
 obtain ⟨I,J⟩:=O;rw [h.num,mz] at I;rw [h.den] at J;exact ⟨ER (u:=0) (k:=0) h.n.wf h.n.tp I,ER (u:=0) (k:=0) h.d.wf h.d.tp J⟩
theorem Ip {a:LR} (h:pd a):Gd (pD a) (λr=>(r.2=true↔fits (rv a))/\(r.2=true->r.1=ctext (rv a))):=by
 have e1:(rv a).num.natAbs=nv a.N.words:=by rw [h.num,mz]
 have e2:(rv a).den=nv a.D.words:=h.den;unfold pD;refine Gd.hO (C0 h.n) (λt ht=>Gd.ite (λO=>Gd.ret ?_) (λO=>?_))
 ·have O:t.2=false:=by simpa using O
  refine ⟨⟨λJ=>by simp at J,λJ=>?_⟩,λJ=>by simp at J⟩
  have I:=ht.1;rw [O] at I;have:=J.1;rw [e1] at this;exact absurd this (Og I.symm)
 ·have O:t.2=true:=by simpa using O
  have hN:=ht.1;rw [O] at hN;have hN:=N9 hN.symm;have hNt:=ht.2.1 O;refine Gd.hO (C0 h.d) (λu hu=>?_);have hval:jR a.D=((nv a.D.words:Nat):Int):=qR h.pos;have Y:(u.2=true↔fits (rv a)):=by
   unfold fits;rw [e1,e2,hu.1,PC];exact ⟨λx=>⟨hN,x⟩,λx=>x.2⟩
  have hut:u.2=true->u.1=ba (Lib.decDigits (rv a).den):=λx=>by rw [hu.2.1 x,hval,uy,e2]
  have Z:t.1=ba (Lib.itoa (rv a).num):=by rw [hNt,h.num]; rfl
  refine Gd.ite (λI=>Gd.ret ⟨Y,λJ=>?_⟩) (λI=>Gd.nd ?_ (Gd.nd ?_ (Gd.ret ⟨Y,λJ=>?_⟩)))
  ·have I:u.1=(⟨#[49]⟩:N2):=N9 I
   have:=hut J;rw [I] at this;have hd:(rv a).den=1:=Jk ((GS (show ba [49]=_ from this)).symm.trans ES.symm);unfold ctext KR;rw [Oc hd,OX]; exact Z
  ·have:=ht.2.2
   show t.1.size+1<=maxLen;unfold maxLen; omega
  ·have:=ht.2.2
   have:=hu.2.2;rw [Iv];show t.1.size+1+u.1.size<=maxLen;unfold maxLen; omega
  ·have I:u.1≠(⟨#[49]⟩:N2):=Og I
   have h2:=hut J;have hd:(rv a).den≠1:=λe=>I (by rw [h2,e,ES]; rfl)
   unfold ctext KR;rw [Ob hd];simp only;rw [Z,h2,show (⟨#[47]⟩:N2)=ba [47] from rfl,DH,DH,OJ]; rfl
theorem JS {p q:Rat} (I:p.num=q.num) (J:p.den=q.den):p=q:=Rat.ext I J
theorem yS {n:Int} (h:(Lib.decDigits n.natAbs).length<=2000):Gd (nK (ba (Lib.itoa n))) (λa=>tr a/\a.words.length<=10000/\jR a=n):=by
 have J:=qJ n.natAbs;have:=Fh J.1.ET h (decide (n<0));rw [BS];simp only [PC] at this;refine this.mono (λa I=>⟨I.1,I.2.1,?_⟩);rw [I.2.2,J.2]
 split <;> omega
theorem Ad (n:Int):(47:UInt8) ∉ Lib.itoa n:=by
 rw [BS];have:=HS (qJ n.natAbs).1.ET
 split
 ·simp only [OM,not_or]; exact ⟨by decide,this⟩
 ·exact this
theorem Js {n:Int} (h:(Lib.decDigits n.natAbs).length<=2000):(Lib.itoa n).length<=2001:=by
 rw [BS]
 split
 ·simp only [Oj]; omega
 ·omega
theorem Jn {q:Rat}{k:Nat} (hn:q.num.natAbs<10 ^ k) (O:q.den<10 ^ k) (J:1<=k) (I:k<=2000):fits q:=
 ⟨Pn (A9 J hn) I,Pn (A9 J O) I⟩
def RB (q:Rat) (L:Nat):Prop:=∃ r:LR,pd r/\RL r L/\rv r=q
theorem pd.rb {r:LR} (h:pd r) {L:Nat} (Y:RB (rv r) L):RL r L:=by
 obtain ⟨s,I,J,O⟩:=Y;rw [h.ext' I O.symm]; exact J
theorem RB.mono {q:Rat}{L M:Nat} (h:RB q L) (Y:L<=M):RB q M:=by
 obtain ⟨s,I,J,O⟩:=h;exact ⟨s,I,J.mono Y,O⟩
theorem RB.add {p q:Rat}{A B:Nat} (h:RB p A) (k:RB q B) (Y:A+B<=800000):RB (p+q) (A+B+1):=by
 obtain ⟨a,I,J,O⟩:=h; obtain ⟨b,Z,k2,k3⟩:=k
 obtain ⟨r,_,r1,r2,r3⟩:=vX I Z J k2 Y;exact ⟨r,r1,r2,by rw [r3,O,k3]⟩
theorem RB.sub {p q:Rat}{A B:Nat} (h:RB p A) (k:RB q B) (Y:A+B<=800000):RB (p-q) (A+B+1):=by
 obtain ⟨a,I,J,O⟩:=h; obtain ⟨b,Z,k2,k3⟩:=k
 obtain ⟨r,_,r1,r2,r3⟩:=xd I Z J k2 Y;exact ⟨r,r1,r2,by rw [r3,O,k3]⟩
theorem RB.mul {p q:Rat}{A B:Nat} (h:RB p A) (k:RB q B) (Y:A+B<=800000):RB (p*q) (A+B):=by
 obtain ⟨a,I,J,O⟩:=h; obtain ⟨b,Z,k2,k3⟩:=k
 obtain ⟨r,_,r1,r2,r3⟩:=yv I Z J k2 Y;exact ⟨r,r1,r2,by rw [r3,O,k3]⟩
theorem K3 {w:List bT} (Y:Wf w) (ht:ve w) {k:Nat} (h:nv w<WB ^ k):w.length<=k:=by
 rcases PW k w.length with hl | hl
 ·exfalso
  have I:w≠[]:=λe=>by rw [e] at hl; simp at hl
  have J:=Dd Y ht I;have O:WB ^ k<=WB ^ (w.length-1):=S1 (by decide) (by omega)
  exact absurd h (Nat.not_lt.2 (Pn O J))
 ·exact hl
theorem Gi (k m:Nat) (h:32*k<=3*m):WB ^ k<=10 ^ m:=by
 have J:(2:Nat) ^ (32*k)<=2 ^ (3*m):=S1 (by decide) h
 have I:((2:Nat) ^ 3) ^ m<=10 ^ m:=S0 (by decide) m
 rw [<- S3] at I;rw [zK k];exact Pn J I
theorem IN {k:Nat} (I:k<=187):WB ^ k<=10 ^ 2000:=Gi k 2000 (by omega)
theorem RB.fits {q:Rat}{L:Nat} (h:RB q L) (hL:L<=187):fits q:=by
 obtain ⟨r,I,J,rfl⟩:=h;have e:=IN hL;have key:∀ {w:List bT},Wf w->w.length<=L->nv w<10 ^ 2000:=λO hl=>
  QC (sP O) (Pn (S1 (by decide) hl) e)
 refine Jn (k:=2000) ?_ ?_ (by decide) (Ov _)
 ·rw [I.num,mz]; exact key I.n.wf J.1
 ·rw [I.den]; exact key I.d.wf J.2
theorem Ky {m:Int}{k:Nat} (h:m.natAbs<WB ^ k) (O:k<=187):∃ a:LI,tr a/\a.words.length<=k/\jR a=m:=by
 obtain ⟨a,_,I,Y,J⟩:=yS (n:=m) (A9 (by decide) (QC h (IN O)))
 exact ⟨a,I,K3 I.wf I.tp (by rw [<- mz,J]; exact h),J⟩
theorem RB.ratio {m d:Int}{k:Nat} (h:m.natAbs<WB ^ k) (Y:d.natAbs<WB ^ k) (h0:d≠0) (J:k<=187):RB ((m:Rat) / (d:Rat)) k:=by
 obtain ⟨a,a1,a2,O⟩:=Ky h J;obtain ⟨b,b1,b2,I⟩:=Ky Y J;obtain ⟨r,_,Z,r2,r3,r4⟩:=wX a1 b1 (by rw [<- mz,I]; omega) (by omega) (by omega)
 exact ⟨r,Z,⟨by omega,by omega⟩,by rw [r4,O,I,Rat.divInt_eq_div]⟩
theorem RB.int {m:Int}{k:Nat} (h:m.natAbs<WB ^ k) (I:1<=k) (J:k<=187):RB (m:Rat) k:=by
 have:=RB.ratio (m:=m) (d:=1) h (by
  have:WB ^ 1<=WB ^ k:=S1 (by decide) I
  have:WB ^ 1=4294967296:=by decide
  show 1<WB ^ k;omega) (by decide) J
 have e:(m:Rat) / ((1:Int):Rat)=(m:Rat):=by rw [Rat.intCast_one]; grind
 rwa [e] at this
theorem RB.small {m:Int} (h:m.natAbs<4294967296):RB (m:Rat) 1:=RB.int (k:=1) (by show m.natAbs<4294967296 ^ 1; omega) (by decide) (by decide)
theorem RB.MJ {m d:Int} (h:m.natAbs<4294967296) (J:d.natAbs<4294967296) (I:d≠0):RB ((m:Rat) / (d:Rat)) 1:=
 RB.ratio (k:=1) (by show m.natAbs<4294967296 ^ 1; omega) (by show d.natAbs<4294967296 ^ 1; omega) I (by decide)
theorem H_ {q:Rat} (h:fits q):Gd (rR (ctext q)) (λa=>pd a/\RL a 300/\rv a=q):=by
 have O:∀ a:LR,tr a.N->tr a.D->jR a.N=q.num->jR a.D=(q.den:Int)->pd a/\RL a 300/\rv a=q:=λa h1 h2 h3 h4=>by
  have hp:a.D.minus=false:=h2.plus (by omega)
  have J:nv a.D.words=q.den:=by
   have:=qR hp;omega
  have I:pd a:=⟨h1,h2,hp,by rw [J]; exact q.den_nz,by rw [J,<- mz,h3]; exact q.reduced⟩
  have hv:rv a=q:=JS (by rw [I.num,h3]) (by rw [I.den,J])
  exact ⟨I,I.small (by rw [hv]; exact h),hv⟩
 have hl:=Js h.1;unfold rR ctext KR
 by_cases J:q.den=1
 ·rw [Oc J,OX]
  refine Gd.bind_eq (G6 (Ad _)) (Gd.ite (λ_=>?_) (λhx=>by simp at hx))
  refine Gd.hO (yS h.1) (λa Y=>Gd.hO (Av (n:=1) (by omega)) (λb Z=>Gd.ret ?_))
  exact O _ Y.1 Z.1 Y.2.2 (by rw [Z.2.2,J]; rfl)
 ·rw [Ob J]
  refine Gd.bind_eq (G7 (Ad _) (by have:=h.2; unfold maxLen; omega)) (Gd.ite (λhx=>by simp at hx) (λ_=>?_))
  refine Gd.hO (yS h.1) (λa Y=>Gd.hO (Ik (qJ q.den).1 h.2) (λb Z=>Gd.ret ?_));exact O _ Y.1 Z.1 Y.2.2 (by rw [Z.2.2,(qJ q.den).2])
end Go.Sim
namespace Go.Sim
open _root_.Go.IntKind (i64 u64 u32 u8)
def sm:Nat->(Nat->Rat)->Rat
 | 0,_=>0
 | n+1,f=>sm n f+f n
def pr:Nat->(Nat->Rat)->Rat
 | 0,_=>1
 | n+1,f=>pr n f*f n
theorem o_ {f g:Nat->Rat}:∀ {n:Nat},(∀ i,i<n->f i=g i)->sm n f=sm n g
 | 0,_=>rfl
 | n+1,h=>by
  unfold sm;rw [o_ (λi hi=>h i (by omega)),h n (by omega)]
theorem vE {f g:Nat->Rat}:∀ {n:Nat},(∀ i,i<n->f i=g i)->pr n f=pr n g
 | 0,_=>rfl
 | n+1,h=>by
  unfold pr;rw [vE (λi hi=>h i (by omega)),h n (by omega)]
theorem vd {f:Nat->Rat}:∀ {n:Nat},(∀ i,i<n->f i=0)->sm n f=0
 | 0,_=>rfl
 | n+1,h=>by
  unfold sm;rw [vd (λi hi=>h i (by omega)),h n (by omega)]; grind
theorem v_ (f g:Nat->Rat):∀ n:Nat,sm n (λi=>f i+g i)=sm n f+sm n g
 | 0=>by unfold sm; grind
 | n+1=>by unfold sm; rw [v_ f g n]; grind
theorem rK (a:Rat) (f:Nat->Rat):∀ n:Nat,sm n (λi=>a*f i)=a*sm n f
 | 0=>by unfold sm; grind
 | n+1=>by unfold sm; rw [rK a f n]; grind
theorem AG {f:Nat->Rat}{p:Nat}:∀ {n:Nat},p<n->(∀ i,i<n->i≠p->f i=0)->sm n f=f p
 | 0,h,_=>by omega
 | n+1,h,hz=>by
  unfold sm
  by_cases e:p=n
  ·subst e
   rw [vd (λi hi=>hz i (by omega) (by omega))]; grind
  ·rw [AG (by omega) (λi hi I=>hz i (by omega) I),hz n (by omega) (λh=>e h.symm)]; grind
theorem Iy {f:Nat->Rat}{p:Nat}:∀ {n:Nat},p+1<n->(∀ i,i<n->i≠p->i≠p+1->f i=0)->sm n f=f p+f (p+1)
 | 0,h,_=>by omega
 | n+1,h,hz=>by
  unfold sm
  by_cases e:p+1=n
  ·subst e
   rw [AG (p:=p) (by omega) (λi hi I=>hz i (by omega) I (by omega))]
  ·rw [Iy (by omega) (λi hi J O=>hz i (by omega) J O),hz n (by omega) (by omega) (λh=>e h.symm)]; grind
theorem tn {f:Nat->Rat}:∀ {n:Nat},(∀ i,i<n->0<=f i)->0<=sm n f
 | 0,_=>Te
 | n+1,h=>by
  unfold sm;have I:=tn (n:=n) (λi hi=>h i (by omega))
  have J:=h n (by omega)
  grind
theorem Iw {f g:Nat->Rat}:∀ {n:Nat},(∀ i,i<n->f i<=g i)->sm n f<=sm n g
 | 0,_=>Te
 | n+1,h=>by
  unfold sm;have I:=Iw (n:=n) (λi hi=>h i (by omega))
  have J:=h n (by omega)
  grind
theorem nc {f:Nat->Rat}:∀ {n:Nat},(∀ i,i<n->0<=f i)->0<=pr n f
 | 0,_=>by unfold pr; decide
 | n+1,h=>by
  unfold pr;exact Ti (nc (n:=n) (λi hi=>h i (by omega))) (h n (by omega))
theorem qw {a b c d:Rat} (J:a<=b) (O:c<=d) (a0:0<=a) (I:0<=c):a*c<=b*d:=by
 have Y:a*c<=b*c:=Rat.mul_le_mul_of_nonneg_right J I;have Z:b*c<=b*d:=Rat.mul_le_mul_of_nonneg_left O (by grind)
 exact Tf Y Z
theorem Fc {f g:Nat->Rat}:∀ {n:Nat},(∀ i,i<n->0<=f i)->(∀ i,i<n->f i<=g i)->pr n f<=pr n g
 | 0,_,_=>Te
 | n+1,h0,h=>by
  unfold pr;exact qw (Fc (λi hi=>h0 i (by omega)) (λi hi=>h i (by omega))) (h n (by omega)) (nc (λi hi=>h0 i (by omega))) (h0 n (by omega))
theorem B4 (f g:Nat->Rat):∀ n:Nat,pr n (λi=>f i*g i)=pr n f*pr n g
 | 0=>by unfold pr; grind
 | n+1=>by unfold pr; rw [B4 f g n]; grind
abbrev Mt:=Nat->Nat->Rat
def skip (p i:Nat):Nat:=if i<p then i else i+1
def minor (M:Mt) (p:Nat):Mt:=λr c=>M (skip p r) (c+1)
def sg (i:Nat):Rat:=if i%2=0 then 1 else -1
def qM:Nat->Mt->Rat
 | 0,_=>1
 | n+1,M=>sm (n+1) (λi=>sg i*M i 0*qM n (minor M i))
def row (M:Mt) (p:Nat) (x:Nat->Rat):Mt:=λr=>if r=p then x else M r
theorem w_:∀ {n:Nat}{M M':Mt},(∀ r c,r<n->c<n->M r c=M' r c)->qM n M=qM n M'
 | 0,_,_,_=>rfl
 | n+1,M,M',h=>by
  unfold qM;refine o_ (λi hi=>?_);rw [h i 0 hi (by omega),w_ (λr c J I=>?_)]
  unfold minor;exact h _ _ (by unfold skip; split <;> omega) (by omega)
theorem uT (M:Mt) (p:Nat) (x:Nat->Rat):minor (row M p x) p=minor M p:=by
 funext r c
 unfold minor row;rw [Ob (by unfold skip; split <;> omega)]
theorem vT (M:Mt) {p i:Nat} (h:p<i) (x:Nat->Rat):minor (row M p x) i=row (minor M i) p (λc=>x (c+1)):=by
 funext r c
 unfold minor row
 by_cases e:r=p
 ·subst e
  rw [Oc (by unfold skip; rw [Oc h]),Oc rfl]
 ·rw [Ob (by unfold skip; split <;> omega),Ob e]
theorem vS (M:Mt) {p i:Nat} (h:i<p) (x:Nat->Rat):minor (row M p x) i=row (minor M i) (p-1) (λc=>x (c+1)):=by
 funext r c
 unfold minor row
 by_cases e:r=p-1
 ·subst e
  rw [Oc (by unfold skip; split <;> omega),Oc rfl]
 ·rw [Ob (by unfold skip; split <;> omega),Ob e]
theorem xW:∀ {n:Nat} (M:Mt) {p:Nat} (I:p<n) (a b:Rat) (x y:Nat->Rat),qM n (row M p (λc=>a*x c+b*y c))=a*qM n (row M p x)+b*qM n (row M p y)
 | 0,_,_,h,_,_,_,_=>by omega
 | n+1,M,p,I,a,b,x,y=>by
  unfold qM;rw [<- rK,<- rK,<- v_];refine o_ (λi hi=>?_);rcases QJ i p with h | h | h
  ·rw [vS M h,vS M h,vS M h,xW (minor M i) (by omega) a b (λc=>x (c+1)) (λc=>y (c+1))]
   unfold row;rw [Ob (by omega),Ob (by omega),Ob (by omega)]
   grind
  ·subst h
   rw [uT,uT,uT];unfold row;rw [Oc rfl,Oc rfl,Oc rfl]
   grind
  ·rw [vT M h,vT M h,vT M h,xW (minor M i) (by omega) a b (λc=>x (c+1)) (λc=>y (c+1))]
   unfold row;rw [Ob (by omega),Ob (by omega),Ob (by omega)]
   grind
theorem JV (i:Nat):sg (i+1) = - sg i:=by
 unfold sg
 by_cases h:i%2=0
 ·rw [Oc h,Ob (by omega)]
 ·rw [if_neg h,if_pos (by omega)]; grind
theorem zw:∀ {n:Nat}{M:Mt}{p:Nat},p+1<n->(∀ c,c<n->M p c=M (p+1) c)->qM n M=0
 | 0,_,_,h,_=>by omega
 | n+1,M,p,hp,he=>by
  unfold qM;rw [Iy (p:=p) hp (λi hi J O=>?_)]
  ·have:qM n (minor M p)=qM n (minor M (p+1)):=w_ (λr c Y I=>by
    unfold minor skip
    by_cases e:r=p
    ·subst e
     rw [Ob (by omega),Oc (by omega)]
     exact (he (c+1) (by omega)).symm
    ·by_cases e2:r<p
     ·rw [Oc e2,Oc (by omega)]
     ·rw [Ob e2,Ob (by omega)])
   rw [this,JV,he 0 (by omega)]
   grind
  ·have:qM n (minor M i)=0:=by
    rcases QJ i p with h | h | h
    ·refine zw (p:=p-1) (by omega) (λc I=>?_)
     unfold minor skip;rw [Ob (by omega),Ob (by omega),show p-1+1=p by omega]
     exact he (c+1) (by omega)
    ·exact absurd h J
    ·refine zw (p:=p) (by omega) (λc I=>?_)
     unfold minor skip;rw [Oc (by omega),Oc (by omega)]
     exact he (c+1) (by omega)
   rw [this]; grind
theorem AD (M:Mt) (p:Nat):row M p (M p)=M:=by
 funext r
 unfold row
 by_cases e:r=p
 ·subst e; rw [Oc rfl]
 ·rw [Ob e]
theorem vF (M:Mt) {p q:Nat} (h:p≠q) (x y:Nat->Rat):row (row M p x) q y=row (row M q y) p x:=by
 funext r
 unfold row
 by_cases e:r=q
 ·subst e; rw [Oc rfl,Ob (λe=>h e.symm),Oc rfl]
 ·rw [Ob e]
  by_cases e2:r=p
  ·rw [Oc e2,Oc e2]
  ·rw [Ob e2,Ob e2,Ob e]
theorem zZ {n:Nat} (M:Mt) {p:Nat} (I:p<n) (x y:Nat->Rat):qM n (row M p (λc=>x c+y c))=qM n (row M p x)+qM n (row M p y):=by
 have:=xW M I 1 1 x y;simp only [Rat.one_mul] at this;exact this
theorem Hc {n:Nat} (M:Mt) {p:Nat} (J:p+1<n) (x y:Nat->Rat):qM n (row (row M p x) (p+1) y) = - qM n (row (row M p y) (p+1) x):=by
 have two:∀ u:Nat->Rat,qM n (row (row M p u) (p+1) u)=0:=λu=>zw J (λc O=>by
  unfold row;rw [Ob (by omega),Oc rfl,Oc rfl])
 have h:=two (λc=>x c+y c);have I:p≠p+1:=by omega
 rw [zZ _ J,vF M I,vF M I,zZ _ (by omega),zZ _ (by omega),<- vF M I,<- vF M I,<- vF M I,<- vF M I,two x,two y] at h
 grind
theorem BE:∀ (k:Nat) {n:Nat}{M:Mt}{p q:Nat},q=p+1+k->q<n->(∀ c,M p c=M q c)->qM n M=0
 | 0,n,M,p,q,hq,hn,he=>by
  subst hq;exact zw (by omega) (λc _=>he c)
 | k+1,n,M,p,q,hq,hn,he=>by
  have e1:qM n M=qM n (row (row M (q-1) (M (q-1))) (q-1+1) (M (q-1+1))):=by
   rw [AD,AD]
  rw [e1,Hc M (by omega)]
  have:qM n (row (row M (q-1) (M (q-1+1))) (q-1+1) (M (q-1)))=0:=by
   refine BE k (p:=p) (q:=q-1) (by omega) (by omega) (λc=>?_)
   unfold row;rw [Ob (by omega),Ob (by omega),Ob (by omega),Oc rfl,show q-1+1=q by omega]
   exact he c
  rw [this]; grind
theorem Ha {n:Nat}{M:Mt}{p q:Nat} (O:p<n) (Y:q<n) (J:p≠q) (I:∀ c,M p c=M q c):qM n M=0:=by
 rcases PW p q with h | h
 ·exact BE (q-p-1) (p:=p) (q:=q) (by omega) Y I
 ·exact BE (p-q-1) (p:=q) (q:=p) (by omega) O (λc=>(I c).symm)
theorem BG {n:Nat} (M:Mt) {p:Nat} (I:p<n):qM n (row M p (λ_=>0))=0:=by
 have:=xW M I 0 0 (λ_=>0) (λ_=>0);have e:(λc:Nat=>(0:Rat)*(λ_:Nat=>(0:Rat)) c+0*(λ_:Nat=>(0:Rat)) c)=λ_=>0:=by funext c; grind
 rw [e] at this;rw [this]; grind
theorem z6 {n:Nat} (M:Mt) {p:Nat} (I:p<n) (x:Nat->Rat) (Y:Mt):∀ k:Nat,qM n (row M p (λc=>sm k (λj=>x j*Y j c)))=sm k (λj=>x j*qM n (row M p (Y j)))
 | 0=>BG M I
 | k+1=>by
  have e:(λc=>sm (k+1) (λj=>x j*Y j c))=λc=>1*sm k (λj=>x j*Y j c)+x k*Y k c:=by
   funext c
   show sm k (λj=>x j*Y j c)+x k*Y k c=_;rw [Rat.one_mul]
  rw [e,xW M I 1 (x k) (λc=>sm k (λj=>x j*Y j c)) (Y k),z6 M I x Y k];show _=sm k _+_
  grind
theorem CL {n:Nat} (M:Mt) {p:Nat} (J:p<n) (x:Nat->Rat):qM n (row M p (λc=>sm n (λj=>x j*M j c)))=x p*qM n M:=by
 rw [z6 M J,AG J (λj O I=>?_),AD];have:qM n (row M p (M j))=0:=Ha J O (λe=>I e.symm) (λc=>by
  unfold row;rw [Oc rfl,Ob I])
 rw [this]; grind
theorem G5 {n:Nat}{M:Mt}{x b:Nat->Rat} (h:∀ c,c<n->sm n (λj=>x j*M j c)=b c) {p:Nat} (J:p<n):qM n (row M p b)=x p*qM n M:=by
 rw [<- CL M J];refine w_ (λr c O I=>?_);unfold row
 by_cases e:r=p
 ·rw [Oc e,Oc e]; exact (h c I).symm
 ·rw [Ob e,Ob e]
theorem CM:∀ {n:Nat}{M:Mt},(∀ c,c<n->M n c=0)->qM (n+1) M=M n n*qM n M
 | 0,M,_=>by
  show (0:Rat)+sg 0*M 0 0*1=M 0 0*1;have:sg 0=1:=rfl;rw [this]; grind
 | n+1,M,h=>by
  have e1:qM (n+1+1) M=sm (n+1) (λi=>sg i*M i 0*qM (n+1) (minor M i))+sg (n+1)*M (n+1) 0*qM (n+1) (minor M (n+1)):=rfl;have e2:qM (n+1) M=sm (n+1) (λi=>sg i*M i 0*qM n (minor M i)):=rfl;rw [e1,e2,h 0 (by omega),<- rK]
  have:sm (n+1) (λi=>sg i*M i 0*qM (n+1) (minor M i))=sm (n+1) (λi=>M (n+1) (n+1)*(sg i*M i 0*qM n (minor M i))):=by
   refine o_ (λi hi=>?_);have hs:skip i n=n+1:=by unfold skip; rw [Ob (by omega)]
   have hl:qM (n+1) (minor M i)=minor M i n n*qM n (minor M i):=CM (λc I=>by
    unfold minor;rw [hs];exact h (c+1) (by omega))
   have hm:minor M i n n=M (n+1) (n+1):=by unfold minor; rw [hs]
   rw [hl,hm]; grind
  rw [this]; grind
def uj (q:Rat):Prop:=∃ z:Int,q=(z:Rat)
theorem xZ {a b:Rat} (h:uj a) (k:uj b):uj (a+b):=by
 obtain ⟨x,rfl⟩:=h; obtain ⟨y,rfl⟩:=k
 exact ⟨x+y,(Rat.intCast_add x y).symm⟩
theorem sC {a b:Rat} (h:uj a) (k:uj b):uj (a*b):=by
 obtain ⟨x,rfl⟩:=h; obtain ⟨y,rfl⟩:=k
 exact ⟨x*y,(Tc x y).symm⟩
theorem K1 (i:Nat):uj (sg i):=by
 unfold sg
 split
 ·exact ⟨1,rfl⟩
 ·exact ⟨-1,rfl⟩
theorem D6 {f:Nat->Rat}:∀ {n:Nat},(∀ i,i<n->uj (f i))->uj (sm n f)
 | 0,_=>⟨0,rfl⟩
 | n+1,h=>by unfold sm; exact xZ (D6 (λi hi=>h i (by omega))) (h n (by omega))
theorem BF:∀ {n:Nat}{M:Mt},(∀ r c,r<n->c<n->uj (M r c))->uj (qM n M)
 | 0,_,_=>⟨1,rfl⟩
 | n+1,M,h=>by
  unfold qM;exact D6 (λi hi=>sC (sC (K1 i) (h i 0 hi (by omega))) (BF (λr c J I=>h _ _ (by unfold skip; split <;> omega) (by omega))))
theorem Ff (v w:Nat->Rat) (I:∀ i,0<=v i) (J:∀ i,0<=w i):∀ n:Nat,sm (n+1) (λi=>v i*pr n (λr=>w (skip i r)))+pr (n+1) w<=pr (n+1) (λr=>v r+w r)
 | 0=>by
  show 0+v 0*1+1*w 0<=1*(v 0+w 0)
  grind
 | n+1=>by
  have ih:=Ff v w I J n;have e1:sm (n+1+1) (λi=>v i*pr (n+1) (λr=>w (skip i r)))=sm (n+1) (λi=>v i*pr (n+1) (λr=>w (skip i r)))+v (n+1)*pr (n+1) (λr=>w (skip (n+1) r)):=rfl;have e2:sm (n+1) (λi=>v i*pr (n+1) (λr=>w (skip i r)))=w (n+1)*sm (n+1) (λi=>v i*pr n (λr=>w (skip i r))):=by
   rw [<- rK];refine o_ (λi hi=>?_);have:pr (n+1) (λr=>w (skip i r))=pr n (λr=>w (skip i r))*w (n+1):=by
    show pr n _*w (skip i n)=_;rw [show skip i n=n+1 by unfold skip; rw [Ob (by omega)]]
   rw [this]; grind
  have O:pr (n+1) (λr=>w (skip (n+1) r))=pr (n+1) w:=vE (λr hr=>by unfold skip; rw [Oc hr])
  have Y:pr (n+1+1) w=pr (n+1) w*w (n+1):=rfl;have Z:pr (n+1+1) (λr=>v r+w r)=pr (n+1) (λr=>v r+w r)*(v (n+1)+w (n+1)):=rfl;rw [e1,e2,O,Y,Z];have s0:0<=sm (n+1) (λi=>v i*pr n (λr=>w (skip i r))):=tn (λi _=>Rat.mul_nonneg (I i) (nc (λr _=>J _)));have m1:=Rat.mul_le_mul_of_nonneg_right ih (show (0:Rat)<=v (n+1)+w (n+1) by have:=I (n+1); have:=J (n+1); grind)
  have m2:=Ti s0 (I (n+1))
  grind
theorem DT:∀ {n:Nat}{M A:Mt},(∀ r c,0<=A r c)->(∀ r c,r<n->c<n->-A r c<=M r c/\M r c<=A r c)->-pr n (λr=>sm n (A r))<=qM n M/\qM n M<=pr n (λr=>sm n (A r))
 | 0,_,_,_,_=>by unfold qM pr; exact ⟨by decide,by decide⟩
 | n+1,M,A,h0,h=>by
  have I:∀ r,sm (n+1) (A r)=A r 0+sm n (λc=>A r (c+1)):=λr=>by
   have:∀ k,sm (k+1) (A r)=A r 0+sm k (λc=>A r (c+1)):=λk=>by
    induction k with
    | zero=>show 0+A r 0=A r 0+0; grind
    | succ k ih=>
     have e1:sm (k+1+1) (A r)=sm (k+1) (A r)+A r (k+1):=rfl;have e2:sm (k+1) (λc=>A r (c+1))=sm k (λc=>A r (c+1))+A r (k+1):=rfl;rw [e1,e2,ih]; grind
   exact this n
  have O:∀ r,0<=sm n (λc=>A r (c+1)):=λr=>tn (λc _=>h0 r (c+1));have hp:=Ff (λr=>A r 0) (λr=>sm n (λc=>A r (c+1))) (λr=>h0 r 0) O n;have hP:pr (n+1) (λr=>sm (n+1) (A r))=pr (n+1) (λr=>A r 0+sm n (λc=>A r (c+1))):=vE (λr _=>I r);have Z:=nc (n:=n+1) (f:=λr=>sm n (λc=>A r (c+1))) (λr _=>O r);have J:∀ i,i<n+1->-(A i 0*pr n (λr=>sm n (λc=>A (skip i r) (c+1))))<=sg i*M i 0*qM n (minor M i)/\sg i*M i 0*qM n (minor M i)<=A i 0*pr n (λr=>sm n (λc=>A (skip i r) (c+1))):=λi hi=>by
   obtain ⟨d1,d2⟩:=DT (n:=n) (M:=minor M i) (A:=λr c=>A (skip i r) (c+1)) (λr c=>h0 _ _) (λr c hr hc=>h _ _ (by unfold skip; split <;> omega) (by omega))
   obtain ⟨m1,m2⟩:=h i 0 hi (by omega)
   have key:∀ a b x y:Rat,-a<=x->x<=a->-b<=y->y<=b->-(a*b)<=x*y/\x*y<=a*b:=λa b x y h1 h2 h3 h4=>by
    have t1:=Rat.mul_nonneg (show (0:Rat)<=a-x by grind) (show (0:Rat)<=b-y by grind)
    have t2:=Rat.mul_nonneg (show (0:Rat)<=a+x by grind) (show (0:Rat)<=b+y by grind)
    have t3:=Rat.mul_nonneg (show (0:Rat)<=a-x by grind) (show (0:Rat)<=b+y by grind)
    have t4:=Rat.mul_nonneg (show (0:Rat)<=a+x by grind) (show (0:Rat)<=b-y by grind)
    constructor <;> grind
   obtain ⟨k1,k2⟩:=key _ _ _ _ m1 m2 d1 d2;unfold sg
   split
   ·constructor <;> grind
   ·constructor <;> grind
  rw [hP];have Y:sm (n+1) (λi=>A i 0*pr n (λr=>sm n (λc=>A (skip i r) (c+1))))<=pr (n+1) (λr=>A r 0+sm n (λc=>A r (c+1))):=by grind
  have up:qM (n+1) M<=sm (n+1) (λi=>A i 0*pr n (λr=>sm n (λc=>A (skip i r) (c+1)))):=Iw (λi hi=>(J i hi).2);have lo:sm (n+1) (λi=>(-1)*(A i 0*pr n (λr=>sm n (λc=>A (skip i r) (c+1)))))<=qM (n+1) M:=Iw (λi hi=>by have:=(J i hi).1; grind)
  rw [rK] at lo;constructor <;> grind
theorem Hb {k:Nat}{M:Mt}{x:Nat->Rat} (hx:x k=1) (O:∀ c,c<k->sm (k+1) (λj=>x j*M j c)=0):qM (k+1) M=sm (k+1) (λj=>x j*M j k)*qM k M:=by
 have I:=CL M (Oh k) x;rw [hx,Rat.one_mul] at I;rw [<- I];have Y:qM (k+1) (row M k (λc=>sm (k+1) (λj=>x j*M j c)))=(row M k (λc=>sm (k+1) (λj=>x j*M j c))) k k*qM k (row M k (λc=>sm (k+1) (λj=>x j*M j c))):=CM (λc J=>by
  unfold row;rw [Oc rfl];exact O c J)
 rw [Y];have Z:qM k (row M k (λc=>sm (k+1) (λj=>x j*M j c)))=qM k M:=w_ (λr c hr J=>by
  unfold row;rw [Ob (by omega)])
 rw [Z];unfold row;rw [Oc rfl]
theorem DR {k:Nat}{M:Mt}{x b:Nat->Rat} (J:∀ r c,r<k->c<k->uj (M r c)) (O:∀ c,c<k->uj (b c)) (h:∀ c,c<k->sm k (λj=>x j*M j c)=b c) {p:Nat} (Y:p<k):uj (x p*qM k M):=by
 rw [<- G5 h Y];refine BF (λr c Z I=>?_);unfold row
 by_cases e:r=p
 ·rw [Oc e]; exact O c I
 ·rw [Ob e]; exact J r c Z I
theorem B5 {f:Nat->Rat}:∀ {n:Nat},(∀ i,i<n->1<=f i)->1<=pr n f
 | 0,_=>by unfold pr; decide
 | n+1,h=>by
  unfold pr;have I:=B5 (n:=n) (λi hi=>h i (by omega))
  have J:=h n (by omega)
  have:=qw I J (by decide) (by decide)
  grind
theorem Ib {f:Nat->Rat}{s:Rat} (hs:0<=s) {p:Nat}:∀ {n:Nat},p<n->(∀ i,i<n->1<=f i)->pr n (λr=>if r=p then s else f r)<=pr n f*s
 | 0,h,_=>by omega
 | n+1,h,h1=>by
  have Y:∀ i,i<n+1->0<=f i:=λi hi=>by have:=h1 i hi; grind
  have I:=nc (n:=n) (f:=f) (λi hi=>Y i (by omega))
  by_cases e:p=n
  ·subst e
   show pr p (λr=>if r=p then s else f r)*(if p=p then s else f p)<=pr p f*f p*s
   rw [Oc rfl];have e2:pr p (λr=>if r=p then s else f r)=pr p f:=vE (λi hi=>Ob (by omega))
   rw [e2];have O:=Ti I hs;have:=qw (Te (a:=pr p f*s)) (h1 p (by omega)) O (by decide)
   grind
  ·show pr n (λr=>if r=p then s else f r)*(if n=p then s else f n)<=pr n f*f n*s
   rw [Ob (λe2:n=p=>e e2.symm)];have J:p<n:=by omega
   have ih:=Ib (f:=f) hs J (λi hi=>h1 i (Nat.lt_succ_of_lt hi));have:=Rat.mul_le_mul_of_nonneg_right ih (Y n (by omega))
   grind
theorem FM {k:Nat}{M A:Mt}{x b a:Nat->Rat}{S:Rat} (J:∀ r c,0<=A r c) (I:∀ c,0<=a c) (hM:∀ r c,r<k->c<k->-A r c<=M r c/\M r c<=A r c) (hb:∀ c,c<k->-a c<=b c/\b c<=a c)
  (Z:∀ r,r<k->1<=sm k (A r)) (hS:sm k a<=S) (h:∀ c,c<k->sm k (λj=>x j*M j c)=b c) {p:Nat} (hp:p<k):-(pr k (λr=>sm k (A r))*S)<=x p*qM k M/\x p*qM k M<=pr k (λr=>sm k (A r))*S:=by
 rw [<- G5 h hp];obtain ⟨d1,d2⟩:=DT (n:=k) (M:=row M p b) (A:=row A p a) (λr c=>by
  unfold row
  by_cases e:r=p
  ·rw [Oc e]; exact I c
  ·rw [Ob e]; exact J r c) (λr c O hc=>by
  unfold row
  by_cases e:r=p
  ·rw [Oc e,Oc e]; exact hb c hc
  ·rw [Ob e,Ob e]; exact hM r c O hc)
 have Y:0<=sm k a:=tn (λc _=>I c);have e1:pr k (λr=>sm k (row A p a r))=pr k (λr=>if r=p then sm k a else sm k (A r)):=vE (λr _=>by
  unfold row
  by_cases e:r=p
  ·rw [Oc e,Oc e]
  ·rw [Ob e,Ob e])
 rw [e1] at d1 d2;have h2:=Ib Y (p:=p) (n:=k) (f:=λr=>sm k (A r)) hp Z;have h3:=Rat.mul_le_mul_of_nonneg_left hS (nc (n:=k) (f:=λr=>sm k (A r)) (λr O=>by have:=Z r O; grind))
 have h4:=Rat.le_trans h2 h3;constructor <;> grind
def dl (i j:Nat):Rat:=if i=j then 1 else 0
theorem q9 (i:Nat):dl i i=1:=Oc rfl
theorem pY {i j:Nat} (h:i≠j):dl i j=0:=Ob h
structure Gj (n:Nat) (A:Mt) (k:Nat) (m:Mt):Prop where
 comb:∀ i c,i<n->c<n->m i c=sm n (λj=>m i (n+j)*A j c)
 right:∀ i j,i<n->j<n->k<=j->m i (n+j)=dl i j
 left:∀ i c,i<n->c<n->c<k->m i c=dl i c
def uG (k:Nat) (m:Mt):Mt:=λi c=>if i=k then m k c / m k k else m i c-m i k*(m k c / m k k)
theorem Gj.step {n:Nat}{A m:Mt}{k:Nat} (h:Gj n A k m) (hk:k<n) (hd:m k k≠0):Gj n A (k+1) (uG k m):=by
 have O:∀ c,c<k->m k c=0:=λc J=>by rw [h.left k c hk (by omega) J,pY (by omega)]
 have hkr:∀ j,j<n->k+1<=j->m k (n+j)=0:=λj Z Y=>by rw [h.right k j hk Z (by omega),pY (by omega)]
 have I:m k k / m k k=1:=by rw [Ta]; exact Th _ hd
 refine ⟨λi c hi J=>?_,λi j hi Z Y=>?_,λi c hi J hck=>?_⟩
 ·have e1:=h.comb i c hi J
  have e2:=h.comb k c hk J;unfold uG
  by_cases e:i=k
  ·subst e
   simp only [if_true];have:(λj=>m i (n+j) / m i i*A j c)=λj=>(m i i)⁻¹*(m i (n+j)*A j c):=by funext j; rw [Rat.div_def]; grind
   rw [this,rK,<- e2,Rat.div_def]; grind
  ·simp only [Ob e]
   have:(λj=>(m i (n+j)-m i k*(m k (n+j) / m k k))*A j c)=λj=>m i (n+j)*A j c+(-(m i k*(m k k)⁻¹))*(m k (n+j)*A j c):=by funext j; rw [Rat.div_def]; grind
   rw [this,v_,rK,<- e1,<- e2,Rat.div_def]; grind
 ·unfold uG
  have e1:=hkr j Z Y
  by_cases e:i=k
  ·subst e
   rw [if_pos rfl,e1,pY (by omega),Rat.div_def]; grind
  ·rw [if_neg e,e1,h.right i j hi Z (by omega),Rat.div_def]; grind
 ·unfold uG
  by_cases e:i=k
  ·subst e
   rw [Oc rfl]
   by_cases e2:c=i
   ·subst e2; rw [I,q9]
   ·rw [O c (by omega),pY (λe3=>e2 e3.symm),Rat.div_def]; grind
  ·rw [Ob e]
   by_cases e2:c=k
   ·subst e2; rw [I,pY e]; grind
   ·rw [O c (by omega),h.left i c hi J (by omega),Rat.div_def]; grind
def Pd (n:Nat) (A:Mt):Prop:=∀ x:Nat->Rat,sm n (λc=>x c*sm n (λj=>x j*A j c))=0->∀ i,i<n->x i=0
theorem Gj.dP {n:Nat}{A m:Mt}{k:Nat} (h:Gj n A k m) (hp:Pd n A) (J:k<n):m k k≠0:=by
 intro Z;have h1:=hp (λj=>m k (n+j)) (vd (λc O=>by
  have e1:=(h.comb k c J O).symm;show m k (n+c)*sm n (λj=>m k (n+j)*A j c)=0;rw [e1];rcases QJ c k with I | I | I
  ·rw [h.left k c J O I,pY (by omega)]; grind
  ·subst I; rw [Z]; grind
  ·rw [h.right k c J O (by omega),pY (by omega)]; grind)) k J
 have h2:=h.right k k J J (Ov k);have Y:m k (n+k)=0:=h1;rw [h2,q9] at Y;exact absurd Y (by decide)
theorem Gj.KS {n:Nat}{A m:Mt}{k:Nat} (h:Gj n A k m) (O:k<=n) {i:Nat} (hi:i<n) {c:Nat} (J:c<n):m i c=sm k (λj=>m i (n+j)*A j c)+(if k<=i then A i c else 0):=by
 have key:∀ q,k<=q->q<=n->sm q (λj=>m i (n+j)*A j c)=sm k (λj=>m i (n+j)*A j c)+(if k<=i/\i<q then A i c else 0):=by
  intro q Z
  induction q with
  | zero=>
   intro _;obtain rfl:k=0:=by omega
   rw [if_neg (by omega)]; grind
  | succ q ih=>
   intro Y
   by_cases e:k=q+1
   ·rw [<- e,if_neg (by omega)]; grind
   ·have e1:sm (q+1) (λj=>m i (n+j)*A j c)=sm q (λj=>m i (n+j)*A j c)+m i (n+q)*A q c:=rfl
    rw [e1,ih (by omega) (by omega),h.right i q hi (by omega) (by omega)]
    by_cases e2:i=q
    ·subst e2
     rw [q9,if_neg (by omega),if_pos ⟨by omega,by omega⟩]; grind
    ·rw [pY e2]
     by_cases I:k<=i/\i<q
     ·rw [if_pos I,if_pos ⟨I.1,by omega⟩]; grind
     ·rw [if_neg I,if_neg (by omega)]; grind
 rw [h.comb i c hi J,key n O (Ov n)]
 by_cases e:k<=i
 ·rw [Oc ⟨e,hi⟩,Oc e]
 ·rw [Ob (λe2=>e e2.1),Ob e]
theorem Gj.qM {n:Nat}{A m:Mt}{k:Nat} (h:Gj n A k m) (I:k<n) {L:Nat->Rat} (hL:∀ i,i<n->L i≠0):Sim.qM (k+1) (λr c=>L r*A r c)=L k*m k k*Sim.qM k (λr c=>L r*A r c):=by
 have J:∀ c,c<n->sm (k+1) (λj=>(L k*m k (n+j) / L j)*(L j*A j c))=L k*m k c:=λc J=>by
  have e1:=h.KS (Nat.le_of_lt I) I J;rw [Oc (Ov k)] at e1;have e2:sm (k+1) (λj=>(L k*m k (n+j) / L j)*(L j*A j c))=sm (k+1) (λj=>L k*(m k (n+j)*A j c)):=o_ (λj hj=>by
   have:=Th (L j) (hL j (by omega))
   rw [Rat.div_def]; grind)
  rw [e2,rK];have Y:sm (k+1) (λj=>m k (n+j)*A j c)=sm k (λj=>m k (n+j)*A j c)+m k (n+k)*A k c:=rfl;rw [Y,h.right k k I I (Nat.le_refl k),q9,e1]; grind
 have Z:=Hb (k:=k) (M:=λr c=>L r*A r c) (x:=λj=>L k*m k (n+j) / L j) (by
  rw [h.right k k I I (Ov k),q9,Rat.mul_one,Ta];exact Th _ (hL k I)) (λc O=>by
  rw [J c (by omega),h.left k c I (by omega) O,pY (by omega)]; grind)
 rw [Z,J k I]
structure Gy (n:Nat) (A:Mt) (L:Nat->Rat) (B:Mt) (R:Nat->Rat):Prop where
 li:∀ i,i<n->uj (L i)
 l1:∀ i,i<n->1<=L i
 ai:∀ i c,i<n->c<n->uj (L i*A i c)
 b0:∀ i c,0<=B i c
 b1:∀ i,i<n->1<=B i i
 ab:∀ i c,i<n->c<n->-B i c<=L i*A i c/\L i*A i c<=B i c
 rs:∀ i,i<n->sm n (B i)<=R i
theorem zA {f:Nat->Rat} (h:∀ i,0<=f i) {k:Nat}:∀ {n:Nat},k<=n->sm k f<=sm n f
 | 0,hk=>by
  obtain rfl:k=0:=by omega
  exact Te
 | n+1,hk=>by
  by_cases e:k=n+1
  ·subst e; exact Te
  ·have J:=zA h (k:=k) (n:=n) (by omega)
   have O:=h n;have I:sm (n+1) f=sm n f+f n:=rfl;rw [I]
   grind
theorem KF {f:Nat->Rat} (h:∀ i,0<=f i) {k p:Nat} (Y:p<k):f p<=sm k f:=by
 have I:=zA h (k:=p+1) (n:=k) (by omega)
 have J:=tn (n:=p) (f:=f) (λi _=>h i);have O:sm (p+1) f=sm p f+f p:=rfl
 grind
theorem Gy.K_ {n:Nat}{A B:Mt}{L R:Nat->Rat} (h:Gy n A L B R) {k r:Nat} (I:r<k) (Y:k<=n):1<=sm k (B r):=by
 have J:=KF (h.b0 r) I;have O:=h.b1 r (by omega)
 grind
theorem Gy.R1 {n:Nat}{A B:Mt}{L R:Nat->Rat} (h:Gy n A L B R) {r:Nat} (I:r<n):1<=R r:=by
 have J:=h.K_ I (Ov n);have O:=h.rs r I
 grind
theorem Fe {f:Nat->Rat}{k:Nat}:∀ {n:Nat},k<=n->(∀ i,i<n->1<=f i)->pr k f<=pr n f
 | 0,hk,_=>by
  obtain rfl:k=0:=by omega
  exact Te
 | n+1,hk,h=>by
  by_cases e:k=n+1
  ·subst e; exact Te
  ·have J:=Fe (k:=k) (n:=n) (by omega) (λi hi=>h i (by omega))
   have O:=qw (Rat.le_refl (a:=pr n f)) (h n (by omega)) (nc (λi hi=>by have:=h i (by omega); grind)) (by decide)
   have I:pr (n+1) f=pr n f*f n:=rfl;rw [I]
   grind
theorem Gy.prod {n:Nat}{A B:Mt}{L R:Nat->Rat} (h:Gy n A L B R) {k:Nat} (I:k<=n):pr k (λr=>sm k (B r))<=pr n R:=by
 have O:pr k (λr=>sm k (B r))<=pr k R:=Fc (λr J=>by have:=h.K_ J I; grind) (λr J=>Rat.le_trans (zA (h.b0 r) I) (h.rs r (by omega)))
 exact Tf O (Fe I (λi hi=>h.R1 hi))
theorem Gy.qM {n:Nat}{A B:Mt}{L R:Nat->Rat} (h:Gy n A L B R) {k:Nat} (J:k<=n):uj (Sim.qM k (λr c=>L r*A r c))/\-pr n R<=Sim.qM k (λr c=>L r*A r c)/\Sim.qM k (λr c=>L r*A r c)<=pr n R:=by
 refine ⟨BF (λr c O I=>h.ai r c (by omega) (by omega)),?_⟩
 obtain ⟨d1,d2⟩:=DT (n:=k) (M:=λr c=>L r*A r c) (A:=B) h.b0 (λr c O I=>h.ab r c (by omega) (by omega))
 have:=h.prod J;constructor <;> grind
theorem Gj.num {n:Nat}{A B m:Mt}{L R:Nat->Rat}{k:Nat} (h:Gj n A k m) (s:Gy n A L B R) (J:k<=n) {i p:Nat} (hi:i<n) (hp:p<k):
  ∃ N:Rat,uj N/\-(pr n R*R i)<=N/\N<=pr n R*R i/\(if k<=i then L i else 1)*m i (n+p)*Sim.qM k (λr c=>L r*A r c)=N*L p:=by
 have hL:∀ j,j<n->L j≠0:=λj Z e=>by have:=s.l1 j Z; rw [e] at this; exact absurd this (by decide)
 have hx:∀ c,c<k->sm k (λj=>((if k<=i then L i else 1)*m i (n+j) / L j)*((λr c=>L r*A r c) j c))=if k<=i then -(L i*A i c) else dl i c:=λc I=>by
  have e1:=h.KS J hi (c:=c) (by omega)
  have e2:sm k (λj=>((if k<=i then L i else 1)*m i (n+j) / L j)*((λr c=>L r*A r c) j c))=sm k (λj=>(if k<=i then L i else 1)*(m i (n+j)*A j c)):=o_ (λj Z=>by
   have:=Th (L j) (hL j (by omega))
   simp only [Ta]
   grind)
  rw [e2,rK];have Y:=h.left i c hi (by omega) I
  by_cases e:k<=i
  ·rw [Oc e,Oc e]
   rw [Oc e,Y,pY (by omega)] at e1
   grind
  ·rw [Ob e,Ob e]
   rw [Ob e,Y] at e1
   grind
 have hb:∀ c,c<k->uj (if k<=i then -(L i*A i c) else dl i c):=λc I=>by
  by_cases e:k<=i
  ·rw [Oc e]
   obtain ⟨z,hz⟩:=s.ai i c hi (by omega)
   exact ⟨-z,by rw [hz,Td]⟩
  ·rw [Ob e]
   unfold dl
   split
   ·exact ⟨1,rfl⟩
   ·exact ⟨0,rfl⟩
 have hB:∀ c,c<k->-(B i c)<=(if k<=i then -(L i*A i c) else dl i c)/\(if k<=i then -(L i*A i c) else dl i c)<=B i c:=λc I=>by
  have h1:=s.ab i c hi (by omega)
  have h2:=s.b0 i c
  by_cases e:k<=i
  ·rw [Oc e]
   constructor <;> grind
  ·rw [Ob e]
   unfold dl
   split
   ·rename_i e2
    subst e2;have:=s.b1 i hi;constructor <;> grind
   ·constructor <;> grind
 have c1:=DR (k:=k) (M:=λr c=>L r*A r c) (λr c O I=>s.ai r c (by omega) (by omega)) hb hx hp
 obtain ⟨c2,c3⟩:=FM (k:=k) (M:=λr c=>L r*A r c) (A:=B) (a:=B i) (S:=R i) s.b0 (s.b0 i) (λr c O I=>s.ab r c (by omega) (by omega)) hB (λr O=>s.K_ O J) (Tf (zA (s.b0 i) J) (s.rs i hi)) hx hp
 have hP:=Rat.mul_le_mul_of_nonneg_right (s.prod J) (show (0:Rat)<=R i by have:=s.R1 hi; grind)
 refine ⟨_,c1,by grind,by grind,?_⟩
 have:=Th (L p) (hL p (by omega))
 rw [Ta]
 grind
def qf (n:Nat) (x:Nat->Rat) (A:Mt):Rat:=sm n (λc=>x c*sm n (λj=>x j*A j c))
theorem Ig (n:Nat) (x:Nat->Rat) (A I:Mt):qf n x (λj c=>A j c+I j c)=qf n x A+qf n x I:=by
 unfold qf;rw [<- v_];refine o_ (λc _=>?_);have:sm n (λj=>x j*(A j c+I j c))=sm n (λj=>x j*A j c)+sm n (λj=>x j*I j c):=by
  rw [<- v_];exact o_ (λj _=>by grind)
 rw [this]; grind
theorem Ih (n:Nat) (x e:Nat->Rat) (b:Rat):qf n x (λj c=>b*e j*e c)=b*(sm n (λj=>x j*e j)*sm n (λj=>x j*e j)):=by
 unfold qf;have I:sm n (λc=>x c*sm n (λj=>x j*(b*e j*e c)))=sm n (λc=>(b*sm n (λj=>x j*e j))*(x c*e c)):=o_ (λc _=>by
  have:sm n (λj=>x j*(b*e j*e c))=sm n (λj=>(b*e c)*(x j*e j)):=o_ (λj _=>by grind)
  rw [this,rK]; grind)
 rw [I,rK]; grind
def jZ:List (Rat×(Nat->Rat))->Mt
 | []=>λ_ _=>0
 | be::l=>λj c=>be.1*be.2 j*be.2 c+jZ l j c
theorem sq_nonneg (a:Rat):0<=a*a:=by
 rcases (Rat.le_total:(0:Rat)<=a\/a<=0) with h | h
 ·exact Ti h h
 ·have:=Rat.mul_nonneg (show (0:Rat)<=-a by grind) (show (0:Rat)<=-a by grind)
  grind
theorem Ae (n:Nat) (x:Nat->Rat):∀ (l:List (Rat×(Nat->Rat))),(∀ be ∈ l,0<be.1)->0<=qf n x (jZ l)
 | [],_=>by
  have:qf n x (jZ [])=0:=vd (λc _=>by
   rw [vd (λj _=>by show x j*0=0; grind)]; grind)
  rw [this]; exact Te
 | be::l,h=>by
  have O:=Ae n x l (λb J=>h b (Od _ J));have I:=h be (Oa ..);have e:qf n x (jZ (be::l))=be.1*(sm n (λj=>x j*be.2 j)*sm n (λj=>x j*be.2 j))+qf n x (jZ l):=by
   rw [<- Ih,<- Ig]; rfl
  rw [e];have Y:=Ti (Rat.le_of_lt I) (sq_nonneg (sm n (λj=>x j*be.2 j)))
  grind
theorem C2 (n:Nat) (x:Nat->Rat):∀ (l:List (Rat×(Nat->Rat))),(∀ be ∈ l,0<be.1)->qf n x (jZ l)=0->∀ be ∈ l,sm n (λj=>x j*be.2 j)=0
 | [],_,_,be,I=>by simp at I
 | be::l,h,h0,b,I=>by
  have h1:=Ae n x l (λb I=>h b (Od _ I));have J:=h be (Oa ..);have e:qf n x (jZ (be::l))=be.1*(sm n (λj=>x j*be.2 j)*sm n (λj=>x j*be.2 j))+qf n x (jZ l):=by
   rw [<- Ih,<- Ig]; rfl
  rw [e] at h0;have h3:=Rat.mul_nonneg (Rat.le_of_lt J) (sq_nonneg (sm n (λj=>x j*be.2 j)));have Z:qf n x (jZ l)=0:=by grind
  have h5:be.1*(sm n (λj=>x j*be.2 j)*sm n (λj=>x j*be.2 j))=0:=by grind
  rcases OM.1 I with rfl | I
  ·rcases Tg.1 h5 with O | O
   ·rw [O] at J; exact absurd J (Rat.lt_irrefl)
   ·rcases Tg.1 O with Y | Y <;> exact Y
  ·exact C2 n x l (λb I=>h b (Od _ I)) Z b I
inductive Lk (l:List (Rat×Nat×Nat)) (u:Nat):Nat->Prop
 | refl:Lk l u u
 | step {b:Rat}{v w:Nat}:Lk l u v->((b,v,w) ∈ l\/(b,w,v) ∈ l)->Lk l u w
def nI (F:Nat->Nat) (e:Rat×Nat×Nat):Rat×(Nat->Rat):=(e.1,λj=>dl (F j) e.2.1-dl (F j) e.2.2)
theorem LZ {n:Nat}{F:Nat->Nat}{l:List (Rat×Nat×Nat)} (hb:∀ e ∈ l,0<e.1) (hF:∀ i j,i<n->j<n->F i=F j->i=j)
  (hr:∀ i,i<n->∃ r,(∀ j,j<n->F j≠r)/\Lk l (F i) r):Pd n (jZ (l.map (nI F))):=by
 intro x h0 i hi;have hz:=C2 n x (l.map (nI F)) (λbe O=>by
  obtain ⟨e,J,rfl⟩:=Pg.1 O;exact hb e J) h0
 have hd:∀ p q:Nat,sm n (λj=>x j*(dl (F j) p-dl (F j) q))=sm n (λj=>x j*dl (F j) p)-sm n (λj=>x j*dl (F j) q):=λp q=>by
  have I:sm n (λj=>x j*(dl (F j) p-dl (F j) q))=sm n (λj=>x j*dl (F j) p+(-1)*(x j*dl (F j) q)):=o_ (λj _=>by grind)
  rw [I,v_,rK]; grind
 have J:∀ (b:Rat) (p q:Nat),(b,p,q) ∈ l->sm n (λj=>x j*dl (F j) p)=sm n (λj=>x j*dl (F j) q):=λb p q h=>by
  have I:sm n (λj=>x j*(dl (F j) p-dl (F j) q))=0:=hz (nI F (b,p,q)) (Pg.2 ⟨_,h,rfl⟩);have h2:=hd p q
  grind
 have hl:∀ u v,Lk l u v->sm n (λj=>x j*dl (F j) u)=sm n (λj=>x j*dl (F j) v):=λu v h=>by
  induction h with
  | refl=>rfl
  | step _ h ih=>
   rcases h with h | h
   ·rw [ih]; exact J _ _ _ h
   ·rw [ih]; exact (J _ _ _ h).symm
 obtain ⟨r,hr1,hr2⟩:=hr i hi;have I:=hl _ _ hr2;have h2:sm n (λj=>x j*dl (F j) r)=0:=vd (λj Y=>by rw [pY (hr1 j Y)]; grind)
 have h3:sm n (λj=>x j*dl (F j) (F i))=x i*dl (F i) (F i):=AG hi (λj Y Z=>by rw [pY (λe=>Z (hF j i Y hi e))]; grind)
 rw [h2,h3,q9] at I
 grind
end Go.Sim
