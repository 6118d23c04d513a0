/-
  The proof, part F1.
-/
import Derived.Lib.ItoaNum
import Derived.Lib.ParseIntB
import Derived.KernelRfl
import Derived.Test.YtcfeheigjjnpnaaGreatDoorSqA2
set_option linter.unusedVariables false
set_option linter.unusedSimpArgs false
set_option linter.unusedSectionVars false
set_option linter.unnecessarySimpa false
namespace Go.Sim
abbrev Mr := @BitVec.ofInt_natCast
abbrev Ms := @BitVec.toNat_ofNat
abbrev Mu := @Bool.eq_false_or_eq_true
abbrev Mv := @Bool.or_eq_false_iff
abbrev My := @Int.mul_add
abbrev Mz := @Int.mul_assoc
abbrev MA := @Int.mul_sub
abbrev MB := @Int.natCast_add
abbrev MD := @Go.Lib.decDigits_one
abbrev MH := @List.drop_of_length_le
abbrev MI := @List.eq_nil_or_concat
abbrev MM := @List.getLast?_eq_getElem?
abbrev MN := @List.head?_cons
abbrev MO := @List.length_eq_one_iff
abbrev MP := @List.length_nil
abbrev MQ := @List.length_pos_iff
abbrev MR := @List.mem_or_eq_of_mem_set
abbrev MS := @List.mem_replicate
abbrev MW := @Nat.and_two_pow_sub_one_eq_mod
abbrev MX := @Nat.div_eq_of_lt
abbrev MY := @Nat.div_lt_iff_lt_mul
abbrev MZ := @Nat.le_div_iff_mul_le
abbrev M3 := @Nat.lt_of_lt_of_le
abbrev M4 := @Nat.lt_of_mul_lt_mul_left
abbrev M5 := @Nat.mod_add_div
abbrev M6 := @Nat.mul_add
abbrev M7 := @Nat.mul_assoc
abbrev M8 := @Nat.mul_comm
abbrev M9 := @Nat.mul_le_mul_left
abbrev M_ := @Nat.mul_zero
abbrev Na := @Nat.pow_add
abbrev Nc := @Nat.pow_le_pow_left
abbrev Nd := @Nat.pow_le_pow_right
abbrev Nf := @Nat.pow_lt_pow_iff_right
abbrev Ng := @Nat.pow_mul
abbrev Nh := @Nat.pow_pos
abbrev Ni := @Nat.pow_succ
abbrev Nj := @Nat.pow_zero
abbrev No := @Rat.divInt_nonneg_iff_of_pos_right
abbrev Np := @Rat.div_def
abbrev Nr := @Rat.intCast_mul
abbrev Ns := @Rat.intCast_neg
abbrev Nt := @Rat.le_refl
abbrev Nu := @Rat.le_trans
abbrev Nv := @Rat.mul_eq_zero
abbrev Nw := @Rat.mul_inv_cancel
abbrev Nx := @Rat.mul_nonneg
abbrev NB := @decide_eq_false
abbrev NC := @decide_eq_false_iff_not
end Go.Sim
namespace Go.Sim
open Go
open _root_.Go.IntKind (i64 u64 u32 u8)
abbrev WB:Nat:=4294967296
def nv:List bG→Nat
 | []=>0
 | y::l=>y.n.toNat+WB*nv l
def Wf (l:List bG):Prop:=∀ y ∈ l,0≤y.n∧y.n<4294967296
theorem Wf.nil:Wf []:=fun y h=>by cases h
theorem Wf.app {a b:List bG} (ha:Wf a) (hb:Wf b):Wf (a++b):=fun y h=>by
 rcases HV.1 h with h | h
 ·exact ha y h
 ·exact hb y h
theorem Wf.one {v:Int} (h:0≤v∧v<4294967296):Wf [⟨v⟩]:=fun y hy=>by
 rw [IJ] at hy; subst hy; exact h
theorem Wf.take {l:List bG} (h:Wf l) (k:Nat):Wf (l.take k):=fun y hy=>h y (JV hy)
theorem xr:∀ (a b:List bG),nv (a++b)=nv a+WB ^ a.length*nv b
 | [],b=>by simp [nv]
 | y::a,b=>by
  rw [JQ,nv,xr a b,nv,Hz,Ni];rw [M6,← M7,M8 (WB ^ a.length) WB,JT]
theorem vK (y:bG):nv [y]=y.n.toNat:=by simp [nv]
theorem pI (a:List bG) (y:bG):nv (a++[y])=nv a+WB ^ a.length*y.n.toNat:=by rw [xr,vK]
theorem ob:∀ {l:List bG},Wf l→nv l<WB ^ l.length
 | [],_=>by simp [nv]
 | y::l,h=>by
  have h1:=ob (l:=l) (fun z hz=>h z (Ho _ hz));have h2:=h y (by simp)
  rw [nv,Hz,Ni];have:WB*nv l+WB≤WB ^ l.length*WB:=by
   rw [M8 (WB ^ l.length) WB,← Nat.mul_succ];exact M9 _ h1
  have:y.n.toNat<WB:=by show y.n.toNat<4294967296; omega
  omega
theorem mL {l:List bG}{k:Nat}{y:bG} (h:l[k]? = some y):nv (l.take (k+1))=nv (l.take k)+WB ^ k*y.n.toNat:=by
 have hk:=(G6.1 h).1;rw [List.take_add_one,h];show nv (l.take k++[y])=_;rw [pI,HT,Ix (by omega)]
theorem C5 (n:Nat):nv (List.replicate n (⟨0⟩:bG))=0:=by
 induction n with
 | zero=>rfl
 | succ n ih=>rw [J5,nv,ih]; rfl
theorem ra {l:List bG}{k:Nat}{v:bG} (h:k<l.length):(l.set k v).take (k+1)=l.take k++[v]:=by
 rw [List.take_add_one,HS h,J6 (HH _)]; rfl
theorem rJ (n:Int):u32.wrap n=n%4294967296:=by simp [IntKind.wrap,IntKind.bits,IntKind.signed]
theorem xB (n:Int):u64.wrap n=n%18446744073709551616:=by simp [IntKind.wrap,IntKind.bits,IntKind.signed]
theorem eP {n:Int} (h:0≤n∧n<18446744073709551616):u64.wrap n=n:=by rw [xB]; omega
theorem wM (n:Int):jA .u64 n 32=n / 4294967296:=by
 unfold jA;rw [show (min (32:Int).toNat u64.bits)=32 by decide,Kb _ (by decide)]
 rfl
theorem Dn (n:Int):jA .i64 n 32=n / 4294967296:=by
 unfold jA;rw [show (min (32:Int).toNat i64.bits)=32 by decide,Kb _ (by decide)]
 rfl
abbrev LI:=aB
structure oh (a:LI):Prop where
 wf:Wf a.words
 top:∀ y,a.words.getLast? = some y→y.n≠0
 sign:a.minus=true→a.words≠[]
def eK (a:LI):Int:=if a.minus=true then -(nv a.words:Int) else (nv a.words:Int)
theorem oV (minus:Bool):∀ (w:List bG),Wf w→w.length≤1000000→Gd (fJ minus w) (fun r=>oh r∧r.words.length≤w.length∧nv r.words=nv w∧(r.minus=true↔minus=true∧nv w≠0)):=by
 intro w hw hl;unfold fJ;refine Gd.fD (fun (l:List bG)=>Wf l∧l.length≤w.length∧nv l=nv w) (fun l=>l.length) ?_ eB w ⟨hw,HH _,rfl⟩ (by simp only [eB]; omega)
 rintro l nx ⟨h1,h2,h3⟩ hnx;have fin:(∀ y,l.getLast? = some y→y.n≠0)→Gd (kL minus l) (fun r=>oh r∧r.words.length≤w.length∧nv r.words=nv w∧(r.minus=true↔minus=true∧nv w≠0)):=fun ht=>by
  have hz:nv l=0→l=[]:=fun h0=>by
   rcases MI l with h | ⟨a,y,h⟩
   ·exact h
   ·exfalso
    have h:l=a++[y]:=by simpa using h
    have hy:=ht y (by rw [h]; simp)
    have hyw:=h1 y (by rw [h]; simp)
    rw [h,pI] at h0;have hp:0<WB ^ a.length:=Nh (by decide)
    have:0<WB ^ a.length*y.n.toNat:=Nat.mul_pos hp (by omega)
    omega
  unfold kL;refine Gd.ite (fun hm=>Gd.ret ⟨⟨h1,ht,?_⟩,h2,h3,?_⟩) (fun hm=>Gd.ret ⟨⟨h1,ht,fun h=>by cases h⟩,h2,h3,?_⟩)
  ·intro h e
   have h:decide (0<(l.length:Int))=true:=h;have e:l=[]:=e;rw [e] at h; simp at h
  ·constructor
   ·intro h
    have h:0<(l.length:Int):=Hk h;refine ⟨hm,fun h0=>?_⟩;rw [← h3] at h0;have:=hz h0;rw [this] at h; simp at h
   ·intro h
    show decide (0<(l.length:Int))=true;rw [IF];cases l with
    | nil=>exact absurd (h3.symm.trans rfl) h.2
    | cons a b=>simp
  ·rw [hm]
   constructor
   ·intro h; cases h
   ·intro h; cases h.1
 unfold po;refine Gd.ite (fun h=>?_) (fun h=>fin (fun y hy=>?_))
 ·have hpos:0<l.length:=by have:=Hk h; omega
  have hw1:i64.wrap ((l.length:Int)-1)=((l.length-1:Nat):Int):=by rw [bP ⟨by omega,by omega⟩]; omega
  rw [hw1];refine Gd.iU (by omega) (Gd.ite (fun h0=>?_) (fun h0=>fin (fun y hy=>?_)))
  ·have h0:(l[l.length-1]).n=0:=Hk h0
   refine Gd.nd ⟨by omega,by omega⟩ ?_
   have hs:nr l 0 (((l.length-1:Nat):Int).toNat)=l.take (l.length-1):=by simp [nr]
   rw [hs];refine hnx _ ⟨h1.take _,by rw [HT]; omega,?_⟩ (by rw [HT]; omega)
   have:=mL (l:=l) (k:=l.length-1) (G9 (by omega))
   rw [show l.length-1+1=l.length by omega,I5,h0] at this
   rw [← h3,this]; simp
  ·have h0:(l[l.length-1]).n≠0:=Hv h0
   rw [MM,G9 (by omega)] at hy
   rw [← G7 hy]; exact h0
 ·have h:¬ 0<(l.length:Int):=Hv h
  have:l=[]:=H7 (by omega)
  rw [this] at hy; cases hy
theorem xY {a b:List bG} (ha:Wf a) (hb:Wf b) (hl:b.length≤a.length) (hz:a.length≤1000000):
  Gd (iM a b) (fun r=>Wf r∧r.length=a.length+1∧nv r=nv a+nv b):=by
 have w1:i64.wrap ((a.length:Int)+1)=((a.length+1:Nat):Int):=by rw [bP ⟨by omega,by omega⟩]; omega
 unfold iM;rw [w1];refine Gd.nd ⟨by omega,by omega⟩ ?_
 refine Gd.jT (fun m k (z:List bG×Int)=>k+m=a.length∧z.1.length=a.length+1∧Wf z.1∧0≤z.2∧z.2≤1∧nv (z.1.take k)+WB ^ k*z.2.toNat=nv (a.take k)+nv (b.take k)) ?_ ?_ _ 0 _ ⟨by simp,by simp,fun y hy=>?_,Kj _,by show (0:Int)≤1; omega,by simp [nv]⟩
 ·rintro m k ⟨l,c⟩ nx ⟨h0,h1,h2,h3,h4,h5⟩ hnx
  simp only at h1 h2 h3 h4 h5 hnx ⊢;have hka:k<a.length:=by omega
  have hkn:((k:Int)).toNat=k:=by omega
  obtain ⟨y,hy⟩:∃ y,a[k]? = some y:=⟨_,G9 hka⟩;have hyw:=ha y (Hu hy);have fin:∀ (n:Int) (x:Nat),n=c+y.n+x→x<WB→nv (b.take (k+1))=nv (b.take k)+WB ^ k*x→Gd (iL l nx k n) _:=fun n x hn hx hb1=>by
   unfold iL;rw [wM,hkn,rJ];have hx:x<4294967296:=hx;refine Gd.iU (by omega) (hnx _ ⟨by omega,by simp [h1],?_,by simp only; omega,by simp only; omega,?_⟩)
   ·intro z hz
    rcases MR hz with hz | hz
    ·exact h2 z hz
    ·rw [hz]; simp only; omega
   ·simp only
    rw [ra (by omega),pI,HT,Ix (by omega),mL hy,hb1]
    simp only;have e1:(n%4294967296).toNat+WB*(n / 4294967296).toNat=c.toNat+y.n.toNat+x:=by
     show (n%4294967296).toNat+4294967296*(n / 4294967296).toNat=_;omega
    have e2:WB ^ k*(n%4294967296).toNat+WB ^ (k+1)*(n / 4294967296).toNat=WB ^ k*c.toNat+WB ^ k*y.n.toNat+WB ^ k*x:=by
     rw [Ni,M7,← M6,e1,M6,M6]
    omega
  unfold mR;refine Gd.ix (by omega) (by rw [hkn]; exact hy) (Gd.ite (fun h=>?_) (fun h=>?_))
  ·have hkb:k<b.length:=by have:=Hk h; omega
   obtain ⟨x,hx⟩:∃ x,b[k]? = some x:=⟨_,G9 hkb⟩;have hxw:=hb x (Hu hx);refine Gd.ix (by omega) (by rw [hkn]; exact hx) (fin _ x.n.toNat ?_ (by show x.n.toNat<4294967296; omega) (mL hx))
   rw [eP (n:=y.n) (by omega),eP (n:=c+y.n) (by omega),eP (n:=x.n) (by omega),eP (by omega)]
   omega
  ·have hkb:b.length≤k:=by have:=Hv h; omega
   refine fin _ 0 ?_ (by decide) ?_
   ·rw [eP (n:=y.n) (by omega),eP (by omega)]; simp
   ·rw [HN (by omega),HN (by omega)]; simp
 ·rintro k ⟨l,c⟩ ⟨h0,h1,h2,h3,h4,h5⟩
  simp only at h1 h2 h3 h4 h5 ⊢;have hk:k=a.length:=by omega
  subst hk;have hln:((a.length:Int)).toNat=a.length:=by omega
  rw [hln,rJ];refine Gd.iU (by omega) (Gd.ret ⟨?_,by simp [h1],?_⟩)
  ·intro z hz
   rcases MR hz with hz | hz
   ·exact h2 z hz
   ·rw [hz]; simp only; omega
  ·have e:=ra (l:=l) (k:=a.length) (v:=⟨c%4294967296⟩) (by omega)
   rw [HN (by simp; omega)] at e
   rw [e,pI,HT,Ix (by omega)]
   simp only;rw [I5,HN hl] at h5;rw [show (c%4294967296).toNat=c.toNat by omega]
   exact h5
 ·rw [MS] at hy
  rw [hy.2]; simp
theorem Ff {a b:List bG} (ha:Wf a) (hb:Wf b) (hza:a.length≤1000000) (hzb:b.length≤1000000):
  Gd (lA a b) (fun r=>Wf r∧r.length=max a.length b.length+1∧nv r=nv a+nv b):=by
 unfold lA;refine Gd.ite (fun h=>(xY hb ha (by have:=Hk h; omega) hzb).mono ?_) (fun h=>(xY ha hb (by have:=Hv h; omega) hza).mono ?_)
 ·rintro r ⟨h1,h2,h3⟩
  have:=Hk h;exact ⟨h1,by omega,by omega⟩
 ·rintro r ⟨h1,h2,h3⟩
  have:=Hv h;exact ⟨h1,by omega,by omega⟩
def qH (l:List bG):Prop:=∀ y,l.getLast? = some y→y.n≠0
theorem yD {l:List bG} (hw:Wf l) (ht:qH l) (hne:l≠[]):WB ^ (l.length-1)≤nv l:=by
 rcases MI l with h | ⟨a,y,h⟩
 ·exact absurd h hne
 ·have h:l=a++[y]:=by simpa using h
  have hy:=ht y (by rw [h]; simp)
  have hyw:=hw y (by rw [h]; simp)
  rw [h,pI,HQ,Is,Nat.add_sub_cancel];have:WB ^ a.length*1≤WB ^ a.length*y.n.toNat:=M9 _ (by omega)
  omega
theorem qk {a b:List bG} (ha:Wf a) (hb:Wf b) (htb:qH b) (h:a.length<b.length):nv a<nv b:=by
 have h1:=ob ha;have h2:=yD hb htb (by intro e; rw [e] at h; simp at h)
 have h3:WB ^ a.length≤WB ^ (b.length-1):=Nd (by decide) (by omega)
 omega
theorem C2 {a b:List bG} (ha:Wf a) (hb:Wf b):a.length=b.length→nv a=nv b→a=b:=by
 induction a generalizing b with
 | nil=>intro h _; exact (H7 h.symm).symm
 | cons x a ih=>
  intro h e;cases b with
  | nil=>simp at h
  | cons y b=>
   have hx:=ha x (by simp); have hy:=hb y (by simp)
   rw [nv,nv] at e;have e1:x.n.toNat=y.n.toNat:=by
    have:=HB (·%WB) e;simp only [Nat.add_mul_mod_self_left] at this;rw [Jr (by show x.n.toNat<4294967296; omega),Jr (by show y.n.toNat<4294967296; omega)] at this
    exact this
   have e2:nv a=nv b:=by
    rw [e1] at e;exact Nat.eq_of_mul_eq_mul_left (by decide) (Nat.add_left_cancel e)
   have:=ih (fun z hz=>ha z (Ho _ hz)) (fun z hz=>hb z (Ho _ hz)) (by simpa using h) e2
   cases x; cases y
   simp only at e1 hx hy;rw [this]
   congr 2; omega
theorem mF {l:List bG}{k:Nat}{x:bG} (h:l[k]? = some x):l.drop k=x::l.drop (k+1):=by
 obtain ⟨hk,hx⟩:=G6.1 h;rw [Il hk,hx]
theorem q7 {l:List bG}{k:Nat}{x:bG} (h:l[k]? = some x):nv l=nv (l.take k)+WB ^ k*(x.n.toNat+WB*nv (l.drop (k+1))):=by
 have hk:=(G6.1 h).1;have e:nv l=nv (l.take k++l.drop k):=by rw [I2]
 rw [e,xr,mF h,HT,Ix (by omega)]
 rfl
def Gb (r:Int) (x y:Nat):Prop:=(r<0↔x<y)∧(r=0↔x=y)
theorem Cd {a b : List bG} (ha : Wf a) (hb : Wf b) (hta : qH a) (htb : qH b) (hza : a.length ≤ 1000000) (hzb : b.length ≤ 1000000) : Gd (ko a b) (fun r => Gb r (nv a) (nv b)) := by
  unfold ko;refine Gd.ite (fun h => Gd.ret ?_) (fun h => ?_)
  · have h : ¬ (a.length : Int) = b.length := by simpa using h
    rw [bP ⟨by omega, by omega⟩]
    rcases Nat.lt_or_gt_of_ne (show a.length ≠ b.length by omega) with hl | hl
    · have := qk ha hb htb hl
      exact ⟨⟨fun _ => this, fun _ => by omega⟩, ⟨fun h => by omega, fun h => by omega⟩⟩
    · have := qk hb ha hta hl
      exact ⟨⟨fun h => by omega, fun h => by omega⟩, ⟨fun h => by omega, fun h => by omega⟩⟩
  · have hl : a.length = b.length := by have : (a.length : Int) = b.length := by simpa using h
                                        omega
    rw [bP ⟨by omega, by omega⟩]
    refine Gd.fD (fun (i : Int) => -1 ≤ i ∧ i < a.length ∧ a.drop (i + 1).toNat = b.drop (i + 1).toNat) (fun i => (i + 1).toNat) ?_ eB _ ⟨by omega, by omega, ?_⟩ (by simp only [eB]; omega)
    · rintro i nx ⟨h1, h2, h3⟩ hnx
      unfold mS;refine Gd.ite (fun hi => ?_) (fun hi => Gd.ret ?_)
      · have hi : 0 ≤ i := Hk hi
        obtain ⟨k, rfl⟩ : ∃ k : Nat, i = k := ⟨i.toNat, by omega⟩
        obtain ⟨x, hx⟩ : ∃ x, a[k]? = some x := ⟨_, G9 (by omega)⟩
        obtain ⟨y, hy⟩ : ∃ y, b[k]? = some y := ⟨_, G9 (by omega)⟩
        have hxw := ha x (Hu hx); have hyw := hb y (Hu hy)
        have hkn : ((k : Int)).toNat = k := by omega
        rw [show ((k : Int) + 1).toNat = k + 1 by omega] at h3
        have sa := q7 hx;have sb := q7 hy;rw [← h3] at sb;have la := ob (ha.take k); have lb := ob (hb.take k)
        rw [HT, Ix (by omega)] at la lb
        generalize nv (a.drop (k + 1)) = T at sa sb;generalize nv (a.take k) = ta at sa la;generalize nv (b.take k) = tb at sb lb;generalize WB ^ k = P at sa sb la lb;have lt_of_lt : ∀ (u v tu tv : Nat), u < v → tu < P → tu + P * (u + WB * T) < tv + P * (v + WB * T) := fun u v tu tv huv hu => by
          have : P * (u + 1) ≤ P * v := M9 _ huv;rw [M6] at this;rw [M6, M6];omega
        refine Gd.ix (by omega) (by rw [hkn]; exact hx) (Gd.ix (by omega) (by rw [hkn]; exact hy) (Gd.ite (fun hne => ?_) (fun he => ?_)))
        · have hne : ¬ x.n = y.n := by simpa using hne
          refine Gd.ix (by omega) (by rw [hkn]; exact hx) (Gd.ix (by omega) (by rw [hkn]; exact hy) (Gd.ite (fun hlt => Gd.ret ?_) (fun hlt => Gd.ret ?_)))
          · have hlt : x.n < y.n := Hk hlt
            have := lt_of_lt x.n.toNat y.n.toNat ta tb (by omega) la
            rw [← sa, ← sb] at this;exact ⟨⟨fun _ => this, fun _ => by omega⟩, ⟨fun h => by omega, fun h => by omega⟩⟩
          · have hlt : ¬ x.n < y.n := Hv hlt
            have := lt_of_lt y.n.toNat x.n.toNat tb ta (by omega) lb
            rw [← sa, ← sb] at this;exact ⟨⟨fun h => by omega, fun h => by omega⟩, ⟨fun h => by omega, fun h => by omega⟩⟩
        · have he : x.n = y.n := by simpa using he
          rw [bP ⟨by omega, by omega⟩]
          refine hnx _ ⟨by omega, by omega, ?_⟩ (by omega)
          rw [show ((k : Int) - 1 + 1).toNat = k by omega, mF hx, mF hy, h3]
          have : x = y := by cases x; cases y; simp only at he; rw [he]
          rw [this]
      · have hi : ¬ 0 ≤ i := Hv hi
        have : (i + 1).toNat = 0 := by omega
        rw [this, Jg, Jg] at h3;rw [h3];exact ⟨⟨fun h => by omega, fun h => by omega⟩, ⟨fun _ => rfl, fun _ => rfl⟩⟩
    · rw [show ((a.length : Int) - 1 + 1).toNat = a.length by omega, KU, MH (by omega)]
theorem Du {a b:List bG} (ha:Wf a) (hb:Wf b) (hle:nv b≤nv a) (hl:b.length≤a.length) (hz:a.length≤1000000):
  Gd (ks a b) (fun r=>Wf r∧r.length=a.length∧nv r=nv a-nv b):=by
 unfold ks;refine Gd.nd ⟨by omega,by omega⟩ ?_
 refine Gd.jT (fun m k (z:List bG×Int)=>k+m=a.length∧z.1.length=a.length∧Wf z.1∧-1≤z.2∧z.2≤0∧(nv (z.1.take k):Int)+(WB ^ k:Nat)*z.2=nv (a.take k)-nv (b.take k)) ?_ ?_ _ 0 _ ⟨by simp,by simp,fun y hy=>?_,by show (-1:Int)≤0; omega,Kj _,by simp [nv]⟩
 ·rintro m k ⟨l,c⟩ nx ⟨h0,h1,h2,h3,h4,h5⟩ hnx
  simp only at h1 h2 h3 h4 h5 hnx ⊢;have hka:k<a.length:=by omega
  have hkn:((k:Int)).toNat=k:=by omega
  obtain ⟨y,hy⟩:∃ y,a[k]? = some y:=⟨_,G9 hka⟩;have hyw:=ha y (Hu hy);have fin:∀ (n:Int) (x:Nat),n=c+y.n-x→x<WB→nv (b.take (k+1))=nv (b.take k)+WB ^ k*x→Gd (iN l nx k n) _:=fun n x hn hx hb1=>by
   unfold iN;rw [Dn,hkn,rJ];have hx:x<4294967296:=hx;refine Gd.iU (by omega) (hnx _ ⟨by omega,by simp [h1],?_,by simp only; omega,by simp only; omega,?_⟩)
   ·intro z hz
    rcases MR hz with hz | hz
    ·exact h2 z hz
    ·rw [hz]; simp only; omega
   ·simp only
    rw [ra (by omega),pI,HT,Ix (by omega),mL hy,hb1]
    simp only;have e1:((n%4294967296).toNat:Int)+4294967296*(n / 4294967296)=c+y.n.toNat-x:=by omega
    have e2:((WB ^ k:Nat):Int)*((n%4294967296).toNat:Int)+((WB ^ (k+1):Nat):Int)*(n / 4294967296)=((WB ^ k:Nat):Int)*c+((WB ^ k:Nat):Int)*(y.n.toNat:Int)-((WB ^ k:Nat):Int)*(x:Int):=by
     rw [Ni,Ip,Mz,← My,show ((WB:Nat):Int)=4294967296 from rfl,e1,MA,My]
    simp only [MB,Ip] at *
    omega
  unfold mU;refine Gd.ix (by omega) (by rw [hkn]; exact hy) (Gd.ite (fun h=>?_) (fun h=>?_))
  ·have hkb:k<b.length:=by have:=Hk h; omega
   obtain ⟨x,hx⟩:∃ x,b[k]? = some x:=⟨_,G9 hkb⟩;have hxw:=hb x (Hu hx);refine Gd.ix (by omega) (by rw [hkn]; exact hx) (fin _ x.n.toNat ?_ (by show x.n.toNat<4294967296; omega) (mL hx))
   rw [bP (n:=y.n) (by omega),bP (n:=c+y.n) (by omega),bP (n:=x.n) (by omega),bP (by omega)]
   omega
  ·have hkb:b.length≤k:=by have:=Hv h; omega
   refine fin _ 0 ?_ (by decide) ?_
   ·rw [bP (n:=y.n) (by omega),bP (by omega)]; simp
   ·rw [HN (by omega),HN (by omega)]; simp
 ·rintro k ⟨l,c⟩ ⟨h0,h1,h2,h3,h4,h5⟩
  simp only at h1 h2 h3 h4 h5 ⊢;have hk:k=a.length:=by omega
  subst hk;rw [I5,HN hl,HN (by omega)] at h5
  have hlt:=ob h2;rw [h1] at hlt;have hc:c=0:=by
   rcases (show c = -1∨c=0 by omega) with h | h
   ·exfalso; rw [h] at h5; omega
   ·exact h
  rw [hc] at h5;exact Gd.ret ⟨h2,h1,by omega⟩
 ·rw [MS] at hy
  rw [hy.2]; simp
theorem oh.tp {a:LI} (h:oh a):qH a.words:=h.top
theorem so {r:LI}{m:Bool}{n:Nat} (h1:nv r.words=n) (h2:r.minus=true↔m=true∧n≠0):eK r=if m=true then -(n:Int) else n:=by
 unfold eK;rw [h1]
 by_cases hr:r.minus=true
 ·rw [Hl hr,Hl (h2.1 hr).1]
 ·rw [Hh hr]
  by_cases hm:m=true
  ·have:n=0:=by
    by_cases hn:n=0
    ·exact hn
    ·exact absurd (h2.2 ⟨hm,hn⟩) hr
   rw [Hl hm,this]; rfl
  ·rw [Hh hm]
theorem xp {a:LI} (h:oh a) (hz:a.words.length≤1000000):Gd (iP a) (fun r=>oh r∧r.words.length≤a.words.length∧eK r = -eK a):=by
 unfold iP;refine Gd.eJ (oV (!a.minus) a.words h.wf hz) (fun r hr=>Gd.ret ⟨hr.1,hr.2.1,?_⟩);rw [so hr.2.2.1 hr.2.2.2];unfold eK;cases a.minus <;> simp
theorem xg {a b:LI} (ha:oh a) (hb:oh b) (hza:a.words.length≤900000) (hzb:b.words.length≤900000):
  Gd (iO a b) (fun r=>oh r∧r.words.length≤max a.words.length b.words.length+1∧eK r=eK a+eK b):=by
 unfold iO;refine Gd.ite (fun h=>?_) (fun h=>?_)
 ·have h:a.minus=b.minus:=Hk h
  refine Gd.eJ (Ff ha.wf hb.wf (by omega) (by omega)) (fun w hw=>Gd.eJ (oV a.minus w hw.1 (by omega)) (fun r hr=>Gd.ret ⟨hr.1,by omega,?_⟩))
  rw [so hr.2.2.1 hr.2.2.2,hw.2.2];unfold eK;rw [← h];cases a.minus <;> simp <;> omega
 ·have h:a.minus≠b.minus:=Hv h
  refine Gd.eJ (Cd ha.wf hb.wf ha.tp hb.tp (by omega) (by omega)) (fun c hc=>Gd.ite (fun h0=>?_) (fun h0=>?_))
  ·have h0:0≤c:=Hk h0
   have hle:nv b.words≤nv a.words:=by
    have:=hc.1; omega
   have hlen:b.words.length≤a.words.length:=by
    rcases Jx a.words.length b.words.length with hlt | hge
    ·have:=qk ha.wf hb.wf hb.tp hlt; omega
    ·exact hge
   refine Gd.eJ (Du ha.wf hb.wf hle hlen (by omega)) (fun w hw=>Gd.eJ (oV a.minus w hw.1 (by omega)) (fun r hr=>Gd.ret ⟨hr.1,by omega,?_⟩))
   rw [so hr.2.2.1 hr.2.2.2,hw.2.2];unfold eK;cases ea:a.minus <;> cases eb:b.minus <;> first | (rw [ea,eb] at h; exact absurd rfl h) | (simp; omega)
  ·have h0:¬ 0≤c:=Hv h0
   have hlt:nv a.words<nv b.words:=hc.1.1 (by omega)
   have hlen:a.words.length≤b.words.length:=by
    rcases Jx b.words.length a.words.length with hl | hge
    ·have:=qk hb.wf ha.wf ha.tp hl; omega
    ·exact hge
   refine Gd.eJ (Du hb.wf ha.wf (by omega) hlen (by omega)) (fun w hw=>Gd.eJ (oV b.minus w hw.1 (by omega)) (fun r hr=>Gd.ret ⟨hr.1,by omega,?_⟩))
   rw [so hr.2.2.1 hr.2.2.2,hw.2.2];unfold eK;cases ea:a.minus <;> cases eb:b.minus <;> first | (rw [ea,eb] at h; exact absurd rfl h) | (simp; omega)
theorem D7 {a b:LI} (ha:oh a) (hb:oh b) (hza:a.words.length≤900000) (hzb:b.words.length≤900000):
  Gd (kJ a b) (fun r=>oh r∧r.words.length≤max a.words.length b.words.length+1∧eK r=eK a-eK b):=by
 unfold kJ;refine Gd.eJ (xp hb (by omega)) (fun c hc=>Gd.eJ (xg ha hc.1 hza (by omega)) (fun r hr=>Gd.ret ⟨hr.1,by omega,by rw [hr.2.2,hc.2.2]; omega⟩))
theorem vL {l:List bG}{k:Nat}{x v:bG} (h:l[k]? = some x):nv (l.set k v)+WB ^ k*x.n.toNat=nv l+WB ^ k*v.n.toNat:=by
 have hk:=(G6.1 h).1;have h1:=q7 h;have h2:nv (l.set k v)=nv (l.take k)+WB ^ k*(v.n.toNat+WB*nv (l.drop (k+1))):=by
  have:=q7 (l:=l.set k v) (k:=k) (x:=v) (HS hk);rw [J6 (HH _),J4 (by omega)] at this
  exact this
 rw [M6] at h1 h2;omega
theorem Wf.set {l:List bG} (h:Wf l) {k:Nat}{v:Int} (hv:0≤v∧v<4294967296):Wf (l.set k ⟨v⟩):=fun z hz=>by
 rcases MR hz with hz | hz
 ·exact h z hz
 ·rw [hz]; exact hv
theorem CZ {nz nz' nz0 P W c ql x y s B T:Nat} (h1:nz'+P*ql=nz+P*(s%W)) (hs:s=c+ql+x*y) (h2:nz+P*c=nz0+x*T*B):nz'+P*W*(s / W)=nz0+x*T*B+P*x*y:=by
 have hd:s%W+W*(s / W)=s:=M5 s W;have e:P*(s%W)+P*(W*(s / W))=P*s:=by rw [← M6,hd]
 have e2:P*s=P*c+P*ql+P*(x*y):=by rw [hs,M6,M6]
 rw [M7 P W,M7 P x];omega
theorem qL {a b:LI} (ha:oh a) (hb:oh b) (hz:a.words.length+b.words.length≤900000):
  Gd (dV a b) (fun r=>oh r∧r.words.length≤a.words.length+b.words.length∧eK r=eK a*eK b):=by
 have wN:i64.wrap ((a.words.length:Int)+(b.words.length:Int))=((a.words.length+b.words.length:Nat):Int):=by rw [bP ⟨by omega,by omega⟩]; omega
 unfold dV;rw [wN];refine Gd.nd ⟨by omega,by omega⟩ ?_
 refine Gd.dW (fun i ys (z:List bG)=>ys=a.words.drop i∧i≤a.words.length∧z.length=a.words.length+b.words.length∧Wf z∧nv z=nv (a.words.take i)*nv b.words∧∀ q,i+b.words.length≤q→∀ y,z[q]? = some y→y.n=0) ?_ ?_ _ 0 _ ⟨by simp,by omega,by simp; omega,fun y hy=>?_,by rw [C5]; simp [nv],fun q _ y hy=>?_⟩
 ·rintro i x ys z0 nx ⟨e0,e1,e2,e3,e4,e5⟩ hnx
  have hi:i<a.words.length:=by
   have:=HB List.length e0;simp at this; omega
  have hx:a.words[i]? = some x:=by
   have:=HB (·[0]?) e0;simpa [Ib] using this.symm
  have hys:ys=a.words.drop (i+1):=by
   have:=HB (List.drop 1) e0;simpa using this
  have hxw:=ha.wf x (Hu hx);unfold nE;refine Gd.dW (fun k bs (z:List bG×Int)=>bs=b.words.drop k∧k≤b.words.length∧z.1.length=a.words.length+b.words.length∧Wf z.1∧0≤z.2∧z.2<4294967296∧nv z.1+WB ^ (i+k)*z.2.toNat=nv z0+x.n.toNat*nv (b.words.take k)*WB ^ i∧∀ q,i+k≤q→z.1[q]? = z0[q]?) ?_ ?_ _ 0 _ ⟨by simp,by omega,e2,e3,Kj _,by show (0:Int)<4294967296; omega,by simp [nv],fun q _=>rfl⟩
  ·rintro k y bs ⟨l,c⟩ nx2 ⟨f0,f1,f2,f3,f4,f5,f6,f7⟩ hnx2
   simp only at f2 f3 f4 f5 f6 f7 hnx2 ⊢;have hk:k<b.words.length:=by
    have:=HB List.length f0;simp at this; omega
   have hy:b.words[k]? = some y:=by
    have:=HB (·[0]?) f0;simpa [Ib] using this.symm
   have hbs:bs=b.words.drop (k+1):=by
    have:=HB (List.drop 1) f0;simpa using this
   have hyw:=hb.wf y (Hu hy);obtain ⟨o,ho⟩:∃ o,l[i+k]? = some o:=⟨_,G9 (by omega)⟩
   have how:=f3 o (Hu ho);have wj:i64.wrap ((i:Int)+(k:Int))=((i+k:Nat):Int):=by rw [bP ⟨by omega,by omega⟩]; omega
   have hkn:(((i+k:Nat):Int)).toNat=i+k:=by omega
   have hxy0:0≤x.n*y.n:=Int.mul_nonneg hxw.1 hyw.1;have hxy:x.n*y.n≤4294967295*4294967295:=Int.mul_le_mul (by omega) (by omega) hyw.1 (by omega)
   have hs:u64.wrap (c+(u64.wrap ((u64.wrap (o.n))+(u64.wrap ((u64.wrap (x.n))*(u64.wrap (y.n)))))))=c+o.n+x.n*y.n:=by
    rw [eP (n:=o.n) (by omega),eP (n:=x.n) (by omega),eP (n:=y.n) (by omega),eP (n:=x.n*y.n) (by omega),eP (n:=o.n+x.n*y.n) (by omega),eP (by omega)]
    omega
   unfold nF;rw [wj];refine Gd.ix (by omega) (by rw [hkn]; exact ho) (Gd.ix (by omega) (by rw [hkn]; exact ho) ?_)
   rw [hs,hkn,wM,rJ];have hxyn:x.n*y.n=((x.n.toNat*y.n.toNat:Nat):Int):=by
    rw [Ip,KV hxw.1,KV hyw.1]
   have hsn:c+o.n+x.n*y.n=((c.toNat+o.n.toNat+x.n.toNat*y.n.toNat:Nat):Int):=by rw [hxyn]; omega
   refine hnx2 _ ⟨hbs,by omega,by simp [f2],f3.set (by omega),by simp only; omega,by simp only; omega,?_,fun q hq=>?_⟩
   ·simp only
    have g:=vL (l:=l) (k:=i+k) (x:=o) (v:=⟨(c+o.n+x.n*y.n)%4294967296⟩) ho;simp only at g;have g1:((c+o.n+x.n*y.n)%4294967296).toNat=(c.toNat+o.n.toNat+x.n.toNat*y.n.toNat)%WB:=by rw [hsn]; show _=_%4294967296; omega
    have g2:((c+o.n+x.n*y.n) / 4294967296).toNat=(c.toNat+o.n.toNat+x.n.toNat*y.n.toNat) / WB:=by rw [hsn]; show _=_ / 4294967296; omega
    rw [g1] at g;have:=CZ g rfl f6;rw [g2,show i+(k+1)=(i+k)+1 by omega,Ni,this,mL hy,Na]
    rw [M6,HI,JT]
    congr 2
    rw [M8 (WB ^ i) (WB ^ k),M8 (WB ^ k*WB ^ i) x.n.toNat,M7,M7,M7,M7,M8 y.n.toNat,M8 (WB ^ i) y.n.toNat]
   ·simp only
    rw [HM (by omega)]
    exact f7 q (by omega)
  ·rintro k ⟨l,c⟩ ⟨f0,f1,f2,f3,f4,f5,f6,f7⟩
   simp only at f2 f3 f4 f5 f6 f7 ⊢;have hk:k=b.words.length:=by
    have:=HB List.length f0;simp at this; omega
   subst hk;have wj:i64.wrap ((i:Int)+(b.words.length:Int))=((i+b.words.length:Nat):Int):=by rw [bP ⟨by omega,by omega⟩]; omega
   have hkn:(((i+b.words.length:Nat):Int)).toNat=i+b.words.length:=by omega
   obtain ⟨o,ho⟩:∃ o,l[i+b.words.length]? = some o:=⟨_,G9 (by omega)⟩
   have ho0:o.n=0:=e5 _ (HH _) o (by rw [← f7 _ (HH _)]; exact ho)
   rw [wj];refine Gd.ix (by omega) (by rw [hkn]; exact ho) ?_
   rw [hkn,rJ,show c%4294967296=c by omega]
   refine hnx _ ⟨hys,by omega,by simp [f2],f3.set (by omega),?_,fun q hq y hy=>?_⟩
   ·have g:=vL (l:=l) (k:=i+b.words.length) (x:=o) (v:=⟨c⟩) ho
    simp only [ho0] at g;rw [I5] at f6;rw [mL hx,HI,← e4];have e:WB ^ i*x.n.toNat*nv b.words=x.n.toNat*nv b.words*WB ^ i:=by rw [M8 (WB ^ i),M7,M8 (WB ^ i),← M7]
    rw [e];simp at g;omega
   ·rw [HM (by omega),f7 _ (by omega)] at hy
    exact e5 _ (by omega) y hy
 ·rintro i z ⟨e0,e1,e2,e3,e4,e5⟩
  have hi:i=a.words.length:=by
   have:=HB List.length e0;simp at this; omega
  subst hi;rw [I5] at e4;refine Gd.eJ (oV _ z e3 (by omega)) (fun r hr=>Gd.ret ⟨hr.1,by omega,?_⟩)
  rw [so hr.2.2.1 hr.2.2.2,e4];unfold eK;cases a.minus <;> cases b.minus <;> simp [Int.mul_neg,Int.neg_mul]
 ·rw [MS] at hy
  rw [hy.2]; simp
 ·have:=Hu hy
  rw [MS] at this;rw [this.2]
theorem tF {r y:Int} (hr:0≤r∧r<4294967296) (hy:0≤y∧y<4294967296):
  u64.wrap ((BitVec.ofInt (u64).bits (kD .u64 r 32) ||| BitVec.ofInt (u64).bits (u64.wrap y)).toNat)=r*4294967296+y:=by
 obtain ⟨n,rfl⟩:∃ n:Nat,r=n:=⟨r.toNat,by omega⟩
 obtain ⟨m,rfl⟩:∃ m:Nat,y=m:=⟨y.toNat,by omega⟩
 have e1:kD .u64 (n:Int) 32=((n*4294967296:Nat):Int):=by
  unfold kD;rw [show (min (32:Int).toNat u64.bits)=32 by decide,xB]
  show (n:Int)*4294967296%18446744073709551616=_;omega
 rw [e1,eP (n:=(m:Int)) (by omega)]
 show u64.wrap (((BitVec.ofInt 64 ((n*4294967296:Nat):Int) ||| BitVec.ofInt 64 ((m:Nat):Int)).toNat:Nat):Int)=_;rw [Mr,Mr,BitVec.toNat_or,Ms,Ms,Jr (by omega),Jr (by omega)]
 have e2:n*4294967296 ||| m=n*4294967296+m:=by
  have:=Nat.shiftLeft_add_eq_or_of_lt (i:=32) (b:=m) (by omega) n
  rw [Nat.shiftLeft_eq] at this;exact this.symm
 rw [e2,eP (by omega)]
 omega
theorem Bz {r y d:Int} (hr:0≤r∧r<d) (hy:0≤y∧y<4294967296) (hd:0<d∧d<4294967296):
  ∃ q m:Nat,Int.tdiv (r*4294967296+y) d=q∧Int.tmod (r*4294967296+y) d=m∧q<4294967296∧(m:Int)<d∧m+d.toNat*q=WB*r.toNat+y.toNat:=by
 obtain ⟨dn,rfl⟩:∃ dn:Nat,d=dn:=⟨d.toNat,by omega⟩
 obtain ⟨rn,rfl⟩:∃ rn:Nat,r=rn:=⟨r.toNat,by omega⟩
 obtain ⟨Y,rfl⟩:∃ Y:Nat,y=Y:=⟨y.toNat,by omega⟩
 have hdn:0<dn:=by omega
 have e:∀ W:Nat,Y<W→∃ q m:Nat,Int.tdiv ((rn:Int)*W+Y) dn=q∧Int.tmod ((rn:Int)*W+Y) dn=m∧q<W∧m<dn∧m+dn*q=W*rn+Y:=fun W hW=>by
  have hN:rn*W+Y<dn*W:=by
   have:(rn+1)*W≤dn*W:=HD _ (by omega)
   rw [HI] at this;omega
  have hc:(rn:Int)*W+Y=((rn*W+Y:Nat):Int):=by rw [MB,Ip]
  rw [hc];refine ⟨(rn*W+Y) / dn,(rn*W+Y)%dn,rfl,rfl,?_,KA _ hdn,?_⟩
  ·rw [MY hdn,M8 W dn]; exact hN
  ·rw [M5,M8 rn W]
 obtain ⟨q,m,h1,h2,h3,h4,h5⟩:=e WB (by show Y<4294967296; omega)
 refine ⟨q,m,h1,h2,h3,by omega,?_⟩
 simp only [Ha];exact h5
theorem BB {q dn B m Y rn:Nat} (h1:m+dn*q=WB*rn+Y):(q+WB*B)*dn+m=Y+WB*(B*dn+rn):=by
 rw [HI,M6,M7 WB,M8 q dn];generalize dn*q=Z at h1;generalize WB*rn=X at h1 ⊢;generalize WB*(B*dn)=T;omega
theorem yO {a:List bG} (ha:Wf a) (hz:a.length≤1000000) {d:Int} (hd:0<d∧d<4294967296):
  Gd (kr a d) (fun r=>Wf r.1∧r.1.length=a.length∧nv r.1=nv a / d.toNat∧r.2=(nv a%d.toNat:Nat)):=by
 unfold kr;refine Gd.nd ⟨by omega,by omega⟩ ?_
 rw [bP ⟨by omega,by omega⟩]
 refine Gd.fD (fun (z:List bG×Int×Int)=>-1≤z.2.2∧z.2.2<a.length∧z.1.length=a.length∧Wf z.1∧0≤z.2.1∧z.2.1<d∧nv (z.1.drop (z.2.2+1).toNat)*d.toNat+z.2.1.toNat=nv (a.drop (z.2.2+1).toNat)) (fun z=>(z.2.2+1).toNat) ?_ eB _ ⟨by simp only; omega,by simp only; omega,by simp,fun y hy=>?_,Kj _,by simp only; omega,?_⟩ (by simp only [eB]; omega)
 ·rintro ⟨l,r,i⟩ nx ⟨h1,h2,h3,h4,h5,h6,h7⟩ hnx
  simp only at h1 h2 h3 h4 h5 h6 h7 hnx ⊢;unfold mT;refine Gd.ite (fun hi=>?_) (fun hi=>Gd.ret ?_)
  ·have hi:0≤i:=Hk hi
   obtain ⟨k,rfl⟩:∃ k:Nat,i=k:=⟨i.toNat,by omega⟩
   obtain ⟨y,hy⟩:∃ y,a[k]? = some y:=⟨_,G9 (by omega)⟩
   have hyw:=ha y (Hu hy);have hkn:((k:Int)).toNat=k:=by omega
   rw [eP (n:=d) (by omega)]
   refine Gd.ix (by omega) (by rw [hkn]; exact hy) (Gd.nd (by omega) (Gd.iU (show k<l.length by omega) (Gd.nd (by omega) ?_)))
   rw [tF ⟨h5,by omega⟩ hyw]
   rw [show ((k:Int)+1).toNat=k+1 by omega] at h7
   obtain ⟨q,m,e1,e2,hqlt,hmlt,hdm⟩:=Bz ⟨h5,h6⟩ hyw hd;rw [e1,e2,hkn,eP (n:=(q:Int)) (by omega),rJ,bP ⟨by omega,by omega⟩,show (q:Int)%4294967296=(q:Int) by omega]
   refine hnx _ ⟨by simp only; omega,by simp only; omega,by simp [h3],h4.set (by omega),by simp only; omega,by simp only; omega,?_⟩ (by simp only; omega)
   simp only;rw [show ((k:Int)-1+1).toNat=k by omega,mF hy,mF (l:=l.set k _) (HS (by omega)),J4 (by omega),nv,nv,← h7]
   simp only [Ha];exact BB hdm
  ·have hi:¬ 0≤i:=Hv hi
   rw [show (i+1).toNat=0 by omega,Jg,Jg] at h7
   have hdn:0<d.toNat:=by omega
   refine ⟨h4,h3,?_,?_⟩
   ·simp only
    rw [← h7,M8,Nat.mul_add_div hdn,MX (by omega)]; rfl
   ·simp only
    rw [rJ,← h7,M8,Nat.mul_add_mod,Jr (by omega)]
    omega
 ·rw [MS] at hy
  rw [hy.2]; simp
 ·simp only
  rw [show ((a.length:Int)-1+1).toNat=a.length by omega,KU,MH (by simp)]
  simp [nv]
theorem vO {n:Int} (h:-9223372036854775808≤n∧n≤9223372036854775807):Gd (jQ n) (fun r=>oh r∧r.words.length≤2∧eK r=n):=by
 have core:∀ m:Int,0≤m→m<18446744073709551616→(m=n∧0≤n∨m = -n∧n<0)→Gd (lZ n m) (fun r=>oh r∧r.words.length≤2∧eK r=n):=fun m h0 h1 h2=>by
  unfold lZ;rw [wM,rJ,rJ];have hw:Wf [⟨m%4294967296⟩,⟨m / 4294967296%4294967296⟩]:=fun y hy=>by
   rcases Ik.1 hy with rfl | hy
   ·simp only; omega
   ·rw [IJ] at hy; subst hy; simp only; omega
  have hv:nv [⟨m%4294967296⟩,⟨m / 4294967296%4294967296⟩]=m.toNat:=by
   simp only [nv];show (m%4294967296).toNat+4294967296*((m / 4294967296%4294967296).toNat+4294967296*0)=_;omega
  refine Gd.eJ (oV _ _ hw (by simp)) (fun r hr=>Gd.ret ⟨hr.1,hr.2.1,?_⟩)
  rw [so hr.2.2.1 hr.2.2.2,hv];rcases h2 with ⟨rfl,h2⟩ | ⟨rfl,h2⟩
  ·rw [Hh (by simp; omega)]; omega
  ·rw [Hl (by simp; omega)]; omega
 unfold jQ;refine Gd.ite (fun h0=>core _ ?_ ?_ (.inr ⟨?_,?_⟩)) (fun h0=>core _ ?_ ?_ (.inl ⟨?_,?_⟩))
 ·rw [xB]; omega
 ·rw [xB]; omega
 ·have:=Hk h0
  rw [xB,xB]; omega
 ·exact Hk h0
 ·rw [xB]; omega
 ·rw [xB]; omega
 ·have:=Hv h0
  rw [xB]; omega
 ·have:=Hv h0; omega
theorem FB {c x s:Nat} (hs:s≤31) (hc:c<2 ^ s) (hx:x<4294967296):
  u64.wrap ((BitVec.ofInt (u64).bits (c:Int) ||| BitVec.ofInt (u64).bits (kD .u64 (u64.wrap (x:Int)) (s:Int))).toNat)=((c+x*2 ^ s:Nat):Int):=by
 have hp:(2:Nat) ^ s≤2147483648:=Nd (by decide) hs
 have hx2:x*2 ^ s≤4294967295*2147483648:=Nat.mul_le_mul (by omega) hp
 rw [eP (n:=(x:Int)) (by omega)]
 have e1:kD .u64 (x:Int) (s:Int)=((x*2 ^ s:Nat):Int):=by
  unfold kD;rw [show (min ((s:Int)).toNat u64.bits)=s by show min ((s:Int)).toNat 64=s; omega]
  rw [show (x:Int)*2 ^ s=((x*2 ^ s:Nat):Int) by rw [Ip,Int.natCast_pow]; rfl]
  rw [eP (by omega)]
 rw [e1];show u64.wrap (((BitVec.ofInt 64 ((c:Nat):Int) ||| BitVec.ofInt 64 ((x*2 ^ s:Nat):Int)).toNat:Nat):Int)=_;rw [Mr,Mr,BitVec.toNat_or,Ms,Ms,Jr (by omega),Jr (by omega)]
 have e2:c ||| x*2 ^ s=c+x*2 ^ s:=by
  have:=Nat.shiftLeft_add_eq_or_of_lt (i:=s) (b:=c) hc x;rw [Nat.shiftLeft_eq] at this;rw [Nat.or_comm,← this,J9]
 rw [e2,eP (by omega)]
theorem zV {A P c x S W out o c':Nat} (h:out+P*c=A*S) (hd:o+W*c'=c+x*S):(out+P*o)+P*W*c'=(A+P*x)*S:=by
 have e:P*o+P*(W*c')=P*c+P*(x*S):=by rw [← M6,hd,M6]
 rw [M7 P W,HI,M7 P x];omega
theorem vY {a:List bG} (ha:Wf a) (hz:a.length≤1000000) {s:Nat} (hs:s≤31):
  Gd (kM a (s:Int)) (fun r=>Wf r∧r.length=a.length+1∧nv r=nv a*2 ^ s∧∃ t,r[a.length]? = some t∧t.n.toNat<2 ^ s):=by
 have w1:i64.wrap ((a.length:Int)+1)=((a.length+1:Nat):Int):=by rw [bP ⟨by omega,by omega⟩]; omega
 have hp:(2:Nat) ^ s≤2147483648:=Nd (by decide) hs
 have hp0:0<(2:Nat) ^ s:=Nh (by decide)
 unfold kM;rw [w1];refine Gd.nd ⟨by omega,by omega⟩ ?_
 refine Gd.dW (fun k ys (z:List bG×Int)=>ys=a.drop k∧k≤a.length∧z.1.length=a.length+1∧Wf z.1∧0≤z.2∧z.2.toNat<2 ^ s∧nv (z.1.take k)+WB ^ k*z.2.toNat=nv (a.take k)*2 ^ s) ?_ ?_ _ 0 _ ⟨by simp,by omega,by simp,fun y hy=>?_,Kj _,by simpa using hp0,by simp [nv]⟩
 ·rintro k x ys ⟨l,c⟩ nx ⟨h0,h1,h2,h3,h4,h5,h6⟩ hnx
  simp only at h2 h3 h4 h5 h6 hnx ⊢;have hk:k<a.length:=by
   have:=HB List.length h0;simp at this; omega
  have hx:a[k]? = some x:=by
   have:=HB (·[0]?) h0;simpa [Ib] using this.symm
  have hys:ys=a.drop (k+1):=by
   have:=HB (List.drop 1) h0;simpa using this
  have hxw:=ha x (Hu hx);obtain ⟨cn,rfl⟩:∃ cn:Nat,c=cn:=⟨c.toNat,by omega⟩
  obtain ⟨X,hX⟩:∃ X:Nat,x.n=X:=⟨x.n.toNat,by omega⟩
  have hkn:((k:Int)).toNat=k:=by omega
  unfold nH;rw [hX];simp only [Ha] at h5 h6;rw [FB hs h5 (by omega)]
  refine Gd.nd (by omega) (Gd.iU (show k<l.length by omega) ?_)
  rw [hkn,rJ,wM];have hb:cn+X*2 ^ s<4294967296*2 ^ s:=by
   have:(X+1)*2 ^ s≤4294967296*2 ^ s:=HD _ (by omega)
   rw [HI] at this;omega
  have hdm:=M5 (cn+X*2 ^ s) WB;have hq:(cn+X*2 ^ s) / WB<2 ^ s:=by
   rw [MY (by decide),M8 (2 ^ s)]; exact hb
  have e1:((cn+X*2 ^ s:Nat):Int)%4294967296=(((cn+X*2 ^ s)%WB:Nat):Int):=rfl;have e2:((cn+X*2 ^ s:Nat):Int) / 4294967296=(((cn+X*2 ^ s) / WB:Nat):Int):=rfl;have hm:(cn+X*2 ^ s)%WB<WB:=KA _ (by decide)
  rw [e1,e2];generalize (cn+X*2 ^ s)%WB=o at hdm hm;generalize (cn+X*2 ^ s) / WB=c' at hdm hq;refine hnx _ ⟨hys,by omega,by simp [h2],h3.set ⟨by omega,by have:o<4294967296:=hm; omega⟩,by simp only; omega,by simp only [Ha]; exact hq,?_⟩
  simp only;rw [ra (by omega),pI,HT,Ix (by omega),mL hx,hX,Ni]
  simp only [Ha];exact zV h6 hdm
 ·rintro k ⟨l,c⟩ ⟨h0,h1,h2,h3,h4,h5,h6⟩
  simp only at h2 h3 h4 h5 h6 ⊢;have hk:k=a.length:=by
   have:=HB List.length h0;simp at this; omega
  subst hk;have hkn:((a.length:Int)).toNat=a.length:=by omega
  rw [hkn,rJ,show c%4294967296=c by omega]
  refine Gd.iU (by omega) (Gd.ret ⟨h3.set (by omega),by simp [h2],?_,⟨⟨c⟩,HS (by omega),h5⟩⟩)
  have e:=ra (l:=l) (k:=a.length) (v:=⟨c⟩) (by omega)
  rw [HN (by simp; omega)] at e
  rw [e,pI,HT,Ix (by omega)]
  rw [I5] at h6;exact h6
 ·rw [MS] at hy
  rw [hy.2]; simp
section
variable {W R v1 v2 vl u2 ul top q V U:Nat}
structure z7 (W R v1 v2 vl u2 ul top V U:Nat):Prop where
 V:V=(v1*W+v2)*R+vl
 U:U=(top*W+u2)*R+ul
 vl:vl<R
 ul:ul<R
 u2:u2<W
 v2:v2<W
theorem z7.FG (h:z7 W R v1 v2 vl u2 ul top V U) (hq:q*V≤U):q*v1≤top:=by
 rcases Jx top (q*v1) with hlt | hge
 ·exfalso
  have h1:(top+1)*(W*R)≤q*v1*(W*R):=HD _ hlt;have h2:v1*(W*R)≤V:=by
   rw [h.V,HI,M7 v1]; omega
  have h3:q*(v1*(W*R))≤q*V:=M9 _ h2;have h4:U<(top+1)*(W*R):=by
   have e1:(u2+1)*R≤W*R:=HD _ h.u2;rw [HI] at e1;have hul:=h.ul;rw [h.U,HI,M7 top,HI top];omega
  rw [M7 q] at h1;omega
 ·exact hge
theorem z7.xk (h:z7 W R v1 v2 vl u2 ul top V U) (hq:q*V≤U):q*(v1*W+v2)≤top*W+u2:=by
 rcases Jx (top*W+u2) (q*(v1*W+v2)) with hlt | hge
 ·exfalso
  have h1:(top*W+u2+1)*R≤q*(v1*W+v2)*R:=HD _ hlt;have h2:(v1*W+v2)*R≤V:=by rw [h.V]; omega
  have h3:q*((v1*W+v2)*R)≤q*V:=M9 _ h2;have hul:=h.ul;have hU:=h.U;rw [HI _ 1] at h1;rw [M7 q] at h1;omega
 ·exact hge
theorem z7.Gx (h:z7 W R v1 v2 vl u2 ul top V U) {g:Nat} (hg:g≤W) (hv:1≤v1) (hl:g*(v1*W+v2)≤top*W+u2):g*V<U+V:=by
 have h1:g*(v1*W+v2)*R≤(top*W+u2)*R:=HD _ hl;have h2:g*vl≤W*vl:=HD _ hg;have h3:W*(vl+1)≤W*R:=M9 _ h.vl;have h4:1*(W*R)≤v1*(W*R):=HD _ hv;have e1:g*V=g*(v1*W+v2)*R+g*vl:=by rw [h.V,M6,M7]
 have e2:V=v1*(W*R)+v2*R+vl:=by rw [h.V,HI,M7]
 have hU:=h.U;have hR:0<R:=by have:=h.vl; omega
 have hW:0<W:=by have:=h.u2; omega
 rw [M6,Kk] at h3;omega
structure Gs (W R v1 v2 vl u2 ul top V U q g rest:Nat):Prop where
 ge:q≤g
 eq:g*v1+rest=top
 rest:rest<W
 le:g≤W+1
structure FM (W V U q g:Nat):Prop where
 ge:q≤g
 le:g≤q+1
 w:g≤W
theorem z7.out (h:z7 W R v1 v2 vl u2 ul top V U) {g:Nat} (hq:U<(q+1)*V) (hge:q≤g) (hg:g≤W) (hv:1≤v1) (hl:g*(v1*W+v2)≤top*W+u2):FM W V U q g:=by
 refine ⟨hge,?_,hg⟩;have h1:=h.Gx hg hv hl;rcases Jx (q+1) g with hlt | hge'
 ·exfalso
  have h2:(q+2)*V≤g*V:=HD _ hlt;rw [HI] at h2 hq;omega
 ·exact hge'
theorem Gs.stop (h:z7 W R v1 v2 vl u2 ul top V U) {g rest:Nat} (hs:Gs W R v1 v2 vl u2 ul top V U q g rest) (hq:U<(q+1)*V) (hv:1≤v1) (hg:g<W) (ht:g*v2≤rest*W+u2):FM W V U q g:=by
 refine h.out hq hs.ge (by omega) hv ?_
 rw [← hs.eq,M6,HI,M7];omega
theorem Gs.less (h:z7 W R v1 v2 vl u2 ul top V U) {g rest:Nat} (hs:Gs W R v1 v2 vl u2 ul top V U q g rest) (hq:q*V≤U) (hqW:q<W) (ht:W≤g∨rest*W+u2<g*v2):q<g:=by
 rcases ht with ht | ht
 ·omega
 ·have h1:=h.xk hq
  rw [← hs.eq] at h1;rcases Jx q g with hlt | hge
  ·exact hlt
  ·exfalso
   have h2:g*(v1*W+v2)≤q*(v1*W+v2):=HD _ hge;rw [M6 g] at h2;rw [HI (g*v1),M7] at h1;omega
theorem Gs.next {g rest:Nat} (hs:Gs W R v1 v2 vl u2 ul top V U q g rest) (hl:q<g) (hr:rest+v1<W):Gs W R v1 v2 vl u2 ul top V U q (g-1) (rest+v1):=by
 have h:=hs.eq; have hle:=hs.le
 obtain ⟨k,rfl⟩:∃ k,g=k+1:=⟨g-1,by omega⟩
 rw [HI] at h;exact ⟨by omega,by rw [Nat.add_sub_cancel]; omega,hr,by omega⟩
theorem Gs.over (h:z7 W R v1 v2 vl u2 ul top V U) {g rest:Nat} (hs:Gs W R v1 v2 vl u2 ul top V U q g rest) (hq:U<(q+1)*V) (hv:1≤v1) (hl:q<g) (hr:W≤rest+v1):FM W V U q (g-1):=by
 have he:=hs.eq; have hle:=hs.le; have hv2:=h.v2
 obtain ⟨k,rfl⟩:∃ k,g=k+1:=⟨g-1,by omega⟩
 rw [Nat.add_sub_cancel];rw [HI] at he;refine h.out hq (by omega) (by omega) hv ?_
 have h1:k*v2≤W*v2:=HD _ (by omega)
 have h2:W*(v2+1)≤W*W:=M9 _ hv2;have h3:W*W≤(rest+v1)*W:=HD _ hr;have e:top=k*v1+(rest+v1):=by omega
 rw [e,M6 k,HI (k*v1),M7];rw [M6] at h2;omega
end
def Au:List U8:=gL (⟨#[0,1,2,2,3,3,3,3,4,4,4,4,4,4,4,4,5,5,5,5,5,5,5,5,5,5,5,5,5,5,5,5,6,6,6,6,6,6,6,6,6,6,6,6,6,6,6,6,6,6,6,6,6,6,6,6,6,6,6,6,6,6,6,6,7,7,7,7,7,7,7,7,7,7,7,7,7,7,7,7,7,7,7,7,7,7,7,7,7,7,7,7,7,7,7,7,7,7,7,7,7,7,7,7,7,7,7,7,7,7,7,7,7,7,7,7,7,7,7,7,7,7,7,7,7,7,7,7,8,8,8,8,8,8,8,8,8,8,8,8,8,8,8,8,8,8,8,8,8,8,8,8,8,8,8,8,8,8,8,8,8,8,8,8,8,8,8,8,8,8,8,8,8,8,8,8,8,8,8,8,8,8,8,8,8,8,8,8,8,8,8,8,8,8,8,8,8,8,8,8,8,8,8,8,8,8,8,8,8,8,8,8,8,8,8,8,8,8,8,8,8,8,8,8,8,8,8,8,8,8,8,8,8,8,8,8,8,8,8,8,8,8,8,8,8,8,8,8,8,8,8,8,8,8,8,8]⟩)
def CS (i:Nat) (y:U8):Bool:=decide (1≤y.n) && (decide (y.n≤8) && (decide (2 ^ (y.n.toNat-1)≤i) && decide (i<2 ^ y.n.toNat)))
theorem Ef:∀ i:Nat,1≤i→i<256→∃ y,Au[i]? = some y∧CS i y=true:=by
 have h:(List.range 256).all (fun i=>decide (i=0) || (match Au[i]? with | some y=>CS i y | none=>false))=true:=by decide +kernel
 intro i h1 h2;have:=IG.1 h i (by simpa using h2)
 rw [NB (by omega),Bool.false_or] at this
 cases hy:Au[i]? with
 | none=>rw [hy] at this; cases this
 | some y=>rw [hy] at this; exact ⟨y,rfl,this⟩
theorem xl {n m:Int} (h1:1≤n) (h2:n<256) (hm:0≤m∧m≤24):Gd (gV n m) (fun r=>∃ L:Nat,r=m+L∧1≤L∧L≤8∧2 ^ (L-1)≤n.toNat∧n.toNat<2 ^ L):=by
 obtain ⟨y,hy,hb⟩:=Ef n.toNat (by omega) (by omega)
 simp only [CS,Jn,IF] at hb;obtain ⟨b1,b2,b3,b4⟩:=hb;have hw:u8.wrap n=n:=by
  rw [show u8.wrap n=n%256 by simp [IntKind.wrap,IntKind.bits,IntKind.signed]]; omega
 unfold gV;rw [hw];refine Gd.ix (l:=Au) (by omega) hy (Gd.ret ⟨y.n.toNat,?_,by omega,by omega,b3,b4⟩)
 rw [bP (n:=y.n) (by omega),bP (by omega)]
 omega
theorem zW {n:Int}{k:Nat} (hk:k≤32):jA .u32 n (k:Int)=n / (2 ^ k:Nat):=by
 unfold jA;rw [show (min ((k:Int)).toNat u32.bits)=k by show min ((k:Int)).toNat 32=k; omega,Kb _ (Int.le_of_lt (Int.pow_pos (by decide)))]
 rw [Int.natCast_pow]; rfl
theorem FW {x:Int} (h1:1≤x) (h2:x<4294967296):Gd (fU x) (fun r=>∃ s:Nat,r=s∧s≤31∧2147483648≤x.toNat*2 ^ s∧x.toNat*2 ^ s<4294967296):=by
 have fin:∀ (o:Option Int),Gd o (fun r=>∃ l:Nat,r=l∧1≤l∧l≤32∧2 ^ (l-1)≤x.toNat∧x.toNat<2 ^ l)→Gd (o.bind fun r101=>some (i64.wrap (32-r101))) (fun r=>∃ s:Nat,r=s∧s≤31∧2147483648≤x.toNat*2 ^ s∧x.toNat*2 ^ s<4294967296):=fun o ho=>by
  refine Gd.eJ ho (fun r hr=>Gd.ret ?_);obtain ⟨l,rfl,l1,l2,l3,l4⟩:=hr;refine ⟨32-l,by rw [bP (by omega)]; omega,by omega,?_,?_⟩
  ·have:2 ^ (l-1)*2 ^ (32-l)≤x.toNat*2 ^ (32-l):=HD _ l3
   rw [← Na,show l-1+(32-l)=31 by omega] at this
   exact this
  ·have:x.toNat*2 ^ (32-l)<2 ^ l*2 ^ (32-l):=Nat.mul_lt_mul_of_pos_right l4 (Nh (by decide))
   rw [← Na,show l+(32-l)=32 by omega] at this
   exact this
 have part:∀ (n:Int) (base:Nat),n=x / (2 ^ base:Nat)→base≤24→∀ L:Nat,1≤L→2 ^ (L-1)≤n.toNat→n.toNat<2 ^ L→2 ^ (base+L-1)≤x.toNat∧x.toNat<2 ^ (base+L):=fun n base hn hb L l1 l2 l3=>by
  have e:n.toNat=x.toNat / 2 ^ base:=by
   rw [hn];obtain ⟨X,rfl⟩:∃ X:Nat,x=X:=⟨x.toNat,by omega⟩
   rfl
  have hp:0<2 ^ base:=Nh (by decide)
  rw [e] at l2 l3;rw [MZ hp,← Na] at l2;rw [MY hp,← Na] at l3;rw [show base+L-1=L-1+base by omega,J9 base L]
  exact ⟨l2,l3⟩
 unfold fU;refine fin _ ?_;unfold mo;refine Gd.ite (fun h=>?_) (fun h=>?_)
 ·have h:=Hk h
  rw [show jA .u32 x 16=x / 65536 from zW (k:=16) (by omega)]
  unfold gW;refine Gd.ite (fun h3=>?_) (fun h3=>?_)
  ·have h3:=Hk h3
   rw [show jA .u32 (x / 65536) 8=x / 65536 / 256 from zW (k:=8) (by omega),show i64.wrap (16+8)=24 by decide]
   refine (xl (by omega) (by omega) (by omega)).mono ?_
   rintro r ⟨L,rfl,l1,l2,l3,l4⟩;obtain ⟨p1,p2⟩:=part (x / 65536 / 256) 24 (by show _=x / 16777216; omega) (by omega) L l1 l3 l4
   exact ⟨24+L,by omega,by omega,by omega,p1,p2⟩
  ·have h3:=Hv h3
   refine (xl (by omega) (by omega) (by omega)).mono ?_
   rintro r ⟨L,rfl,l1,l2,l3,l4⟩;obtain ⟨p1,p2⟩:=part (x / 65536) 16 (by show _=x / 65536; omega) (by omega) L l1 l3 l4
   exact ⟨16+L,by omega,by omega,by omega,p1,p2⟩
 ·have h:=Hv h
  unfold gW;refine Gd.ite (fun h3=>?_) (fun h3=>?_)
  ·have h3:=Hk h3
   rw [show jA .u32 x 8=x / 256 from zW (k:=8) (by omega),show i64.wrap (0+8)=8 by decide]
   refine (xl (by omega) (by omega) (by omega)).mono ?_
   rintro r ⟨L,rfl,l1,l2,l3,l4⟩;obtain ⟨p1,p2⟩:=part (x / 256) 8 (by show _=x / 256; omega) (by omega) L l1 l3 l4
   exact ⟨8+L,by omega,by omega,by omega,p1,p2⟩
  ·have h3:=Hv h3
   refine (xl (by omega) (by omega) (by omega)).mono ?_
   rintro r ⟨L,rfl,l1,l2,l3,l4⟩;obtain ⟨p1,p2⟩:=part x 0 (by show _=x / 1; omega) (by omega) L l1 l3 l4
   exact ⟨0+L,by omega,by omega,by omega,p1,p2⟩
theorem DR {t:Nat} (h:t<18446744073709551616):u64.wrap ((BitVec.ofInt (u64).bits (t:Int) &&& BitVec.ofInt (u64).bits 4294967295).toNat)=((t%WB:Nat):Int):=by
 have e:(BitVec.ofInt (u64).bits 4294967295).toNat=4294967295:=by decide
 have e2:(BitVec.ofInt (u64).bits (t:Int)).toNat=t:=by
  show (BitVec.ofInt 64 (t:Int)).toNat=t;rw [Mr,Ms,Jr h]
 rw [BitVec.toNat_and,e,e2];have:=MW t 32;rw [show (2:Nat) ^ 32-1=4294967295 from rfl] at this;rw [this,show (2:Nat) ^ 32=WB from rfl];have hm:t%WB<WB:=KA _ (by decide)
 rw [eP ⟨by omega,by have:t%WB<4294967296:=hm; omega⟩]
theorem AD {l:List bG}{k:Nat}{x v:bG} (h:l[k]? = some x) (hx:0≤x.n) (hv:0≤v.n):(nv (l.set k v):Int)+((WB ^ k:Nat):Int)*x.n=nv l+((WB ^ k:Nat):Int)*v.n:=by
 have:=HB (fun n:Nat=>(n:Int)) (vL (v:=v) h);simp only [MB,Ip] at this;rw [KV hx,KV hv] at this;exact this
theorem Ek {nl nl' o nw P W bo ca low ca' bo' Z gy:Int} (hA:nl'+P*o=nl+P*nw) (hB:nw+W*bo'=bo+o-low) (hC:low+W*ca'=ca+gy) (hI:nl+P*(bo-ca)=Z):
  nl'+P*W*(bo'-ca')=Z-P*gy:=by
 have e:W*(bo'-ca')=bo+o-nw-ca-gy:=by rw [MA]; omega
 rw [Mz,e,← hI,MA,MA,MA,My,MA];omega
theorem AF {l l0:List bG}{m:Nat} (h:∀ p,m≤p→l[p]? = l0[p]?) (hm:m≤l.length):nv l=nv (l.take m)+WB ^ m*nv (l0.drop m):=by
 have e:l.drop m=l0.drop m:=by
  apply Ji;intro i;rw [Ib,Ib];exact h _ (by omega)
 have:nv l=nv (l.take m++l.drop m):=by rw [I2]
 rw [this,xr,e,HT,Ix hm]
theorem vM (l:List bG) {m:Nat} (hm:m≤l.length):nv l=nv (l.take m)+WB ^ m*nv (l.drop m):=AF (fun _ _=>rfl) hm
theorem FX {b r134 vs:List bG}{j g:Nat}{l0:List bG}{fin:List bG×Int×Int→Option (List bG×List bG)}{Q:List bG×List bG→Prop}
  (hvs:nr r134 0 (((b.length:Int):Int).toNat)=vs) (hvl:vs.length=b.length) (hvw:Wf vs) (hl:Wf l0) (hjn:j+b.length<l0.length) (hN:l0.length≤1000001) (hg:g≤WB)
  (hk:∀ l bo ca,l.length=l0.length→Wf l→-1≤bo→bo≤0→0≤ca→ca<4294967296→(nv l:Int)+((WB ^ (j+b.length):Nat):Int)*(bo-ca)=nv l0-((WB ^ j:Nat):Int)*((g:Int)*(nv vs:Int)) →
   (∀ p,j+b.length≤p→l[p]? = l0[p]?)→(∀ p,p<j→l[p]? = l0[p]?)→Gd (fin (l,bo,ca)) Q):
  Gd (jT (fun k s1409 n=>kW b r134 (j:Int) (g:Int) k s1409.1 s1409.2.1 s1409.2.2 n) fin b.length 0 (l0,0,0)) Q:=by
 have hg:g≤4294967296:=hg;refine Gd.jT (fun m k (z:List bG×Int×Int)=>k+m=b.length∧z.1.length=l0.length∧Wf z.1∧-1≤z.2.1∧z.2.1≤0∧0≤z.2.2∧z.2.2<4294967296∧(nv z.1:Int)+((WB ^ (j+k):Nat):Int)*(z.2.1-z.2.2)=nv l0-((WB ^ j:Nat):Int)*((g:Int)*(nv (vs.take k):Int))∧(∀ p,j+k≤p→z.1[p]? = l0[p]?)∧(∀ p,p<j→z.1[p]? = l0[p]?)) ?_ ?_ _ 0 _ ⟨by omega,rfl,hl,by show (-1:Int)≤0; omega,Kj _,Kj _,by show (0:Int)<4294967296; omega,by simp [nv],fun p _=>rfl,fun p _=>rfl⟩
 ·rintro m k ⟨l,bo,ca⟩ nx ⟨h0,h1,h2,h3,h4,h5,h6,h7,h8,h9⟩ hnx
  simp only at h1 h2 h3 h4 h5 h6 h7 h8 h9 hnx ⊢;have hkb:k<b.length:=by omega
  obtain ⟨y,hy⟩:∃ y,vs[k]? = some y:=⟨_,G9 (by omega)⟩
  have hyw:=hvw y (Hu hy);obtain ⟨o,ho⟩:∃ o,l[j+k]? = some o:=⟨_,G9 (by omega)⟩
  have how:=h2 o (Hu ho);have wj:i64.wrap ((k:Int)+(j:Int))=((j+k:Nat):Int):=by rw [bP ⟨by omega,by omega⟩]; omega
  have hjk:(((j+k:Nat):Int)).toNat=j+k:=by omega
  unfold kW;rw [hvs,wj];refine Gd.ix (by omega) (by rw [Ha]; exact hy) (Gd.ix (by omega) (by rw [hjk]; exact ho) (Gd.ix (by omega) (by rw [hjk]; exact ho) ?_))
  obtain ⟨Y,hY⟩:∃ Y:Nat,y.n=Y:=⟨y.n.toNat,by omega⟩
  obtain ⟨cn,rfl⟩:∃ cn:Nat,ca=cn:=⟨ca.toNat,by omega⟩
  have hgy:g*Y≤4294967296*4294967295:=Nat.mul_le_mul hg (by omega)
  have ht:u64.wrap ((cn:Int)+(u64.wrap ((g:Int)*(u64.wrap (y.n)))))=((cn+g*Y:Nat):Int):=by
   rw [hY,eP (n:=(Y:Int)) (by omega),show (g:Int)*(Y:Int)=((g*Y:Nat):Int) by rw [Ip],eP (n:=((g*Y:Nat):Int)) (by omega),eP (by omega)]
   omega
  rw [ht,DR (by omega),wM]
  have hdm:=M5 (cn+g*Y) WB;have hlow:(cn+g*Y)%WB<WB:=KA _ (by decide)
  have hcl:(cn+g*Y) / WB<4294967296:=by
   rw [MY (by decide)]
   show cn+g*Y<4294967296*4294967296;omega
  have e2:((cn+g*Y:Nat):Int) / 4294967296=(((cn+g*Y) / WB:Nat):Int):=rfl;rw [e2];have hC:(((cn+g*Y)%WB:Nat):Int)+4294967296*(((cn+g*Y) / WB:Nat):Int)=(cn:Int)+((g*Y:Nat):Int):=by
   have:(cn+g*Y)%WB+4294967296*((cn+g*Y) / WB)=cn+g*Y:=hdm;omega
  generalize (cn+g*Y)%WB=low at hlow hC;generalize (cn+g*Y) / WB=c2 at hcl hC;have hlow:low<4294967296:=hlow;have hnb:i64.wrap (bo+(i64.wrap ((i64.wrap (o.n))-(i64.wrap ((low:Nat):Int)))))=bo+o.n-low:=by
   rw [bP (n:=o.n) (by omega),bP (n:=(low:Int)) (by omega),bP (n:=o.n-low) (by omega),bP (by omega)]
   omega
  rw [hnb,hjk,rJ,Dn];refine hnx _ ⟨by omega,by simp [h1],h2.set (by omega),by simp only; omega,by simp only; omega,by simp only; omega,by simp only; omega,?_,fun p hp=>?_,fun p hp=>?_⟩
  ·simp only
   have hA:=AD (l:=l) (k:=j+k) (x:=o) (v:=⟨(bo+o.n-low)%4294967296⟩) ho how.1 (by simp only; omega)
   simp only at hA;have hB:(bo+o.n-low)%4294967296+4294967296*((bo+o.n-low) / 4294967296)=bo+o.n-low:=by omega
   have:=Ek hA hB hC h7;rw [show j+(k+1)=(j+k)+1 by omega,Ni,Ip,show ((WB:Nat):Int)=4294967296 from rfl,this,mL hy,hY,Na]
   simp only [Ha,MB,Ip];rw [My (g:Int),My ((WB ^ j:Nat):Int),Mz ((WB ^ j:Nat):Int) ((WB ^ k:Nat):Int)];have e:(g:Int)*(((WB ^ k:Nat):Int)*(Y:Int))=((WB ^ k:Nat):Int)*((g:Int)*(Y:Int)):=by
    rw [← Mz,Int.mul_comm (g:Int),Mz]
   rw [e];omega
  ·simp only
   rw [HM (by omega)]
   exact h8 p (by omega)
  ·simp only
   rw [HM (by omega)]
   exact h9 p hp
 ·rintro k ⟨l,bo,ca⟩ ⟨h0,h1,h2,h3,h4,h5,h6,h7,h8,h9⟩
  simp only at h1 h2 h3 h4 h5 h6 h7 h8 h9;have hk':k=b.length:=by omega
  subst hk';rw [← hvl,I5] at h7;rw [hvl] at h7;exact hk l bo ca h1 h2 h3 h4 h5 h6 h7 h8 h9
theorem DQ {nl nl' o s P W c Y T T' B X:Nat} (h1:nl'+P*o=nl+P*(s%W)) (hs:s=c+o+Y) (h2:nl+P*c=X+B*T) (hP:P*Y=B*(T'-T)) (hT:T≤T'):nl'+P*W*(s / W)=X+B*T':=by
 have hd:s%W+W*(s / W)=s:=M5 s W;have e:P*(s%W)+P*(W*(s / W))=P*s:=by rw [← M6,hd]
 have e2:P*s=P*c+P*o+P*Y:=by rw [hs,M6,M6]
 have e3:B*T'=B*T+B*(T'-T):=by rw [← M6]; congr 1; omega
 rw [M7 P W];omega
theorem FP {b r134 vs:List bG}{j:Nat}{l1:List bG}{fin:List bG×Int→Option (List bG×List bG)}{Q:List bG×List bG→Prop}
  (hvs:nr r134 0 (((b.length:Int):Int).toNat)=vs) (hvl:vs.length=b.length) (hvw:Wf vs) (hl:Wf l1) (hjn:j+b.length<l1.length) (hN:l1.length≤1000001)
  (hk:∀ l c,l.length=l1.length→Wf l→0≤c→c≤1→nv l+WB ^ (j+b.length)*c.toNat=nv l1+WB ^ j*nv vs→(∀ p,j+b.length≤p→l[p]? = l1[p]?)→(∀ p,p<j→l[p]? = l1[p]?)→Gd (fin (l,c)) Q):
  Gd (jT (fun k s1621 n=>kX b r134 (j:Int) k s1621.1 s1621.2 n) fin b.length 0 (l1,0)) Q:=by
 refine Gd.jT (fun m k (z:List bG×Int)=>k+m=b.length∧z.1.length=l1.length∧Wf z.1∧0≤z.2∧z.2≤1∧nv z.1+WB ^ (j+k)*z.2.toNat=nv l1+WB ^ j*nv (vs.take k)∧(∀ p,j+k≤p→z.1[p]? = l1[p]?)∧(∀ p,p<j→z.1[p]? = l1[p]?)) ?_ ?_ _ 0 _ ⟨by omega,rfl,hl,Kj _,by show (0:Int)≤1; omega,by simp [nv],fun p _=>rfl,fun p _=>rfl⟩
 ·rintro m k ⟨l,c⟩ nx ⟨h0,h1,h2,h3,h4,h7,h8,h9⟩ hnx
  simp only at h1 h2 h3 h4 h7 h8 h9 hnx ⊢;obtain ⟨y,hy⟩:∃ y,vs[k]? = some y:=⟨_,G9 (by omega)⟩
  have hyw:=hvw y (Hu hy);obtain ⟨o,ho⟩:∃ o,l[j+k]? = some o:=⟨_,G9 (by omega)⟩
  have how:=h2 o (Hu ho);have wj:i64.wrap ((k:Int)+(j:Int))=((j+k:Nat):Int):=by rw [bP ⟨by omega,by omega⟩]; omega
  have hjk:(((j+k:Nat):Int)).toNat=j+k:=by omega
  unfold kX;rw [hvs,wj];refine Gd.ix (by omega) (by rw [hjk]; exact ho) (Gd.ix (by omega) (by rw [Ha]; exact hy) (Gd.ix (by omega) (by rw [hjk]; exact ho) ?_))
  have hs:u64.wrap (c+(u64.wrap ((u64.wrap (o.n))+(u64.wrap (y.n)))))=c+o.n+y.n:=by
   rw [eP (n:=o.n) (by omega),eP (n:=y.n) (by omega),eP (n:=o.n+y.n) (by omega),eP (by omega)]
   omega
  rw [hs,hjk,wM,rJ];have hsn:c+o.n+y.n=((c.toNat+o.n.toNat+y.n.toNat:Nat):Int):=by omega
  refine hnx _ ⟨by omega,by simp [h1],h2.set (by omega),by simp only; omega,by simp only; omega,?_,fun p hp=>?_,fun p hp=>?_⟩
  ·simp only
   have g:=vL (l:=l) (k:=j+k) (x:=o) (v:=⟨(c+o.n+y.n)%4294967296⟩) ho;simp only at g;have g1:((c+o.n+y.n)%4294967296).toNat=(c.toNat+o.n.toNat+y.n.toNat)%WB:=by rw [hsn]; show _=_%4294967296; omega
   have g2:((c+o.n+y.n) / 4294967296).toNat=(c.toNat+o.n.toNat+y.n.toNat) / WB:=by rw [hsn]; show _=_ / 4294967296; omega
   rw [g1] at g;rw [g2,show j+(k+1)=(j+k)+1 by omega,Ni]
   refine DQ g rfl h7 (T':=nv (vs.take (k+1))) ?_ ?_
   ·rw [mL hy,JG,Na,M7]
   ·rw [mL hy]; omega
  ·simp only
   rw [HM (by omega)]
   exact h8 p (by omega)
  ·simp only
   rw [HM (by omega)]
   exact h9 p hp
 ·rintro k ⟨l,c⟩ ⟨h0,h1,h2,h3,h4,h7,h8,h9⟩
  simp only at h1 h2 h3 h4 h7 h8 h9;have hk':k=b.length:=by omega
  subst hk';rw [← hvl,I5] at h7;rw [hvl] at h7;exact hk l c h1 h2 h3 h4 h7 h8 h9
theorem B1 {qs l':List bG}{j:Nat}{g:Int}{nx:List bG×List bG×Int→Option (List bG×List bG)}{Q:List bG×List bG→Prop} (hj:j<qs.length) (hN:qs.length≤1000001) (hg:0≤g∧g<4294967296)
  (hn:Gd (nx (qs.set j ⟨g⟩,l',(j:Int)-1)) Q):Gd (gU qs (j:Int) nx l' g) Q:=by
 unfold gU;refine Gd.iU hj ?_;rw [Ha,rJ,bP (by omega),show g%4294967296=g by omega]
 exact hn
theorem Fi {W P B low U V n0:Nat} (h0:n0=low+P*U) (hlow:low<P) (hV:V≤B) (hU:U<W*V):n0<P*(W*B):=by
 have h1:U+1≤W*B:=IY hU (M9 _ hV);have h2:P*(U+1)≤P*(W*B):=M9 _ h1;rw [M6] at h2;omega
theorem uO {n0 X M T:Nat} (h:n0=X+M*T) (hb:n0<M):T=0:=by
 rcases Nat.eq_zero_or_pos T with h' | h'
 ·exact h'
 ·have:M*1≤M*T:=M9 _ h'
  omega
theorem Cn {b r134 vs:List bG}{j g q U:Nat}{l0 qs:List bG}{nx:List bG×List bG×Int→Option (List bG×List bG)}{Q:List bG×List bG→Prop}
  (hvs:nr r134 0 (((b.length:Int):Int).toNat)=vs) (hvl:vs.length=b.length) (hvw:Wf vs) (hl:Wf l0) (hjn:j+b.length<l0.length) (hN:l0.length≤1000001) (hj:j<qs.length) (hqN:qs.length≤1000001)
  (hU:nv (l0.drop j)=U) (hV:nv vs≤WB ^ b.length) (hUW:U<WB*nv vs) (hq1:q*nv vs≤U) (hq2:U<(q+1)*nv vs) (hqW:q<WB) (hg:FM WB (nv vs) U q g)
  (hn:∀ l',l'.length=l0.length→Wf l'→nv l'+WB ^ j*(q*nv vs)=nv l0→(∀ p,p<j→l'[p]? = l0[p]?)→Gd (nx (qs.set j ⟨(q:Int)⟩,l',(j:Int)-1)) Q):
  Gd (eA b r134 qs l0 (j:Int) nx (g:Int)) Q:=by
 have hqW':q<4294967296:=hqW;have wjn:i64.wrap ((j:Int)+(b.length:Int))=((j+b.length:Nat):Int):=by rw [bP ⟨by omega,by omega⟩]; omega
 have hjk:(((j+b.length:Nat):Int)).toNat=j+b.length:=by omega
 have h0:=vM l0 (m:=j) (by omega)
 rw [hU] at h0;have hlow:=ob (hl.take j);rw [HT,Ix (by omega)] at hlow
 have hpow:WB ^ (j+b.length+1)=WB ^ j*(WB*WB ^ b.length):=by rw [Ni,Na,M8 WB,M7]
 have hbig:nv l0<WB ^ (j+b.length+1):=by rw [hpow]; exact Fi h0 hlow hV hUW
 have habove:nv (l0.drop (j+b.length+1))=0:=uO (vM l0 (m:=j+b.length+1) (by omega)) hbig
 have small:∀ l:List bG,l.length=l0.length→Wf l→(∀ p,j+b.length+1≤p→l[p]? = l0[p]?)→nv l<WB ^ (j+b.length+1):=fun l h1 h2 h3=>by
  rw [AF h3 (by omega),habove,M_,Jb]
  have:=ob (h2.take (j+b.length+1));rw [HT,Ix (by omega)] at this
  exact this
 unfold eA;rw [show ((b.length:Int):Int).toNat=b.length by omega] at hvs
 rw [show ((b.length:Int):Int).toNat=b.length by omega]
 refine FX (by rw [show ((b.length:Int):Int).toNat=b.length by omega]; exact hvs) hvl hvw hl hjn hN hg.w (fun l bo ca e1 e2 e3 e4 e5 e6 e7 e8 e9=>?_)
 obtain ⟨o,ho⟩:∃ o,l[j+b.length]? = some o:=⟨_,G9 (by omega)⟩
 have how:=e2 o (Hu ho);simp only;rw [wjn];refine Gd.ix (by omega) (by rw [hjk]; exact ho) (Gd.ix (by omega) (by rw [hjk]; exact ho) ?_)
 have hnb:i64.wrap (bo+(i64.wrap ((i64.wrap (o.n))-(i64.wrap ca))))=bo+o.n-ca:=by
  rw [bP (n:=o.n) (by omega),bP (n:=ca) (by omega),bP (n:=o.n-ca) (by omega),bP (by omega)]
  omega
 rw [hnb,hjk,rJ];have hA:=AD (l:=l) (k:=j+b.length) (x:=o) (v:=⟨(bo+o.n-ca)%4294967296⟩) ho how.1 (by simp only; omega)
 simp only at hA;have hW1:Wf (l.set (j+b.length) ⟨(bo+o.n-ca)%4294967296⟩):=e2.set (by omega)
 have hlen1:(l.set (j+b.length) (⟨(bo+o.n-ca)%4294967296⟩:bG)).length=l0.length:=by simp [e1]
 have hab1:∀ p,j+b.length+1≤p→(l.set (j+b.length) (⟨(bo+o.n-ca)%4294967296⟩:bG))[p]? = l0[p]? := fun p hp=>by
  rw [HM (by omega)]; exact e8 p (by omega)
 have hbe1:∀ p,p<j→(l.set (j+b.length) (⟨(bo+o.n-ca)%4294967296⟩:bG))[p]? = l0[p]? := fun p hp=>by
  rw [HM (by omega)]; exact e9 p hp
 have hsm1:=small _ hlen1 hW1 hab1;generalize l.set (j+b.length) (⟨(bo+o.n-ca)%4294967296⟩:bG)=l1 at hA hW1 hlen1 hab1 hbe1 hsm1;have hPW:((WB ^ (j+b.length+1):Nat):Int)=((WB ^ (j+b.length):Nat):Int)*4294967296:=by rw [Ni,Ip,show ((WB:Nat):Int)=4294967296 from rfl]
 have hZ:(nv l1:Int)+((WB ^ (j+b.length):Nat):Int)*(bo+o.n-ca-(bo+o.n-ca)%4294967296)=nv l0-((WB ^ j:Nat):Int)*((g:Int)*(nv vs:Int)):=by
  rw [← e7,MA,MA,My,MA];omega
 have hZU:(nv l0:Int)-((WB ^ j:Nat):Int)*((g:Int)*(nv vs:Int))=nv (l0.take j)+((WB ^ j:Nat):Int)*((U:Int)-(g:Int)*(nv vs:Int)):=by
  rw [h0,MB,Ip,MA]; omega
 have hge:=hg.ge; have hle:=hg.le
 refine Gd.ite (fun hneg=>?_) (fun hpos=>?_)
 ·have hneg:bo+o.n-ca<0:=Hk hneg
  have hdiv:bo+o.n-ca-(bo+o.n-ca)%4294967296 = -4294967296:=by omega
  rw [hdiv] at hZ;have hZ1:(nv l1:Int)-((WB ^ (j+b.length+1):Nat):Int)=nv l0-((WB ^ j:Nat):Int)*((g:Int)*(nv vs:Int)):=by
   rw [hPW,← hZ,Int.mul_neg]; omega
  have hgq:g=q+1:=by
   rcases (show g=q∨g=q+1 by omega) with h | h
   ·exfalso
    rw [h] at hZ1 hZU;have h0':(0:Int)≤(U:Int)-(q:Int)*(nv vs:Int):=by
     have h1':((q*nv vs:Nat):Int)≤U:=by omega
     rw [Ip] at h1'; omega
    have:(0:Int)≤((WB ^ j:Nat):Int)*((U:Int)-(q:Int)*(nv vs:Int)):=Int.mul_nonneg (by omega) h0'
    omega
   ·exact h
  refine FP (j:=j) (l1:=l1) (by rw [show ((b.length:Int):Int).toNat=b.length by omega]; exact hvs) hvl hvw hW1 (by omega) (by omega) (fun l2 c f1 f2 f3 f4 f5 f6 f7=>?_)
  obtain ⟨o2,ho2⟩:∃ o2,l2[j+b.length]? = some o2:=⟨_,G9 (by omega)⟩
  have how2:=f2 o2 (Hu ho2);simp only;refine Gd.ix (by omega) (by rw [hjk]; exact ho2) (Gd.ix (by omega) (by rw [hjk]; exact ho2) ?_)
  rw [rJ,rJ,show c%4294967296=c by omega]
  have hg1:u64.wrap ((g:Int)-1)=(q:Int):=by rw [hgq,eP (by omega)]; omega
  rw [hg1];have hB:=vL (l:=l2) (k:=j+b.length) (x:=o2) (v:=⟨(o2.n+c)%4294967296⟩) ho2;simp only at hB;have hW2:Wf (l2.set (j+b.length) ⟨(o2.n+c)%4294967296⟩):=f2.set (by omega)
  have hlen2:(l2.set (j+b.length) (⟨(o2.n+c)%4294967296⟩:bG)).length=l0.length:=by simp [f1,hlen1]
  have hab2:∀ p,j+b.length+1≤p→(l2.set (j+b.length) (⟨(o2.n+c)%4294967296⟩:bG))[p]? = l0[p]? := fun p hp=>by
   rw [HM (by omega),f6 p (by omega)]; exact hab1 p hp
  have hbe2:∀ p,p<j→(l2.set (j+b.length) (⟨(o2.n+c)%4294967296⟩:bG))[p]? = l0[p]? := fun p hp=>by
   rw [HM (by omega),f7 p hp]; exact hbe1 p hp
  have hsm2:=small _ hlen2 hW2 hab2;generalize l2.set (j+b.length) (⟨(o2.n+c)%4294967296⟩:bG)=l3 at hB hW2 hlen2 hab2 hbe2 hsm2;refine B1 hj hqN (by omega) (hn l3 hlen2 hW2 ?_ hbe2)
  obtain ⟨κ,hκ⟩:∃ κ:Nat,o2.n.toNat+c.toNat=((o2.n+c)%4294967296).toNat+WB*κ:=by
   refine ⟨((o2.n+c) / 4294967296).toNat,?_⟩;have eW:WB=4294967296:=rfl;rw [eW]; omega
  have hsum:nv l3+WB ^ (j+b.length+1)*κ=nv l1+WB ^ j*nv vs:=by
   have e:WB ^ (j+b.length)*o2.n.toNat+WB ^ (j+b.length)*c.toNat=WB ^ (j+b.length)*((o2.n+c)%4294967296).toNat+WB ^ (j+b.length)*(WB*κ):=by
    rw [← M6,hκ,M6]
   rw [Ni,M7];omega
  have hVlt:WB ^ j*nv vs<WB ^ (j+b.length+1):=by
   have h1:WB ^ j*nv vs≤WB ^ j*WB ^ b.length:=M9 _ hV;have h2:WB ^ j*WB ^ b.length<WB ^ (j+b.length+1):=by
    rw [← Na]; exact Nat.pow_lt_pow_right (by decide) (by omega)
   omega
  have hZq:(nv l1:Int)+((WB ^ j*nv vs:Nat):Int)=nv (l0.take j)+((WB ^ j:Nat):Int)*((U:Int)-(q:Int)*(nv vs:Int))+((WB ^ (j+b.length+1):Nat):Int):=by
   rw [hgq] at hZ1 hZU;have e:((WB ^ j:Nat):Int)*((U:Int)-((q+1:Nat):Int)*(nv vs:Int))=((WB ^ j:Nat):Int)*((U:Int)-(q:Int)*(nv vs:Int))-((WB ^ j*nv vs:Nat):Int):=by
    rw [Ip,← MA]
    congr 1
    rw [show ((q+1:Nat):Int)=(q:Int)+1 by omega,Int.add_mul]
    omega
   rw [e] at hZU;omega
  have hnn:(0:Int)≤((WB ^ j:Nat):Int)*((U:Int)-(q:Int)*(nv vs:Int)):=Int.mul_nonneg (by omega) (by
   have:((q*nv vs:Nat):Int)≤U:=by omega
   rw [Ip] at this; omega)
  have hκ1:κ=1:=by
   rcases Jx κ 1 with h | h
   ·exfalso
    have:κ=0:=by omega
    rw [this] at hsum; omega
   ·rcases Jx 1 κ with h2 | h2
    ·exfalso
     have:WB ^ (j+b.length+1)*2≤WB ^ (j+b.length+1)*κ:=M9 _ h2;omega
    ·omega
  rw [hκ1,Kk] at hsum;have e:((WB ^ j:Nat):Int)*((U:Int)-(q:Int)*(nv vs:Int))=((WB ^ j*U:Nat):Int)-((WB ^ j*(q*nv vs):Nat):Int):=by
   rw [MA,Ip,Ip,Ip]
  rw [e] at hZq;omega
 ·have hpos:¬ bo+o.n-ca<0:=Hv hpos
  have hdiv:bo+o.n-ca-(bo+o.n-ca)%4294967296=0:=by omega
  rw [hdiv,Int.mul_zero,Int.add_zero] at hZ;have hgq:g=q:=by
   rcases (show g=q∨g=q+1 by omega) with h | h
   ·exact h
   ·exfalso
    rw [h] at hZ hZU;have h1:(U:Int)-((q+1:Nat):Int)*(nv vs:Int)≤-1:=by
     have:(U:Int)<(((q+1)*nv vs:Nat):Int):=by omega
     rw [Ip] at this; omega
    have h2:((WB ^ j:Nat):Int)*((U:Int)-((q+1:Nat):Int)*(nv vs:Int))≤((WB ^ j:Nat):Int)*(-1):=Int.mul_le_mul_of_nonneg_left h1 (by omega)
    omega
  rw [hgq] at hZ ⊢;refine B1 hj hqN (by omega) (hn l1 hlen1 hW1 ?_ hbe1)
  have e:((WB ^ j:Nat):Int)*((q:Int)*(nv vs:Int))=((WB ^ j*(q*nv vs):Nat):Int):=by rw [Ip,Ip]
  rw [e] at hZ;omega
theorem AE {l:List bG}{m:Nat}{x y:bG} (h1:l[m+1]? = some x) (h2:l[m]? = some y) (h0:nv (l.drop (m+2))=0):nv l=(x.n.toNat*WB+y.n.toNat)*WB ^ m+nv (l.take m):=by
 have e:=q7 h2;have e1:nv (l.drop (m+1))=x.n.toNat+WB*nv (l.drop (m+2)):=by rw [mF h1,nv]
 rw [e,e1,h0,M_,Jb,M8 (WB ^ m),J9 (nv (l.take m)),J9 y.n.toNat,M8 WB x.n.toNat]
theorem C4 {l:List bG}{m:Nat}{x y z:bG} (h1:l[m+2]? = some x) (h2:l[m+1]? = some y) (h3:l[m]? = some z) (h0:nv (l.drop (m+3))=0):nv l=((x.n.toNat*WB+y.n.toNat)*WB+z.n.toNat)*WB ^ m+nv (l.take m):=by
 have e:=q7 h3;have e1:nv (l.drop (m+1))=y.n.toNat+WB*nv (l.drop (m+2)):=by rw [mF h2,nv]
 have e2:nv (l.drop (m+2))=x.n.toNat+WB*nv (l.drop (m+3)):=by rw [mF h1,nv]
 rw [e,e1,e2,h0,M_,Jb,M8 (WB ^ m),J9 (nv (l.take m)),J9 z.n.toNat,M8 WB (y.n.toNat+_),J9 y.n.toNat,M8 WB x.n.toNat]
theorem CD {b r134 vs:List bG}{j n2 q U R v1 v2 vl u2 ul top:Nat}{l0 qs:List bG}{nx:List bG×List bG×Int→Option (List bG×List bG)}{Q:List bG×List bG→Prop}
  (hb:b.length=n2+2) (hvs:nr r134 0 (((b.length:Int):Int).toNat)=vs) (hvl:vs.length=b.length) (hl0:j+b.length<l0.length) (hN:l0.length≤1000001)
  (y1 y2 z2:bG) (hy1:vs[n2+1]? = some y1) (hy2:vs[n2]? = some y2) (hz2:l0[j+n2]? = some z2) (e1:y1.n=v1) (e2:y2.n=v2) (e3:z2.n=u2) (w1:v1<4294967296) (hv1:1≤v1)
  (hS:z7 WB R v1 v2 vl u2 ul top (nv vs) U) (hq1:q*nv vs≤U) (hq2:U<(q+1)*nv vs) (hqW:q<WB)
  (hk:∀ g,FM WB (nv vs) U q g→Gd (eA b r134 qs l0 (j:Int) nx (g:Int)) Q)
  {g0 rest0:Nat} (h0:Gs WB R v1 v2 vl u2 ul top (nv vs) U q g0 rest0):
  Gd (fD (fun s1721 n=>kY b r134 qs l0 (j:Int) nx s1721.1 s1721.2 n) eB ((g0:Int),(rest0:Int))) Q:=by
 have hu2:u2<4294967296:=hS.u2;have hv2:v2<4294967296:=hS.v2;have eW:WB=4294967296:=rfl;refine Gd.fD (fun (z:Int×Int)=>∃ g rest:Nat,z=((g:Int),(rest:Int))∧Gs WB R v1 v2 vl u2 ul top (nv vs) U q g rest) (fun z=>z.1.toNat) ?_ eB _ ⟨g0,rest0,rfl,h0⟩ ?_
 ·rintro z nx2 ⟨g,rest,rfl,hG⟩ hnx
  simp only at hnx ⊢;have hrest:rest<4294967296:=hG.rest;have hgW:g≤4294967297:=hG.le;have wn1:i64.wrap ((b.length:Int)-1)=((n2+1:Nat):Int):=by rw [hb,bP (by omega)]; omega
  have wn2:i64.wrap ((b.length:Int)-2)=((n2:Nat):Int):=by rw [hb,bP (by omega)]; omega
  have wjn:i64.wrap ((i64.wrap ((j:Int)+(b.length:Int)))-2)=((j+n2:Nat):Int):=by rw [hb,bP (n:=(j:Int)+_) (by omega),bP (by omega)]; omega
  have dec:q<g→Gd (if decide (4294967296≤(u64.wrap ((rest:Int)+(u64.wrap (y1.n))))) then (eA b r134 qs l0 (j:Int) nx (u64.wrap ((g:Int)-1))) else (nx2 (u64.wrap ((g:Int)-1),u64.wrap ((rest:Int)+(u64.wrap (y1.n)))))) Q:=fun hlt=>by
   have er:u64.wrap ((rest:Int)+(u64.wrap (y1.n)))=((rest+v1:Nat):Int):=by
    rw [e1,eP (n:=(v1:Int)) (by omega),eP (by omega)]; omega
   have eg:u64.wrap ((g:Int)-1)=((g-1:Nat):Int):=by rw [eP (by omega)]; omega
   rw [er,eg];refine Gd.ite (fun h=>hk _ (hG.over hS hq2 hv1 hlt (by rw [eW]; have:=Hk h; omega))) (fun h=>hnx _ ⟨g-1,rest+v1,rfl,hG.next hlt (by rw [eW]; have:=Hv h; omega)⟩ ?_)
   simp only [Ha];omega
  unfold kY;rw [hvs,wn1,wn2,wjn];refine Gd.ite (fun h=>?_) (fun h=>?_)
  ·have h:=Hk h
   refine Gd.ix (by omega) (by rw [Ha]; exact hy1) (dec (hG.less hS hq1 hqW (.inl (by rw [eW]; omega))))
  ·have h:=Hv h
   refine Gd.ix (by omega) (by rw [Ha]; exact hy2) (Gd.ix (by omega) (by rw [Ha]; exact hz2) ?_)
   have eor:u64.wrap ((BitVec.ofInt (u64).bits (kD .u64 (rest:Int) 32) ||| BitVec.ofInt (u64).bits (u64.wrap (z2.n))).toNat)=((rest*WB+u2:Nat):Int):=by
    rw [tF ⟨by omega,by omega⟩ (by rw [e3]; omega),e3,eW]; omega
   have egv:u64.wrap ((g:Int)*(u64.wrap (y2.n)))=((g*v2:Nat):Int):=by
    have hb2:g*v2≤4294967296*4294967295:=Nat.mul_le_mul (by omega) (by omega)
    rw [e2,eP (n:=(v2:Int)) (by omega),show (g:Int)*(v2:Int)=((g*v2:Nat):Int) by rw [Ip],eP (by omega)]
   rw [eor,egv];refine Gd.ite (fun h2=>Gd.ix (by omega) (by rw [Ha]; exact hy1) (dec (hG.less hS hq1 hqW (.inr ?_)))) (fun h2=>hk g (hG.stop hS hq2 hv1 (by rw [eW]; omega) ?_))
   ·exact Int.ofNat_lt.1 (Hk h2)
   ·have:=Hv h2
    exact Int.ofNat_le.1 (Int.not_lt.1 this)
 ·simp only [eB,Ha]
  have:g0≤4294967297:=h0.le;omega
theorem CC {W R v1 v2 vl u2 ul u0 u1 V U q:Nat} (h:z7 W R v1 v2 vl u2 ul (u0*W+u1) V U) (hq:q*V≤U) (hv:1≤v1) (hv1:v1<W) (hW:W≤2*v1) (hu0:u0≤v1) (hu1:u1<W):
  Gs W R v1 v2 vl u2 ul (u0*W+u1) V U q ((u0*W+u1) / v1) ((u0*W+u1)%v1):=by
 have hm:(u0*W+u1)%v1<v1:=KA _ hv;refine ⟨(MZ hv).2 (h.FG hq),?_,by omega,?_⟩
 ·rw [M8,J9,M5]
 ·have h1:u0*W≤v1*W:=HD _ hu0
  have h2:u0*W+u1<(W+2)*v1:=by
   rw [HI,M8 W v1]; omega
  have:=(MY hv).2 h2;omega
theorem xk {W R u0 u1 v1 v2 vl ul V X:Nat} (hX:X=(u0*W+u1)*R+ul) (hV:V=(v1*W+v2)*R+vl) (hlt:X<V) (hvl:vl<R) (hv2:v2<W):u0≤v1:=by
 rcases Jx v1 u0 with h | h
 ·exfalso
  have h1:(v1+1)*W*R≤u0*W*R:=HD _ (HD _ h);have h2:(v2+1)*R≤W*R:=HD _ hv2;have e1:(v1+1)*W*R=v1*W*R+W*R:=by rw [HI,HI,Lo]
  have e2:X=u0*W*R+u1*R+ul:=by rw [hX,HI]
  have e3:V=v1*W*R+v2*R+vl:=by rw [hV,HI]
  rw [HI] at h2;omega
 ·exact h
theorem CJ {q W D V P nl nu U0:Nat} (h1:nl+P*(q*V)=nu) (h2:D*V*(P*W)+nu=U0):(q+W*D)*V*P+nl=U0:=by
 have e1:(q+W*D)*V*P=P*(q*V)+D*V*(P*W):=by
  rw [HI,HI,M8 P (q*V)]
  congr 1
  rw [M8 W D,M7 D W V,M8 W V,← M7 D V W,M7 (D*V) W P,M8 W P]
 omega
theorem El {W x y V:Nat} (hx:x<W) (hy:y<V):x+W*y<W*V:=by
 have:W*(y+1)≤W*V:=M9 _ hy;rw [M6] at this; omega
theorem Dh {P a x q V U:Nat} (hP:0<P) (h1:a+P*x+P*(q*V)=a+P*U) (h2:U<(q+1)*V):x<V:=by
 have e:P*(x+q*V)=P*U:=by rw [M6]; omega
 have:=Nat.eq_of_mul_eq_mul_left hP e;rw [HI] at h2;omega
theorem A8 {b r134 vs:List bG}{r127:Int}{n2 N U0:Nat}{Q:List bG×List bG→Prop}
  (hb:b.length=n2+2) (hvs:nr r134 0 (((b.length:Int):Int).toNat)=vs) (hvl:vs.length=b.length) (hvw:Wf vs) (hN:N≤1000001)
  (y1 y2:bG) (hy1:vs[n2+1]? = some y1) (hy2:vs[n2]? = some y2) (hnorm:2147483648≤y1.n)
  (qs0 u0:List bG) (hq0:qs0.length+b.length=N) (hqw:Wf qs0) (hu0:u0.length=N) (huw:Wf u0) (hstart:nv (u0.drop qs0.length)<nv vs) (hval:nv u0=U0)
  (hk:∀ qs u,qs.length=qs0.length→Wf qs→u.length=N→Wf u→nv qs*nv vs+nv u=U0→nv u<nv vs →
   Gd (dN (0≤(b.length:Int)∧(b.length:Int)*4≤140737488355328) (jT (fun k s1815 n=>jD r127 u k s1815 n) (fun s1815=>some (qs,s1815)) ((b.length:Int):Int).toNat 0 (List.replicate ((b.length:Int):Int).toNat (⟨0⟩:bG)))) Q):
  Gd (fD (fun s1227 n=>kV b r127 r134 s1227.1 s1227.2.1 s1227.2.2 n) eB (qs0,u0,(qs0.length:Int)-1)) Q:=by
 have hy1w:=hvw y1 (Hu hy1); have hy2w:=hvw y2 (Hu hy2)
 have hVB:nv vs≤WB ^ b.length:=by have:=ob hvw; rw [hvl] at this; omega
 refine Gd.fD (fun (z:List bG×List bG×Int)=>z.1.length=qs0.length∧Wf z.1∧z.2.1.length=N∧Wf z.2.1∧-1≤z.2.2∧z.2.2<qs0.length∧nv (z.1.drop (z.2.2+1).toNat)*nv vs*WB ^ (z.2.2+1).toNat+nv z.2.1=U0∧nv (z.2.1.drop (z.2.2+1).toNat)<nv vs) (fun z=>(z.2.2+1).toNat) ?_ eB _ ⟨rfl,hqw,hu0,huw,by simp only; omega,by simp only; omega,?_,?_⟩ (by simp only [eB]; omega)
 ·rintro ⟨qs,u,j⟩ nx ⟨h1,h2,h3,h4,h5,h6,h7,h8⟩ hnx
  simp only at h1 h2 h3 h4 h5 h6 h7 h8 hnx ⊢;unfold kV;refine Gd.ite (fun hj=>?_) (fun hj=>?_)
  ·have hj:=Hk hj
   obtain ⟨k,rfl⟩:∃ k:Nat,j=k:=⟨j.toNat,by omega⟩
   rw [show ((k:Int)+1).toNat=k+1 by omega] at h7 h8
   obtain ⟨t0,ht0⟩:∃ t,u[k+n2+2]? = some t:=⟨_,G9 (by omega)⟩
   obtain ⟨t1,ht1⟩:∃ t,u[k+n2+1]? = some t:=⟨_,G9 (by omega)⟩
   obtain ⟨t2,ht2⟩:∃ t,u[k+n2]? = some t:=⟨_,G9 (by omega)⟩
   have w0:=h4 t0 (Hu ht0); have w1:=h4 t1 (Hu ht1); have w2:=h4 t2 (Hu ht2)
   have wjn:i64.wrap ((k:Int)+(b.length:Int))=((k+n2+2:Nat):Int):=by rw [hb,bP (by omega)]; omega
   have wjm:i64.wrap (((k+n2+2:Nat):Int)-1)=((k+n2+1:Nat):Int):=by rw [bP (by omega)]; omega
   have wn1:i64.wrap ((b.length:Int)-1)=((n2+1:Nat):Int):=by rw [hb,bP (by omega)]; omega
   rw [hvs,wjn,wjm,wn1];have ey1:u64.wrap y1.n=y1.n:=eP (by omega)
   refine Gd.ix (by omega) (by rw [Ha]; exact ht0) (Gd.ix (by omega) (by rw [Ha]; exact ht1) (Gd.ix (by omega) (by rw [Ha]; exact hy1) (Gd.nd (by rw [ey1]; omega) (Gd.ix (by omega) (by rw [Ha]; exact hy1) (Gd.nd (by rw [ey1]; omega) ?_)))))
   rw [eP (n:=t0.n) (by omega),tF w0 w1,ey1]
   obtain ⟨x,hx⟩:∃ x,u[k]? = some x:=⟨_,G9 (by omega)⟩
   have hxw:=h4 x (Hu hx);have hU1:nv (u.drop k)=x.n.toNat+WB*nv (u.drop (k+1)):=by rw [mF hx,nv]
   have hUlt:nv (u.drop k)<WB*nv vs:=by rw [hU1]; exact El (by show x.n.toNat<4294967296; omega) h8
   have hVlt:nv vs<WB ^ (n2+2):=by have:=ob hvw; rw [hvl,hb] at this; exact this
   have hz:nv (u.drop (k+1+(n2+2)))=0:=by
    have e:=vM (u.drop (k+1)) (m:=n2+2) (by rw [Jh]; omega)
    rw [Jt] at e;exact uO e (by omega)
   have hVe:=AE hy1 hy2 (by rw [MH (by omega)]; rfl)
   have hXe:=AE (l:=u.drop (k+1)) (m:=n2) (x:=t0) (y:=t1) (by rw [Ib,show k+1+(n2+1)=k+n2+2 by omega]; exact ht0) (by rw [Ib,show k+1+n2=k+n2+1 by omega]; exact ht1) (by rw [Jt]; exact hz)
   have hUe:=C4 (l:=u.drop k) (m:=n2) (x:=t0) (y:=t1) (z:=t2) (by rw [Ib,show k+(n2+2)=k+n2+2 by omega]; exact ht0) (by rw [Ib,show k+(n2+1)=k+n2+1 by omega]; exact ht1) (by rw [Ib]; exact ht2) (by rw [Jt,show k+(n2+3)=k+1+(n2+2) by omega]; exact hz)
   have hvl':nv (vs.take n2)<WB ^ n2:=by have:=ob (hvw.take n2); rw [HT,Ix (by omega)] at this; exact this
   have hul':nv ((u.drop k).take n2)<WB ^ n2:=by
    have:=ob (l:=(u.drop k).take n2) (fun z hz=>h4 z (List.mem_of_mem_drop (JV hz)));rw [HT,Jh,Ix (by omega)] at this; exact this
   have hS:z7 WB (WB ^ n2) y1.n.toNat y2.n.toNat (nv (vs.take n2)) t2.n.toNat (nv ((u.drop k).take n2)) (t0.n.toNat*WB+t1.n.toNat) (nv vs) (nv (u.drop k)):=
    ⟨hVe,hUe,hvl',hul',by show t2.n.toNat<4294967296; omega,by show y2.n.toNat<4294967296; omega⟩
   have hle:t0.n.toNat≤y1.n.toNat:=xk hXe hVe h8 hvl' (by show y2.n.toNat<4294967296; omega)
   have hVpos:0<nv vs:=by omega
   obtain ⟨q,hq1,hq2,hqW⟩:∃ q,q*nv vs≤nv (u.drop k)∧nv (u.drop k)<(q+1)*nv vs∧q<WB:=by
    refine ⟨nv (u.drop k) / nv vs,Nat.div_mul_le_self _ _,?_,(MY hVpos).2 hUlt⟩;have:=Hi (nv (u.drop k) / nv vs);exact (MY hVpos).1 this
   have hG:=CC hS hq1 (show 1≤y1.n.toNat by omega) (show y1.n.toNat<WB by show y1.n.toNat<4294967296; omega) (show WB≤2*y1.n.toNat by show 4294967296≤2*y1.n.toNat; omega) hle (show t1.n.toNat<WB by show t1.n.toNat<4294967296; omega)
   have hg0:=hG.le;have etop:t0.n*4294967296+t1.n=((t0.n.toNat*WB+t1.n.toNat:Nat):Int):=by
    show _=((t0.n.toNat*4294967296+t1.n.toNat:Nat):Int); omega
   have ey:y1.n=((y1.n.toNat:Nat):Int):=by omega
   have ed:Int.tdiv (t0.n*4294967296+t1.n) y1.n=(((t0.n.toNat*WB+t1.n.toNat) / y1.n.toNat:Nat):Int):=by
    rw [etop,ey]; rfl
   have em:Int.tmod (t0.n*4294967296+t1.n) y1.n=(((t0.n.toNat*WB+t1.n.toNat)%y1.n.toNat:Nat):Int):=by
    rw [etop,ey]; rfl
   rw [ed,em];generalize (t0.n.toNat*WB+t1.n.toNat) / y1.n.toNat=g0 at hG hg0 ⊢;generalize (t0.n.toNat*WB+t1.n.toNat)%y1.n.toNat=rest0 at hG ⊢;have eW:(WB:Nat)=4294967296:=rfl;rw [eW] at hg0;rw [eP (n:=(g0:Int)) (by omega)]
   refine CD hb hvs hvl (by omega) (by omega) y1 y2 t2 hy1 hy2 ht2 (by omega) (by omega) (by omega) (by omega) (by omega) hS hq1 hq2 hqW (fun g hg=>?_) hG
   refine Cn hvs hvl hvw h4 (by omega) (by omega) (by omega) (by omega) rfl hVB hUlt hq1 hq2 hqW hg (fun l' f1 f2 f3 f4=>?_)
   have ek:((k:Int)-1+1).toNat=k:=by omega
   refine hnx _ ⟨by rw [Hw]; exact h1,h2.set (by rw [eW] at hqW; omega),by simp only; omega,f2,by simp only; omega,by simp only; omega,?_,?_⟩ (by simp only; omega)
   ·simp only
    rw [ek,mF (HS (by omega)),nv,J4 (by omega)]
    rw [Ha];rw [Ni] at h7;exact CJ f3 h7
   ·simp only
    rw [ek];have e1:=vM l' (m:=k) (by omega)
    have e2:=vM u (m:=k) (by omega)
    have e3:l'.take k=u.take k:=by
     apply Ji;intro i;rw [It,It]
     by_cases hi:i<k
     ·rw [Hl hi,Hl hi]; exact f4 i hi
     ·rw [Hh hi,Hh hi]
    rw [e3] at e1;refine Dh (a:=nv (u.take k)) (P:=WB ^ k) (Nh (by decide)) ?_ hq2
    omega
  ·have hj:=Hv hj
   rw [show (j+1).toNat=0 by omega,Jg,Nj,Kk] at h7
   rw [show (j+1).toNat=0 by omega,Jg] at h8
   exact hk qs u h1 h2 h3 h4 h7 h8
 ·simp only
  rw [show ((qs0.length:Int)-1+1).toNat=qs0.length by omega,KU]
  simp [nv,hval]
 ·simp only
  rw [show ((qs0.length:Int)-1+1).toNat=qs0.length by omega]
  exact hstart
theorem wv {W S M u0 u1 hi:Nat} (hW:W=S*M) (hS:0<S):
  (u0+W*(u1+W*hi)) / S%W=(u1*W+u0) / S%W:=by
 have e:u0+W*(u1+W*hi)=(u1*W+u0)+S*(M*(W*hi)):=by
  have e1:W*(W*hi)=S*(M*(W*hi)):=by rw [← M7 S M,← hW]
  rw [M6,e1,M8 W u1]; omega
 rw [e,Nat.add_mul_div_left _ _ hS];have e2:M*(W*hi)=W*(M*hi):=by rw [← M7,M8 M W,M7]
 rw [e2,Nat.add_mul_mod_self_left]
theorem xC {W S u0 T:Nat} (hu:u0<W):(u0+W*T) / S / W=T / S:=by
 rw [Nat.div_div_eq_div_mul,M8 S W,← Nat.div_div_eq_div_mul,Nat.add_mul_div_left _ _ (by omega),MX hu,H_]
theorem FF {n:Int}{k:Nat} (hk:k≤64):jA .u64 n (k:Int)=n / (2 ^ k:Nat):=by
 unfold jA;rw [show (min ((k:Int)).toNat u64.bits)=k by show min ((k:Int)).toNat 64=k; omega,Kb _ (Int.le_of_lt (Int.pow_pos (by decide)))]
 rw [Int.natCast_pow]; rfl
theorem yS {A P d W D D' Z:Nat} (h:A+P*D=Z) (hd:D%W=d) (hD:D / W=D'):(A+P*d)+P*W*D'=Z:=by
 have e:d+W*D'=D:=by rw [← hd,← hD,M5]
 rw [M7 P W,JT,← M6,e,h]
theorem zY {n s:Nat} (hs:s≤31) {u:List bG} (hu:Wf u) (hl:n<u.length) (hz:u.length≤1000001) {qs:List bG}{Q:List bG×List bG→Prop} (hlt:nv u / 2 ^ s<WB ^ n)
  (hk:∀ r,Wf r→r.length=n→nv r=nv u / 2 ^ s→Q (qs,r)):
  Gd (jT (fun k s1815 n=>jD (s:Int) u k s1815 n) (fun s1815=>some (qs,s1815)) n 0 (List.replicate n (⟨0⟩:bG))) Q:=by
 have hS:0<(2:Nat) ^ s:=Nh (by decide)
 have hWS:WB=2 ^ s*2 ^ (32-s):=by rw [← Na,show s+(32-s)=32 by omega]
 refine Gd.jT (fun m k (z:List bG)=>k+m=n∧z.length=n∧Wf z∧nv (z.take k)+WB ^ k*(nv (u.drop k) / 2 ^ s)=nv u / 2 ^ s) ?_ ?_ _ 0 _ ⟨by omega,by simp,fun y hy=>?_,by simp [nv]⟩
 ·rintro m k l nx ⟨h0,h1,h2,h3⟩ hnx
  obtain ⟨x0,hx0⟩:∃ t,u[k]? = some t:=⟨_,G9 (by omega)⟩
  obtain ⟨x1,hx1⟩:∃ t,u[k+1]? = some t:=⟨_,G9 (by omega)⟩
  have w0:=hu x0 (Hu hx0); have w1:=hu x1 (Hu hx1)
  have wk:i64.wrap ((k:Int)+1)=((k+1:Nat):Int):=by rw [bP (by omega)]; omega
  unfold jD;rw [wk];refine Gd.ix (by omega) (by rw [Ha]; exact hx1) (Gd.ix (by omega) (by rw [Ha]; exact hx0) (Gd.nd (by omega) (Gd.iU (by omega) ?_)))
  rw [eP (n:=x1.n) (by omega),tF w1 w0,FF (by omega),rJ,Ha]
  have e1:x1.n*4294967296+x0.n=((x1.n.toNat*WB+x0.n.toNat:Nat):Int):=by
   show _=((x1.n.toNat*4294967296+x0.n.toNat:Nat):Int); omega
  have e2:(x1.n*4294967296+x0.n) / ((2 ^ s:Nat):Int)%4294967296=(((x1.n.toNat*WB+x0.n.toNat) / 2 ^ s%WB:Nat):Int):=by
   rw [e1]; rfl
  rw [e2];have hd:nv (u.drop k)=x0.n.toNat+WB*nv (u.drop (k+1)):=by rw [mF hx0,nv]
  have hd1:nv (u.drop (k+1))=x1.n.toNat+WB*nv (u.drop (k+2)):=by rw [mF hx1,nv]
  have hm:=wv (u0:=x0.n.toNat) (u1:=x1.n.toNat) (hi:=nv (u.drop (k+2))) hWS hS;rw [← hd1,← hd] at hm;have hn:=xC (W:=WB) (S:=2 ^ s) (u0:=x0.n.toNat) (T:=nv (u.drop (k+1))) (by show x0.n.toNat<4294967296; omega)
  rw [← hd] at hn;have hlt':(x1.n.toNat*WB+x0.n.toNat) / 2 ^ s%WB<WB:=KA _ (by decide)
  refine hnx _ ⟨by omega,by rw [Hw]; exact h1,h2.set ⟨by omega,by have:(WB:Nat)=4294967296:=rfl; rw [this] at hlt'; omega⟩,?_⟩
  rw [ra (by omega),pI,HT,Ix (by omega),Ni,Ha]
  exact yS h3 hm hn
 ·rintro k l ⟨h0,h1,h2,h3⟩
  have hk':k=n:=by omega
  subst hk';rw [HN (by omega)] at h3
  have h0':=uO h3.symm hlt;rw [h0',M_,Jb] at h3;exact Gd.ret (hk l h2 h1 h3)
 ·rw [MS] at hy
  rw [hy.2]; simp
theorem Fo {q V a b S u:Nat} (hS:0<S) (hV:V=b*S) (h:q*V+u=a*S) (hu:u<V):u / S=a-q*b∧a-q*b<b∧q*b≤a:=by
 have e:q*V=q*b*S:=by rw [hV,M7]
 have hle:q*b≤a:=by
  have h1:q*b*S≤a*S:=by omega
  exact Nat.le_of_mul_le_mul_right h1 hS
 have e2:u=(a-q*b)*S:=by rw [Nat.mul_sub_right_distrib]; omega
 refine ⟨by rw [e2,Nat.mul_div_cancel _ hS],?_,hle⟩
 rw [e2,hV] at hu;exact Nat.lt_of_mul_lt_mul_right hu
theorem FR {q a b:Nat} (h1:a-q*b<b) (h2:q*b≤a):q=a / b∧a-q*b=a%b:=by
 have:=(Nat.div_mod_unique (a:=a) (b:=b) (c:=a-q*b) (d:=q) (by omega)).2 ⟨by rw [M8 b q]; omega,h1⟩
 exact ⟨this.1.symm,this.2.symm⟩
theorem Dw {W S M x B P:Nat} (hWS:W=S*M) (hx:x*S<W) (hB:B<(x+1)*P):B*S<W*P:=by
 have h1:x<M:=by rw [hWS,M8] at hx; exact M4 hx
 have h2:(x+1)*S≤W:=by rw [hWS,M8 S M]; exact HD _ h1
 have hS:0<S:=by
  rcases Nat.eq_zero_or_pos S with h | h
  ·rw [h] at hWS; simp at hWS; rw [hWS] at hx; omega
  ·exact h
 have h3:B*S<(x+1)*P*S:=(Nat.mul_lt_mul_right hS).2 hB;have h4:(x+1)*P*S=(x+1)*S*P:=by rw [M7,M8 P S,← M7]
 have h5:(x+1)*S*P≤W*P:=HD _ h2;omega
theorem Co {a b:List bG} (ha:Wf a) (hb:Wf b) (hta:qH a) (htb:qH b) (hne:b≠[]) (hza:a.length≤900000) (hzb:b.length≤900000):
  Gd (kq a b) (fun r=>Wf r.1∧Wf r.2∧r.1.length≤a.length∧r.2.length≤a.length∧nv r.1=nv a / nv b∧nv r.2=nv a%nv b):=by
 unfold kq;refine Gd.eJ (Cd ha hb hta htb (by omega) (by omega)) (fun c hc=>Gd.ite (fun h=>?_) (fun h=>?_))
 ·have hlt:=hc.1.1 (Hk h)
  exact Gd.ret ⟨Wf.nil,ha,by simp,HH _,by rw [MX hlt]; rfl,by rw [Jr hlt]⟩
 ·have hge:nv b≤nv a:=by
   have h:=Hv h;have:=mt hc.1.2 h;omega
  have hbl:0<b.length:=MQ.2 hne;have hle:b.length≤a.length:=by
   rcases Jx a.length b.length with h | h
   ·have:=qk ha hb htb h; omega
   ·exact h
  refine Gd.ite (fun h1=>?_) (fun h1=>?_)
  ·have h1:=Hk h1
   have h1:b.length=1:=by omega
   obtain ⟨x,rfl⟩:=MO.1 h1;have hx:=hb x (by simp)
   have hx0:x.n≠0:=htb x (by simp)
   refine Gd.ix (y:=x) (by omega) (by simp) (Gd.eJ (yO ha (by omega) (d:=x.n) (by omega)) (fun r hr=>Gd.ret ?_))
   obtain ⟨r1,r2,r3,r4⟩:=hr;have hm:nv a%x.n.toNat<x.n.toNat:=KA _ (by omega)
   refine ⟨r1,?_,by simp only; omega,by simp at hle ⊢; omega,by rw [r3,vK],?_⟩
   ·refine Wf.one ?_
    rw [r4]; omega
   ·simp only
    rw [vK,vK,r4,Ha]
  ·have h1:=Hv h1
   obtain ⟨n2,hn2⟩:∃ n2,b.length=n2+2:=⟨b.length-2,by omega⟩
   have wn1:i64.wrap ((b.length:Int)-1)=((n2+1:Nat):Int):=by rw [hn2,bP (by omega)]; omega
   have wab:i64.wrap ((a.length:Int)-(b.length:Int))=((a.length-b.length:Nat):Int):=by rw [bP (by omega)]; omega
   have wab1:i64.wrap (((a.length-b.length:Nat):Int)+1)=((a.length-b.length+1:Nat):Int):=by rw [bP (by omega)]; omega
   rw [wn1,wab,wab1];obtain ⟨x,hx⟩:∃ t,b[n2+1]? = some t:=⟨_,G9 (by omega)⟩
   have hxw:=hb x (Hu hx);have hx0:x.n≠0:=htb x (by rw [MM,hn2]; exact hx)
   refine Gd.ix (by omega) (by rw [Ha]; exact hx) (Gd.eJ (FW (x:=x.n) (by omega) hxw.2) ?_)
   rintro sv ⟨s,rfl,hs1,hs2,hs3⟩;refine Gd.eJ (vY ha (by omega) hs1) (fun u0 hu0=>Gd.eJ (vY hb (by omega) hs1) (fun v0 hv0=>?_))
   obtain ⟨p1,p2,p3,p4⟩:=hu0;obtain ⟨q1,q2,q3,t,q4,q5⟩:=hv0;refine Gd.nd (by omega) (Gd.nd (by omega) ?_)
   have hS:0<(2:Nat) ^ s:=Nh (by decide)
   have hWS:WB=2 ^ s*2 ^ (32-s):=by rw [← Na,show s+(32-s)=32 by omega]
   have hbs:nv b=nv (b.take (n2+1))+WB ^ (n2+1)*x.n.toNat:=by
    have:=mL hx;rw [HN (by omega)] at this; exact this
   have hbt:nv (b.take (n2+1))<WB ^ (n2+1):=by
    have:=ob (hb.take (n2+1)); rw [HT,Ix (by omega)] at this; exact this
   have hb2:nv b<(x.n.toNat+1)*WB ^ (n2+1):=by rw [HI,M8 x.n.toNat]; omega
   have hvlt:nv v0<WB ^ (n2+2):=by
    rw [q3,Ni,M8 _ WB];exact Dw hWS hs3 hb2
   have hvs:nv (v0.take b.length)=nv v0∧Wf (v0.take b.length)∧(v0.take b.length).length=b.length:=by
    refine ⟨?_,q1.take _,by rw [HT]; omega⟩
    have e:=vM v0 (m:=b.length) (by omega)
    have hz:nv (v0.drop b.length)=0:=uO e (by rw [hn2]; exact hvlt)
    rw [hz,M_,Jb] at e;exact e.symm
   have hsl:nr v0 0 (((b.length:Int):Int).toNat)=v0.take b.length:=by
    rw [Ha]; rfl
   generalize v0.take b.length=vs at hvs hsl;obtain ⟨v1,v2,v3⟩:=hvs;obtain ⟨y1,hy1⟩:∃ t,vs[n2+1]? = some t:=⟨_,G9 (by omega)⟩
   obtain ⟨y2,hy2⟩:∃ t,vs[n2]? = some t:=⟨_,G9 (by omega)⟩
   have hy1w:=v2 y1 (Hu hy1);have hVS:nv vs=nv b*2 ^ s:=by rw [v1,q3]
   have hnorm:2147483648≤y1.n:=by
    have e1:nv vs=nv (vs.take (n2+1))+WB ^ (n2+1)*y1.n.toNat:=by
     have:=mL hy1;rw [HN (by omega)] at this; exact this
    have e2:nv (vs.take (n2+1))<WB ^ (n2+1):=by
     have:=ob (v2.take (n2+1)); rw [HT,Ix (by omega)] at this; exact this
    have e3:WB ^ (n2+1)*x.n.toNat*2 ^ s≤nv b*2 ^ s:=HD _ (by omega)
    rw [M7] at e3;have e4:WB ^ (n2+1)*(x.n.toNat*2 ^ s)<WB ^ (n2+1)*(y1.n.toNat+1):=by rw [M6 (WB ^ (n2+1)) y1.n.toNat 1]; omega
    have e5:=M4 e4;omega
   have hst:nv (u0.drop (a.length-b.length+1))<nv vs:=by
    have e:=vM u0 (m:=a.length-b.length+1) (by omega)
    have h1:WB ^ (n2+1)≤nv b:=by have:=yD hb htb hne; rw [hn2] at this; exact this
    have h2:nv a<WB ^ a.length:=ob ha;have h3:nv u0<WB ^ a.length*2 ^ s:=by rw [p3]; exact (Nat.mul_lt_mul_right hS).2 h2
    have h4:WB ^ a.length*2 ^ s=WB ^ (a.length-b.length+1)*(WB ^ (n2+1)*2 ^ s):=by
     rw [← M7,← Na]; congr 2; omega
    have h5:nv (u0.drop (a.length-b.length+1))<WB ^ (n2+1)*2 ^ s:=by
     rw [h4] at h3;exact M4 (a:=WB ^ (a.length-b.length+1)) (by omega)
    have h6:WB ^ (n2+1)*2 ^ s≤nv b*2 ^ s:=HD _ h1;omega
   have hstart:((a.length-b.length:Nat):Int)=((List.replicate (a.length-b.length+1) (⟨0⟩:bG)).length:Int)-1:=by
    rw [IS]; omega
   rw [Ha,hstart];refine A8 (N:=a.length+1) (U0:=nv a*2 ^ s) hn2 hsl v3 v2 (by omega) y1 y2 hy1 hy2 hnorm _ u0 (by rw [IS]; omega) (fun y hy=>by rw [MS] at hy; rw [hy.2]; simp) p2 p1 (by rw [IS]; exact hst) p3 ?_
   intro qs u f1 f2 f3 f4 f5 f6;obtain ⟨g1,g2,g3⟩:=Fo hS hVS f5 f6;obtain ⟨g4,g5⟩:=FR g2 g3;refine Gd.nd (by omega) ?_
   rw [Ha];refine zY hs1 f4 (by omega) (by omega) ?_ (fun r r1 r2 r3=>⟨f2,r1,?_,?_,g4,?_⟩)
   ·rw [g1]; have:=ob hb; omega
   ·simp only; rw [f1,IS]; omega
   ·simp only; omega
   ·simp only; rw [r3,g1,g5]
theorem rm {w:List bG} (hw:Wf w) (ht:qH w):nv w=0↔w=[]:=by
 constructor
 ·intro h
  rcases MI w with h' | ⟨a,y,h'⟩
  ·exact h'
  ·have:=yD hw ht (by rw [h']; simp)
   have hp:0<WB ^ (w.length-1):=Nh (by decide)
   omega
 ·intro h; rw [h]; rfl
theorem C3 {a b:List bG} (ha:Wf a) (hb:Wf b) (hta:qH a) (htb:qH b) (h:nv a=nv b):a=b:=by
 rcases Ks a.length b.length with h1 | h1 | h1
 ·have:=qk ha hb htb h1; omega
 ·exact C2 ha hb h1 h
 ·have:=qk hb ha hta h1; omega
theorem oh.ext' {a b:LI} (ha:oh a) (hb:oh b) (h:eK a=eK b):a=b:=by
 obtain ⟨am,aw⟩:=a; obtain ⟨bm,bw⟩:=b
 have za:=rm ha.wf ha.tp; have zb:=rm hb.wf hb.tp
 have sa:=ha.sign; have sb:=hb.sign
 simp only [eK] at h za zb sa sb;have key:am=bm→aw=bw→(aB.mk am aw)=aB.mk bm bw:=by rintro rfl rfl; rfl
 cases am <;> cases bm <;> simp at h sa sb
 ·exact key rfl (C3 ha.wf hb.wf ha.tp hb.tp (by omega))
 ·have:nv bw=0:=by omega
  exact absurd (zb.1 this) sb
 ·have:nv aw=0:=by omega
  exact absurd (za.1 this) sa
 ·exact key rfl (C3 ha.wf hb.wf ha.tp hb.tp (by omega))
def FK (A B:Nat):Nat:=if B=0 then 0 else 2*Nat.log2 (A*B)+2+(if A<B then 1 else 0)
theorem Fs {A B:Nat} (hB:B≠0):FK B (A%B)<FK A B:=by
 unfold FK;rw [Hh hB]
 by_cases hR:A%B=0
 ·rw [Hl hR]; omega
 ·rw [Hh hR]
  have hlt:A%B<B:=KA _ (by omega)
  rw [Hh (by omega:¬ B<A%B)]
  by_cases hAB:A<B
  ·rw [Hl hAB,Jr hAB,M8 B A]; omega
  ·rw [Hh hAB]
   have hle:2*(B*(A%B))≤A*B:=by
    have h1:A%B+B*(A / B)=A:=M5 A B;have h2:1≤A / B:=(MZ (by omega)).2 (by omega)
    have h3:B*1≤B*(A / B):=M9 _ h2;have h4:B*(2*(A%B))≤B*A:=M9 _ (by omega)
    rw [M8 A B,← M7,M8 2 B,M7]; exact h4
   have hpos:0<B*(A%B):=Nat.mul_pos (by omega) (by omega)
   have h5:Nat.log2 (B*(A%B))<Nat.log2 (A*B):=by
    have h6:2 ^ Nat.log2 (B*(A%B))≤B*(A%B):=Nat.log2_self_le (by omega)
    have h7:2 ^ (Nat.log2 (B*(A%B))+1)≤A*B:=by rw [Ni]; omega
    exact (Nat.le_log2 (by omega)).2 h7
   omega
theorem uS (n:Nat):WB ^ n=2 ^ (32*n):=by rw [Ng]
theorem Fq {a b:List bG} (ha:Wf a) (hb:Wf b) (hza:a.length≤900000) (hzb:b.length≤900000):FK (nv a) (nv b)≤200000000:=by
 unfold FK
 split
 ·omega
 ·rename_i h
  have h1:Nat.log2 (nv a*nv b)≤64000000:=by
   by_cases h0:nv a*nv b=0
   ·rw [h0]; decide
   ·have h2:nv a*nv b<2 ^ (32*(a.length+b.length)):=by
     rw [← uS,Na];exact Nat.mul_lt_mul_of_lt_of_le (ob ha) (Nat.le_of_lt (ob hb)) (Nh (by decide))
    have:=(Nat.log2_lt h0).2 h2;omega
  split <;> omega
theorem sign_zero {a:LI} (h:oh a):dU a=0↔nv a.words=0:=by
 unfold dU;rw [rm h.wf h.tp]
 by_cases h1:a.words=[]
 ·simp [h1]
 ·have:a.words.length≠0:=fun h=>h1 (H7 h)
  rw [Hh (by simp; exact h1)]
  constructor
  ·intro h; split at h <;> omega
  ·intro h; exact absurd h h1
theorem oh.pos {w:List bG} (hw:Wf w) (ht:qH w):oh (aB.mk false w):=⟨hw,ht,fun h=>by simp at h⟩
theorem CB {a b:LI} (ha:oh a) (hb:oh b) {L:Nat} (hL:L≤900000) (hza:a.words.length≤L) (hzb:b.words.length≤L):
  Gd (lG a b) (fun r=>oh r∧r.minus=false∧r.words.length≤L∧nv r.words=Nat.gcd (nv a.words) (nv b.words)):=by
 unfold lG;refine Gd.fD (fun (z:Bool×List bG×Bool×List bG)=>z.1=false∧z.2.2.1=false∧Wf z.2.1∧qH z.2.1∧Wf z.2.2.2∧qH z.2.2.2∧z.2.1.length≤L∧z.2.2.2.length≤L∧Nat.gcd (nv z.2.2.2) (nv z.2.1)=Nat.gcd (nv a.words) (nv b.words)) (fun z=>FK (nv z.2.2.2) (nv z.2.1)) ?_ eB _ ⟨rfl,rfl,hb.wf,hb.tp,ha.wf,ha.tp,hzb,hza,rfl⟩ ?_
 ·rintro ⟨c1,l1,c2,l2⟩ nx ⟨h1,h2,h3,h4,h5,h6,h7,h8,h9⟩ hnx
  simp only at h1 h2 h3 h4 h5 h6 h7 h8 h9 hnx ⊢;subst h1 h2;unfold p5 nY;have hs:=sign_zero (oh.pos h3 h4);simp only at hs;refine Gd.ite (fun h=>?_) (fun h=>?_)
  ·have hB:nv l1≠0:=by
    intro e;rw [hs.2 e] at h; simp at h
   refine Gd.eJ (Co h5 h3 h6 h4 (fun e=>hB (by rw [e]; rfl)) (by omega) (by omega)) (fun r hr=>?_)
   obtain ⟨r1,r2,r3,r4,r5,r6⟩:=hr;refine Gd.nd (by omega) (Gd.eJ (oV false r.2 r2 (by omega)) (fun s hs'=>?_))
   obtain ⟨s1,s2,s3,s4⟩:=hs';have hm:s.minus=false:=by
    rcases Mu s.minus with h | h
    ·have:=s4.1 h; simp at this
    ·exact h
   refine hnx _ ⟨hm,rfl,s1.wf,s1.tp,h3,h4,by simp only; omega,h7,?_⟩ ?_
   ·simp only
    rw [s3,r6,← h9,← Nat.gcd_comm (nv l1) (nv l2),Nat.gcd_rec (nv l1) (nv l2),Nat.gcd_comm]
   ·simp only
    rw [s3,r6];exact Fs hB
  ·have hB:nv l1=0:=by
    apply hs.1;simpa using h
   rw [hB,Nat.gcd_zero_right] at h9;exact Gd.ret ⟨oh.pos h5 h6,rfl,h8,h9⟩
 ·simp only [eB]
  have:=Fq ha.wf hb.wf (by omega) (by omega)
  omega
theorem E0 {a b:LI} (ha:oh a) (hb:oh b) (hm:a.minus=false) (h0:nv b.words≠0) (hza:a.words.length≤900000) (hzb:b.words.length≤900000):
  Gd (cE a b) (fun r=>oh r.1∧r.1.minus=false∧r.1.words.length≤a.words.length∧nv r.1.words=nv a.words / nv b.words):=by
 unfold cE iY;refine Gd.eJ (Co ha.wf hb.wf ha.tp hb.tp (fun e=>h0 (by rw [e]; rfl)) hza hzb) (fun r hr=>?_)
 obtain ⟨r1,r2,r3,r4,r5,r6⟩:=hr;refine Gd.nd (by omega) (Gd.eJ (oV _ _ r1 (by omega)) (fun s hs=>Gd.nd (by omega) (Gd.eJ (oV _ _ r2 (by omega)) (fun t ht=>?_))))
 obtain ⟨s1,s2,s3,s4⟩:=hs;obtain ⟨t1,t2,t3,t4⟩:=ht;rw [hm] at s4 t4;have hsm:s.minus=false:=by
  rcases Mu s.minus with h | h
  ·have:=s4.1 h; simp at this
  ·exact h
 refine Gd.ite (fun h=>?_) (fun h=>Gd.ret ⟨s1,hsm,by simp only; omega,by simp only; rw [s3,r5]⟩)
 have:=t4.1 h; simp at this
abbrev LR:=aA
structure lh (r:LR):Prop where
 n:oh r.N
 d:oh r.D
 pos:r.D.minus=false
 nz:nv r.D.words≠0
 Gn:Nat.Coprime (nv r.N.words) (nv r.D.words)
def rv (r:LR):Rat:=Rat.divInt (eK r.N) (eK r.D)
theorem lQ {a:LI} (h:a.minus=false):eK a=(nv a.words:Nat):=by unfold eK; rw [h]; rfl
theorem gQ (a:LI):(eK a).natAbs=nv a.words:=by
 unfold eK
 split <;> omega
theorem lh.eq {r:LR} (h:lh r):rv r=Rat.mk' (eK r.N) (nv r.D.words) h.nz (by rw [gQ]; exact h.Gn):=by
 unfold rv;rw [lQ h.pos];exact (Rat.num_divInt_den (Rat.mk' (eK r.N) (nv r.D.words) h.nz (by rw [gQ]; exact h.Gn)))
theorem lh.num {r:LR} (h:lh r):(rv r).num=eK r.N:=by rw [h.eq]
theorem lh.den {r:LR} (h:lh r):(rv r).den=nv r.D.words:=by rw [h.eq]
theorem lh.ext' {r s:LR} (h:lh r) (k:lh s) (e:rv r=rv s):r=s:=by
 have e1:eK r.N=eK s.N:=by rw [← h.num,← k.num,e]
 have e2:nv r.D.words=nv s.D.words:=by rw [← h.den,← k.den,e]
 have e3:=h.n.ext' k.n e1;have e4:=h.d.ext' k.d (by rw [lQ h.pos,lQ k.pos,e2])
 obtain ⟨a,b⟩:=r; obtain ⟨c,d⟩:=s
 simp only at e3 e4; rw [e3,e4]
def RL (r:LR) (L:Nat):Prop:=r.N.words.length≤L∧r.D.words.length≤L
theorem RL.mono {r:LR}{L M:Nat} (h:RL r L) (hM:L≤M):RL r M:=⟨IY h.1 hM,IY h.2 hM⟩
theorem sJ {g a b:Int} (hg:g≠0) (hb:b≠0):Rat.divInt (g*a) (g*b)=Rat.divInt a b:=by
 rw [Rat.divInt_eq_divInt_iff (Int.mul_ne_zero hg hb) hb];rw [Int.mul_comm g a,Mz]
theorem F1 {n d g:LI} (hn:oh n) (hd:oh d) (hg:oh g) (hdm:d.minus=false) (hd0:nv d.words≠0) (hgv:nv g.words=Nat.gcd (nv n.words) (nv d.words))
  (hzn:n.words.length≤900000) (hzd:d.words.length≤900000) (hzg:g.words.length≤900000):
  Gd ((cE (aB.mk false n.words) g).bind fun r195=>(cE (aB.mk d.minus d.words) g).bind fun r203=>if n.minus then (some (aA.mk (aB.mk (decide (0<(r195.1.words.length:Int))) r195.1.words) r203.1)) else (some (aA.mk (aB.mk false r195.1.words) r203.1)))
   (fun r=>lh r∧r.N.words.length≤n.words.length∧r.D.words.length≤d.words.length∧rv r=Rat.divInt (eK n) (eK d)):=by
 have hg0:nv g.words≠0:=by
  rw [hgv];exact Nat.ne_of_gt (Nat.gcd_pos_of_pos_right _ (by omega))
 have gN:nv g.words ∣ nv n.words:=by rw [hgv]; exact Nat.gcd_dvd_left _ _
 have gD:nv g.words ∣ nv d.words:=by rw [hgv]; exact Nat.gcd_dvd_right _ _
 have hco:Nat.Coprime (nv n.words / nv g.words) (nv d.words / nv g.words):=by
  rw [hgv]; exact Nat.coprime_div_gcd_div_gcd (Nat.gcd_pos_of_pos_right _ (by omega))
 obtain ⟨n',hn'⟩:=gN;obtain ⟨d',hd'⟩:=gD;have en:nv n.words / nv g.words=n':=by rw [hn',Nat.mul_div_cancel_left _ (by omega)]
 have ed:nv d.words / nv g.words=d':=by rw [hd',Nat.mul_div_cancel_left _ (by omega)]
 have hd0':d'≠0:=by intro h; rw [h] at hd'; simp at hd'; exact hd0 hd'
 refine Gd.eJ (E0 (a:=aB.mk false n.words) (oh.pos hn.wf hn.tp) hg rfl hg0 hzn hzg) (fun r hr=>Gd.eJ (E0 (a:=aB.mk d.minus d.words) hd hg hdm hg0 hzd hzg) (fun t ht=>?_));obtain ⟨r1,r2,r3,r4⟩:=hr;obtain ⟨t1,t2,t3,t4⟩:=ht;simp only at r3 r4 t3 t4;rw [en] at r4 hco;rw [ed] at t4 hco;have hd2:eK d=(nv g.words:Int)*(d':Int):=by rw [lQ hdm,hd',Ip]
 have ht2:eK t.1=(d':Int):=by rw [lQ t2,t4]
 refine Gd.ite (fun h=>Gd.ret ?_) (fun h=>Gd.ret ?_)
 ·have hN:oh (aB.mk (decide (0<(r.1.words.length:Int))) r.1.words):=⟨r1.wf,r1.tp,fun h e=>by simp only at h e; rw [e] at h; simp at h⟩
  refine ⟨⟨hN,t1,t2,by simp only; omega,by simp only; rw [r4,t4]; exact hco⟩,r3,t3,?_⟩
  have hi:eK (aB.mk (decide (0<(r.1.words.length:Int))) r.1.words) = -(n':Int):=by
   unfold eK;simp only;rw [r4]
   by_cases hl:r.1.words=[]
   ·rw [hl] at r4 ⊢
    have:n'=0:=r4.symm;rw [this]; simp
   ·have:=MQ.2 hl
    rw [Hl (by simp; omega)]
  have rS:eK n=(nv g.words:Int)*(-(n':Int)):=by
   unfold eK; rw [Hl h,hn',Ip,Int.mul_neg]
  unfold rv;simp only;rw [hi,ht2,rS,hd2,sJ (by omega) (by omega)]
 ·refine ⟨⟨oh.pos r1.wf r1.tp,t1,t2,by simp only; omega,by simp only; rw [r4,t4]; exact hco⟩,r3,t3,?_⟩
  have hi:eK (aB.mk false r.1.words)=(n':Int):=by
   rw [lQ rfl]; simp only; rw [r4]
  have rS:eK n=(nv g.words:Int)*(n':Int):=by
   rw [lQ h,hn',Ip]
  unfold rv;simp only;rw [hi,ht2,rS,hd2,sJ (by omega) (by omega)]
theorem yE {w:List bG} (h:decide ((w.length:Int)=1)=true):∃ x,w=[x]:=by
 have:=Hk h;exact MO.1 (by omega)
theorem AG {x:bG} (hx:0≤x.n):nv [x]=1↔x.n=1:=by rw [vK]; omega
theorem Dg {n d:LI} (hn:oh n) (hd:oh d) (hdm:d.minus=false) (hd0:nv d.words≠0) (hzn:n.words.length≤900000) (hzd:d.words.length≤900000):
  Gd (kn d.minus d.words n.minus n.words) (fun r=>lh r∧r.N.words.length≤n.words.length∧r.D.words.length≤d.words.length∧rv r=Rat.divInt (eK n) (eK d)):=by
 have self:Nat.gcd (nv n.words) (nv d.words)=1→Gd (some (aA.mk (aB.mk n.minus n.words) (aB.mk d.minus d.words))) (fun r=>lh r∧r.N.words.length≤n.words.length∧r.D.words.length≤d.words.length∧rv r=Rat.divInt (eK n) (eK d)):=fun hg=>
  Gd.ret ⟨⟨hn,hd,hdm,hd0,hg⟩,HH _,HH _,rfl⟩
 have part:Gd ((lG (aB.mk n.minus n.words) (aB.mk d.minus d.words)).bind fun r135=>if decide ((r135.words.length:Int)=1) then (idx r135.words 0 fun y160=>if decide (y160.n=1) then (some (aA.mk (aB.mk n.minus n.words) (aB.mk d.minus d.words))) else ((cE (aB.mk false n.words) r135).bind fun r165=>(cE (aB.mk d.minus d.words) r135).bind fun r173=>if n.minus then (some (aA.mk (aB.mk (decide (0<(r165.1.words.length:Int))) r165.1.words) r173.1)) else (some (aA.mk (aB.mk false r165.1.words) r173.1)))) else ((cE (aB.mk false n.words) r135).bind fun r143=>(cE (aB.mk d.minus d.words) r135).bind fun r151=>if n.minus then (some (aA.mk (aB.mk (decide (0<(r143.1.words.length:Int))) r143.1.words) r151.1)) else (some (aA.mk (aB.mk false r143.1.words) r151.1))))
   (fun r=>lh r∧r.N.words.length≤n.words.length∧r.D.words.length≤d.words.length∧rv r=Rat.divInt (eK n) (eK d)):=by
  refine Gd.eJ (CB (L:=900000) hn hd (by omega) hzn hzd) (fun g hg=>?_)
  obtain ⟨g1,g2,g3,g4⟩:=hg;refine Gd.ite (fun h=>?_) (fun h=>F1 hn hd g1 hdm hd0 g4 hzn hzd g3);obtain ⟨x,hx⟩:=yE h;have hxw:=g1.wf x (by rw [hx]; simp)
  refine Gd.ix (y:=x) (by omega) (by rw [hx]; rfl) (Gd.ite (fun h2=>self ?_) (fun h2=>F1 hn hd g1 hdm hd0 g4 hzn hzd g3))
  rw [← g4,hx,AG hxw.1]; exact Hk h2
 unfold kn;refine Gd.ite (fun h=>?_) (fun h=>part);obtain ⟨x,hx⟩:=yE h;have hxw:=hd.wf x (by rw [hx]; simp)
 refine Gd.ix (y:=x) (by omega) (by rw [hx]; rfl) (Gd.ite (fun h2=>self ?_) (fun h2=>part))
 have:=(AG hxw.1).2 (Hk h2);rw [hx,this,Nat.gcd_one_right]
theorem r8 {n d:LI} (hn:oh n) (hd:oh d) (hd0:nv d.words≠0) (hzn:n.words.length≤900000) (hzd:d.words.length≤900000):
  Gd (kf n d) (fun r=>lh r∧r.N.words.length≤n.words.length∧r.D.words.length≤d.words.length∧rv r=Rat.divInt (eK n) (eK d)):=by
 unfold kf;refine Gd.ite (fun h=>?_) (fun h=>Dg hn hd h hd0 hzn hzd);refine Gd.eJ (xp hn (by omega)) (fun n' hn'=>Gd.eJ (xp hd (by omega)) (fun d' hd'=>?_))
 have e:nv d'.words=nv d.words:=by rw [← gQ,hd'.2.2,Int.natAbs_neg,gQ]
 have hm:d'.minus=false:=by
  have h1:=hd'.2.2;unfold eK at h1;rw [Hl h] at h1;rcases Mu d'.minus with h2 | h2
  ·rw [Hl h2] at h1; omega
  ·exact h2
 refine (Dg hn'.1 hd'.1 hm (by rw [e]; exact hd0) (by omega) (by omega)).mono (fun r hr=>⟨hr.1,by omega,by omega,?_⟩)
 rw [hr.2.2.2,hn'.2.2,hd'.2.2];rw [Rat.neg_divInt_neg]
theorem E8 {r:LR} (h:lh r):eK r.D≠0:=by rw [lQ h.pos]; have:=h.nz; omega
theorem zJ {a b c:LI} (h:eK c=eK a*eK b) (ha:nv a.words≠0) (hb:nv b.words≠0):nv c.words≠0:=by
 rw [← gQ,h,Int.natAbs_mul,gQ,gQ];exact Nat.mul_ne_zero ha hb
theorem rq {a b:LR} (ha:lh a) (hb:lh b) {A B:Nat} (la:RL a A) (lb:RL b B) (hz:A+B≤800000):
  Gd (eX a b) (fun r=>lh r∧RL r (A+B+1)∧rv r=rv a+rv b):=by
 have:=la.1; have:=la.2; have:=lb.1; have:=lb.2
 unfold eX;refine Gd.eJ (qL ha.n hb.d (by omega)) (fun x hx=>Gd.eJ (qL hb.n ha.d (by omega)) (fun y hy=>Gd.eJ (xg hx.1 hy.1 (by omega) (by omega)) (fun s hs=>Gd.eJ (qL ha.d hb.d (by omega)) (fun z hz'=>?_))))
 refine Gd.eJ (r8 hs.1 hz'.1 (zJ hz'.2.2 ha.nz hb.nz) (by omega) (by omega)) (fun r hr=>Gd.ret ⟨hr.1,⟨by omega,by omega⟩,?_⟩)
 rw [hr.2.2.2,hs.2.2,hx.2.2,hy.2.2,hz'.2.2];unfold rv;rw [Rat.divInt_add_divInt _ _ (E8 ha) (E8 hb)]
theorem AN {a:LR} (ha:lh a) {A:Nat} (la:RL a A) (hz:A≤800000):
  Gd (kK a) (fun r=>lh r∧RL r A∧rv r = -rv a):=by
 have:=la.1; have:=la.2
 unfold kK;refine Gd.eJ (xp ha.n (by omega)) (fun x hx=>Gd.ret ⟨⟨hx.1,ha.d,ha.pos,ha.nz,?_⟩,⟨by simp only; omega,la.2⟩,?_⟩)
 ·have e:nv x.words=nv a.N.words:=by rw [← gQ,hx.2.2,Int.natAbs_neg,gQ]
  simp only; rw [e]; exact ha.Gn
 ·unfold rv
  simp only;rw [hx.2.2,Rat.neg_divInt]
theorem sq {a b:LR} (ha:lh a) (hb:lh b) {A B:Nat} (la:RL a A) (lb:RL b B) (hz:A+B≤800000):
  Gd (fZ a b) (fun r=>lh r∧RL r (A+B+1)∧rv r=rv a-rv b):=by
 unfold fZ;refine Gd.eJ (AN hb lb (by omega)) (fun c hc=>Gd.eJ (rq ha hc.1 la hc.2.1 hz) (fun r hr=>Gd.ret ⟨hr.1,hr.2.1,?_⟩))
 rw [hr.2.2,hc.2.2,Rat.sub_eq_add_neg]
theorem tK {a b:LR} (ha:lh a) (hb:lh b) {A B:Nat} (la:RL a A) (lb:RL b B) (hz:A+B≤800000):
  Gd (iQ a b) (fun r=>lh r∧RL r (A+B)∧rv r=rv a*rv b):=by
 have:=la.1; have:=la.2; have:=lb.1; have:=lb.2
 unfold iQ;refine Gd.eJ (qL ha.n hb.n (by omega)) (fun x hx=>Gd.eJ (qL ha.d hb.d (by omega)) (fun z hz'=>?_))
 refine Gd.eJ (r8 hx.1 hz'.1 (zJ hz'.2.2 ha.nz hb.nz) (by omega) (by omega)) (fun r hr=>Gd.ret ⟨hr.1,⟨by omega,by omega⟩,?_⟩)
 rw [hr.2.2.2,hx.2.2,hz'.2.2];unfold rv;rw [Rat.divInt_mul_divInt]
theorem AO {r:LR} (h:lh r):rv r=0↔nv r.N.words=0:=by
 have hn:=h.num;rw [← gQ,Int.natAbs_eq_zero,← hn,Rat.num_eq_zero]
theorem sh {n:Int} (h:-9223372036854775808≤n∧n≤9223372036854775807):Gd (jz n) (fun r=>lh r∧RL r 2∧rv r=(n:Rat)):=by
 unfold jz;refine Gd.eJ (vO h) (fun x hx=>Gd.eJ (vO (n:=1) (by omega)) (fun y hy=>Gd.ret ?_))
 have hm:y.minus=false:=by
  have h1:=hy.2.2;unfold eK at h1;rcases Mu y.minus with h2 | h2
  ·rw [Hl h2] at h1; omega
  ·exact h2
 have hv:nv y.words=1:=by rw [← gQ,hy.2.2]; rfl
 refine ⟨⟨hx.1,hy.1,hm,by simp only; omega,by simp only; rw [hv]; exact Nat.coprime_one_right _⟩,⟨hx.2.1,hy.2.1⟩,?_⟩
 unfold rv;simp only;rw [hx.2.2,hy.2.2,Rat.divInt_eq_div,Rat.intCast_one]; grind
theorem Am {n d:Int} (h:-9223372036854775808≤n∧n≤9223372036854775807) (k:-9223372036854775808≤d∧d≤9223372036854775807) (h0:d≠0):
  Gd (mJ n d) (fun r=>lh r∧RL r 2∧rv r=(n:Rat) / (d:Rat)):=by
 unfold mJ;refine Gd.eJ (vO h) (fun x hx=>Gd.eJ (vO k) (fun y hy=>?_));have hv:nv y.words≠0:=by rw [← gQ,hy.2.2]; omega
 refine Gd.eJ (r8 hx.1 hy.1 hv (by omega) (by omega)) (fun r hr=>Gd.ret ⟨hr.1,⟨by omega,by omega⟩,?_⟩)
 rw [hr.2.2.2,hx.2.2,hy.2.2,Rat.divInt_eq_div]
abbrev bl (s:ByteArray):List UInt8:=s.data.toList
def ba (l:List UInt8):ByteArray:=⟨l.toArray⟩
@[simp] theorem Ah (l:List UInt8):bl (ba l)=l:=rfl
@[simp] theorem B4 (s:ByteArray):ba (bl s)=s:=by
 show (⟨s.data.toList.toArray⟩:ByteArray)=s;rw [Array.toArray_toList]
theorem y_ {a b:ByteArray} (h:bl a=bl b):a=b:=by rw [← B4 a,h,B4]
theorem w4 (s:ByteArray):(bl s).length=s.size:=by show s.data.toList.length=s.data.size; exact Array.length_toList
theorem eZ (l:List UInt8):(ba l).size=l.length:=(w4 (ba l)).symm
theorem B7 (a b:ByteArray):bl (a++b)=bl a++bl b:=by show (a++b).data.toList=_; simp
theorem y8 (a b:List UInt8):ba a++ba b=ba (a++b):=y_ (B7 _ _)
theorem rQ {a b:List UInt8} (h:ba a=ba b):a=b:=by have:=HB bl h; simpa using this
theorem y9 (s:ByteArray) (i j:Nat):bl (s.extract i j)=((bl s).take j).drop i:=by
 show (s.extract i j).data.toList=(s.data.toList.take j).drop i;simp [ByteArray.data_extract,Array.toList_extract,JU]
theorem nA (l:List UInt8) (i j:Nat):(ba l).extract i j=ba ((l.take j).drop i):=y_ (by rw [y9,Ah,Ah])
theorem Dp (a b:ByteArray):(a++b).size=a.size+b.size:=by rw [← w4,B7,HQ,w4,w4]
theorem pf (c:UInt8):∀ (l:List UInt8),(c ∉ l∧Lib.indexByte l c = -1)∨∃ a b,l=a++c::b∧c ∉ a∧Lib.indexByte l c=a.length
 | []=>.inl ⟨by simp,rfl⟩
 | x::l=>by
  by_cases e:x=c
  ·subst e
   exact .inr ⟨[],l,rfl,by simp,by simp [Lib.indexByte]⟩
  ·have hb:(x == c)=false:=by simpa using e
   rcases pf c l with ⟨h1,h2⟩ | ⟨a,b,rfl,h2,h3⟩
   ·refine .inl ⟨by simp [h1]; exact fun h=>e h.symm,?_⟩
    simp [Lib.indexByte,hb,h2]
   ·refine .inr ⟨x::a,b,rfl,by simp [h2]; exact fun h=>e h.symm,?_⟩
    simp only [Lib.indexByte,hb,h3];rw [Hh (by simp),Hh (by simp)]
    simp only [Hz]; omega
theorem zg (c:UInt8):gL (ba [c])=[⟨c.toNat⟩]:=by simp [gL,ba]
theorem yo (s:ByteArray) (c:UInt8):eV s (ba [c])=some (Lib.indexByte (bl s) c):=by
 unfold eV d_
 by_cases e:ba [c]=s
 ·subst e
  rw [Hl (by simp)]
  simp [Lib.indexByte]
 ·rw [Hh (by simp [eZ,e]),Hl (by simp [eZ]),zg]
  simp [idx,Ft]
theorem A5 (l:List UInt8):gL (ba l)=l.map fun b=>(⟨b.toNat⟩:U8):=rfl
theorem x9 (l:List UInt8):sQ (l.map fun b=>(⟨b.toNat⟩:U8))=ba l:=by
 refine y_ ?_;show (List.map _ (List.map _ l)).toArray.toList=l;rw [List.map_map,J7]
 conv=>rhs; rw [← List.map_id l]
 refine List.map_congr_left fun b _=>?_;simp
def wy (c:UInt8):Prop:=48≤c.toNat∧c.toNat≤57
instance (c:UInt8):Decidable (wy c):=by unfold wy; infer_instance
def Cr (acc:Nat):List UInt8→Nat
 | []=>acc
 | c::r=>Cr (acc*10+(c.toNat-48)) r
def dv (l:List UInt8):Nat:=Cr 0 l
theorem w9:∀ (l:List UInt8) (acc:Nat),Cr acc l=acc*10 ^ l.length+dv l
 | [],acc=>by
  rw [MP,Nj,Kk]; rfl
 | c::r,acc=>by
  have h2:=w9 r (0*10+(c.toNat-48));unfold dv Cr;rw [w9 r,h2,Hz,Ni];have:(acc*10+(c.toNat-48))*10 ^ r.length=acc*(10 ^ r.length*10)+(0*10+(c.toNat-48))*10 ^ r.length:=by
   rw [HI,Jc,H_,M7,M8 10]
  rw [this,JT]
theorem vf (a b:List UInt8):dv (a++b)=dv a*10 ^ b.length+dv b:=by
 have key:∀ (a:List UInt8) (acc:Nat),Cr acc (a++b)=Cr (Cr acc a) b:=by
  intro a
  induction a with
  | nil=>intro acc; rfl
  | cons c r ih=>intro acc; exact ih _
 unfold dv;rw [key,w9]; rfl
theorem zu (c:UInt8):dv [c]=c.toNat-48:=by
 show 0*10+(c.toNat-48)=_;omega
theorem tj (c:UInt8) (r:List UInt8):dv (c::r)=(c.toNat-48)*10 ^ r.length+dv r:=by
 have:=vf [c] r;rw [zu] at this; simpa using this
theorem Ct (n:Nat):dv (List.replicate n (48:UInt8))=0:=by
 induction n with
 | zero=>rfl
 | succ n ih=>rw [J5,tj,ih]; simp
theorem uo:∀ {l:List UInt8},(∀ c ∈ l,wy c)→dv l<10 ^ l.length
 | [],_=>by
  show 0<10 ^ 0
  decide
 | c::r,h=>by
  have h1:=uo (l:=r) (fun z hz=>h z (Ho _ hz));have h2:=(h c (He ..)).2;rw [tj,Hz,Ni,M8 (10 ^ r.length) 10];have:(c.toNat-48)*10 ^ r.length≤9*10 ^ r.length:=HD _ (by omega)
  generalize 10 ^ r.length=P at *
  omega
theorem Cs {c:UInt8}{r:List UInt8} (hc:wy c) (h0:c≠48):10 ^ r.length≤dv (c::r):=by
 have:1≤c.toNat-48:=by
  have:=hc.1;have hne:c.toNat≠48:=fun e=>h0 (Me.1 (by rw [e]; rfl))
  omega
 rw [tj];have:1*10 ^ r.length≤(c.toNat-48)*10 ^ r.length:=HD _ this;generalize 10 ^ r.length=P at *
 omega
structure yU (l:List UInt8):Prop where
 xF:∀ c ∈ l,wy c
 ne:l≠[]
 lead:l.head? = some 48→l=[48]
theorem vp {a b:List UInt8} (h:a≠[]):(a++b).head? = a.head? := by
 cases a with
 | nil=>exact absurd rfl h
 | cons x r=>rfl
theorem Cm {u:Nat} (h:u<10):(UInt8.ofNat (48+u)).toNat=48+u:=by rw [UInt8.toNat_ofNat']; omega
theorem iX (u:Nat):yU (Lib.decDigits u)∧dv (Lib.decDigits u)=u:=by
 induction u using Nat.strongRecOn with
 | _ u ih=>
  by_cases h:u<10
  ·rw [MD h]
   have hd:=Cm h;refine ⟨⟨fun c hc=>?_,by simp,fun hh=>?_⟩,by rw [zu,hd]; omega⟩
   ·rw [IJ] at hc; subst hc; unfold wy; omega
   ·simp only [MN,H9] at hh
    rw [hh]
  ·obtain ⟨h1,h2⟩:=ih (u / 10) (by omega)
   have e:Lib.decDigits u=Lib.decDigits (u / 10)++[UInt8.ofNat (48+u%10)]:=by rw [Lib.decDigits,dif_neg h]
   have hd:=Cm (u:=u%10) (by omega)
   rw [e];refine ⟨⟨fun c hc=>?_,by simp,fun hh=>?_⟩,?_⟩
   ·rcases HV.1 hc with hc | hc
    ·exact h1.xF c hc
    ·rw [IJ] at hc; subst hc; unfold wy; omega
   ·rw [vp h1.ne] at hh
    have:=h1.lead hh;rw [this] at h2;have:dv [48]=0:=rfl;omega
   ·rw [vf,h2,zu,hd]
    simp only [Is,Nat.pow_one]; omega
theorem AB:∀ {a b:List UInt8},yU a→yU b→dv a=dv b→a=b:=by
 have zero:∀ {a:List UInt8},yU a→dv a=0→a=[48]:=by
  intro a ha h0;cases a with
  | nil=>exact absurd rfl ha.ne
  | cons c r=>
   by_cases hc:c=48
   ·exact ha.lead (by rw [hc]; rfl)
   ·have:=Cs (r:=r) (ha.xF c (He ..)) hc
    have:0<10 ^ r.length:=Nh (by decide)
    omega
 have eqlen:∀ (a b:List UInt8),a.length=b.length→(∀ c ∈ a,wy c)→(∀ c ∈ b,wy c)→dv a=dv b→a=b:=by
  intro a
  induction a with
  | nil=>intro b hl _ _ _; cases b with | nil=>rfl | cons _ _=>simp at hl
  | cons c r ih=>
   intro b hl ha hb h;cases b with
   | nil=>simp at hl
   | cons d s=>
    have hl':r.length=s.length:=by simpa using hl
    have h1:=uo (l:=r) (fun z hz=>ha z (Ho _ hz));have h2:=uo (l:=s) (fun z hz=>hb z (Ho _ hz));have hc:=ha c (He ..);have hd:=hb d (He ..);rw [tj,tj,← hl'] at h;rw [← hl'] at h2;have hP:0<10 ^ r.length:=Nh (by decide)
    have e1:c.toNat-48=d.toNat-48:=by
     have q1:((c.toNat-48)*10 ^ r.length+dv r) / 10 ^ r.length=c.toNat-48:=by
      rw [J9,Nat.add_mul_div_right _ _ hP,MX h1,H_]
     have q2:((d.toNat-48)*10 ^ r.length+dv s) / 10 ^ r.length=d.toNat-48:=by
      rw [J9,Nat.add_mul_div_right _ _ hP,MX h2,H_]
     rw [← q1,h,q2]
    have e2:c=d:=Me.1 (by have:=hc.1; have:=hd.1; omega)
    rw [e1] at h;rw [e2,ih s hl' (fun z hz=>ha z (Ho _ hz)) (fun z hz=>hb z (Ho _ hz)) (by omega)]
 intro a b ha hb h
 by_cases h0:dv a=0
 ·rw [zero ha h0,zero hb (by omega)]
 ·have big:∀ {l:List UInt8},yU l→dv l≠0→∃ c r,l=c::r∧10 ^ r.length≤dv l:=by
   intro l hl hz;cases l with
   | nil=>exact absurd rfl hl.ne
   | cons c r=>
    refine ⟨c,r,rfl,Cs (hl.xF c (He ..)) (fun hc=>hz ?_)⟩;rw [hl.lead (by rw [hc]; rfl)]; rfl
  obtain ⟨c,r,rfl,h1⟩:=big ha h0;obtain ⟨d,s,rfl,h2⟩:=big hb (by omega)
  have h3:=uo ha.xF;have h4:=uo hb.xF;refine eqlen _ _ ?_ ha.xF hb.xF h;rw [h] at h1 h3;have l1:r.length<(d::s).length:=(Nf (by decide)).1 (KD h1 h4)
  have l2:s.length<(c::r).length:=(Nf (by decide)).1 (KD h2 h3)
  simp only [Hz] at l1 l2 ⊢; omega
theorem rf {l:List UInt8} (h:yU l):Lib.decDigits (dv l)=l:=AB (iX _).1 h (iX _).2
theorem wG {u k:Nat} (hk:1≤k) (h:u<10 ^ k):(Lib.decDigits u).length≤k:=by
 obtain ⟨h1,h2⟩:=iX u;cases hl:Lib.decDigits u with
 | nil=>simp
 | cons c r=>
  rw [hl] at h1 h2
  by_cases hc:c=48
  ·rw [h1.lead (by rw [hc]; rfl)]; simpa using hk
  ·have:=Cs (r:=r) (h1.xF c (He ..)) hc
   rw [h2] at this;have:r.length<k:=(Nf (by decide)).1 (KD this h)
   rw [Hz]; exact this
theorem vy {u k:Nat} (h:(Lib.decDigits u).length≤k):u<10 ^ k:=by
 obtain ⟨h1,h2⟩:=iX u;have:=uo h1.xF;rw [h2] at this;exact M3 this (Nd (by decide) h)
def pad (k:Nat) (r:Nat):List UInt8:=List.replicate (k-(Lib.decDigits r).length) 48++Lib.decDigits r
theorem Er {k r:Nat} (hk:1≤k) (h:r<10 ^ k):(pad k r).length=k:=by
 have:=wG hk h;unfold pad;rw [HQ,IS]; omega
theorem Ep (k r:Nat):∀ c ∈ pad k r,wy c:=by
 intro c hc;rcases HV.1 hc with hc | hc
 ·rw [(MS.1 hc).2]; exact ⟨by decide,by decide⟩
 ·exact (iX r).1.xF c hc
theorem Fm (k r:Nat):dv (pad k r)=r:=by
 unfold pad;rw [vf,Ct,(iX r).2]; omega
theorem DZ {k q r:Nat} (hk:1≤k) (hq:0<q) (hr:r<10 ^ k):Lib.decDigits (q*10 ^ k+r)=Lib.decDigits q++pad k r:=by
 obtain ⟨h1,h2⟩:=iX q;refine AB (iX _).1 ⟨fun c hc=>?_,by simp [h1.ne],fun hh=>?_⟩ ?_
 ·rcases HV.1 hc with hc | hc
  ·exact h1.xF c hc
  ·exact Ep _ _ c hc
 ·rw [vp h1.ne] at hh
  rw [h1.lead hh] at h2;have:dv [48]=0:=rfl;omega
 ·rw [(iX _).2,vf,h2,Er hk hr,Fm]
theorem C7 {M:Nat} (hM:M<1844674407370955162):∀ (l:List UInt8) (acc:Nat),(∀ c ∈ l,wy c)→Cr acc l≤M→acc≤M→Lib.parseUintM M acc l=.ok (Cr acc l)
 | [],acc,_,_,_=>rfl
 | c::r,acc,h,hl,ha=>by
  have hc:=h c (He ..);have hle:acc*10+(c.toNat-48)≤M:=by
   have:=w9 r (acc*10+(c.toNat-48));have h1:Cr acc (c::r)=Cr (acc*10+(c.toNat-48)) r:=rfl;have hP:1≤10 ^ r.length:=Nh (by decide)
   have:(acc*10+(c.toNat-48))*1≤(acc*10+(c.toNat-48))*10 ^ r.length:=M9 _ hP;generalize 10 ^ r.length=P at *
   omega
  rw [Lib.parseUintM,Hl (show 48≤c.toNat∧c.toNat≤57 from hc),Hh (by omega),Hh (by omega)]
  exact C7 hM r _ (fun z hz=>h z (Ho _ hz)) hl hle
theorem Ev {l:List UInt8} (h:∀ c ∈ l,wy c) (hl:l.length≤9):Dc (ba l)=((dv l:Int),false):=by
 unfold Dc;have h1:=uo h;have h2:10 ^ l.length≤10 ^ 9:=Nd (by decide) hl
 have e:=C7 (M:=4294967295) (by decide) l 0 h (by show dv l≤_; omega) (by omega)
 show (match Lib.parseUintM 4294967295 0 l with | .ok v=>((v:Int),false) | .range=>(4294967295,true) | _=>(0,true))=_
 rw [e]; rfl
theorem wJ (l:List UInt8):dH (ba l) (⟨#[45]⟩)=some (decide (l.head? = some 45)):=by
 have h1:(⟨#[45]⟩:ByteArray).size=1:=rfl;unfold dH;rw [h1,eZ];cases l with
 | nil=>rfl
 | cons c r=>
  rw [Hl (by simp; omega)]
  unfold dN;rw [Hl (by simp only [Hz]; omega),show ((1:Nat):Int).toNat=1 from rfl,nA]
  congr 1
  have e:(ba (((c::r).take 1).drop 0)=(⟨#[45]⟩:ByteArray))↔((c::r).head? = some 45):=by
   rw [show (⟨#[45]⟩:ByteArray)=ba [45] from rfl];constructor
   ·intro h
    have:=rQ h;simp at this;simp [this]
   ·intro h
    simp only [MN,H9] at h;rw [h]; rfl
  exact decide_eq_decide.2 e
theorem Be (l:List UInt8):ka (ba l) (⟨#[45]⟩)=some (decide (l.head? = some 45)):=by
 unfold ka;rw [wJ l]; rfl
theorem sY (l:List UInt8):g_ (ba l) (⟨#[45]⟩)=some (ba (if l.head? = some 45 then l.tail else l)):=by
 have h1:(⟨#[45]⟩:ByteArray).size=1:=rfl;unfold g_ e_;rw [wJ l];simp only [Ke]
 by_cases h:l.head? = some 45
 ·rw [Hl (by simp [h]),Hl h,h1,eZ]
  cases l with
  | nil=>cases h
  | cons c r=>
   unfold dN;rw [Hl (by simp only [Hz]; omega),show ((1:Nat):Int).toNat=1 from rfl,nA]
   simp
 ·rw [Hh (by simp [h]),Hh h]; rfl
theorem oh.plus {a:LI} (h:oh a) (h0:0≤eK a):a.minus=false:=by
 cases hm:a.minus with
 | false=>rfl
 | true=>
  have hne:=h.sign hm;have:nv a.words≠0:=fun e=>hne ((rm h.wf h.tp).1 e);unfold eK at h0;rw [Hl hm] at h0; omega
theorem DU {n:Nat} (h:0<n) (h2:n≤100000):i64.wrap ((Int.tmod (i64.wrap ((n:Int)-1)) 9)+1)=(((n-1)%9+1:Nat):Int):=by
 rw [bP (n:=(n:Int)-1) ⟨by omega,by omega⟩]
 have:Int.tmod ((n:Int)-1) 9=(((n-1)%9:Nat):Int):=by
  rw [show (n:Int)-1=((n-1:Nat):Int) by omega]
  rw [Int.tmod_eq_emod_of_nonneg (by omega)]; rfl
 rw [this,bP ⟨by omega,by omega⟩]; omega
theorem Bv {D n c v P:Nat} (h:D=0∨n=9) (hP:P=10 ^ n):D*10 ^ 9+c=D*P+c:=by
 rcases h with h | h
 ·rw [h,Jc,Jc]
 ·rw [hP,h]
theorem AM {ds:List UInt8} (h:∀ c ∈ ds,wy c) (hl:ds.length≤2000) (neg:Bool):
  Gd (iG (ba (if neg=true then 45::ds else ds))) (fun a=>oh a∧a.words.length≤10000∧eK a=if neg=true then -(dv ds:Int) else dv ds):=by
 unfold iG;have hll:(if neg=true then 45::ds else ds).length≤1000000:=by
  split
  ·simp only [Hz]; omega
  ·omega
 have hhd:(if neg=true then 45::ds else ds).head? = some 45↔neg=true:=by
  cases neg with
  | true=>simp
  | false=>
   simp only [Jk,JL,iff_false];intro hh;cases ds with
   | nil=>cases hh
   | cons c r=>
    simp only [MN,H9] at hh;have:=(h c (He ..)).1;rw [hh] at this; exact absurd this (by decide)
 have htr:(if (if neg=true then 45::ds else ds).head? = some 45 then (if neg=true then 45::ds else ds).tail else (if neg=true then 45::ds else ds))=ds:=by
  cases neg with
  | true=>simp
  | false=>rw [Hh (by rw [hhd]; simp)]; simp
 refine Gd.bind_eq (Be _) (Gd.bind_eq (sY _) ?_);rw [htr];have hdec:decide ((if neg=true then 45::ds else ds).head? = some 45)=neg:=by
  cases neg with
  | true=>simp
  | false=>rw [NB (by rw [hhd]; simp)]
 rw [hdec];refine Gd.fD (fun (z:ByteArray×Bool×List bG)=>∃ pre suf:List UInt8,ds=pre++suf∧z.1=ba suf∧z.2.1=false∧oh ⟨false,z.2.2⟩∧(nv z.2.2=dv pre)∧z.2.2.length≤5*pre.length∧(pre=[]∨suf.length%9=0))
  (fun z=>z.1.size) ?_ eB _ ⟨[],ds,rfl,rfl,rfl,⟨Wf.nil,fun y hy=>by simp at hy,fun hh=>by simp at hh⟩,rfl,by simp,.inl rfl⟩ (by rw [eZ]; simp only [eB]; omega)
 rintro ⟨s,c,w⟩ nx ⟨pre,suf,e1,e2,e3,e4,e5,e6,e7⟩ hnx;simp only at e2 e3 e4 e5 e6 e7 hnx ⊢;subst e2 e3;have hlen:pre.length+suf.length≤2000:=by rw [← HQ,← e1]; exact hl
 unfold pk;rw [eZ];refine Gd.ite (fun h0=>?_) (fun h0=>?_)
 ·have h0:0<suf.length:=by have:=Hk h0; omega
  rw [DU h0 (by omega)]
  generalize hn:(suf.length-1)%9+1=n;have hn9:n≤9:=by omega
  have hns:n≤suf.length:=by have:=Nat.mod_le (suf.length-1) 9; omega
  rw [Ha,nA,nA,Jg,HN (HH _),eZ];have htl:(suf.take n).length=n:=by rw [HT]; omega
  have hdg:∀ x ∈ suf.take n,wy x:=fun x hx=>h x (by rw [e1]; exact IH _ (JV hx))
  have hpu:=Ev hdg (by rw [htl]; exact hn9)
  have hdl:dv (suf.take n)<10 ^ 9:=M3 (uo hdg) (Nd (by decide) (by omega))
  rw [hpu,htl];refine Gd.nd ⟨by omega,by omega⟩ (Gd.nd ⟨by omega,by omega,rfl⟩ ?_)
  rw [bP (n:=(dv (suf.take n):Int)) ⟨by omega,by omega⟩]
  refine Gd.eJ (vO (n:=1000000000) (by omega)) (fun t ht=>Gd.eJ (qL e4 ht.1 (by simp only; omega)) (fun m hm=>Gd.eJ (vO (n:=(dv (suf.take n):Int)) (by omega)) (fun u hu=>Gd.eJ (xg hm.1 hu.1 (by simp only at hm; omega) (by omega)) (fun r hr=>Gd.nd ⟨by omega,by omega⟩ ?_))))
  have hiv:eK (⟨false,w⟩:LI)=(dv pre:Int):=by unfold eK; simp only [Jk,JL]; rw [e5]
  have hval:eK r=((dv (pre++suf.take n):Nat):Int):=by
   rw [hr.2.2,hm.2.2,ht.2.2,hu.2.2,hiv,vf,htl];have:=Bv (D:=dv pre) (n:=n) (c:=dv (suf.take n)) (v:=0) (P:=10 ^ n) (by
    rcases e7 with e7 | e7
    ·left; rw [e7]; rfl
    ·right; omega) rfl
   rw [← this];have e9:(10 ^ 9:Nat)=1000000000:=rfl;rw [e9];generalize dv pre=A;generalize dv (suf.take n)=C;omega
  have hrm:r.minus=false:=hr.1.plus (by rw [hval]; omega)
  refine hnx _ ⟨pre++suf.take n,suf.drop n,by rw [H6,I2]; exact e1,rfl,hrm,?_,?_,?_,?_⟩ ?_
  ·rw [← hrm]; exact hr.1
  ·have:=hval
   unfold eK at this;rw [Hh (by rw [hrm]; simp)] at this
   simp only; omega
  ·simp only at hm ⊢
   rw [HQ,htl]; omega
  ·right; rw [Jh]; omega
  ·simp only [eZ,Jh]; omega
 ·have h0:¬ 0<suf.length:=by have:=Hv h0; omega
  have hs0:suf=[]:=H7 (by omega)
  subst hs0;rw [Ia] at e1;subst e1;unfold nk;have e4w:Wf w:=e4.wf;have e4t:qH w:=e4.top;refine Gd.ite (fun hneg=>Gd.ret ⟨⟨e4.wf,e4.top,fun hm hw=>?_⟩,by simp only; omega,?_⟩) (fun hneg=>Gd.ret ⟨e4,by simp only; omega,?_⟩)
  ·have hw:w=[]:=hw
   subst hw;simp at hm
  ·rw [Hl hneg]
   unfold eK;simp only [IF]
   split
   ·rw [e5]
   ·rename_i hh
    have:w=[]:=H7 (by omega)
    rw [this] at e5 ⊢;rw [← e5]; rfl
  ·rw [Hh (by rw [hneg]; simp)]
   unfold eK;simp only [Jk,JL];rw [e5]
def pv:List bG→Nat
 | []=>0
 | y::l=>y.n.toNat+1000000000*pv l
theorem AL:∀ (a:List bG) (y:bG),pv (a++[y])=pv a+1000000000 ^ a.length*y.n.toNat
 | [],y=>by
  show y.n.toNat+1000000000*0=0+1000000000 ^ 0*y.n.toNat;rw [Nj]; omega
 | x::a,y=>by
  rw [JQ,pv,AL a y,pv,Hz,Ni];rw [M6,← M7,M8 (1000000000 ^ a.length) 1000000000,JT]
theorem Ex {l:List bG}{k:Nat}{y:bG} (h:l[k]? = some y):pv (l.drop k)=pv (l.drop (k+1))*1000000000+y.n.toNat:=by
 rw [mF h,pv]; omega
theorem B5:(⟨#[48,48,48,48,48,48,48,48,48]⟩:ByteArray)=ba (List.replicate 9 48):=rfl
theorem oB (n:Nat):nU (n:Int)=ba (Lib.decDigits n):=by unfold nU; rw [Lib.itoa_nonneg]; rfl
theorem Bj {n:Nat} (h:0<n):nU (-(n:Int))=ba (45::Lib.decDigits n):=by
 unfold nU Lib.itoa;rw [Hl (by omega),show (-(n:Int)).natAbs=n by omega]; rfl
def BH (D:List UInt8):List U8:=D.map fun b=>⟨b.toNat⟩
theorem sk (D:List UInt8):gL (ba D)=BH D:=A5 D
theorem DA (a b:List UInt8):BH a++BH b=BH (a++b):=by unfold BH; rw [I4]
theorem w5 (D:List UInt8):sQ (BH D)=ba D:=x9 D
theorem xD (D:List UInt8):(BH D).length=D.length:=JN _
theorem FC (N:Nat) {Q:List bG} (hQ:∀ z ∈ Q,0≤z.n∧z.n<1000000000) (hl:Q.length≤N):pv Q<10 ^ (9*N):=by
 have key:∀ (Q:List bG),(∀ z ∈ Q,0≤z.n∧z.n<1000000000)→pv Q<1000000000 ^ Q.length:=by
  intro Q
  induction Q with
  | nil=>intro _; show 0<1000000000 ^ 0; decide
  | cons z Q ih=>
   intro hQ;have h1:=ih (fun x hx=>hQ x (Ho _ hx));have h2:=hQ z (He ..);rw [pv,Hz,Ni,M8];generalize 1000000000 ^ Q.length=X at *
   omega
 have h2:(1000000000:Nat) ^ Q.length≤1000000000 ^ N:=Nd (by decide) hl
 rw [Ng];exact M3 (key Q hQ) h2
theorem ER (n a b:Nat) (h1:a≤3*n) (h2:10*n≤32*b):10 ^ a≤WB ^ b:=by
 have e1:(10:Nat) ^ a≤10 ^ (3*n):=Nd (by decide) h1
 have e2:((10:Nat) ^ 3) ^ n≤(2 ^ 10) ^ n:=Nc (by decide) n
 have e3:(2:Nat) ^ (10*n)≤2 ^ (32*b):=Nd (by decide) h2
 rw [← Ng,← Ng] at e2;rw [uS b];exact IY e1 (IY e2 e3)
theorem Aw (n a b:Nat) (h1:a≤3*n) (h2:10*n≤32*b) {w:List bG} (hw:Wf w) (ht:qH w) (hl:b<w.length):¬ nv w<10 ^ a:=by
 have hne:w≠[]:=fun e=>by rw [e] at hl; simp at hl
 have hge:=yD hw ht hne;have hp:WB ^ b≤WB ^ (w.length-1):=Nd (by decide) (by omega)
 exact Nat.not_lt.2 (IY (ER n a b h1 h2) (IY hp hge))
theorem Dm (N K:Nat) {w:List bG} (hw:Wf w) (hl:w.length≤N) (hK:32*N≤K):nv w<2 ^ K:=by
 have h2:=ob hw;have h3:WB ^ w.length≤WB ^ N:=Nd (by decide) hl
 rw [uS N] at h3;have h4:(2:Nat) ^ (32*N)≤2 ^ K:=Nd (by decide) hK
 exact M3 h2 (IY h3 h4)
theorem yA {m:Nat} (h:m≤9):(⟨#[48,48,48,48,48,48,48,48,48]⟩:ByteArray).extract m ((⟨#[48,48,48,48,48,48,48,48,48]⟩:ByteArray).size)=ba (List.replicate (9-m) 48):=by
 rw [B5,eZ,nA,HN (HH _),List.drop_replicate]
theorem D8 {a:LI}{P:List bG}{V:Nat} (hP:∀ y ∈ P,0≤y.n∧y.n<1000000000) (hV:pv P=V) (hne:P≠[]) (htop:∀ y,P.getLast? = some y→y.n≠0) (hl:P.length≤1000) (ha:a.minus=true→V≠0):
  Gd (fD (fun s300 n=>lv a P s300.1 s300.2 n) eB (i64.wrap ((P.length:Int)-1),([]:List U8)))
   (fun r=>r.2=decide ((Lib.decDigits V).length≤2000)∧r.1=nU (if a.minus=true then -(V:Int) else V)∧r.1.size≤10000):=by
 have hpos:0<P.length:=MQ.2 hne;have wl:i64.wrap ((P.length:Int)-1)=(P.length:Int)-1:=bP ⟨by omega,by omega⟩
 rw [wl];refine Gd.fD (fun (z:Int×List U8)=>-1≤z.1∧z.1<P.length∧(z.1=(P.length:Int)-1∧z.2=[]∨z.1<(P.length:Int)-1∧0<pv (P.drop (z.1+1).toNat)∧z.2=BH (Lib.decDigits (pv (P.drop (z.1+1).toNat)))∧z.2.length≤9*1000))
  (fun z=>(z.1+1).toNat) ?_ eB _ ⟨by simp only; omega,by simp only; omega,.inl ⟨rfl,rfl⟩⟩ (by simp only [eB]; omega)
 rintro ⟨n,l⟩ nx ⟨h1,h2,h3⟩ hnx;simp only at h1 h2 h3 hnx ⊢;unfold lv;refine Gd.ite (fun hn=>?_) (fun hn=>?_)
 ·have hn:0≤n:=Hk hn
  obtain ⟨k,rfl⟩:∃ k:Nat,n=k:=⟨n.toNat,by omega⟩
  obtain ⟨y,hy⟩:∃ y,P[k]? = some y:=⟨_,G9 (by omega)⟩
  have hyw:=hP y (Hu hy);obtain ⟨u,hu⟩:∃ u:Nat,y.n=u:=⟨y.n.toNat,by omega⟩
  have hu9:u<10 ^ 9:=by
   have:(10:Nat) ^ 9=1000000000:=rfl;omega
  have hkn:((k:Int)+1).toNat=k+1:=by omega
  have hkk:((k:Int)-1+1).toNat=k:=by omega
  refine Gd.ix (by omega) (by rw [Ha]; exact hy) ?_
  rw [hu,eP (n:=(u:Int)) (by omega),oB]
  refine Gd.nd ⟨by omega,by omega⟩ ?_
  rw [wl];have hlen:(Lib.decDigits u).length≤9:=wG (by decide) hu9
  have hd:=Ex hy;have hun:y.n.toNat=u:=by omega
  rw [hun] at hd;have hwk:i64.wrap ((k:Int)-1)=(k:Int)-1:=bP ⟨by omega,by omega⟩
  refine Gd.ite (fun hlt=>?_) (fun hlt=>?_)
  ·have hlt:(k:Int)<(P.length:Int)-1:=Hk hlt
   rcases h3 with ⟨h3,_⟩ | ⟨_,h3,h4,h5⟩
   ·omega
   rw [hkn] at h3 h4;rw [eZ,Ha,yA hlen,sk];have hsz:(ba (List.replicate (9-(Lib.decDigits u).length) (48:UInt8))).size=9-(Lib.decDigits u).length:=by rw [eZ,IS]
   rw [hsz];refine Gd.nd ⟨by omega,by show ((Lib.decDigits u).length:Int)≤((9:Nat):Int); omega⟩ (Gd.nd (by omega) ?_)
   unfold iJ;rw [hu,eP (n:=(u:Int)) (by omega),oB,hwk,sk,eZ]
   rw [HQ,xD,IS];refine Gd.nd (by omega) ?_
   have hfin:l++BH (List.replicate (9-(Lib.decDigits u).length) (48:UInt8))++BH (Lib.decDigits u)=BH (Lib.decDigits (pv (P.drop k))):=by
    have hdp:=DZ (k:=9) (by decide) h3 hu9
    rw [show (10:Nat) ^ 9=1000000000 from rfl,← hd] at hdp;rw [h4,H6,DA,DA,hdp]
    rfl
   rw [hfin];have hdl:=vy (u:=pv (P.drop k)) (k:=(Lib.decDigits (pv (P.drop k))).length) (HH _);refine hnx _ ⟨by simp only; omega,by simp only; omega,.inr ⟨by simp only; omega,by simp only; rw [hkk,hd]; omega,by simp only; rw [hkk],?_⟩⟩ (by simp only; omega)
   simp only;rw [xD];have hb:=FC 1000 (fun z hz=>hP z (List.mem_of_mem_drop hz)) (show (P.drop k).length≤1000 by rw [Jh]; omega)
   exact wG (k:=9*1000) (by decide) hb
  ·have hlt:¬ (k:Int)<(P.length:Int)-1:=Hv hlt
   rcases h3 with ⟨h3,h4⟩ | ⟨h3,_⟩
   ·unfold iJ
    rw [hu,eP (n:=(u:Int)) (by omega),oB,hwk,sk,eZ,h4]
    refine Gd.nd (by simp only [MP]; omega) ?_
    have hlast:P.drop (k+1)=[]:=MH (by omega)
    rw [hlast] at hd;have hd:pv (P.drop k)=u:=by rw [hd]; show 0*1000000000+u=u; omega
    have hu0:u≠0:=by
     have:=htop y (by rw [MM,show P.length-1=k by omega]; exact hy)
     omega
    rw [Jw];refine hnx _ ⟨by simp only; omega,by simp only; omega,.inr ⟨by simp only; omega,by simp only; rw [hkk,hd]; omega,by simp only; rw [hkk,hd],?_⟩⟩ (by simp only; omega)
    simp only;rw [xD]; omega
   ·omega
 ·have hn:¬ 0≤n:=Hv hn
  rcases h3 with ⟨h3,_⟩ | ⟨_,h3,h4,h5⟩
  ·omega
  have hz:(n+1).toNat=0:=by omega
  rw [hz,Jg,hV] at h3 h4;subst h4;rw [xD] at h5 ⊢;have hne':(Lib.decDigits V)≠[]:=(iX V).1.ne;have hp:0<(Lib.decDigits V).length:=MQ.2 hne';have hsz:((ba (Lib.decDigits V)).size:Int)=((Lib.decDigits V).length:Int):=by rw [eZ]
  have hdd:decide (((ba (Lib.decDigits V)).size:Int)≤2000)=decide ((Lib.decDigits V).length≤2000):=by
   rw [hsz]; exact decide_eq_decide.2 (by omega)
  refine Gd.nd hp (Gd.ite (fun hm=>Gd.nd ?_ ?_) (fun hm=>?_))
  ·rw [w5,eZ,show (⟨#[45]⟩:ByteArray).size=1 from rfl]
   unfold maxLen; omega
  ·unfold iK
   rw [w5];have hx:(⟨#[45]⟩:ByteArray)++ba (Lib.decDigits V)=ba (45::Lib.decDigits V):=by
    rw [show (⟨#[45]⟩:ByteArray)=ba [45] from rfl,y8]; rfl
   refine Gd.ret ⟨hdd,?_,?_⟩
   ·rw [Hl hm,Bj (by have:=ha hm; omega)]; exact hx
   ·simp only
    rw [hx,eZ,Hz]; omega
  ·unfold iK
   rw [w5];refine Gd.ret ⟨hdd,?_,?_⟩
   ·rw [Hh (by rw [hm]; simp),oB]
   ·simp only
    rw [eZ]; omega
theorem zP (K N:Nat) {p n W:Nat} (h:1000000000 ^ p*n≤W) (hn:1≤n) (hW:W<2 ^ K) (hK:K≤29*N):p<N:=by
 rcases Jx p N with hp | hp
 ·exact hp
 ·exfalso
  have h1:((2:Nat) ^ 29) ^ N≤(1000000000:Nat) ^ N:=Nc (by decide) N
  have h2:(1000000000:Nat) ^ N≤1000000000 ^ p:=Nd (by decide) hp
  have h3:(1000000000:Nat) ^ p*1≤1000000000 ^ p*n:=M9 _ hn;have h4:(2:Nat) ^ K≤2 ^ (29*N):=Nd (by decide) hK
  rw [← Ng] at h1;rw [Kk] at h3;exact absurd hW (Nat.not_lt.2 (IY h4 (IY h1 (IY h2 (IY h3 h)))))
theorem Bt {V A B n:Nat} (h:V=A+B*n):V=(A+B*(n%1000000000))+B*1000000000*(n / 1000000000):=by
 rw [M7,JT,← M6,M5]; exact h
theorem vq {a:LI} (h:oh a):Gd (gT a) (fun r=>r.2=decide ((Lib.decDigits (nv a.words)).length≤2000)∧(r.2=true→r.1=nU (eK a))∧r.1.size≤10000):=by
 unfold gT;refine Gd.ite (fun h0=>?_) (fun h0=>?_)
 ·have h0:a.words=[]:=H7 (by have:=Hk h0; omega)
  have hm:a.minus=false:=by
   cases hm:a.minus with
   | false=>rfl
   | true=>exact absurd h0 (h.sign hm)
  refine Gd.ret ⟨?_,fun _=>?_,by decide⟩
  ·rw [h0]
   have hx:(Lib.decDigits (nv [])).length≤2000:=by
    show (Lib.decDigits 0).length≤2000;rw [MD (by omega)]; simp
   rw [decide_eq_true hx]
  ·unfold eK
   rw [Hh (by rw [hm]; simp),h0]
   show (⟨#[48]⟩:ByteArray)=nU ((0:Nat):Int);rw [oB,MD (by omega)]; rfl
 ·have h0:a.words.length≠0:=by have:=Hv h0; omega
  have hne:a.words≠[]:=fun e=>h0 (by rw [e]; rfl)
  refine Gd.ite (fun h1=>?_) (fun h1=>?_)
  ·have h1:210<a.words.length:=by have:=Hk h1; omega
   refine Gd.ret ⟨?_,fun hh=>absurd hh (by simp),by decide⟩
   symm
   refine NB fun hle=>?_;exact Aw 667 2000 210 (by decide) (by decide) h.wf h.tp h1 (vy (k:=2000) hle)
  ·have h1:a.words.length≤210:=by have:=Hv h1; omega
   have hW:=Dm 210 6720 h.wf h1 (by decide)
   have hnz:nv a.words≠0:=fun e=>hne ((rm h.wf h.tp).1 e);refine Gd.fD (fun (z:List bG×List bG)=>(∀ y ∈ z.1,0≤y.n∧y.n<1000000000)∧Wf z.2∧qH z.2∧z.2.length≤210∧nv a.words=pv z.1+1000000000 ^ z.1.length*nv z.2∧z.1.length≤300∧(nv z.2=0→z.1≠[]∧∀ y,z.1.getLast? = some y→y.n≠0))
    (fun z=>301-z.1.length) ?_ eB _ ⟨by simp,h.wf,h.tp,h1,?_,by simp,fun e=>absurd e hnz⟩ (by simp only [eB,MP]; omega)
   ·rintro ⟨P,w⟩ nx ⟨i1,i2,i3,i4,i5,i6,i7⟩ hnx
    simp only at i1 i2 i3 i4 i5 i6 i7 hnx ⊢;unfold mQ;refine Gd.ite (fun hw=>?_) (fun hw=>?_)
    ·have hw:0<w.length:=by have:=Hk hw; omega
     have hwn:w≠[]:=fun e=>by rw [e] at hw; simp at hw
     have hwz:nv w≠0:=fun e=>hwn ((rm i2 i3).1 e);have hpl:=zP 6720 300 (p:=P.length) (n:=nv w) (W:=nv a.words) (by rw [i5]; exact Nat.le_add_left _ _) (by omega) hW (by decide)
     refine Gd.eJ (yO i2 (by omega) (d:=1000000000) (by omega)) (fun r hr=>?_)
     have hdn:(1000000000:Int).toNat=1000000000:=rfl;rw [hdn] at hr;refine Gd.nd (by simp only [Is]; omega) (Gd.eJ (oV false r.1 hr.1 (by omega)) (fun q hq=>?_))
     have hrn:0≤r.2∧r.2<1000000000∧r.2.toNat=nv w%1000000000:=by
      have:=KA (nv w) (show 1000000000 > 0 by omega)
      rw [hr.2.2.2]; omega
     refine hnx _ ⟨?_,hq.1.wf,hq.1.tp,by simp only; omega,?_,by simp only [HQ,Is]; omega,fun hz=>⟨by simp,fun y hy=>?_⟩⟩ (by simp only [HQ,Is]; omega)
     ·intro y hy
      rcases HV.1 hy with hy | hy
      ·exact i1 y hy
      ·rw [IJ] at hy; subst hy; simp only; omega
     ·simp only
      rw [AL,HQ,Is,Ni,hq.2.2.1,hr.2.2.1];simp only;rw [hrn.2.2];exact Bt i5
     ·simp only at hz hy
      rw [List.getLast?_append,List.getLast?_singleton] at hy;simp only [Option.some_or,H9] at hy;subst hy;simp only;rw [hq.2.2.1,hr.2.2.1] at hz;have:nv w / 1000000000=0:=hz;omega
    ·have hw:w=[]:=H7 (by have:=Hv hw; omega)
     subst hw;obtain ⟨j1,j2⟩:=i7 rfl;have hVV:pv P=nv a.words:=by
      rw [i5];show pv P=pv P+1000000000 ^ P.length*0;rw [M_]; rfl
     refine (D8 (a:=a) i1 hVV j1 j2 (by omega) (fun _=>hnz)).mono (fun r hr=>⟨hr.1,fun _=>?_,hr.2.2⟩)
     rw [hr.2.1]; rfl
   ·show nv a.words=0+1000000000 ^ 0*nv a.words
    rw [Nj]; omega
def cl (q:Rat):List UInt8:=Lib.itoa q.num++(if q.den=1 then [] else 47::Lib.decDigits q.den)
def ctext (q:Rat):ByteArray:=ba (cl q)
def fits (q:Rat):Prop:=(Lib.decDigits q.num.natAbs).length≤2000∧(Lib.decDigits q.den).length≤2000
instance (q:Rat):Decidable (fits q):=by unfold fits; infer_instance
theorem vJ {l:List UInt8} (h:∀ c ∈ l,wy c):(47:UInt8) ∉ l:=fun hm=>absurd (h 47 hm) (by unfold wy; decide)
theorem pG (n:Int):Lib.itoa n=if n<0 then 45::Lib.decDigits n.natAbs else Lib.decDigits n.natAbs:=by
 unfold Lib.itoa
 split
 ·rfl
 ·rw [show n.toNat=n.natAbs by omega]
theorem CE (u:Nat):(Lib.decDigits u).head? ≠ some 45:=by
 obtain ⟨h,_⟩:=iX u;cases hl:Lib.decDigits u with
 | nil=>simp
 | cons c r=>
  rw [hl] at h;have:=h.xF c (He ..);simp only [MN,ne_eq,H9];rintro rfl;exact absurd this (by unfold wy; decide)
theorem Aj (q:Rat):(cl q).head? = some 45↔q.num<0:=by
 unfold cl;rw [pG]
 by_cases h:q.num<0
 ·rw [Hl h]; simp [h]
 ·rw [Hh h,vp (iX _).1.ne]
  simp only [h,iff_false];exact CE _
theorem DV (q:Rat):(if (cl q).head? = some 45 then (cl q).tail else cl q)=Lib.decDigits q.num.natAbs++(if q.den=1 then [] else 47::Lib.decDigits q.den):=by
 by_cases h:q.num<0
 ·rw [Hl ((Aj q).2 h)]
  unfold cl;rw [pG,Hl h]; rfl
 ·rw [Hh (fun e=>h ((Aj q).1 e))]
  unfold cl;rw [pG,Hh h]
theorem zB {c:UInt8}{l:List UInt8} (h:c ∉ l):Lib.indexByte l c = -1:=by
 rcases pf c l with ⟨_,h2⟩ | ⟨a,b,rfl,_⟩
 ·exact h2
 ·exact absurd (by simp) h
theorem yn {c:UInt8}{b:List UInt8}:∀ {a:List UInt8},c ∉ a→Lib.indexByte (a++c::b) c=a.length
 | [],_=>by simp [Lib.indexByte]
 | x::a,h=>by
  have hx:(x == c)=false:=by simp only [Ik,not_or] at h; simpa using fun e=>h.1 e.symm
  have ih:=yn (b:=b) (a:=a) (fun hm=>h (Ho _ hm));rw [JQ];simp only [Lib.indexByte,hx,ih];rw [Hh (by simp),Hh (by simp)]
  simp only [Hz]; omega
theorem va {l:List UInt8} (h:(47:UInt8) ∉ l):kg (ba l) (⟨#[47]⟩)=some (ba l,⟨#[]⟩,false):=by
 unfold kg fT;rw [show (⟨#[47]⟩:ByteArray)=ba [47] from rfl,yo,Ah,zB h]
 rfl
theorem vc {a b:List UInt8} (h:(47:UInt8) ∉ a) (hs:a.length+1+b.length≤maxLen):kg (ba (a++47::b)) (⟨#[47]⟩)=some (ba a,ba b,true):=by
 have hsz:(ba (a++47::b)).size=a.length+1+b.length:=by rw [eZ]; simp; omega
 unfold maxLen at hs;unfold kg fT;rw [show (⟨#[47]⟩:ByteArray)=ba [47] from rfl,yo,Ah,yn h];simp only [Ke];rw [Hl (by simp),hsz,show (ba [47]).size=1 from rfl,bP ⟨by omega,by omega⟩]
 unfold dN;rw [Hl ⟨by omega,by omega⟩,Hl ⟨by omega,by omega⟩,Ha,show ((a.length:Int)+((1:Nat):Int)).toNat=a.length+1 by omega,nA,nA]
 simp only [Ke,Jg];rw [KS,HN (by simp; omega),show a++47::b=(a++[47])++b by simp,List.drop_left' (by simp)]
theorem oP (l:List UInt8) (hs:l.length≤maxLen):Gd (nO (ba l)) (fun c=>c=0↔yU l∧l.length≤2000):=by
 unfold nO;refine Gd.nd (by rw [eZ]; exact hs) ?_
 rw [sk];refine Gd.seen (fun pre _=>∀ y ∈ pre,48≤y.n∧y.n≤57) ?_ ?_ () (fun y hy=>by cases hy)
 ·rintro i y _ nx pre ⟨post,hl⟩ hI hnx
  have hy:y ∈ BH l:=by rw [hl]; simp
  obtain ⟨c,hc,rfl⟩:=II.1 hy;unfold rX;refine Gd.ite (fun hb=>Gd.ret ?_) (fun hb=>hnx () (fun z hz=>?_))
  ·simp only [Jd,IF] at hb
   constructor
   ·intro h; simp at h
   ·rintro ⟨h,_⟩
    have:=h.xF c hc;unfold wy at this; omega
  ·simp only [Mv,NC] at hb
   rcases HV.1 hz with hz | hz
   ·exact hI z hz
   ·rw [IJ] at hz; subst hz; simp only; omega
 ·intro _ hI
  have hd:∀ c ∈ l,wy c:=fun c hc=>by
   have:=hI ⟨c.toNat⟩ (II.2 ⟨c,hc,rfl⟩);unfold wy; simp only at this; omega
  refine Gd.ite (fun h=>Gd.ret ?_) (fun h=>?_)
  ·have h:l=[]:=rQ ((Hk h).trans rfl)
   constructor
   ·intro h; simp at h
   ·rintro ⟨hn,_⟩; exact absurd h hn.ne
  ·have hne:l≠[]:=fun e=>absurd (Hv h) (by rw [e]; simp [ba])
   have last:(l.head? = some 48→l=[48])→Gd (if decide (2000<((ba l).size:Int))=true then some (2:Int) else some 0) (fun c=>c=0↔yU l∧l.length≤2000):=fun hlead=>by
    rw [eZ];refine Gd.ite (fun h2=>Gd.ret ?_) (fun h2=>Gd.ret ?_)
    ·have:=Hk h2
     constructor
     ·intro h; simp at h
     ·rintro ⟨_,h⟩; omega
    ·have:=Hv h2
     exact ⟨fun _=>⟨⟨hd,hne,hlead⟩,by omega⟩,fun _=>rfl⟩
   refine Gd.ite (fun h1=>?_) (fun h1=>last (fun hh=>?_))
   ·rw [eZ] at h1
    have h1:=Hk h1;cases l with
    | nil=>exact absurd rfl hne
    | cons c r=>
     refine Gd.ix (y:=⟨c.toNat⟩) (by omega) rfl (Gd.ite (fun h2=>Gd.ret ?_) (fun h2=>last (fun hh=>?_)))
     ·have h2:=Hk h2
      simp only at h2;constructor
      ·intro h; simp at h
      ·rintro ⟨hn,_⟩
       have hc:c=48:=Me.1 (by show c.toNat=48; omega)
       have:=hn.lead (by rw [hc]; rfl)
       rw [this] at h1; simp at h1
     ·have h2:=Hv h2
      simp only [MN,H9] at hh;subst hh;exact absurd rfl h2
   ·rw [eZ] at h1
    have h1:=Hv h1;cases l with
    | nil=>exact absurd rfl hne
    | cons c r=>
     have:r=[]:=H7 (by simp only [Hz] at h1; omega)
     subst this;simp only [MN,H9] at hh;rw [hh]
theorem vU {n:List UInt8} (hn:yU n) (l1:n.length≤2000):Gd (iG (ba n)) (fun a=>oh a∧a.words.length≤10000∧eK a=dv n):=by
 have:=AM hn.xF l1 false;simpa using this
theorem En {n d:List UInt8} (hn:yU n) (hd:yU d) (l1:n.length≤2000) (l2:d.length≤2000):
  Gd (ua (ba n) (ba d)) (fun r=>r.2.2=0∧(oh r.1∧r.1.words.length≤10000∧eK r.1=dv n)∧(oh r.2.1∧r.2.1.words.length≤10000∧eK r.2.1=dv d)):=by
 unfold ua;have chk:∀ {l:List UInt8},yU l→l.length≤2000→Gd (nO (ba l)) (fun c=>c=0):=fun h hl=>(oP _ (by unfold maxLen; omega)).mono (fun c hc=>hc.2 ⟨h,hl⟩)
 refine Gd.jT (fun m i _=>m+i=2) (fun m i _ nx hI hnx=>?_) (fun i _ _=>?_) _ 0 () rfl
 ·unfold tz
  have hi:i=0∨i=1:=by omega
  have hy:∃ l:List UInt8,([ba n,ba d]:List ByteArray)[i]? = some (ba l)∧yU l∧l.length≤2000:=by
   rcases hi with rfl | rfl
   ·exact ⟨n,rfl,hn,l1⟩
   ·exact ⟨d,rfl,hd,l2⟩
  obtain ⟨l,hl,h1,h2⟩:=hy;refine Gd.ix (by omega) (by rw [Ha]; exact hl) (Gd.eJ (chk h1 h2) (fun c hc=>?_))
  subst hc;exact hnx () (by omega)
 ·exact Gd.eJ (vU hn l1) (fun a ha=>Gd.eJ (vU hd l2) (fun b hb=>Gd.ret ⟨rfl,ha,hb⟩))
theorem qw:Lib.decDigits 1=[49]:=MD (by omega)
theorem th:Lib.decDigits 0=[48]:=MD (by omega)
theorem tg {a b:Nat} (h:Lib.decDigits a=Lib.decDigits b):a=b:=by
 have h1:=(iX a).2;rw [h,(iX b).2] at h1; exact h1.symm
theorem AA {n d:List UInt8} (hn:yU n) (hd:yU d) (l1:n.length≤2000) (l2:d.length≤2000):
  Gd (t_ (ba n) (ba d)) (fun r=>r.1=(⟨#[49]⟩:ByteArray)↔Nat.gcd (dv n) (dv d)=1):=by
 unfold t_;refine Gd.eJ (En hn hd l1 l2) (fun r hr=>?_);obtain ⟨h0,h1,h2⟩:=hr;rw [h0];refine Gd.eJ (CB h1.1 h2.1 (L:=10000) (by omega) h1.2.1 h2.2.1) (fun g hg=>?_)
 have e1:nv r.1.words=dv n:=by rw [← gQ,h1.2.2]; rfl
 have e2:nv r.2.1.words=dv d:=by rw [← gQ,h2.2.2]; rfl
 rw [e1,e2] at hg;unfold vC;have hb:Gd ((gT g).bind fun r102=>if (!r102.2)=true then some ((⟨#[]⟩:ByteArray),(2:Int)) else some (r102.1,0)) (fun t=>t.1=(⟨#[49]⟩:ByteArray)↔Nat.gcd (dv n) (dv d)=1):=by
  refine Gd.eJ (vq hg.1) (fun t ht=>Gd.ite (fun hf=>Gd.ret ?_) (fun hf=>Gd.ret ?_))
  ·have hf:t.2=false:=by simpa using hf
   rw [hf,hg.2.2.2] at ht;constructor
   ·intro h; exact absurd h (by decide)
   ·intro h
    have:=ht.1;rw [h,qw] at this; simp at this
  ·have hf:t.2=true:=by simpa using hf
   have e3:=ht.2.1 hf;simp only;rw [e3,lQ hg.2.1,oB,hg.2.2.2,show (⟨#[49]⟩:ByteArray)=ba [49] from rfl];constructor
   ·intro h
    exact tg ((rQ h).trans qw.symm)
   ·intro h; rw [h,qw]
 exact Gd.eJ hb (fun t ht=>Gd.ret ht)
theorem zR {q:Rat} (h:fits q):nP (ctext q)=some 0:=by
 refine Gd.eq.1 ?_;have hD:=(iX q.num.natAbs).1;have hE:=(iX q.den).1;unfold nP ctext;refine Gd.bind_eq (sY _) ?_;rw [DV];have hz:q.num<0→Lib.decDigits q.num.natAbs≠[48]:=fun hn e=>by
  rw [← th] at e;have:=tg e; omega
 by_cases hd:q.den=1
 ·rw [Hl hd,Ia]
  refine Gd.bind_eq (va (vJ hD.xF)) ?_;refine Gd.eJ (oP _ (by have:=h.1; unfold maxLen; omega)) (fun c hc=>?_)
  have hc0:=hc.2 ⟨hD,h.1⟩;subst hc0;refine Gd.ite (fun hx=>by simp at hx) (fun _=>?_)
  unfold lB;refine Gd.ite (fun hx=>?_) (fun _=>Gd.ret rfl);exfalso;simp only [show decide ((0:Int)=5)=false from rfl,Bool.or_self,Bool.false_or,Jn,IF] at hx;have h1:Lib.decDigits q.num.natAbs=[48]:=rQ (hx.1.trans rfl);have h2:=hx.2;rw [eZ,eZ] at h2;unfold cl at h2;rw [Hl hd,Ia,pG] at h2
  split at h2
  ·rename_i hn; exact hz hn h1
  ·omega
 ·rw [Hh hd]
  refine Gd.bind_eq (vc (vJ hD.xF) (by have:=h.1; have:=h.2; unfold maxLen; omega)) ?_
  refine Gd.eJ (oP _ (by have:=h.1; unfold maxLen; omega)) (fun c hc=>?_)
  have hc0:=hc.2 ⟨hD,h.1⟩;subst hc0;refine Gd.ite (fun _=>?_) (fun hx=>by simp at hx)
  refine Gd.eJ (oP _ (by have:=h.2; unfold maxLen; omega)) (fun c hc=>?_)
  have hc0:=hc.2 ⟨hE,h.2⟩;subst hc0;unfold lB;refine Gd.ite (fun hx=>?_) (fun _=>Gd.ite (fun hx=>by simp at hx) (fun _=>Gd.ite (fun _=>?_) (fun hx=>by simp at hx)))
  ·exfalso
   simp only [show decide ((0:Int)=5)=false from rfl,Bool.or_self,Bool.false_or,Jn,IF] at hx;have h1:Lib.decDigits q.num.natAbs=[48]:=rQ (hx.1.trans rfl);have h2:=hx.2;rw [eZ,eZ] at h2;unfold cl at h2;rw [Hh hd,pG] at h2
   split at h2
   ·rename_i hn; exact hz hn h1
   ·omega
  ·refine Gd.eJ (AA hD hE h.1 h.2) (fun r hr=>?_)
   rw [(iX q.num.natAbs).2,(iX q.den).2] at hr;have hr1:=hr.2 q.reduced;refine Gd.ite (fun hx=>?_) (fun _=>Gd.ret rfl);exfalso;simp only [hr1,decide_true,Bool.not_true,Bool.or_false,Jd,IF] at hx;rcases hx with hx | hx
   ·have:=tg ((rQ (hx.trans rfl):Lib.decDigits q.den=[48]).trans th.symm)
    exact q.den_nz this
   ·have:=tg ((rQ (hx.trans rfl):Lib.decDigits q.den=[49]).trans qw.symm)
    exact hd this
theorem EZ {neg:Bool}{n:List UInt8}{m:Int} (hn:yU n) (h0:¬ (n=[48]∧neg=true)) (hm:m=if neg=true then -(dv n:Int) else dv n):
  Lib.itoa m=(if neg=true then 45::n else n)∧m.natAbs=dv n:=by
 have hz:dv n=0→n=[48]:=fun h=>by
  have e:=rf hn;rw [h,th] at e; exact e.symm
 rw [pG];cases neg with
 | false=>
  simp only [Jk,JL] at hm ⊢;rw [Hh (by omega),show m.natAbs=dv n by omega]
  exact ⟨rf hn,rfl⟩
 | true=>
  simp only [Lp] at hm ⊢;have hnz:dv n≠0:=fun h=>h0 ⟨hz h,rfl⟩;rw [Hl (by omega),show m.natAbs=dv n by omega]
  exact ⟨by rw [rf hn],rfl⟩
theorem Bu (s:ByteArray) (hs:s.size≤maxLen):Gd (nP s) (fun c=>c=0↔∃ q,fits q∧s=ctext q):=by
 have sound:Gd (nP s) (fun c=>c=0→∃ q,fits q∧s=ctext q):=by
  obtain ⟨l,rfl⟩:∃ l,s=ba l:=⟨bl s,(B4 s).symm⟩;rw [eZ] at hs;unfold nP;refine Gd.bind_eq (sY l) ?_;obtain ⟨neg,hneg⟩:∃ neg:Bool,neg=decide (l.head? = some 45):=⟨_,rfl⟩;generalize ht:(if l.head? = some 45 then l.tail else l)=t
  have hl:l=if neg=true then 45::t else t:=by
   by_cases h:l.head? = some 45
   ·rw [Hl h] at ht
    rw [hneg,decide_eq_true h,Hl rfl,← ht];cases l with
    | nil=>cases h
    | cons c r=>simp only [MN,H9] at h; rw [h]; rfl
   ·rw [Hh h] at ht
    rw [hneg,NB h,Hh (by simp)]; exact ht
  have htl:t.length≤l.length:=by
   rw [hl]; split
   ·simp
   ·omega
  have hsz:neg=true→(ba t).size<(ba l).size:=fun h=>by
   rw [eZ,eZ,hl,Hl h]; simp
  by_cases hsl:(47:UInt8) ∈ t
  ·obtain ⟨a,b,e,ha,_⟩:∃ a b,t=a++47::b∧(47:UInt8) ∉ a∧True:=by
    rcases pf 47 t with ⟨h1,_⟩ | ⟨a,b,e,h2,_⟩
    ·exact absurd hsl h1
    ·exact ⟨a,b,e,h2,G_⟩
   have hab:a.length+1+b.length=t.length:=by rw [e]; simp; omega
   rw [e];refine Gd.bind_eq (vc ha (by omega)) ?_
   refine Gd.eJ (oP a (by omega)) (fun c1 hc1=>Gd.ite (fun _=>?_) (fun hx=>by simp at hx))
   refine Gd.eJ (oP b (by omega)) (fun c2 hc2=>?_)
   unfold lB;refine Gd.ite (fun _=>Gd.ret (fun h=>by simp at h)) (fun hA=>Gd.ite (fun _=>Gd.ret (fun h=>by simp at h)) (fun hB=>Gd.ite (fun _=>?_) (fun hx=>by simp at hx)))
   simp only [Mv,Bool.not_eq_false',IF] at hB;obtain ⟨n1,n2⟩:=hc1.1 hB.1;obtain ⟨d1,d2⟩:=hc2.1 hB.2;have h0:¬ (a=[48]∧neg=true):=by
    rintro ⟨ea,en⟩;simp only [Mv,Bool.and_eq_false_iff,NC] at hA;rcases hA.2 with h | h
    ·exact h (by rw [ea]; rfl)
    ·have:=hsz en; rw [e] at this; omega
   refine Gd.eJ (AA n1 d1 n2 d2) (fun r hr=>Gd.ite (fun _=>Gd.ret (fun h=>by simp at h)) (fun hC=>Gd.ret (fun _=>?_)))
   simp only [Mv,Bool.not_eq_false',IF,NC] at hC;have hg:=hr.1 hC.2;have hnz:dv b≠0:=fun h=>hC.1.1 (by
    have:=rf d1;rw [h,th] at this; rw [← this]; rfl)
   have hn1:dv b≠1:=fun h=>hC.1.2 (by
    have:=rf d1;rw [h,qw] at this; rw [← this]; rfl)
   obtain ⟨e1,e2⟩:=EZ (neg:=neg) n1 h0 rfl;refine ⟨Rat.mk' (if neg=true then -(dv a:Int) else dv a) (dv b) hnz (by rw [e2]; exact hg),⟨?_,?_⟩,?_⟩
   ·simp only; rw [e2,rf n1]; exact n2
   ·simp only; rw [rf d1]; exact d2
   ·unfold ctext cl
    simp only;rw [e1,Hh hn1,rf d1,hl,e]
    split <;> rfl
  ·refine Gd.bind_eq (va hsl) ?_
   refine Gd.eJ (oP t (by omega)) (fun c1 hc1=>Gd.ite (fun hx=>by simp at hx) (fun _=>?_))
   unfold lB;refine Gd.ite (fun _=>Gd.ret (fun h=>by simp at h)) (fun hA=>Gd.ite (fun _=>Gd.ret (fun h=>by simp at h)) (fun hB=>Gd.ite (fun hx=>by simp at hx) (fun _=>Gd.ret (fun _=>?_))))
   simp only [Mv,Bool.not_eq_false',IF] at hB;obtain ⟨n1,n2⟩:=hc1.1 hB.1;have h0:¬ (t=[48]∧neg=true):=by
    rintro ⟨ea,en⟩;simp only [Mv,Bool.and_eq_false_iff,NC] at hA;rcases hA.2 with h | h
    ·exact h (by rw [ea]; rfl)
    ·have:=hsz en; omega
   obtain ⟨e1,e2⟩:=EZ (neg:=neg) n1 h0 rfl;refine ⟨Rat.mk' (if neg=true then -(dv t:Int) else dv t) 1 (by decide) (by rw [e2]; exact Nat.coprime_one_right _),⟨?_,?_⟩,?_⟩
   ·simp only; rw [e2,rf n1]; exact n2
   ·simp only; rw [qw]; decide
   ·unfold ctext cl
    simp only;rw [e1,Hl G_,Ia,← hl]
 obtain ⟨c,e,h⟩:=sound;refine ⟨c,e,h,?_⟩;rintro ⟨q,hq,rfl⟩;rw [zR hq] at e;exact (G7 e).symm
theorem Al {u k:Nat}{l:List bG} (hw:Wf l) (ht:qH l) (hk:(Lib.decDigits (nv l)).length≤2000):l.length≤300:=by
 rcases Jx 300 l.length with h | h
 ·exact absurd (vy (k:=2000) hk) (Aw 667 2000 300 (by decide) (by decide) hw ht h)
 ·exact h
theorem lh.small {a:LR} (h:lh a) (hf:fits (rv a)):RL a 300:=by
 obtain ⟨h1,h2⟩:=hf;rw [h.num,gQ] at h1;rw [h.den] at h2;exact ⟨Al (u:=0) (k:=0) h.n.wf h.n.tp h1,Al (u:=0) (k:=0) h.d.wf h.d.tp h2⟩
theorem Dl {a:LR} (h:lh a):Gd (lz a) (fun r=>(r.2=true↔fits (rv a))∧(r.2=true→r.1=ctext (rv a))):=by
 have e1:(rv a).num.natAbs=nv a.N.words:=by rw [h.num,gQ]
 have e2:(rv a).den=nv a.D.words:=h.den;unfold lz;refine Gd.eJ (vq h.n) (fun t ht=>Gd.ite (fun hf=>Gd.ret ?_) (fun hf=>?_))
 ·have hf:t.2=false:=by simpa using hf
  refine ⟨⟨fun hh=>by simp at hh,fun hh=>?_⟩,fun hh=>by simp at hh⟩
  have h1:=ht.1;rw [hf] at h1;have:=hh.1;rw [e1] at this;exact absurd this (Hv h1.symm)
 ·have hf:t.2=true:=by simpa using hf
  have hN:=ht.1;rw [hf] at hN;have hN:=Hk hN.symm;have hNt:=ht.2.1 hf;refine Gd.eJ (vq h.d) (fun u hu=>?_);have hval:eK a.D=((nv a.D.words:Nat):Int):=lQ h.pos;have hiff:(u.2=true↔fits (rv a)):=by
   unfold fits;rw [e1,e2,hu.1,IF];exact ⟨fun x=>⟨hN,x⟩,fun x=>x.2⟩
  have hut:u.2=true→u.1=ba (Lib.decDigits (rv a).den):=fun x=>by rw [hu.2.1 x,hval,oB,e2]
  have hnt:t.1=ba (Lib.itoa (rv a).num):=by rw [hNt,h.num]; rfl
  refine Gd.ite (fun h1=>Gd.ret ⟨hiff,fun hh=>?_⟩) (fun h1=>Gd.nd ?_ (Gd.nd ?_ (Gd.ret ⟨hiff,fun hh=>?_⟩)))
  ·have h1:u.1=(⟨#[49]⟩:ByteArray):=Hk h1
   have:=hut hh;rw [h1] at this;have hd:(rv a).den=1:=tg ((rQ (show ba [49]=_ from this)).symm.trans qw.symm);unfold ctext cl;rw [Hl hd,Ia]; exact hnt
  ·have:=ht.2.2
   show t.1.size+1≤maxLen;unfold maxLen; omega
  ·have:=ht.2.2
   have:=hu.2.2;rw [Dp];show t.1.size+1+u.1.size≤maxLen;unfold maxLen; omega
  ·have h1:u.1≠(⟨#[49]⟩:ByteArray):=Hv h1
   have h2:=hut hh;have hd:(rv a).den≠1:=fun e=>h1 (by rw [h2,e,qw]; rfl)
   unfold ctext cl;rw [Hh hd];simp only;rw [hnt,h2,show (⟨#[47]⟩:ByteArray)=ba [47] from rfl,y8,y8,H6]; rfl
theorem Ez {p q:Rat} (h1:p.num=q.num) (h2:p.den=q.den):p=q:=Rat.ext h1 h2
theorem ue {n:Int} (h:(Lib.decDigits n.natAbs).length≤2000):Gd (iG (ba (Lib.itoa n))) (fun a=>oh a∧a.words.length≤10000∧eK a=n):=by
 have hD:=iX n.natAbs;have:=AM hD.1.xF h (decide (n<0));rw [pG];simp only [IF] at this;refine this.mono (fun a ha=>⟨ha.1,ha.2.1,?_⟩);rw [ha.2.2,hD.2]
 split <;> omega
theorem vr (n:Int):(47:UInt8) ∉ Lib.itoa n:=by
 rw [pG];have:=vJ (iX n.natAbs).1.xF
 split
 ·simp only [Ik,not_or]; exact ⟨by decide,this⟩
 ·exact this
theorem Ar {n:Int} (h:(Lib.decDigits n.natAbs).length≤2000):(Lib.itoa n).length≤2001:=by
 rw [pG]
 split
 ·simp only [Hz]; omega
 ·omega
theorem D2 {q:Rat}{k:Nat} (hn:q.num.natAbs<10 ^ k) (hd:q.den<10 ^ k) (hk:1≤k) (hk2:k≤2000):fits q:=
 ⟨IY (wG hk hn) hk2,IY (wG hk hd) hk2⟩
theorem zq {q:Rat} (h:fits q):(ctext q).size≤10000:=by
 unfold ctext cl;rw [eZ,HQ];have:=Ar h.1;have:=h.2
 split
 ·simp; omega
 ·simp only [Hz]; omega
theorem ya {l:List ByteArray} (hs:∀ s ∈ l,s.size≤maxLen):Gd (qd l) (fun c=>c=0↔∀ s ∈ l,∃ q,fits q∧s=ctext q):=by
 unfold qd;refine Gd.seen (fun pre _=>∀ s ∈ pre,∃ q,fits q∧s=ctext q) ?_ (fun _ hI=>Gd.ret ⟨fun _=>hI,fun _=>rfl⟩) () (fun s hs=>by cases hs)
 rintro i y _ nx pre ⟨post,hl⟩ hI hnx;have hy:y ∈ l:=by rw [hl]; simp
 unfold qC;refine Gd.eJ (Bu y (hs y hy)) (fun c hc=>Gd.ite (fun h=>Gd.ret ?_) (fun h=>hnx () (fun z hz=>?_)))
 ·have h:c≠0:=by simpa using h
  exact ⟨fun e=>absurd e h,fun e=>absurd (hc.2 (e y hy)) h⟩
 ·have h:c=0:=by simpa using h
  rcases HV.1 hz with hz | hz
  ·exact hI z hz
  ·rw [IJ] at hz; subst hz; exact hc.1 h
def RB (q:Rat) (L:Nat):Prop:=∃ r:LR,lh r∧RL r L∧rv r=q
theorem lh.rb {r:LR} (h:lh r) {L:Nat} (hb:RB (rv r) L):RL r L:=by
 obtain ⟨s,h1,h2,h3⟩:=hb;rw [h.ext' h1 h3.symm]; exact h2
theorem RB.mono {q:Rat}{L M:Nat} (h:RB q L) (hM:L≤M):RB q M:=by
 obtain ⟨s,h1,h2,h3⟩:=h;exact ⟨s,h1,h2.mono hM,h3⟩
theorem RB.add {p q:Rat}{A B:Nat} (h:RB p A) (k:RB q B) (hz:A+B≤800000):RB (p+q) (A+B+1):=by
 obtain ⟨a,h1,h2,h3⟩:=h; obtain ⟨b,k1,k2,k3⟩:=k
 obtain ⟨r,_,r1,r2,r3⟩:=rq h1 k1 h2 k2 hz;exact ⟨r,r1,r2,by rw [r3,h3,k3]⟩
theorem RB.sub {p q:Rat}{A B:Nat} (h:RB p A) (k:RB q B) (hz:A+B≤800000):RB (p-q) (A+B+1):=by
 obtain ⟨a,h1,h2,h3⟩:=h; obtain ⟨b,k1,k2,k3⟩:=k
 obtain ⟨r,_,r1,r2,r3⟩:=sq h1 k1 h2 k2 hz;exact ⟨r,r1,r2,by rw [r3,h3,k3]⟩
theorem RB.mul {p q:Rat}{A B:Nat} (h:RB p A) (k:RB q B) (hz:A+B≤800000):RB (p*q) (A+B):=by
 obtain ⟨a,h1,h2,h3⟩:=h; obtain ⟨b,k1,k2,k3⟩:=k
 obtain ⟨r,_,r1,r2,r3⟩:=tK h1 k1 h2 k2 hz;exact ⟨r,r1,r2,by rw [r3,h3,k3]⟩
theorem Fw {w:List bG} (hw:Wf w) (ht:qH w) {k:Nat} (h:nv w<WB ^ k):w.length≤k:=by
 rcases Jx k w.length with hl | hl
 ·exfalso
  have hne:w≠[]:=fun e=>by rw [e] at hl; simp at hl
  have h1:=yD hw ht hne;have h2:WB ^ k≤WB ^ (w.length-1):=Nd (by decide) (by omega)
  exact absurd h (Nat.not_lt.2 (IY h2 h1))
 ·exact hl
theorem BG (k m:Nat) (h:32*k≤3*m):WB ^ k≤10 ^ m:=by
 have h3:(2:Nat) ^ (32*k)≤2 ^ (3*m):=Nd (by decide) h
 have h5:((2:Nat) ^ 3) ^ m≤10 ^ m:=Nc (by decide) m
 rw [← Ng] at h5;rw [uS k];exact IY h3 h5
theorem DC {k:Nat} (hk:k≤187):WB ^ k≤10 ^ 2000:=BG k 2000 (by omega)
theorem RB.fits {q:Rat}{L:Nat} (h:RB q L) (hL:L≤187):fits q:=by
 obtain ⟨r,h1,h2,rfl⟩:=h;have e:=DC hL;have key:∀ {w:List bG},Wf w→w.length≤L→nv w<10 ^ 2000:=fun hw hl=>
  M3 (ob hw) (IY (Nd (by decide) hl) e)
 refine D2 (k:=2000) ?_ ?_ (by decide) (HH _)
 ·rw [h1.num,gQ]; exact key h1.n.wf h2.1
 ·rw [h1.den]; exact key h1.d.wf h2.2
theorem E4 {m:Int}{k:Nat} (h:m.natAbs<WB ^ k) (hk:k≤187):∃ a:LI,oh a∧a.words.length≤k∧eK a=m:=by
 obtain ⟨a,_,h1,h2,h3⟩:=ue (n:=m) (wG (by decide) (M3 h (DC hk)))
 exact ⟨a,h1,Fw h1.wf h1.tp (by rw [← gQ,h3]; exact h),h3⟩
theorem RB.ratio {m d:Int}{k:Nat} (h:m.natAbs<WB ^ k) (hd:d.natAbs<WB ^ k) (h0:d≠0) (hk:k≤187):RB ((m:Rat) / (d:Rat)) k:=by
 obtain ⟨a,a1,a2,a3⟩:=E4 h hk;obtain ⟨b,b1,b2,b3⟩:=E4 hd hk;obtain ⟨r,_,r1,r2,r3,r4⟩:=r8 a1 b1 (by rw [← gQ,b3]; omega) (by omega) (by omega)
 exact ⟨r,r1,⟨by omega,by omega⟩,by rw [r4,a3,b3,Rat.divInt_eq_div]⟩
theorem RB.int {m:Int}{k:Nat} (h:m.natAbs<WB ^ k) (h1:1≤k) (hk:k≤187):RB (m:Rat) k:=by
 have:=RB.ratio (m:=m) (d:=1) h (by
  have:WB ^ 1≤WB ^ k:=Nd (by decide) h1
  have:WB ^ 1=4294967296:=by decide
  show 1<WB ^ k;omega) (by decide) hk
 have e:(m:Rat) / ((1:Int):Rat)=(m:Rat):=by rw [Rat.intCast_one]; grind
 rwa [e] at this
theorem RB.small {m:Int} (h:m.natAbs<4294967296):RB (m:Rat) 1:=RB.int (k:=1) (by show m.natAbs<4294967296 ^ 1; omega) (by decide) (by decide)
theorem RB.Gr {m d:Int} (h:m.natAbs<4294967296) (hd:d.natAbs<4294967296) (h0:d≠0):RB ((m:Rat) / (d:Rat)) 1:=
 RB.ratio (k:=1) (by show m.natAbs<4294967296 ^ 1; omega) (by show d.natAbs<4294967296 ^ 1; omega) h0 (by decide)
theorem C8 {q:Rat} (h:fits q):Gd (ng (ctext q)) (fun a=>lh a∧RL a 300∧rv a=q):=by
 have fin:∀ a:LR,oh a.N→oh a.D→eK a.N=q.num→eK a.D=(q.den:Int)→lh a∧RL a 300∧rv a=q:=fun a h1 h2 h3 h4=>by
  have hp:a.D.minus=false:=h2.plus (by omega)
  have hd:nv a.D.words=q.den:=by
   have:=lQ hp;omega
  have hok:lh a:=⟨h1,h2,hp,by rw [hd]; exact q.den_nz,by rw [hd,← gQ,h3]; exact q.reduced⟩
  have hv:rv a=q:=Ez (by rw [hok.num,h3]) (by rw [hok.den,hd])
  exact ⟨hok,hok.small (by rw [hv]; exact h),hv⟩
 have hl:=Ar h.1;unfold ng ctext cl
 by_cases hd:q.den=1
 ·rw [Hl hd,Ia]
  refine Gd.bind_eq (va (vr _)) (Gd.ite (fun _=>?_) (fun hx=>by simp at hx))
  refine Gd.eJ (ue h.1) (fun a ha=>Gd.eJ (vO (n:=1) (by omega)) (fun b hb=>Gd.ret ?_))
  exact fin _ ha.1 hb.1 ha.2.2 (by rw [hb.2.2,hd]; rfl)
 ·rw [Hh hd]
  refine Gd.bind_eq (vc (vr _) (by have:=h.2; unfold maxLen; omega)) (Gd.ite (fun hx=>by simp at hx) (fun _=>?_))
  refine Gd.eJ (ue h.1) (fun a ha=>Gd.eJ (vU (iX q.den).1 h.2) (fun b hb=>Gd.ret ?_));exact fin _ ha.1 hb.1 ha.2.2 (by rw [hb.2.2,(iX q.den).2])
end Go.Sim
namespace Go.Sim
open _root_.Go.IntKind (i64 u64 u32 u8)
def sm:Nat→(Nat→Rat)→Rat
 | 0,_=>0
 | n+1,f=>sm n f+f n
def pr:Nat→(Nat→Rat)→Rat
 | 0,_=>1
 | n+1,f=>pr n f*f n
theorem lf {f g:Nat→Rat}:∀ {n:Nat},(∀ i,i<n→f i=g i)→sm n f=sm n g
 | 0,_=>rfl
 | n+1,h=>by
  unfold sm;rw [lf (fun i hi=>h i (by omega)),h n (by omega)]
theorem q8 {f g:Nat→Rat}:∀ {n:Nat},(∀ i,i<n→f i=g i)→pr n f=pr n g
 | 0,_=>rfl
 | n+1,h=>by
  unfold pr;rw [q8 (fun i hi=>h i (by omega)),h n (by omega)]
theorem qG {f:Nat→Rat}:∀ {n:Nat},(∀ i,i<n→f i=0)→sm n f=0
 | 0,_=>rfl
 | n+1,h=>by
  unfold sm;rw [qG (fun i hi=>h i (by omega)),h n (by omega)]; grind
theorem ry (f g:Nat→Rat):∀ n:Nat,sm n (fun i=>f i+g i)=sm n f+sm n g
 | 0=>by unfold sm; grind
 | n+1=>by unfold sm; rw [ry f g n]; grind
theorem mY (a:Rat) (f:Nat→Rat):∀ n:Nat,sm n (fun i=>a*f i)=a*sm n f
 | 0=>by unfold sm; grind
 | n+1=>by unfold sm; rw [mY a f n]; grind
theorem vZ {f:Nat→Rat}{p:Nat}:∀ {n:Nat},p<n→(∀ i,i<n→i≠p→f i=0)→sm n f=f p
 | 0,h,_=>by omega
 | n+1,h,hz=>by
  unfold sm
  by_cases e:p=n
  ·subst e
   rw [qG (fun i hi=>hz i (by omega) (by omega))]; grind
  ·rw [vZ (by omega) (fun i hi hne=>hz i (by omega) hne),hz n (by omega) (fun h=>e h.symm)]; grind
theorem Ds {f:Nat→Rat}{p:Nat}:∀ {n:Nat},p+1<n→(∀ i,i<n→i≠p→i≠p+1→f i=0)→sm n f=f p+f (p+1)
 | 0,h,_=>by omega
 | n+1,h,hz=>by
  unfold sm
  by_cases e:p+1=n
  ·subst e
   rw [vZ (p:=p) (by omega) (fun i hi hne=>hz i (by omega) hne (by omega))]
  ·rw [Ds (by omega) (fun i hi h1 h2=>hz i (by omega) h1 h2),hz n (by omega) (by omega) (fun h=>e h.symm)]; grind
theorem oR {f:Nat→Rat}:∀ {n:Nat},(∀ i,i<n→0≤f i)→0≤sm n f
 | 0,_=>Nt
 | n+1,h=>by
  unfold sm;have h1:=oR (n:=n) (fun i hi=>h i (by omega))
  have h2:=h n (by omega)
  grind
theorem Dr {f g:Nat→Rat}:∀ {n:Nat},(∀ i,i<n→f i≤g i)→sm n f≤sm n g
 | 0,_=>Nt
 | n+1,h=>by
  unfold sm;have h1:=Dr (n:=n) (fun i hi=>h i (by omega))
  have h2:=h n (by omega)
  grind
theorem jM {f:Nat→Rat}:∀ {n:Nat},(∀ i,i<n→0≤f i)→0≤pr n f
 | 0,_=>by unfold pr; decide
 | n+1,h=>by
  unfold pr;exact Nx (jM (n:=n) (fun i hi=>h i (by omega))) (h n (by omega))
theorem mc {a b c d:Rat} (h1:a≤b) (h2:c≤d) (a0:0≤a) (c0:0≤c):a*c≤b*d:=by
 have x1:a*c≤b*c:=Rat.mul_le_mul_of_nonneg_right h1 c0;have x2:b*c≤b*d:=Rat.mul_le_mul_of_nonneg_left h2 (by grind)
 exact Nu x1 x2
theorem AI {f g:Nat→Rat}:∀ {n:Nat},(∀ i,i<n→0≤f i)→(∀ i,i<n→f i≤g i)→pr n f≤pr n g
 | 0,_,_=>Nt
 | n+1,h0,h=>by
  unfold pr;exact mc (AI (fun i hi=>h0 i (by omega)) (fun i hi=>h i (by omega))) (h n (by omega)) (jM (fun i hi=>h0 i (by omega))) (h0 n (by omega))
theorem xu (f g:Nat→Rat):∀ n:Nat,pr n (fun i=>f i*g i)=pr n f*pr n g
 | 0=>by unfold pr; grind
 | n+1=>by unfold pr; rw [xu f g n]; grind
abbrev Mt:=Nat→Nat→Rat
def skip (p i:Nat):Nat:=if i<p then i else i+1
def minor (M:Mt) (p:Nat):Mt:=fun r c=>M (skip p r) (c+1)
def sg (i:Nat):Rat:=if i%2=0 then 1 else -1
def mq:Nat→Mt→Rat
 | 0,_=>1
 | n+1,M=>sm (n+1) (fun i=>sg i*M i 0*mq n (minor M i))
def row (M:Mt) (p:Nat) (x:Nat→Rat):Mt:=fun r=>if r=p then x else M r
theorem sn:∀ {n:Nat}{M M':Mt},(∀ r c,r<n→c<n→M r c=M' r c)→mq n M=mq n M'
 | 0,_,_,_=>rfl
 | n+1,M,M',h=>by
  unfold mq;refine lf (fun i hi=>?_);rw [h i 0 hi (by omega),sn (fun r c hr hc=>?_)]
  unfold minor;exact h _ _ (by unfold skip; split <;> omega) (by omega)
theorem qj (M:Mt) (p:Nat) (x:Nat→Rat):minor (row M p x) p=minor M p:=by
 funext r c
 unfold minor row;rw [Hh (by unfold skip; split <;> omega)]
theorem rl (M:Mt) {p i:Nat} (h:p<i) (x:Nat→Rat):minor (row M p x) i=row (minor M i) p (fun c=>x (c+1)):=by
 funext r c
 unfold minor row
 by_cases e:r=p
 ·subst e
  rw [Hl (by unfold skip; rw [Hl h]),Hl rfl]
 ·rw [Hh (by unfold skip; split <;> omega),Hh e]
theorem rk (M:Mt) {p i:Nat} (h:i<p) (x:Nat→Rat):minor (row M p x) i=row (minor M i) (p-1) (fun c=>x (c+1)):=by
 funext r c
 unfold minor row
 by_cases e:r=p-1
 ·subst e
  rw [Hl (by unfold skip; split <;> omega),Hl rfl]
 ·rw [Hh (by unfold skip; split <;> omega),Hh e]
theorem ti:∀ {n:Nat} (M:Mt) {p:Nat} (hp:p<n) (a b:Rat) (x y:Nat→Rat),mq n (row M p (fun c=>a*x c+b*y c))=a*mq n (row M p x)+b*mq n (row M p y)
 | 0,_,_,h,_,_,_,_=>by omega
 | n+1,M,p,hp,a,b,x,y=>by
  unfold mq;rw [← mY,← mY,← ry];refine lf (fun i hi=>?_);rcases Ks i p with h | h | h
  ·rw [rk M h,rk M h,rk M h,ti (minor M i) (by omega) a b (fun c=>x (c+1)) (fun c=>y (c+1))]
   unfold row;rw [Hh (by omega),Hh (by omega),Hh (by omega)]
   grind
  ·subst h
   rw [qj,qj,qj];unfold row;rw [Hl rfl,Hl rfl,Hl rfl]
   grind
  ·rw [rl M h,rl M h,rl M h,ti (minor M i) (by omega) a b (fun c=>x (c+1)) (fun c=>y (c+1))]
   unfold row;rw [Hh (by omega),Hh (by omega),Hh (by omega)]
   grind
theorem EC (i:Nat):sg (i+1) = - sg i:=by
 unfold sg
 by_cases h:i%2=0
 ·rw [Hl h,Hh (by omega)]
 ·rw [if_neg h,if_pos (by omega)]; grind
theorem uH:∀ {n:Nat}{M:Mt}{p:Nat},p+1<n→(∀ c,c<n→M p c=M (p+1) c)→mq n M=0
 | 0,_,_,h,_=>by omega
 | n+1,M,p,hp,he=>by
  unfold mq;rw [Ds (p:=p) hp (fun i hi h1 h2=>?_)]
  ·have:mq n (minor M p)=mq n (minor M (p+1)):=sn (fun r c hr hc=>by
    unfold minor skip
    by_cases e:r=p
    ·subst e
     rw [Hh (by omega),Hl (by omega)]
     exact (he (c+1) (by omega)).symm
    ·by_cases e2:r<p
     ·rw [Hl e2,Hl (by omega)]
     ·rw [Hh e2,Hh (by omega)])
   rw [this,EC,he 0 (by omega)]
   grind
  ·have:mq n (minor M i)=0:=by
    rcases Ks i p with h | h | h
    ·refine uH (p:=p-1) (by omega) (fun c hc=>?_)
     unfold minor skip;rw [Hh (by omega),Hh (by omega),show p-1+1=p by omega]
     exact he (c+1) (by omega)
    ·exact absurd h h1
    ·refine uH (p:=p) (by omega) (fun c hc=>?_)
     unfold minor skip;rw [Hl (by omega),Hl (by omega)]
     exact he (c+1) (by omega)
   rw [this]; grind
theorem vW (M:Mt) (p:Nat):row M p (M p)=M:=by
 funext r
 unfold row
 by_cases e:r=p
 ·subst e; rw [Hl rfl]
 ·rw [Hh e]
theorem q_ (M:Mt) {p q:Nat} (h:p≠q) (x y:Nat→Rat):row (row M p x) q y=row (row M q y) p x:=by
 funext r
 unfold row
 by_cases e:r=q
 ·subst e; rw [Hl rfl,Hh (fun e=>h e.symm),Hl rfl]
 ·rw [Hh e]
  by_cases e2:r=p
  ·rw [Hl e2,Hl e2]
  ·rw [Hh e2,Hh e2,Hh e]
theorem vd {n:Nat} (M:Mt) {p:Nat} (hp:p<n) (x y:Nat→Rat):mq n (row M p (fun c=>x c+y c))=mq n (row M p x)+mq n (row M p y):=by
 have:=ti M hp 1 1 x y;simp only [Rat.one_mul] at this;exact this
theorem Cl {n:Nat} (M:Mt) {p:Nat} (hp:p+1<n) (x y:Nat→Rat):mq n (row (row M p x) (p+1) y) = - mq n (row (row M p y) (p+1) x):=by
 have two:∀ u:Nat→Rat,mq n (row (row M p u) (p+1) u)=0:=fun u=>uH hp (fun c hc=>by
  unfold row;rw [Hh (by omega),Hl rfl,Hl rfl])
 have h:=two (fun c=>x c+y c);have hne:p≠p+1:=by omega
 rw [vd _ hp,q_ M hne,q_ M hne,vd _ (by omega),vd _ (by omega),← q_ M hne,← q_ M hne,← q_ M hne,← q_ M hne,two x,two y] at h
 grind
theorem w6:∀ (k:Nat) {n:Nat}{M:Mt}{p q:Nat},q=p+1+k→q<n→(∀ c,M p c=M q c)→mq n M=0
 | 0,n,M,p,q,hq,hn,he=>by
  subst hq;exact uH (by omega) (fun c _=>he c)
 | k+1,n,M,p,q,hq,hn,he=>by
  have e1:mq n M=mq n (row (row M (q-1) (M (q-1))) (q-1+1) (M (q-1+1))):=by
   rw [vW,vW]
  rw [e1,Cl M (by omega)]
  have:mq n (row (row M (q-1) (M (q-1+1))) (q-1+1) (M (q-1)))=0:=by
   refine w6 k (p:=p) (q:=q-1) (by omega) (by omega) (fun c=>?_)
   unfold row;rw [Hh (by omega),Hh (by omega),Hh (by omega),Hl rfl,show q-1+1=q by omega]
   exact he c
  rw [this]; grind
theorem Cj {n:Nat}{M:Mt}{p q:Nat} (hp:p<n) (hq:q<n) (hne:p≠q) (he:∀ c,M p c=M q c):mq n M=0:=by
 rcases Jx p q with h | h
 ·exact w6 (q-p-1) (p:=p) (q:=q) (by omega) hq he
 ·exact w6 (p-q-1) (p:=q) (q:=p) (by omega) hp (fun c=>(he c).symm)
theorem w8 {n:Nat} (M:Mt) {p:Nat} (hp:p<n):mq n (row M p (fun _=>0))=0:=by
 have:=ti M hp 0 0 (fun _=>0) (fun _=>0);have e:(fun c:Nat=>(0:Rat)*(fun _:Nat=>(0:Rat)) c+0*(fun _:Nat=>(0:Rat)) c)=fun _=>0:=by funext c; grind
 rw [e] at this;rw [this]; grind
theorem ve {n:Nat} (M:Mt) {p:Nat} (hp:p<n) (x:Nat→Rat) (Y:Mt):∀ k:Nat,mq n (row M p (fun c=>sm k (fun j=>x j*Y j c)))=sm k (fun j=>x j*mq n (row M p (Y j)))
 | 0=>w8 M hp
 | k+1=>by
  have e:(fun c=>sm (k+1) (fun j=>x j*Y j c))=fun c=>1*sm k (fun j=>x j*Y j c)+x k*Y k c:=by
   funext c
   show sm k (fun j=>x j*Y j c)+x k*Y k c=_;rw [Rat.one_mul]
  rw [e,ti M hp 1 (x k) (fun c=>sm k (fun j=>x j*Y j c)) (Y k),ve M hp x Y k];show _=sm k _+_
  grind
theorem yc {n:Nat} (M:Mt) {p:Nat} (hp:p<n) (x:Nat→Rat):mq n (row M p (fun c=>sm n (fun j=>x j*M j c)))=x p*mq n M:=by
 rw [ve M hp,vZ hp (fun j hj hne=>?_),vW];have:mq n (row M p (M j))=0:=Cj hp hj (fun e=>hne e.symm) (fun c=>by
  unfold row;rw [Hl rfl,Hh hne])
 rw [this]; grind
theorem Cf {n:Nat}{M:Mt}{x b:Nat→Rat} (h:∀ c,c<n→sm n (fun j=>x j*M j c)=b c) {p:Nat} (hp:p<n):mq n (row M p b)=x p*mq n M:=by
 rw [← yc M hp];refine sn (fun r c hr hc=>?_);unfold row
 by_cases e:r=p
 ·rw [Hl e,Hl e]; exact (h c hc).symm
 ·rw [Hh e,Hh e]
theorem yd:∀ {n:Nat}{M:Mt},(∀ c,c<n→M n c=0)→mq (n+1) M=M n n*mq n M
 | 0,M,_=>by
  show (0:Rat)+sg 0*M 0 0*1=M 0 0*1;have:sg 0=1:=rfl;rw [this]; grind
 | n+1,M,h=>by
  have e1:mq (n+1+1) M=sm (n+1) (fun i=>sg i*M i 0*mq (n+1) (minor M i))+sg (n+1)*M (n+1) 0*mq (n+1) (minor M (n+1)):=rfl;have e2:mq (n+1) M=sm (n+1) (fun i=>sg i*M i 0*mq n (minor M i)):=rfl;rw [e1,e2,h 0 (by omega),← mY]
  have:sm (n+1) (fun i=>sg i*M i 0*mq (n+1) (minor M i))=sm (n+1) (fun i=>M (n+1) (n+1)*(sg i*M i 0*mq n (minor M i))):=by
   refine lf (fun i hi=>?_);have hs:skip i n=n+1:=by unfold skip; rw [Hh (by omega)]
   have hl:mq (n+1) (minor M i)=minor M i n n*mq n (minor M i):=yd (fun c hc=>by
    unfold minor;rw [hs];exact h (c+1) (by omega))
   have hm:minor M i n n=M (n+1) (n+1):=by unfold minor; rw [hs]
   rw [hl,hm]; grind
  rw [this]; grind
def pF (q:Rat):Prop:=∃ z:Int,q=(z:Rat)
theorem tl {a b:Rat} (h:pF a) (k:pF b):pF (a+b):=by
 obtain ⟨x,rfl⟩:=h; obtain ⟨y,rfl⟩:=k
 exact ⟨x+y,(Rat.intCast_add x y).symm⟩
theorem nT {a b:Rat} (h:pF a) (k:pF b):pF (a*b):=by
 obtain ⟨x,rfl⟩:=h; obtain ⟨y,rfl⟩:=k
 exact ⟨x*y,(Nr x y).symm⟩
theorem Fu (i:Nat):pF (sg i):=by
 unfold sg
 split
 ·exact ⟨1,rfl⟩
 ·exact ⟨-1,rfl⟩
theorem zD {f:Nat→Rat}:∀ {n:Nat},(∀ i,i<n→pF (f i))→pF (sm n f)
 | 0,_=>⟨0,rfl⟩
 | n+1,h=>by unfold sm; exact tl (zD (fun i hi=>h i (by omega))) (h n (by omega))
theorem w7:∀ {n:Nat}{M:Mt},(∀ r c,r<n→c<n→pF (M r c))→pF (mq n M)
 | 0,_,_=>⟨1,rfl⟩
 | n+1,M,h=>by
  unfold mq;exact zD (fun i hi=>nT (nT (Fu i) (h i 0 hi (by omega))) (w7 (fun r c hr hc=>h _ _ (by unfold skip; split <;> omega) (by omega))))
theorem AK (v w:Nat→Rat) (hv:∀ i,0≤v i) (hw:∀ i,0≤w i):∀ n:Nat,sm (n+1) (fun i=>v i*pr n (fun r=>w (skip i r)))+pr (n+1) w≤pr (n+1) (fun r=>v r+w r)
 | 0=>by
  show 0+v 0*1+1*w 0≤1*(v 0+w 0)
  grind
 | n+1=>by
  have ih:=AK v w hv hw n;have e1:sm (n+1+1) (fun i=>v i*pr (n+1) (fun r=>w (skip i r)))=sm (n+1) (fun i=>v i*pr (n+1) (fun r=>w (skip i r)))+v (n+1)*pr (n+1) (fun r=>w (skip (n+1) r)):=rfl;have e2:sm (n+1) (fun i=>v i*pr (n+1) (fun r=>w (skip i r)))=w (n+1)*sm (n+1) (fun i=>v i*pr n (fun r=>w (skip i r))):=by
   rw [← mY];refine lf (fun i hi=>?_);have:pr (n+1) (fun r=>w (skip i r))=pr n (fun r=>w (skip i r))*w (n+1):=by
    show pr n _*w (skip i n)=_;rw [show skip i n=n+1 by unfold skip; rw [Hh (by omega)]]
   rw [this]; grind
  have e3:pr (n+1) (fun r=>w (skip (n+1) r))=pr (n+1) w:=q8 (fun r hr=>by unfold skip; rw [Hl hr])
  have e4:pr (n+1+1) w=pr (n+1) w*w (n+1):=rfl;have e5:pr (n+1+1) (fun r=>v r+w r)=pr (n+1) (fun r=>v r+w r)*(v (n+1)+w (n+1)):=rfl;rw [e1,e2,e3,e4,e5];have s0:0≤sm (n+1) (fun i=>v i*pr n (fun r=>w (skip i r))):=oR (fun i _=>Rat.mul_nonneg (hv i) (jM (fun r _=>hw _)));have m1:=Rat.mul_le_mul_of_nonneg_right ih (show (0:Rat)≤v (n+1)+w (n+1) by have:=hv (n+1); have:=hw (n+1); grind)
  have m2:=Nx s0 (hv (n+1))
  grind
theorem zt:∀ {n:Nat}{M A:Mt},(∀ r c,0≤A r c)→(∀ r c,r<n→c<n→-A r c≤M r c∧M r c≤A r c)→-pr n (fun r=>sm n (A r))≤mq n M∧mq n M≤pr n (fun r=>sm n (A r))
 | 0,_,_,_,_=>by unfold mq pr; exact ⟨by decide,by decide⟩
 | n+1,M,A,h0,h=>by
  have hsplit:∀ r,sm (n+1) (A r)=A r 0+sm n (fun c=>A r (c+1)):=fun r=>by
   have:∀ k,sm (k+1) (A r)=A r 0+sm k (fun c=>A r (c+1)):=fun k=>by
    induction k with
    | zero=>show 0+A r 0=A r 0+0; grind
    | succ k ih=>
     have e1:sm (k+1+1) (A r)=sm (k+1) (A r)+A r (k+1):=rfl;have e2:sm (k+1) (fun c=>A r (c+1))=sm k (fun c=>A r (c+1))+A r (k+1):=rfl;rw [e1,e2,ih]; grind
   exact this n
  have hw:∀ r,0≤sm n (fun c=>A r (c+1)):=fun r=>oR (fun c _=>h0 r (c+1));have hp:=AK (fun r=>A r 0) (fun r=>sm n (fun c=>A r (c+1))) (fun r=>h0 r 0) hw n;have hP:pr (n+1) (fun r=>sm (n+1) (A r))=pr (n+1) (fun r=>A r 0+sm n (fun c=>A r (c+1))):=q8 (fun r _=>hsplit r);have hw1:=jM (n:=n+1) (f:=fun r=>sm n (fun c=>A r (c+1))) (fun r _=>hw r);have term:∀ i,i<n+1→-(A i 0*pr n (fun r=>sm n (fun c=>A (skip i r) (c+1))))≤sg i*M i 0*mq n (minor M i)∧sg i*M i 0*mq n (minor M i)≤A i 0*pr n (fun r=>sm n (fun c=>A (skip i r) (c+1))):=fun i hi=>by
   obtain ⟨d1,d2⟩:=zt (n:=n) (M:=minor M i) (A:=fun r c=>A (skip i r) (c+1)) (fun r c=>h0 _ _) (fun r c hr hc=>h _ _ (by unfold skip; split <;> omega) (by omega))
   obtain ⟨m1,m2⟩:=h i 0 hi (by omega)
   have key:∀ a b x y:Rat,-a≤x→x≤a→-b≤y→y≤b→-(a*b)≤x*y∧x*y≤a*b:=fun a b x y h1 h2 h3 h4=>by
    have t1:=Rat.mul_nonneg (show (0:Rat)≤a-x by grind) (show (0:Rat)≤b-y by grind)
    have t2:=Rat.mul_nonneg (show (0:Rat)≤a+x by grind) (show (0:Rat)≤b+y by grind)
    have t3:=Rat.mul_nonneg (show (0:Rat)≤a-x by grind) (show (0:Rat)≤b+y by grind)
    have t4:=Rat.mul_nonneg (show (0:Rat)≤a+x by grind) (show (0:Rat)≤b-y by grind)
    constructor <;> grind
   obtain ⟨k1,k2⟩:=key _ _ _ _ m1 m2 d1 d2;unfold sg
   split
   ·constructor <;> grind
   ·constructor <;> grind
  rw [hP];have hle:sm (n+1) (fun i=>A i 0*pr n (fun r=>sm n (fun c=>A (skip i r) (c+1))))≤pr (n+1) (fun r=>A r 0+sm n (fun c=>A r (c+1))):=by grind
  have up:mq (n+1) M≤sm (n+1) (fun i=>A i 0*pr n (fun r=>sm n (fun c=>A (skip i r) (c+1)))):=Dr (fun i hi=>(term i hi).2);have lo:sm (n+1) (fun i=>(-1)*(A i 0*pr n (fun r=>sm n (fun c=>A (skip i r) (c+1)))))≤mq (n+1) M:=Dr (fun i hi=>by have:=(term i hi).1; grind)
  rw [mY] at lo;constructor <;> grind
theorem Ck {k:Nat}{M:Mt}{x:Nat→Rat} (hx:x k=1) (h0:∀ c,c<k→sm (k+1) (fun j=>x j*M j c)=0):mq (k+1) M=sm (k+1) (fun j=>x j*M j k)*mq k M:=by
 have h1:=yc M (Hi k) x;rw [hx,Rat.one_mul] at h1;rw [← h1];have h2:mq (k+1) (row M k (fun c=>sm (k+1) (fun j=>x j*M j c)))=(row M k (fun c=>sm (k+1) (fun j=>x j*M j c))) k k*mq k (row M k (fun c=>sm (k+1) (fun j=>x j*M j c))):=yd (fun c hc=>by
  unfold row;rw [Hl rfl];exact h0 c hc)
 rw [h2];have h3:mq k (row M k (fun c=>sm (k+1) (fun j=>x j*M j c)))=mq k M:=sn (fun r c hr hc=>by
  unfold row;rw [Hh (by omega)])
 rw [h3];unfold row;rw [Hl rfl]
theorem zp {k:Nat}{M:Mt}{x b:Nat→Rat} (hM:∀ r c,r<k→c<k→pF (M r c)) (hb:∀ c,c<k→pF (b c)) (h:∀ c,c<k→sm k (fun j=>x j*M j c)=b c) {p:Nat} (hp:p<k):pF (x p*mq k M):=by
 rw [← Cf h hp];refine w7 (fun r c hr hc=>?_);unfold row
 by_cases e:r=p
 ·rw [Hl e]; exact hb c hc
 ·rw [Hh e]; exact hM r c hr hc
theorem xv {f:Nat→Rat}:∀ {n:Nat},(∀ i,i<n→1≤f i)→1≤pr n f
 | 0,_=>by unfold pr; decide
 | n+1,h=>by
  unfold pr;have h1:=xv (n:=n) (fun i hi=>h i (by omega))
  have h2:=h n (by omega)
  have:=mc h1 h2 (by decide) (by decide)
  grind
theorem C_ {f:Nat→Rat}{s:Rat} (hs:0≤s) {p:Nat}:∀ {n:Nat},p<n→(∀ i,i<n→1≤f i)→pr n (fun r=>if r=p then s else f r)≤pr n f*s
 | 0,h,_=>by omega
 | n+1,h,h1=>by
  have hf:∀ i,i<n+1→0≤f i:=fun i hi=>by have:=h1 i hi; grind
  have hp0:=jM (n:=n) (f:=f) (fun i hi=>hf i (by omega))
  by_cases e:p=n
  ·subst e
   show pr p (fun r=>if r=p then s else f r)*(if p=p then s else f p)≤pr p f*f p*s
   rw [Hl rfl];have e2:pr p (fun r=>if r=p then s else f r)=pr p f:=q8 (fun i hi=>Hh (by omega))
   rw [e2];have hps:=Nx hp0 hs;have:=mc (Nt (a:=pr p f*s)) (h1 p (by omega)) hps (by decide)
   grind
  ·show pr n (fun r=>if r=p then s else f r)*(if n=p then s else f n)≤pr n f*f n*s
   rw [Hh (fun e2:n=p=>e e2.symm)];have hpn:p<n:=by omega
   have ih:=C_ (f:=f) hs hpn (fun i hi=>h1 i (Nat.lt_succ_of_lt hi));have:=Rat.mul_le_mul_of_nonneg_right ih (hf n (by omega))
   grind
theorem A6 {k:Nat}{M A:Mt}{x b a:Nat→Rat}{S:Rat} (hA0:∀ r c,0≤A r c) (ha0:∀ c,0≤a c) (hM:∀ r c,r<k→c<k→-A r c≤M r c∧M r c≤A r c) (hb:∀ c,c<k→-a c≤b c∧b c≤a c)
  (h1:∀ r,r<k→1≤sm k (A r)) (hS:sm k a≤S) (h:∀ c,c<k→sm k (fun j=>x j*M j c)=b c) {p:Nat} (hp:p<k):-(pr k (fun r=>sm k (A r))*S)≤x p*mq k M∧x p*mq k M≤pr k (fun r=>sm k (A r))*S:=by
 rw [← Cf h hp];obtain ⟨d1,d2⟩:=zt (n:=k) (M:=row M p b) (A:=row A p a) (fun r c=>by
  unfold row
  by_cases e:r=p
  ·rw [Hl e]; exact ha0 c
  ·rw [Hh e]; exact hA0 r c) (fun r c hr hc=>by
  unfold row
  by_cases e:r=p
  ·rw [Hl e,Hl e]; exact hb c hc
  ·rw [Hh e,Hh e]; exact hM r c hr hc)
 have hs0:0≤sm k a:=oR (fun c _=>ha0 c);have e1:pr k (fun r=>sm k (row A p a r))=pr k (fun r=>if r=p then sm k a else sm k (A r)):=q8 (fun r _=>by
  unfold row
  by_cases e:r=p
  ·rw [Hl e,Hl e]
  ·rw [Hh e,Hh e])
 rw [e1] at d1 d2;have h2:=C_ hs0 (p:=p) (n:=k) (f:=fun r=>sm k (A r)) hp h1;have h3:=Rat.mul_le_mul_of_nonneg_left hS (jM (n:=k) (f:=fun r=>sm k (A r)) (fun r hr=>by have:=h1 r hr; grind))
 have h4:=Rat.le_trans h2 h3;constructor <;> grind
def dl (i j:Nat):Rat:=if i=j then 1 else 0
theorem mE (i:Nat):dl i i=1:=Hl rfl
theorem lP {i j:Nat} (h:i≠j):dl i j=0:=Hh h
structure Gj (n:Nat) (A:Mt) (k:Nat) (m:Mt):Prop where
 comb:∀ i c,i<n→c<n→m i c=sm n (fun j=>m i (n+j)*A j c)
 right:∀ i j,i<n→j<n→k≤j→m i (n+j)=dl i j
 left:∀ i c,i<n→c<n→c<k→m i c=dl i c
def pY (k:Nat) (m:Mt):Mt:=fun i c=>if i=k then m k c / m k k else m i c-m i k*(m k c / m k k)
theorem Gj.step {n:Nat}{A m:Mt}{k:Nat} (h:Gj n A k m) (hk:k<n) (hd:m k k≠0):Gj n A (k+1) (pY k m):=by
 have hk0:∀ c,c<k→m k c=0:=fun c hc=>by rw [h.left k c hk (by omega) hc,lP (by omega)]
 have hkr:∀ j,j<n→k+1≤j→m k (n+j)=0:=fun j hj hkj=>by rw [h.right k j hk hj (by omega),lP (by omega)]
 have hdiv:m k k / m k k=1:=by rw [Np]; exact Nw _ hd
 refine ⟨fun i c hi hc=>?_,fun i j hi hj hkj=>?_,fun i c hi hc hck=>?_⟩
 ·have e1:=h.comb i c hi hc
  have e2:=h.comb k c hk hc;unfold pY
  by_cases e:i=k
  ·subst e
   simp only [if_true];have:(fun j=>m i (n+j) / m i i*A j c)=fun j=>(m i i)⁻¹*(m i (n+j)*A j c):=by funext j; rw [Rat.div_def]; grind
   rw [this,mY,← e2,Rat.div_def]; grind
  ·simp only [Hh e]
   have:(fun j=>(m i (n+j)-m i k*(m k (n+j) / m k k))*A j c)=fun j=>m i (n+j)*A j c+(-(m i k*(m k k)⁻¹))*(m k (n+j)*A j c):=by funext j; rw [Rat.div_def]; grind
   rw [this,ry,mY,← e1,← e2,Rat.div_def]; grind
 ·unfold pY
  have e1:=hkr j hj hkj
  by_cases e:i=k
  ·subst e
   rw [if_pos rfl,e1,lP (by omega),Rat.div_def]; grind
  ·rw [if_neg e,e1,h.right i j hi hj (by omega),Rat.div_def]; grind
 ·unfold pY
  by_cases e:i=k
  ·subst e
   rw [Hl rfl]
   by_cases e2:c=i
   ·subst e2; rw [hdiv,mE]
   ·rw [hk0 c (by omega),lP (fun e3=>e2 e3.symm),Rat.div_def]; grind
  ·rw [Hh e]
   by_cases e2:c=k
   ·subst e2; rw [hdiv,lP e]; grind
   ·rw [hk0 c (by omega),h.left i c hi hc (by omega),Rat.div_def]; grind
def Pd (n:Nat) (A:Mt):Prop:=∀ x:Nat→Rat,sm n (fun c=>x c*sm n (fun j=>x j*A j c))=0→∀ i,i<n→x i=0
theorem Gj.E5 {n:Nat}{A m:Mt}{k:Nat} (h:Gj n A k m) (hp:Pd n A) (hk:k<n):m k k≠0:=by
 intro h0;have h1:=hp (fun j=>m k (n+j)) (qG (fun c hc=>by
  have e1:=(h.comb k c hk hc).symm;show m k (n+c)*sm n (fun j=>m k (n+j)*A j c)=0;rw [e1];rcases Ks c k with hck | hck | hck
  ·rw [h.left k c hk hc hck,lP (by omega)]; grind
  ·subst hck; rw [h0]; grind
  ·rw [h.right k c hk hc (by omega),lP (by omega)]; grind)) k hk
 have h2:=h.right k k hk hk (HH k);have h3:m k (n+k)=0:=h1;rw [h2,mE] at h3;exact absurd h3 (by decide)
theorem Gj.Fk {n:Nat}{A m:Mt}{k:Nat} (h:Gj n A k m) (hk:k≤n) {i:Nat} (hi:i<n) {c:Nat} (hc:c<n):m i c=sm k (fun j=>m i (n+j)*A j c)+(if k≤i then A i c else 0):=by
 have key:∀ q,k≤q→q≤n→sm q (fun j=>m i (n+j)*A j c)=sm k (fun j=>m i (n+j)*A j c)+(if k≤i∧i<q then A i c else 0):=by
  intro q hq
  induction q with
  | zero=>
   intro _;obtain rfl:k=0:=by omega
   rw [if_neg (by omega)]; grind
  | succ q ih=>
   intro hqn
   by_cases e:k=q+1
   ·rw [← e,if_neg (by omega)]; grind
   ·have e1:sm (q+1) (fun j=>m i (n+j)*A j c)=sm q (fun j=>m i (n+j)*A j c)+m i (n+q)*A q c:=rfl
    rw [e1,ih (by omega) (by omega),h.right i q hi (by omega) (by omega)]
    by_cases e2:i=q
    ·subst e2
     rw [mE,if_neg (by omega),if_pos ⟨by omega,by omega⟩]; grind
    ·rw [lP e2]
     by_cases e3:k≤i∧i<q
     ·rw [if_pos e3,if_pos ⟨e3.1,by omega⟩]; grind
     ·rw [if_neg e3,if_neg (by omega)]; grind
 rw [h.comb i c hi hc,key n hk (HH n)]
 by_cases e:k≤i
 ·rw [Hl ⟨e,hi⟩,Hl e]
 ·rw [Hh (fun e2=>e e2.1),Hh e]
theorem Gj.mq {n:Nat}{A m:Mt}{k:Nat} (h:Gj n A k m) (hk:k<n) {L:Nat→Rat} (hL:∀ i,i<n→L i≠0):Sim.mq (k+1) (fun r c=>L r*A r c)=L k*m k k*Sim.mq k (fun r c=>L r*A r c):=by
 have hc:∀ c,c<n→sm (k+1) (fun j=>(L k*m k (n+j) / L j)*(L j*A j c))=L k*m k c:=fun c hc=>by
  have e1:=h.Fk (Nat.le_of_lt hk) hk hc;rw [Hl (HH k)] at e1;have e2:sm (k+1) (fun j=>(L k*m k (n+j) / L j)*(L j*A j c))=sm (k+1) (fun j=>L k*(m k (n+j)*A j c)):=lf (fun j hj=>by
   have:=Nw (L j) (hL j (by omega))
   rw [Rat.div_def]; grind)
  rw [e2,mY];have e3:sm (k+1) (fun j=>m k (n+j)*A j c)=sm k (fun j=>m k (n+j)*A j c)+m k (n+k)*A k c:=rfl;rw [e3,h.right k k hk hk (Nat.le_refl k),mE,e1]; grind
 have h1:=Ck (k:=k) (M:=fun r c=>L r*A r c) (x:=fun j=>L k*m k (n+j) / L j) (by
  rw [h.right k k hk hk (HH k),mE,Rat.mul_one,Np];exact Nw _ (hL k hk)) (fun c hck=>by
  rw [hc c (by omega),h.left k c hk (by omega) hck,lP (by omega)]; grind)
 rw [h1,hc k hk]
structure BN (n:Nat) (A:Mt) (L:Nat→Rat) (B:Mt) (R:Nat→Rat):Prop where
 li:∀ i,i<n→pF (L i)
 l1:∀ i,i<n→1≤L i
 ai:∀ i c,i<n→c<n→pF (L i*A i c)
 b0:∀ i c,0≤B i c
 b1:∀ i,i<n→1≤B i i
 ab:∀ i c,i<n→c<n→-B i c≤L i*A i c∧L i*A i c≤B i c
 rs:∀ i,i<n→sm n (B i)≤R i
theorem uL {f:Nat→Rat} (h:∀ i,0≤f i) {k:Nat}:∀ {n:Nat},k≤n→sm k f≤sm n f
 | 0,hk=>by
  obtain rfl:k=0:=by omega
  exact Nt
 | n+1,hk=>by
  by_cases e:k=n+1
  ·subst e; exact Nt
  ·have h1:=uL h (k:=k) (n:=n) (by omega)
   have h2:=h n;have h3:sm (n+1) f=sm n f+f n:=rfl;rw [h3]
   grind
theorem E_ {f:Nat→Rat} (h:∀ i,0≤f i) {k p:Nat} (hp:p<k):f p≤sm k f:=by
 have h1:=uL h (k:=p+1) (n:=k) (by omega)
 have h2:=oR (n:=p) (f:=f) (fun i _=>h i);have h3:sm (p+1) f=sm p f+f p:=rfl
 grind
theorem BN.FE {n:Nat}{A B:Mt}{L R:Nat→Rat} (h:BN n A L B R) {k r:Nat} (hr:r<k) (hk:k≤n):1≤sm k (B r):=by
 have h1:=E_ (h.b0 r) hr;have h2:=h.b1 r (by omega)
 grind
theorem BN.R1 {n:Nat}{A B:Mt}{L R:Nat→Rat} (h:BN n A L B R) {r:Nat} (hr:r<n):1≤R r:=by
 have h1:=h.FE hr (HH n);have h2:=h.rs r hr
 grind
theorem AJ {f:Nat→Rat}{k:Nat}:∀ {n:Nat},k≤n→(∀ i,i<n→1≤f i)→pr k f≤pr n f
 | 0,hk,_=>by
  obtain rfl:k=0:=by omega
  exact Nt
 | n+1,hk,h=>by
  by_cases e:k=n+1
  ·subst e; exact Nt
  ·have h1:=AJ (k:=k) (n:=n) (by omega) (fun i hi=>h i (by omega))
   have h2:=mc (Rat.le_refl (a:=pr n f)) (h n (by omega)) (jM (fun i hi=>by have:=h i (by omega); grind)) (by decide)
   have h3:pr (n+1) f=pr n f*f n:=rfl;rw [h3]
   grind
theorem BN.prod {n:Nat}{A B:Mt}{L R:Nat→Rat} (h:BN n A L B R) {k:Nat} (hk:k≤n):pr k (fun r=>sm k (B r))≤pr n R:=by
 have h1:pr k (fun r=>sm k (B r))≤pr k R:=AI (fun r hr=>by have:=h.FE hr hk; grind) (fun r hr=>Rat.le_trans (uL (h.b0 r) hk) (h.rs r (by omega)))
 exact Nu h1 (AJ hk (fun i hi=>h.R1 hi))
theorem BN.mq {n:Nat}{A B:Mt}{L R:Nat→Rat} (h:BN n A L B R) {k:Nat} (hk:k≤n):pF (Sim.mq k (fun r c=>L r*A r c))∧-pr n R≤Sim.mq k (fun r c=>L r*A r c)∧Sim.mq k (fun r c=>L r*A r c)≤pr n R:=by
 refine ⟨w7 (fun r c hr hc=>h.ai r c (by omega) (by omega)),?_⟩
 obtain ⟨d1,d2⟩:=zt (n:=k) (M:=fun r c=>L r*A r c) (A:=B) h.b0 (fun r c hr hc=>h.ab r c (by omega) (by omega))
 have:=h.prod hk;constructor <;> grind
theorem Gj.num {n:Nat}{A B m:Mt}{L R:Nat→Rat}{k:Nat} (h:Gj n A k m) (s:BN n A L B R) (hk:k≤n) {i p:Nat} (hi:i<n) (hp:p<k):
  ∃ N:Rat,pF N∧-(pr n R*R i)≤N∧N≤pr n R*R i∧(if k≤i then L i else 1)*m i (n+p)*Sim.mq k (fun r c=>L r*A r c)=N*L p:=by
 have hL:∀ j,j<n→L j≠0:=fun j hj e=>by have:=s.l1 j hj; rw [e] at this; exact absurd this (by decide)
 have hx:∀ c,c<k→sm k (fun j=>((if k≤i then L i else 1)*m i (n+j) / L j)*((fun r c=>L r*A r c) j c))=if k≤i then -(L i*A i c) else dl i c:=fun c hc=>by
  have e1:=h.Fk hk hi (c:=c) (by omega)
  have e2:sm k (fun j=>((if k≤i then L i else 1)*m i (n+j) / L j)*((fun r c=>L r*A r c) j c))=sm k (fun j=>(if k≤i then L i else 1)*(m i (n+j)*A j c)):=lf (fun j hj=>by
   have:=Nw (L j) (hL j (by omega))
   simp only [Np]
   grind)
  rw [e2,mY];have e3:=h.left i c hi (by omega) hc
  by_cases e:k≤i
  ·rw [Hl e,Hl e]
   rw [Hl e,e3,lP (by omega)] at e1
   grind
  ·rw [Hh e,Hh e]
   rw [Hh e,e3] at e1
   grind
 have hb:∀ c,c<k→pF (if k≤i then -(L i*A i c) else dl i c):=fun c hc=>by
  by_cases e:k≤i
  ·rw [Hl e]
   obtain ⟨z,hz⟩:=s.ai i c hi (by omega)
   exact ⟨-z,by rw [hz,Ns]⟩
  ·rw [Hh e]
   unfold dl
   split
   ·exact ⟨1,rfl⟩
   ·exact ⟨0,rfl⟩
 have hB:∀ c,c<k→-(B i c)≤(if k≤i then -(L i*A i c) else dl i c)∧(if k≤i then -(L i*A i c) else dl i c)≤B i c:=fun c hc=>by
  have h1:=s.ab i c hi (by omega)
  have h2:=s.b0 i c
  by_cases e:k≤i
  ·rw [Hl e]
   constructor <;> grind
  ·rw [Hh e]
   unfold dl
   split
   ·rename_i e2
    subst e2;have:=s.b1 i hi;constructor <;> grind
   ·constructor <;> grind
 have c1:=zp (k:=k) (M:=fun r c=>L r*A r c) (fun r c hr hc=>s.ai r c (by omega) (by omega)) hb hx hp
 obtain ⟨c2,c3⟩:=A6 (k:=k) (M:=fun r c=>L r*A r c) (A:=B) (a:=B i) (S:=R i) s.b0 (s.b0 i) (fun r c hr hc=>s.ab r c (by omega) (by omega)) hB (fun r hr=>s.FE hr hk) (Nu (uL (s.b0 i) hk) (s.rs i hi)) hx hp
 have hP:=Rat.mul_le_mul_of_nonneg_right (s.prod hk) (show (0:Rat)≤R i by have:=s.R1 hi; grind)
 refine ⟨_,c1,by grind,by grind,?_⟩
 have:=Nw (L p) (hL p (by omega))
 rw [Np]
 grind
def qf (n:Nat) (x:Nat→Rat) (A:Mt):Rat:=sm n (fun c=>x c*sm n (fun j=>x j*A j c))
theorem De (n:Nat) (x:Nat→Rat) (A A':Mt):qf n x (fun j c=>A j c+A' j c)=qf n x A+qf n x A':=by
 unfold qf;rw [← ry];refine lf (fun c _=>?_);have:sm n (fun j=>x j*(A j c+A' j c))=sm n (fun j=>x j*A j c)+sm n (fun j=>x j*A' j c):=by
  rw [← ry];exact lf (fun j _=>by grind)
 rw [this]; grind
theorem Df (n:Nat) (x e:Nat→Rat) (b:Rat):qf n x (fun j c=>b*e j*e c)=b*(sm n (fun j=>x j*e j)*sm n (fun j=>x j*e j)):=by
 unfold qf;have h1:sm n (fun c=>x c*sm n (fun j=>x j*(b*e j*e c)))=sm n (fun c=>(b*sm n (fun j=>x j*e j))*(x c*e c)):=lf (fun c _=>by
  have:sm n (fun j=>x j*(b*e j*e c))=sm n (fun j=>(b*e c)*(x j*e j)):=lf (fun j _=>by grind)
  rw [this,mY]; grind)
 rw [h1,mY]; grind
def eU:List (Rat×(Nat→Rat))→Mt
 | []=>fun _ _=>0
 | be::l=>fun j c=>be.1*be.2 j*be.2 c+eU l j c
theorem sq_nonneg (a:Rat):0≤a*a:=by
 rcases (Rat.le_total:(0:Rat)≤a∨a≤0) with h | h
 ·exact Nx h h
 ·have:=Rat.mul_nonneg (show (0:Rat)≤-a by grind) (show (0:Rat)≤-a by grind)
  grind
theorem vw (n:Nat) (x:Nat→Rat):∀ (l:List (Rat×(Nat→Rat))),(∀ be ∈ l,0<be.1)→0≤qf n x (eU l)
 | [],_=>by
  have:qf n x (eU [])=0:=qG (fun c _=>by
   rw [qG (fun j _=>by show x j*0=0; grind)]; grind)
  rw [this]; exact Nt
 | be::l,h=>by
  have h1:=vw n x l (fun b hb=>h b (Ho _ hb));have h2:=h be (He ..);have e:qf n x (eU (be::l))=be.1*(sm n (fun j=>x j*be.2 j)*sm n (fun j=>x j*be.2 j))+qf n x (eU l):=by
   rw [← Df,← De]; rfl
  rw [e];have h3:=Nx (Rat.le_of_lt h2) (sq_nonneg (sm n (fun j=>x j*be.2 j)))
  grind
theorem yp (n:Nat) (x:Nat→Rat):∀ (l:List (Rat×(Nat→Rat))),(∀ be ∈ l,0<be.1)→qf n x (eU l)=0→∀ be ∈ l,sm n (fun j=>x j*be.2 j)=0
 | [],_,_,be,hb=>by simp at hb
 | be::l,h,h0,b,hb=>by
  have h1:=vw n x l (fun b hb=>h b (Ho _ hb));have h2:=h be (He ..);have e:qf n x (eU (be::l))=be.1*(sm n (fun j=>x j*be.2 j)*sm n (fun j=>x j*be.2 j))+qf n x (eU l):=by
   rw [← Df,← De]; rfl
  rw [e] at h0;have h3:=Rat.mul_nonneg (Rat.le_of_lt h2) (sq_nonneg (sm n (fun j=>x j*be.2 j)));have h4:qf n x (eU l)=0:=by grind
  have h5:be.1*(sm n (fun j=>x j*be.2 j)*sm n (fun j=>x j*be.2 j))=0:=by grind
  rcases Ik.1 hb with rfl | hb
  ·rcases Nv.1 h5 with h6 | h6
   ·rw [h6] at h2; exact absurd h2 (Rat.lt_irrefl)
   ·rcases Nv.1 h6 with h7 | h7 <;> exact h7
  ·exact yp n x l (fun b hb=>h b (Ho _ hb)) h4 b hb
inductive Lk (l:List (Rat×Nat×Nat)) (u:Nat):Nat→Prop
 | refl:Lk l u u
 | step {b:Rat}{v w:Nat}:Lk l u v→((b,v,w) ∈ l∨(b,w,v) ∈ l)→Lk l u w
def kc (F:Nat→Nat) (e:Rat×Nat×Nat):Rat×(Nat→Rat):=(e.1,fun j=>dl (F j) e.2.1-dl (F j) e.2.2)
theorem F0 {n:Nat}{F:Nat→Nat}{l:List (Rat×Nat×Nat)} (hb:∀ e ∈ l,0<e.1) (hF:∀ i j,i<n→j<n→F i=F j→i=j)
  (hr:∀ i,i<n→∃ r,(∀ j,j<n→F j≠r)∧Lk l (F i) r):Pd n (eU (l.map (kc F))):=by
 intro x h0 i hi;have hz:=yp n x (l.map (kc F)) (fun be hbe=>by
  obtain ⟨e,he,rfl⟩:=II.1 hbe;exact hb e he) h0
 have hd:∀ p q:Nat,sm n (fun j=>x j*(dl (F j) p-dl (F j) q))=sm n (fun j=>x j*dl (F j) p)-sm n (fun j=>x j*dl (F j) q):=fun p q=>by
  have h1:sm n (fun j=>x j*(dl (F j) p-dl (F j) q))=sm n (fun j=>x j*dl (F j) p+(-1)*(x j*dl (F j) q)):=lf (fun j _=>by grind)
  rw [h1,ry,mY]; grind
 have he:∀ (b:Rat) (p q:Nat),(b,p,q) ∈ l→sm n (fun j=>x j*dl (F j) p)=sm n (fun j=>x j*dl (F j) q):=fun b p q h=>by
  have h1:sm n (fun j=>x j*(dl (F j) p-dl (F j) q))=0:=hz (kc F (b,p,q)) (II.2 ⟨_,h,rfl⟩);have h2:=hd p q
  grind
 have hl:∀ u v,Lk l u v→sm n (fun j=>x j*dl (F j) u)=sm n (fun j=>x j*dl (F j) v):=fun u v h=>by
  induction h with
  | refl=>rfl
  | step _ h ih=>
   rcases h with h | h
   ·rw [ih]; exact he _ _ _ h
   ·rw [ih]; exact (he _ _ _ h).symm
 obtain ⟨r,hr1,hr2⟩:=hr i hi;have h1:=hl _ _ hr2;have h2:sm n (fun j=>x j*dl (F j) r)=0:=qG (fun j hj=>by rw [lP (hr1 j hj)]; grind)
 have h3:sm n (fun j=>x j*dl (F j) (F i))=x i*dl (F i) (F i):=vZ hi (fun j hj hne=>by rw [lP (fun e=>hne (hF j i hj hi e))]; grind)
 rw [h2,h3,mE] at h1
 grind
def pA (u:Nat):List (Rat×Nat×Nat)→Rat
 | []=>1
 | e::l=>(if e.2.1=u∨e.2.2=u then e.1 else 1)*pA u l
def qU:List (Rat×Nat×Nat)→Rat
 | []=>1
 | e::l=>e.1*qU l
theorem uJ {u:Nat}:∀ {l:List (Rat×Nat×Nat)},(∀ e ∈ l,pF e.1)→pF (pA u l)
 | [],_=>⟨1,rfl⟩
 | e::l,h=>by
  unfold pA;refine nT ?_ (uJ (fun e he=>h e (Ho _ he)))
  split
  ·exact h e (He ..)
  ·exact ⟨1,rfl⟩
theorem tM {u:Nat}:∀ {l:List (Rat×Nat×Nat)},(∀ e ∈ l,1≤e.1)→1≤pA u l
 | [],_=>Nt
 | e::l,h=>by
  unfold pA;have h1:=tM (u:=u) (l:=l) (fun e he=>h e (Ho _ he));have h2:=h e (He ..)
  split
  ·have:=mc h2 h1 (by decide) (by decide)
   grind
  ·grind
theorem u6:∀ {l:List (Rat×Nat×Nat)},(∀ e ∈ l,1≤e.1)→1≤qU l
 | [],_=>Nt
 | e::l,h=>by
  unfold qU;have h1:=u6 (l:=l) (fun e he=>h e (Ho _ he));have h2:=h e (He ..);have:=mc h2 h1 (by decide) (by decide)
  grind
theorem xy {u:Nat}:∀ {l:List (Rat×Nat×Nat)},(∀ e ∈ l,pF e.1∧1≤e.1)→∀ e ∈ l,(e.2.1=u∨e.2.2=u)→∀ t:Rat,pF t→pF (pA u l*(t / e.1))
 | [],_,e,he,_,_,_=>by simp at he
 | d::l,h,e,he,hu,t,ht=>by
  have hl:∀ e ∈ l,pF e.1∧1≤e.1:=fun e he=>h e (Ho _ he);unfold pA;rcases Ik.1 he with rfl | he
  ·rw [Hl hu]
   have hne:e.1≠0:=fun e0=>by have:=(h e (He ..)).2; rw [e0] at this; exact absurd this (by decide)
   have:=Rat.mul_inv_cancel e.1 hne;have h1:e.1*pA u l*(t / e.1)=pA u l*t:=by rw [Rat.div_def]; grind
   rw [h1];exact nT (uJ (fun e he=>(hl e he).1)) ht
  ·have h1:=xy hl e he hu t ht
   have h2:(if d.2.1=u∨d.2.2=u then d.1 else 1)*pA u l*(t / e.1)=(if d.2.1=u∨d.2.2=u then d.1 else 1)*(pA u l*(t / e.1)):=Rat.mul_assoc ..
   rw [h2];refine nT ?_ h1
   split
   ·exact (h d (He ..)).1
   ·exact ⟨1,rfl⟩
theorem ud {F:Nat→Nat}{q:Rat} (hq:1≤q) {p:Nat}:∀ {n:Nat},(∀ i j,i<n→j<n→F i=F j→i=j)→pr n (fun i=>if F i=p then q else 1)≤q
 | 0,_=>hq
 | n+1,h=>by
  have ih:=ud hq (p:=p) (n:=n) (fun i j hi hj e=>h i j (by omega) (by omega) e)
  show pr n (fun i=>if F i=p then q else 1)*(if F n=p then q else 1)≤q
  by_cases e:F n=p
  ·rw [Hl e]
   have:pr n (fun i=>if F i=p then q else 1)=pr n (fun _=>1):=q8 (fun i hi=>Hh (fun e2=>by
    have:=h i n (by omega) (by omega) (e2.trans e.symm)
    omega))
   rw [this];have h1:∀ k,pr k (fun _=>(1:Rat))=1:=fun k=>by
    induction k with
    | zero=>rfl
    | succ k ih=>show pr k (fun _=>(1:Rat))*1=1; rw [ih]; grind
   rw [h1]; grind
  ·rw [if_neg e]; grind
theorem yM {n:Nat}{F:Nat→Nat} (hF:∀ i j,i<n→j<n→F i=F j→i=j):∀ {l:List (Rat×Nat×Nat)},(∀ e ∈ l,1≤e.1)→pr n (fun i=>pA (F i) l)≤qU l*qU l
 | [],_=>by
  have h1:∀ k,pr k (fun _=>(1:Rat))=1:=fun k=>by
   induction k with
   | zero=>rfl
   | succ k ih=>show pr k (fun _=>(1:Rat))*1=1; rw [ih]; grind
  show pr n (fun _=>(1:Rat))≤1*1;rw [h1,Rat.one_mul]; exact Nt
 | e::l,h=>by
  have hl:∀ e ∈ l,1≤e.1:=fun e he=>h e (Ho _ he);have hq:=h e (He ..);have ih:=yM hF hl;have e1:pr n (fun i=>pA (F i) (e::l))=pr n (fun i=>if e.2.1=F i∨e.2.2=F i then e.1 else 1)*pr n (fun i=>pA (F i) l):=by rw [← xu]; rfl
  have e2:pr n (fun i=>if e.2.1=F i∨e.2.2=F i then e.1 else 1)≤pr n (fun i=>(if F i=e.2.1 then e.1 else 1)*(if F i=e.2.2 then e.1 else 1)):=AI (fun i _=>by split <;> grind) (fun i _=>by
   have:=mc hq hq (by decide) (by decide)
   by_cases a:F i=e.2.1
   ·by_cases b:F i=e.2.2
    ·rw [Hl (.inl a.symm),Hl a,Hl b]
     have:=Rat.mul_le_mul_of_nonneg_left hq (show (0:Rat)≤e.1 by grind)
     grind
    ·rw [if_pos (.inl a.symm),if_pos a,if_neg b]; grind
   ·by_cases b:F i=e.2.2
    ·rw [if_pos (.inr b.symm),if_neg a,if_pos b]; grind
    ·rw [if_neg (fun h=>h.elim (fun h=>a h.symm) (fun h=>b h.symm)),if_neg a,if_neg b]; grind)
  rw [xu] at e2;have s1:=ud (F:=F) hq (p:=e.2.1) hF;have s2:=ud (F:=F) hq (p:=e.2.2) hF;have n1:0≤pr n (fun i=>if F i=e.2.1 then e.1 else 1):=jM (fun i _=>by split <;> grind)
  have n2:0≤pr n (fun i=>if F i=e.2.2 then e.1 else 1):=jM (fun i _=>by split <;> grind)
  have m1:=mc s1 s2 n1 n2;have n3:0≤pr n (fun i=>if e.2.1=F i∨e.2.2=F i then e.1 else 1):=jM (fun i _=>by split <;> grind)
  have n4:0≤pr n (fun i=>pA (F i) l):=jM (fun i _=>by have:=tM (u:=F i) hl; grind)
  have m2:=mc (Nu e2 m1) ih n3 n4;rw [e1];have e3:qU (e::l)=e.1*qU l:=rfl;rw [e3]
  grind
def wt (t:Rat) (e:Rat×Nat×Nat):Rat×Nat×Nat:=(t / e.1,e.2)
def lr (F:Nat→Nat) (e:Rat×Nat×Nat):Rat×(Nat→Rat):=(e.1,fun j=>dl (F j) e.2.1+dl (F j) e.2.2)
theorem rA (i j:Nat):dl i j=0∨dl i j=1:=by
 unfold dl
 split
 ·exact .inr rfl
 ·exact .inl rfl
theorem As (F:Nat→Nat) (i c:Nat):∀ {l:List (Rat×Nat×Nat)},(∀ e ∈ l,0<e.1)→-eU (l.map (lr F)) i c≤eU (l.map (kc F)) i c∧eU (l.map (kc F)) i c≤eU (l.map (lr F)) i c
 | [],_=>by
  show -(0:Rat)≤0∧(0:Rat)≤0;constructor <;> decide
 | e::l,h=>by
  obtain ⟨h1,h2⟩:=As F i c (l:=l) (fun e he=>h e (List.mem_cons_of_mem _ he));have h3:=h e (List.mem_cons_self ..);have e1:eU ((e::l).map (kc F)) i c=e.1*(dl (F i) e.2.1-dl (F i) e.2.2)*(dl (F c) e.2.1-dl (F c) e.2.2)+eU (l.map (kc F)) i c:=rfl;have e2:eU ((e::l).map (lr F)) i c=e.1*(dl (F i) e.2.1+dl (F i) e.2.2)*(dl (F c) e.2.1+dl (F c) e.2.2)+eU (l.map (lr F)) i c:=rfl;rw [e1,e2];rcases rA (F i) e.2.1 with a | a <;> rcases rA (F i) e.2.2 with b | b <;> rcases rA (F c) e.2.1 with u | u <;> rcases rA (F c) e.2.2 with v | v <;> rw [a,b,u,v] <;> constructor <;> grind
theorem rO (F:Nat→Nat) (i c:Nat):∀ {l:List (Rat×Nat×Nat)},(∀ e ∈ l,0<e.1)→0≤eU (l.map (lr F)) i c
 | [],_=>Nt
 | e::l,h=>by
  have h1:=rO F i c (l:=l) (fun e he=>h e (List.mem_cons_of_mem _ he));have h3:=h e (List.mem_cons_self ..);have e2:eU ((e::l).map (lr F)) i c=e.1*(dl (F i) e.2.1+dl (F i) e.2.2)*(dl (F c) e.2.1+dl (F c) e.2.2)+eU (l.map (lr F)) i c:=rfl;rw [e2];rcases rA (F i) e.2.1 with a | a <;> rcases rA (F i) e.2.2 with b | b <;> rcases rA (F c) e.2.1 with u | u <;> rcases rA (F c) e.2.2 with v | v <;> rw [a,b,u,v] <;> grind
theorem At {F:Nat→Nat}{t:Rat} (ht:pF t) {l:List (Rat×Nat×Nat)} (hq:∀ e ∈ l,pF e.1∧1≤e.1) (i c:Nat):∀ {l':List (Rat×Nat×Nat)},(∀ e ∈ l',e ∈ l)→pF (pA (F i) l*eU ((l'.map (wt t)).map (kc F)) i c)
 | [],_=>by
  have:pA (F i) l*eU ((([]:List (Rat×Nat×Nat)).map (wt t)).map (kc F)) i c=0:=by show pA (F i) l*0=0; grind
  rw [this]; exact ⟨0,rfl⟩
 | e::l',h=>by
  have h1:=At (F:=F) ht hq i c (l':=l') (fun e he=>h e (Ho _ he));have h2:=h e (He ..);have e1:eU (((e::l').map (wt t)).map (kc F)) i c=(t / e.1)*(dl (F i) e.2.1-dl (F i) e.2.2)*(dl (F c) e.2.1-dl (F c) e.2.2)+eU ((l'.map (wt t)).map (kc F)) i c:=rfl;have hI:∀ p q:Nat,pF (dl p q):=fun p q=>by
   rcases rA p q with a | a <;> rw [a]
   ·exact ⟨0,rfl⟩
   ·exact ⟨1,rfl⟩
  have hS:∀ {a b:Rat},pF a→pF b→pF (a-b):=fun {a b} ⟨x,hx⟩ ⟨y,hy⟩=>⟨x-y,by rw [hx,hy,Rat.intCast_sub]⟩
  have e2:pA (F i) l*((t / e.1)*(dl (F i) e.2.1-dl (F i) e.2.2)*(dl (F c) e.2.1-dl (F c) e.2.2)+eU ((l'.map (wt t)).map (kc F)) i c)=(pA (F i) l*(t / e.1))*(dl (F i) e.2.1-dl (F i) e.2.2)*(dl (F c) e.2.1-dl (F c) e.2.2)+pA (F i) l*eU ((l'.map (wt t)).map (kc F)) i c:=by grind
  rw [e1,e2];refine tl ?_ h1
  by_cases hu:e.2.1=F i∨e.2.2=F i
  ·exact nT (nT (xy hq e h2 hu t ht) (hS (hI _ _) (hI _ _))) (hS (hI _ _) (hI _ _))
  ·have a:dl (F i) e.2.1=0:=lP (fun e0=>hu (.inl e0.symm))
   have b:dl (F i) e.2.2=0:=lP (fun e0=>hu (.inr e0.symm));rw [a,b];have:pA (F i) l*(t / e.1)*(0-0)*(dl (F c) e.2.1-dl (F c) e.2.2)=0:=by grind
   rw [this]; exact ⟨0,rfl⟩
def we:List (Rat×Nat×Nat)→Rat
 | []=>0
 | e::l=>e.1+we l
theorem pM (i j:Nat):0≤dl i j:=by rcases rA i j with h | h <;> rw [h] <;> decide
theorem Cp (i j:Nat):dl i j≤1:=by rcases rA i j with h | h <;> rw [h] <;> decide
theorem AQ {F:Nat→Nat}{p:Nat}:∀ {n:Nat},(∀ i j,i<n→j<n→F i=F j→i=j)→sm n (fun c=>dl (F c) p)≤1
 | 0,_=>by unfold sm; decide
 | n+1,h=>by
  have ih:=AQ (F:=F) (p:=p) (n:=n) (fun i j hi hj e=>h i j (by omega) (by omega) e)
  show sm n (fun c=>dl (F c) p)+dl (F n) p≤1
  by_cases e:F n=p
  ·have:sm n (fun c=>dl (F c) p)=0:=qG (fun i hi=>lP (fun e2=>by
    have:=h i n (by omega) (by omega) (e2.trans e.symm)
    omega))
   rw [this];have:=Cp (F n) p
   grind
  ·rw [lP e]; grind
theorem Ac {n:Nat}{F:Nat→Nat} (hF:∀ i j,i<n→j<n→F i=F j→i=j) (i:Nat):∀ {l:List (Rat×Nat×Nat)},(∀ e ∈ l,0<e.1)→sm n (eU (l.map (lr F)) i)≤4*we l
 | [],_=>by
  have:sm n (eU (([]:List (Rat×Nat×Nat)).map (lr F)) i)=0:=qG (fun _ _=>rfl);rw [this];show (0:Rat)≤4*0
  grind
 | e::l,h=>by
  have ih:=Ac hF i (l:=l) (fun e he=>h e (Ho _ he));have h3:=h e (He ..);have e1:sm n (eU ((e::l).map (lr F)) i)=(e.1*(dl (F i) e.2.1+dl (F i) e.2.2))*(sm n (fun c=>dl (F c) e.2.1)+sm n (fun c=>dl (F c) e.2.2))+sm n (eU (l.map (lr F)) i):=by
   rw [← ry,← mY,← ry]; rfl
  have e2:we (e::l)=e.1+we l:=rfl;rw [e1,e2];have s1:=AQ (F:=F) (p:=e.2.1) hF;have s2:=AQ (F:=F) (p:=e.2.2) hF;have n1:=oR (n:=n) (f:=fun c=>dl (F c) e.2.1) (fun c _=>pM _ _);have n2:=oR (n:=n) (f:=fun c=>dl (F c) e.2.2) (fun c _=>pM _ _);have d1:=Cp (F i) e.2.1;have d2:=Cp (F i) e.2.2;have d3:=pM (F i) e.2.1;have d4:=pM (F i) e.2.2;have m0:e.1*(dl (F i) e.2.1+dl (F i) e.2.2)≤e.1*2:=Rat.mul_le_mul_of_nonneg_left (by grind) (Rat.le_of_lt h3)
  have m1:0≤e.1*(dl (F i) e.2.1+dl (F i) e.2.2):=Rat.mul_nonneg (Rat.le_of_lt h3) (by grind)
  have m2:=mc m0 (show sm n (fun c=>dl (F c) e.2.1)+sm n (fun c=>dl (F c) e.2.2)≤2 by grind) m1 (by grind)
  grind
theorem Em {n:Nat}{F:Nat→Nat}{l:List (Rat×Nat×Nat)}{t:Rat} (hF:∀ i j,i<n→j<n→F i=F j→i=j) (ht:pF t) (t0:0<t) (hq:∀ e ∈ l,pF e.1∧1≤e.1):
  BN n (eU ((l.map (wt t)).map (kc F))) (fun i=>pA (F i) l) (fun i c=>pA (F i) l*eU ((l.map (wt t)).map (lr F)) i c+dl i c) (fun i=>pA (F i) l*(4*we (l.map (wt t)))+1):=by
 have hw:∀ e ∈ l.map (wt t),0<e.1:=fun e he=>by
  obtain ⟨d,hd,rfl⟩:=List.mem_map.1 he;have h1:=(hq d hd).2;show 0<t / d.1;rw [Rat.div_def];exact Rat.mul_pos t0 (Rat.inv_pos.2 (by grind))
 have hs1:∀ i,1≤pA (F i) l:=fun i=>tM (fun e he=>(hq e he).2);have ha0:∀ i c,0≤pA (F i) l*eU ((l.map (wt t)).map (lr F)) i c:=fun i c=>Rat.mul_nonneg (by have:=hs1 i; grind) (rO F i c hw)
 refine ⟨fun i _=>uJ (fun e he=>(hq e he).1),fun i _=>hs1 i,fun i c _ _=>At ht hq i c (fun e he=>he),fun i c=>?_,fun i _=>?_,fun i c _ _=>?_,fun i hi=>?_⟩
 ·have:=ha0 i c
  have:=pM i c
  grind
 ·have:=ha0 i i
  rw [mE]; grind
 ·obtain ⟨h1,h2⟩:=As F i c hw
  have h3:0≤pA (F i) l:=by have:=hs1 i; grind
  have m1:=Rat.mul_le_mul_of_nonneg_left h1 h3;have m2:=Rat.mul_le_mul_of_nonneg_left h2 h3;have:=pM i c;constructor <;> grind
 ·rw [ry,mY]
  have h1:=Ac hF i hw;have h3:0≤pA (F i) l:=by have:=hs1 i; grind
  have m1:=Rat.mul_le_mul_of_nonneg_left h1 h3;have h2:sm n (fun c=>dl i c)≤1:=by
   have e:sm n (fun c=>dl i c)=sm n (fun c=>dl ((fun x:Nat=>x) c) i):=lf (fun c _=>by
    unfold dl
    by_cases a:i=c
    ·subst a; rfl
    ·rw [Hh a,Hh (fun b=>a b.symm)])
   rw [e];exact AQ (fun i j _ _ e=>e)
  have e2:sm n (fun c=>eU ((l.map (wt t)).map (lr F)) i c)=sm n (eU ((l.map (wt t)).map (lr F)) i):=rfl;rw [e2]
  grind
theorem Ae {q:Rat}:∀ {l:List (Rat×Nat×Nat)},(∀ e ∈ l,1≤e.1∧e.1≤q)→qU l≤pr l.length (fun _=>q)
 | [],_=>Nt
 | e::l,h=>by
  have h1:=Ae (q:=q) (l:=l) (fun e he=>h e (List.mem_cons_of_mem _ he));have h2:=h e (List.mem_cons_self ..);have h3:=u6 (l:=l) (fun e he=>(h e (List.mem_cons_of_mem _ he)).1);have h4:=mc h1 h2.2 (by grind) (by grind)
  have e1:qU (e::l)=e.1*qU l:=rfl;have e2:pr (e::l).length (fun _=>q)=pr l.length (fun _=>q)*q:=rfl;rw [e1,e2]; grind
theorem FY {n:Nat}{F:Nat→Nat}{l:List (Rat×Nat×Nat)}{s w:Rat} (hF:∀ i j,i<n→j<n→F i=F j→i=j) (hq:∀ e ∈ l,1≤e.1) (s0:0≤s) (hs:s≤w):
  pr n (fun i=>pA (F i) l*s+1)≤qU l*qU l*pr n (fun _=>w+1):=by
 have h1:∀ i,1≤pA (F i) l:=fun i=>tM hq;have p1:pr n (fun i=>pA (F i) l*s+1)≤pr n (fun i=>pA (F i) l*(w+1)):=AI (fun i _=>by
  have:=Rat.mul_nonneg (show (0:Rat)≤pA (F i) l by have:=h1 i; grind) s0
  grind) (fun i _=>by
  have:=Rat.mul_le_mul_of_nonneg_left hs (show (0:Rat)≤pA (F i) l by have:=h1 i; grind)
  have:=h1 i
  grind)
 rw [xu] at p1;have p2:=yM hF hq;have n1:0≤pr n (fun i=>pA (F i) l):=jM (fun i _=>by have:=h1 i; grind)
 have n2:0≤pr n (fun _:Nat=>w+1):=jM (fun i _=>by grind)
 exact Nu p1 (mc p2 Nt n1 n2)
def sM (n:Nat):List Nat:=(List.range n).map (·+1)
theorem ru (n:Nat):(sM n).length=n:=by simp [sM]
theorem xz {n i:Nat} (hi:i<n):(sM n)[i]? = some (i+1):=by simp [sM,hi]
theorem vX {α:Type}{l:List α}{i:Nat}{a:α} (h:l[i]? = some a):l.set i a=l:=by
 apply Ji;intro j
 by_cases e:i=j
 ·subst e
  rw [HS (G6.1 h).1,h]
 ·rw [HM e]
theorem uK {n i:Nat} (hi:i<n):(sM n).set i (i+1)=sM n:=vX (xz hi)
theorem yN {n i:Nat} (hi:i<n):((sM n).set ((i:Int)).toNat (i+1)).set ((i:Int)).toNat (i+1)=sM n:=by
 rw [Ha,uK hi,uK hi]
structure pJ (rows:List (List LR)) (n w W:Nat) (m:Mt):Prop where
 len:rows.length=n
 row:∀ i,i<n→∃ l,rows[i]? = some l∧l.length=w∧∀ c,c<w→∃ y,l[c]? = some y∧lh y∧RL y W∧rv y=m i c
theorem pJ.congr {rows:List (List LR)}{n w W:Nat}{m m':Mt} (h:pJ rows n w W m) (e:∀ i c,i<n→c<w→m i c=m' i c):pJ rows n w W m':=by
 refine ⟨h.len,fun i hi=>?_⟩;obtain ⟨l,h1,h2,h3⟩:=h.row i hi;refine ⟨l,h1,h2,fun c hc=>?_⟩;obtain ⟨y,y1,y2,y3,y4⟩:=h3 c hc;exact ⟨y,y1,y2,y3,by rw [y4,e i c hi hc]⟩
theorem pJ.mono {rows:List (List LR)}{n w W W':Nat}{m:Mt} (h:pJ rows n w W m) (e:W≤W'):pJ rows n w W' m:=by
 refine ⟨h.len,fun i hi=>?_⟩;obtain ⟨l,h1,h2,h3⟩:=h.row i hi;refine ⟨l,h1,h2,fun c hc=>?_⟩;obtain ⟨y,y1,y2,y3,y4⟩:=h3 c hc;exact ⟨y,y1,y2,y3.mono e,y4⟩
theorem pJ.set {rows:List (List LR)}{n w W:Nat}{m:Mt} (h:pJ rows n w W m) {i c:Nat} (hi:i<n) (hc:c<w) {e:LR} (he:lh e) (hW:RL e W):
  pJ (rows.set i (((rows[i]?).getD []).set c e)) n w W (fun i' c'=>if i'=i∧c'=c then rv e else m i' c'):=by
 refine ⟨by rw [Hw]; exact h.len,fun i' hi'=>?_⟩
 obtain ⟨l,h1,h2,h3⟩:=h.row i' hi'
 by_cases e1:i=i'
 ·subst e1
  refine ⟨l.set c e,by rw [h1,HS (by rw [h.len]; exact hi)]; rfl,by rw [Hw]; exact h2,fun c' hc'=>?_⟩
  by_cases e2:c=c'
  ·subst e2
   exact ⟨e,by rw [HS (by omega)],he,hW,by rw [Hl ⟨rfl,rfl⟩]⟩
  ·obtain ⟨y,y1,y2,y3,y4⟩:=h3 c' hc'
   exact ⟨y,by rw [HM e2]; exact y1,y2,y3,by rw [Hh (fun hh=>e2 hh.2.symm)]; exact y4⟩
 ·refine ⟨l,by rw [HM e1]; exact h1,h2,fun c' hc'=>?_⟩
  obtain ⟨y,y1,y2,y3,y4⟩:=h3 c' hc';exact ⟨y,y1,y2,y3,by rw [Hh (fun hh=>e1 hh.1.symm)]; exact y4⟩
theorem Ax (rows:List (List LR)) (i:Nat):((([]::rows:List (List LR))[i+1]?).getD [])=(rows[i]?).getD []:=rfl
theorem Fy (rows:List (List LR)) (i:Nat) (l:List LR):([]::rows:List (List LR)).set (i+1) l=[]::rows.set i l:=rfl
theorem pJ.Dj {rows:List (List LR)}{n w W:Nat}{m:Mt} (h:pJ rows n w W m) {i:Nat} (hi:i<n):((([]::rows:List (List LR))[i+1]?).getD []).length=w:=by
 obtain ⟨l,h1,h2,_⟩:=h.row i hi;rw [Ax,h1]; exact h2
theorem lE {R:Type}{Q:R→Prop}{n i:Nat} (hi:i<n) {f:Nat→Option R} (h:Gd (f (i+1)) Q):Gd (idx (sM n) (i:Int) f) Q:=
 Gd.ix (by omega) (by rw [Ha]; exact xz hi) h
theorem ou {R:Type}{Q:R→Prop}{rows:List (List LR)}{n w W:Nat}{m:Mt} (h:pJ rows n w W m) {i c:Nat} (hi:i<n) (hc:c<w) {f:LR→Option R}
  (hk:∀ y,lh y→RL y W→rv y=m i c→Gd (f y) Q):Gd (idx ((([]::rows:List (List LR))[i+1]?).getD []) (c:Int) f) Q:=by
 obtain ⟨l,h1,h2,h3⟩:=h.row i hi;obtain ⟨y,y1,y2,y3,y4⟩:=h3 c hc;refine Gd.ix (y:=y) (by omega) ?_ (hk y y2 y3 y4)
 rw [Ax,h1,Ha]; exact y1
theorem se {r:LR} (h:lh r):decide (cH r=0)=decide (rv r=0):=by
 unfold cH;rw [decide_eq_decide,sign_zero h.n,AO h]
theorem EB {a b:LR} (ha:lh a) (hb:lh b) (h0:rv b≠0) {A B:Nat} (la:RL a A) (lb:RL b B) (hz:A+B≤800000):
  Gd (lT a b) (fun r=>lh r∧RL r (A+B)∧rv r=rv a / rv b):=by
 have:=la.1; have:=la.2; have:=lb.1; have:=lb.2
 have hb0:nv b.N.words≠0:=fun e=>h0 ((AO hb).2 e);unfold lT;refine Gd.eJ (qL ha.n hb.d (by omega)) (fun x hx=>Gd.eJ (qL ha.d hb.n (by omega)) (fun z hz'=>?_))
 refine Gd.eJ (r8 hx.1 hz'.1 (zJ hz'.2.2 ha.nz hb0) (by omega) (by omega)) (fun r hr=>Gd.ret ⟨hr.1,⟨by omega,by omega⟩,?_⟩)
 rw [hr.2.2.2,hx.2.2,hz'.2.2];unfold rv;rw [Np,Rat.inv_divInt,Rat.divInt_mul_divInt]
end Go.Sim
namespace Go.Sim
open Go
open _root_.Go.IntKind (i64 u64 u32 u8)
theorem yP {a:LI} (h:oh a):(0<dU a↔0<eK a)∧(dU a<0↔eK a<0):=by
 have hz:=rm h.wf h.tp;unfold dU eK
 by_cases h1:a.words=[]
 ·have h0:nv a.words=0:=hz.2 h1
  have hm:a.minus=false:=by
   cases hm:a.minus
   ·rfl
   ·exact absurd h1 (h.sign hm)
  simp [h1,hm,nv]
 ·have h0:nv a.words≠0:=fun e=>h1 (hz.1 e)
  have hl:a.words.length≠0:=fun e=>h1 (H7 e);rw [Hh (by simp; exact h1)]
  cases hm:a.minus
  ·simp; omega
  ·simp; omega
theorem wC {a b c d:Int} (hb:0<b) (hd:0<d):Rat.divInt a b<Rat.divInt c d↔a*d<c*b:=by
 rw [← Rat.not_le,← Int.not_le];refine not_congr ?_;have e:=Rat.divInt_sub_divInt a c (d₁:=b) (d₂:=d) (by omega) (by omega)
 have k:=No (a:=a*d-c*b) (b:=b*d) (Int.mul_pos hb hd);rw [← e] at k;constructor
 ·intro h
  have:0≤Rat.divInt a b-Rat.divInt c d:=by grind
  have:=k.1 this;omega
 ·intro h
  have:0≤Rat.divInt a b-Rat.divInt c d:=k.2 (by omega)
  grind
theorem lh.Cq {a:LR} (h:lh a):0<eK a.D:=by
 rw [lQ h.pos];have:=h.nz;omega
theorem EA {a b:LR} (ha:lh a) (hb:lh b) {A B:Nat} (la:RL a A) (lb:RL b B) (hz:A+B≤800000):
  Gd (lS a b) (fun r=>(0<r↔rv b<rv a)∧(r<0↔rv a<rv b)):=by
 have:=la.1; have:=la.2; have:=lb.1; have:=lb.2
 unfold lS ni;refine Gd.eJ (qL ha.n hb.d (by omega)) (fun x hx=>Gd.eJ (qL hb.n ha.d (by omega)) (fun y hy=>?_))
 refine Gd.eJ (P:=fun r=>(0<r↔rv b<rv a)∧(r<0↔rv a<rv b)) (Gd.eJ (D7 hx.1 hy.1 (by omega) (by omega)) (fun z hz'=>Gd.ret ?_)) (fun r hr=>Gd.ret hr)
 have s:=yP hz'.1;rw [hz'.2.2,hx.2.2,hy.2.2] at s;unfold rv;rw [wC hb.Cq ha.Cq,wC ha.Cq hb.Cq];exact ⟨s.1.trans ⟨fun h=>by omega,fun h=>by omega⟩,s.2.trans ⟨fun h=>by omega,fun h=>by omega⟩⟩
theorem wL {a:LR} (h:lh a):cH a<0↔rv a<0:=by
 have k:=No (a:=eK a.N) (b:=eK a.D) h.Cq;unfold cH rv;rw [(yP h.n).2,← Rat.not_le,k];omega
def FD (q:Rat):Rat:=if q<0 then -q else q
theorem Ey {a:LR} (ha:lh a) {A:Nat} (la:RL a A) (hz:A≤800000):Gd (lR a) (fun r=>lh r∧RL r A∧rv r=FD (rv a)):=by
 unfold lR FD;refine Gd.ite (fun h=>?_) (fun h=>?_)
 ·have h:rv a<0:=(wL ha).1 (Hk h)
  refine Gd.eJ (AN ha la hz) (fun r hr=>Gd.ret ?_);rw [Hl h]; exact hr
 ·have h:¬ rv a<0:=fun e=>Hv h ((wL ha).2 e)
  rw [Hh h];exact Gd.ret ⟨ha,la,rfl⟩
end Go.Sim
