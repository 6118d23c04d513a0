/-
  The proof, part F1.
-/
import Derived.Lib.ItoaNum
import Derived.Lib.ParseIntB
import Derived.KernelRfl
import Derived.Test.YtcfeheigjjnpnaaGreatDoorSqA2
set_option linter.unusedVariables false
set_option linter.unusedSimpArgs false
set_option linter.unusedSectionVars false
set_option linter.unnecessarySimpa false
namespace Go.Sim
abbrev Mw := @BitVec.ofInt_natCast
abbrev My := @BitVec.toNat_ofNat
abbrev Mz := @Bool.eq_false_or_eq_true
abbrev MA := @Bool.or_eq_false_iff
abbrev MC := @Int.mul_add
abbrev MD := @Int.mul_assoc
abbrev ME := @Int.mul_sub
abbrev MF := @Int.natCast_add
abbrev MH := @Go.Lib.decDigits_one
abbrev ML := @List.drop_of_length_le
abbrev MM := @List.eq_nil_or_concat
abbrev MQ := @List.getLast?_eq_getElem?
abbrev MR := @List.head?_cons
abbrev MS := @List.length_eq_one_iff
abbrev MU := @List.length_nil
abbrev MW := @List.length_pos_iff
abbrev MX := @List.mem_or_eq_of_mem_set
abbrev MY := @List.mem_replicate
abbrev M3 := @Nat.and_two_pow_sub_one_eq_mod
abbrev M4 := @Nat.div_eq_of_lt
abbrev M5 := @Nat.div_lt_iff_lt_mul
abbrev M6 := @Nat.le_div_iff_mul_le
abbrev M7 := @Nat.lt_of_lt_of_le
abbrev M8 := @Nat.lt_of_mul_lt_mul_left
abbrev M9 := @Nat.mod_add_div
abbrev M_ := @Nat.mul_add
abbrev Na := @Nat.mul_assoc
abbrev Nc := @Nat.mul_comm
abbrev Nd := @Nat.mul_le_mul_left
abbrev Nf := @Nat.mul_zero
abbrev Ng := @Nat.pow_add
abbrev Nh := @Nat.pow_le_pow_left
abbrev Ni := @Nat.pow_le_pow_right
abbrev Nj := @Nat.pow_lt_pow_iff_right
abbrev Nk := @Nat.pow_mul
abbrev Nl := @Nat.pow_pos
abbrev Nn := @Nat.pow_succ
abbrev No := @Nat.pow_zero
abbrev Ns := @Rat.divInt_nonneg_iff_of_pos_right
abbrev Nt := @Rat.div_def
abbrev Nv := @Rat.intCast_mul
abbrev Nw := @Rat.intCast_neg
abbrev Nx := @Rat.le_refl
abbrev Ny := @Rat.le_trans
abbrev Nz := @Rat.mul_eq_zero
abbrev NA := @Rat.mul_inv_cancel
abbrev NB := @Rat.mul_nonneg
abbrev NG := @decide_eq_false
abbrev NH := @decide_eq_false_iff_not
abbrev NI := @decide_eq_true
end Go.Sim
namespace Go.Sim
open Go
open _root_.Go.IntKind (i64 u64 u32 u8)
abbrev WB:Nat:=4294967296
def nv:List bI→Nat
 | []=>0
 | y::l=>y.n.toNat+WB*nv l
def Wf (l:List bI):Prop:=∀ y ∈ l,0≤y.n∧y.n<4294967296
theorem Wf.nil:Wf []:=fun y h=>by cases h
theorem Wf.app {a b:List bI} (ha:Wf a) (hb:Wf b):Wf (a++b):=fun y h=>by
 rcases Ih.1 h with h | h
 ·exact ha y h
 ·exact hb y h
theorem Wf.one {v:Int} (h:0≤v∧v<4294967296):Wf [⟨v⟩]:=fun y hy=>by
 rw [IS] at hy; subst hy; exact h
theorem Wf.take {l:List bI} (h:Wf l) (k:Nat):Wf (l.take k):=fun y hy=>h y (JY hy)
theorem xy:∀ (a b:List bI),nv (a++b)=nv a+WB ^ a.length*nv b
 | [],b=>by simp [nv]
 | y::a,b=>by
  rw [J4,nv,xy a b,nv,HD,Nn];rw [M_,← Na,Nc (WB ^ a.length) WB,J8]
theorem vX (y:bI):nv [y]=y.n.toNat:=by simp [nv]
theorem pX (a:List bI) (y:bI):nv (a++[y])=nv a+WB ^ a.length*y.n.toNat:=by rw [xy,vX]
theorem oI:∀ {l:List bI},Wf l→nv l<WB ^ l.length
 | [],_=>by simp [nv]
 | y::l,h=>by
  have h1:=oI (l:=l) (fun z hz=>h z (HB _ hz));have h2:=h y (by simp)
  rw [nv,HD,Nn];have:WB*nv l+WB≤WB ^ l.length*WB:=by
   rw [Nc (WB ^ l.length) WB,← Nat.mul_succ];exact Nd _ h1
  have:y.n.toNat<WB:=by show y.n.toNat<4294967296; omega
  omega
theorem nb {l:List bI}{k:Nat}{y:bI} (h:l[k]? = some y):nv (l.take (k+1))=nv (l.take k)+WB ^ k*y.n.toNat:=by
 have hk:=(He.1 h).1;rw [List.take_add_one,h];show nv (l.take k++[y])=_;rw [pX,Ic,IH (by omega)]
theorem Dc (n:Nat):nv (List.replicate n (⟨0⟩:bI))=0:=by
 induction n with
 | zero=>rfl
 | succ n ih=>rw [Kh,nv,ih]; rfl
theorem rr {l:List bI}{k:Nat}{v:bI} (h:k<l.length):(l.set k v).take (k+1)=l.take k++[v]:=by
 rw [List.take_add_one,H7 h,Ki (HQ _)]; rfl
theorem rU (n:Int):u32.wrap n=n%4294967296:=by simp [IntKind.wrap,IntKind.bits,IntKind.signed]
theorem xH (n:Int):u64.wrap n=n%18446744073709551616:=by simp [IntKind.wrap,IntKind.bits,IntKind.signed]
theorem fD {n:Int} (h:0≤n∧n<18446744073709551616):u64.wrap n=n:=by rw [xH]; omega
theorem wX (n:Int):jW .u64 n 32=n / 4294967296:=by
 unfold jW;rw [show (min (32:Int).toNat u64.bits)=32 by decide,Kn _ (by decide)]
 rfl
theorem Dx (n:Int):jW .i64 n 32=n / 4294967296:=by
 unfold jW;rw [show (min (32:Int).toNat i64.bits)=32 by decide,Kn _ (by decide)]
 rfl
abbrev LI:=aB
structure oK (a:LI):Prop where
 wf:Wf a.words
 top:∀ y,a.words.getLast? = some y→y.n≠0
 sign:a.minus=true→a.words≠[]
def eY (a:LI):Int:=if a.minus=true then -(nv a.words:Int) else (nv a.words:Int)
theorem pq (minus:Bool):∀ (w:List bI),Wf w→w.length≤1000000→Gd (fW minus w) (fun r=>oK r∧r.words.length≤w.length∧nv r.words=nv w∧(r.minus=true↔minus=true∧nv w≠0)):=by
 intro w hw hl;unfold fW;refine Gd.fV (fun (l:List bI)=>Wf l∧l.length≤w.length∧nv l=nv w) (fun l=>l.length) ?_ eT w ⟨hw,HQ _,rfl⟩ (by simp only [eT]; omega)
 rintro l nx ⟨h1,h2,h3⟩ hnx;have fin:(∀ y,l.getLast? = some y→y.n≠0)→Gd (k8 minus l) (fun r=>oK r∧r.words.length≤w.length∧nv r.words=nv w∧(r.minus=true↔minus=true∧nv w≠0)):=fun ht=>by
  have hz:nv l=0→l=[]:=fun h0=>by
   rcases MM l with h | ⟨a,y,h⟩
   ·exact h
   ·exfalso
    have h:l=a++[y]:=by simpa using h
    have hy:=ht y (by rw [h]; simp)
    have hyw:=h1 y (by rw [h]; simp)
    rw [h,pX] at h0;have hp:0<WB ^ a.length:=Nl (by decide)
    have:0<WB ^ a.length*y.n.toNat:=Nat.mul_pos hp (by omega)
    omega
  unfold k8;refine Gd.ite (fun hm=>Gd.ret ⟨⟨h1,ht,?_⟩,h2,h3,?_⟩) (fun hm=>Gd.ret ⟨⟨h1,ht,fun h=>by cases h⟩,h2,h3,?_⟩)
  ·intro h e
   have h:decide (0<(l.length:Int))=true:=h;have e:l=[]:=e;rw [e] at h; simp at h
  ·constructor
   ·intro h
    have h:0<(l.length:Int):=Ht h;refine ⟨hm,fun h0=>?_⟩;rw [← h3] at h0;have:=hz h0;rw [this] at h; simp at h
   ·intro h
    show decide (0<(l.length:Int))=true;rw [IN];cases l with
    | nil=>exact absurd (h3.symm.trans rfl) h.2
    | cons a b=>simp
  ·rw [hm]
   constructor
   ·intro h; cases h
   ·intro h; cases h.1
 unfold pK;refine Gd.ite (fun h=>?_) (fun h=>fin (fun y hy=>?_))
 ·have hpos:0<l.length:=by have:=Ht h; omega
  have hw1:i64.wrap ((l.length:Int)-1)=((l.length-1:Nat):Int):=by rw [bR ⟨by omega,by omega⟩]; omega
  rw [hw1];refine Gd.ks (by omega) (Gd.ite (fun h0=>?_) (fun h0=>fin (fun y hy=>?_)))
  ·have h0:(l[l.length-1]).n=0:=Ht h0
   refine Gd.nd ⟨by omega,by omega⟩ ?_
   have hs:lK l 0 (((l.length-1:Nat):Int).toNat)=l.take (l.length-1):=by simp [lK]
   rw [hs];refine hnx _ ⟨h1.take _,by rw [Ic]; omega,?_⟩ (by rw [Ic]; omega)
   have:=nb (l:=l) (k:=l.length-1) (Hi (by omega))
   rw [show l.length-1+1=l.length by omega,JA,h0] at this
   rw [← h3,this]; simp
  ·have h0:(l[l.length-1]).n≠0:=HG h0
   rw [MQ,Hi (by omega)] at hy
   rw [← Hc hy]; exact h0
 ·have h:¬ 0<(l.length:Int):=HG h
  have:l=[]:=H6 (by omega)
  rw [this] at hy; cases hy
theorem ya {a b:List bI} (ha:Wf a) (hb:Wf b) (hl:b.length≤a.length) (hz:a.length≤1000000):
  Gd (jv a b) (fun r=>Wf r∧r.length=a.length+1∧nv r=nv a+nv b):=by
 have w1:i64.wrap ((a.length:Int)+1)=((a.length+1:Nat):Int):=by rw [bR ⟨by omega,by omega⟩]; omega
 unfold jv;rw [w1];refine Gd.nd ⟨by omega,by omega⟩ ?_
 refine Gd.jH (fun m k (z:List bI×Int)=>k+m=a.length∧z.1.length=a.length+1∧Wf z.1∧0≤z.2∧z.2≤1∧nv (z.1.take k)+WB ^ k*z.2.toNat=nv (a.take k)+nv (b.take k)) ?_ ?_ _ 0 _ ⟨by simp,by simp,fun y hy=>?_,Kt _,by show (0:Int)≤1; omega,by simp [nv]⟩
 ·rintro m k ⟨l,c⟩ nx ⟨h0,h1,h2,h3,h4,h5⟩ hnx
  simp only at h1 h2 h3 h4 h5 hnx ⊢;have hka:k<a.length:=by omega
  have hkn:((k:Int)).toNat=k:=by omega
  obtain ⟨y,hy⟩:∃ y,a[k]? = some y:=⟨_,Hi hka⟩;have hyw:=ha y (HE hy);have fin:∀ (n:Int) (x:Nat),n=c+y.n+x→x<WB→nv (b.take (k+1))=nv (b.take k)+WB ^ k*x→Gd (ju l nx k n) _:=fun n x hn hx hb1=>by
   unfold ju;rw [wX,hkn,rU];have hx:x<4294967296:=hx;refine Gd.ks (by omega) (hnx _ ⟨by omega,by simp [h1],?_,by simp only; omega,by simp only; omega,?_⟩)
   ·intro z hz
    rcases MX hz with hz | hz
    ·exact h2 z hz
    ·rw [hz]; simp only; omega
   ·simp only
    rw [rr (by omega),pX,Ic,IH (by omega),nb hy,hb1]
    simp only;have e1:(n%4294967296).toNat+WB*(n / 4294967296).toNat=c.toNat+y.n.toNat+x:=by
     show (n%4294967296).toNat+4294967296*(n / 4294967296).toNat=_;omega
    have e2:WB ^ k*(n%4294967296).toNat+WB ^ (k+1)*(n / 4294967296).toNat=WB ^ k*c.toNat+WB ^ k*y.n.toNat+WB ^ k*x:=by
     rw [Nn,Na,← M_,e1,M_,M_]
    omega
  unfold nk;refine Gd.ix (by omega) (by rw [hkn]; exact hy) (Gd.ite (fun h=>?_) (fun h=>?_))
  ·have hkb:k<b.length:=by have:=Ht h; omega
   obtain ⟨x,hx⟩:∃ x,b[k]? = some x:=⟨_,Hi hkb⟩;have hxw:=hb x (HE hx);refine Gd.ix (by omega) (by rw [hkn]; exact hx) (fin _ x.n.toNat ?_ (by show x.n.toNat<4294967296; omega) (nb hx))
   rw [fD (n:=y.n) (by omega),fD (n:=c+y.n) (by omega),fD (n:=x.n) (by omega),fD (by omega)]
   omega
  ·have hkb:b.length≤k:=by have:=HG h; omega
   refine fin _ 0 ?_ (by decide) ?_
   ·rw [fD (n:=y.n) (by omega),fD (by omega)]; simp
   ·rw [HR (by omega),HR (by omega)]; simp
 ·rintro k ⟨l,c⟩ ⟨h0,h1,h2,h3,h4,h5⟩
  simp only at h1 h2 h3 h4 h5 ⊢;have hk:k=a.length:=by omega
  subst hk;have hln:((a.length:Int)).toNat=a.length:=by omega
  rw [hln,rU];refine Gd.ks (by omega) (Gd.ret ⟨?_,by simp [h1],?_⟩)
  ·intro z hz
   rcases MX hz with hz | hz
   ·exact h2 z hz
   ·rw [hz]; simp only; omega
  ·have e:=rr (l:=l) (k:=a.length) (v:=⟨c%4294967296⟩) (by omega)
   rw [HR (by simp; omega)] at e
   rw [e,pX,Ic,IH (by omega)]
   simp only;rw [JA,HR hl] at h5;rw [show (c%4294967296).toNat=c.toNat by omega]
   exact h5
 ·rw [MY] at hy
  rw [hy.2]; simp
theorem Fl {a b:List bI} (ha:Wf a) (hb:Wf b) (hza:a.length≤1000000) (hzb:b.length≤1000000):
  Gd (lS a b) (fun r=>Wf r∧r.length=max a.length b.length+1∧nv r=nv a+nv b):=by
 unfold lS;refine Gd.ite (fun h=>(ya hb ha (by have:=Ht h; omega) hzb).mono ?_) (fun h=>(ya ha hb (by have:=HG h; omega) hza).mono ?_)
 ·rintro r ⟨h1,h2,h3⟩
  have:=Ht h;exact ⟨h1,by omega,by omega⟩
 ·rintro r ⟨h1,h2,h3⟩
  have:=HG h;exact ⟨h1,by omega,by omega⟩
def qV (l:List bI):Prop:=∀ y,l.getLast? = some y→y.n≠0
theorem yG {l:List bI} (hw:Wf l) (ht:qV l) (hne:l≠[]):WB ^ (l.length-1)≤nv l:=by
 rcases MM l with h | ⟨a,y,h⟩
 ·exact absurd h hne
 ·have h:l=a++[y]:=by simpa using h
  have hy:=ht y (by rw [h]; simp)
  have hyw:=hw y (by rw [h]; simp)
  rw [h,pX,HZ,Iz,Nat.add_sub_cancel];have:WB ^ a.length*1≤WB ^ a.length*y.n.toNat:=Nd _ (by omega)
  omega
theorem qB {a b:List bI} (ha:Wf a) (hb:Wf b) (htb:qV b) (h:a.length<b.length):nv a<nv b:=by
 have h1:=oI ha;have h2:=yG hb htb (by intro e; rw [e] at h; simp at h)
 have h3:WB ^ a.length≤WB ^ (b.length-1):=Ni (by decide) (by omega)
 omega
theorem C9 {a b:List bI} (ha:Wf a) (hb:Wf b):a.length=b.length→nv a=nv b→a=b:=by
 induction a generalizing b with
 | nil=>intro h _; exact (H6 h.symm).symm
 | cons x a ih=>
  intro h e;cases b with
  | nil=>simp at h
  | cons y b=>
   have hx:=ha x (by simp); have hy:=hb y (by simp)
   rw [nv,nv] at e;have e1:x.n.toNat=y.n.toNat:=by
    have:=HH (·%WB) e;simp only [Nat.add_mul_mod_self_left] at this;rw [JB (by show x.n.toNat<4294967296; omega),JB (by show y.n.toNat<4294967296; omega)] at this
    exact this
   have e2:nv a=nv b:=by
    rw [e1] at e;exact Nat.eq_of_mul_eq_mul_left (by decide) (Nat.add_left_cancel e)
   have:=ih (fun z hz=>ha z (HB _ hz)) (fun z hz=>hb z (HB _ hz)) (by simpa using h) e2
   cases x; cases y
   simp only at e1 hx hy;rw [this]
   congr 2; omega
theorem mW {l:List bI}{k:Nat}{x:bI} (h:l[k]? = some x):l.drop k=x::l.drop (k+1):=by
 obtain ⟨hk,hx⟩:=He.1 h;rw [Iu hk,hx]
theorem rk {l:List bI}{k:Nat}{x:bI} (h:l[k]? = some x):nv l=nv (l.take k)+WB ^ k*(x.n.toNat+WB*nv (l.drop (k+1))):=by
 have hk:=(He.1 h).1;have e:nv l=nv (l.take k++l.drop k):=by rw [Ji]
 rw [e,xy,mW h,Ic,IH (by omega)]
 rfl
def Gl (r:Int) (x y:Nat):Prop:=(r<0↔x<y)∧(r=0↔x=y)
theorem Cn {a b : List bI} (ha : Wf a) (hb : Wf b) (hta : qV a) (htb : qV b) (hza : a.length ≤ 1000000) (hzb : b.length ≤ 1000000) : Gd (kK a b) (fun r => Gl r (nv a) (nv b)) := by
  unfold kK;refine Gd.ite (fun h => Gd.ret ?_) (fun h => ?_)
  · have h : ¬ (a.length : Int) = b.length := by simpa using h
    rw [bR ⟨by omega, by omega⟩]
    rcases Nat.lt_or_gt_of_ne (show a.length ≠ b.length by omega) with hl | hl
    · have := qB ha hb htb hl
      exact ⟨⟨fun _ => this, fun _ => by omega⟩, ⟨fun h => by omega, fun h => by omega⟩⟩
    · have := qB hb ha hta hl
      exact ⟨⟨fun h => by omega, fun h => by omega⟩, ⟨fun h => by omega, fun h => by omega⟩⟩
  · have hl : a.length = b.length := by have : (a.length : Int) = b.length := by simpa using h
                                        omega
    rw [bR ⟨by omega, by omega⟩]
    refine Gd.fV (fun (i : Int) => -1 ≤ i ∧ i < a.length ∧ a.drop (i + 1).toNat = b.drop (i + 1).toNat) (fun i => (i + 1).toNat) ?_ eT _ ⟨by omega, by omega, ?_⟩ (by simp only [eT]; omega)
    · rintro i nx ⟨h1, h2, h3⟩ hnx
      unfold np;refine Gd.ite (fun hi => ?_) (fun hi => Gd.ret ?_)
      · have hi : 0 ≤ i := Ht hi
        obtain ⟨k, rfl⟩ : ∃ k : Nat, i = k := ⟨i.toNat, by omega⟩
        obtain ⟨x, hx⟩ : ∃ x, a[k]? = some x := ⟨_, Hi (by omega)⟩
        obtain ⟨y, hy⟩ : ∃ y, b[k]? = some y := ⟨_, Hi (by omega)⟩
        have hxw := ha x (HE hx); have hyw := hb y (HE hy)
        have hkn : ((k : Int)).toNat = k := by omega
        rw [show ((k : Int) + 1).toNat = k + 1 by omega] at h3
        have sa := rk hx;have sb := rk hy;rw [← h3] at sb;have la := oI (ha.take k); have lb := oI (hb.take k)
        rw [Ic, IH (by omega)] at la lb
        generalize nv (a.drop (k + 1)) = T at sa sb;generalize nv (a.take k) = ta at sa la;generalize nv (b.take k) = tb at sb lb;generalize WB ^ k = P at sa sb la lb;have lt_of_lt : ∀ (u v tu tv : Nat), u < v → tu < P → tu + P * (u + WB * T) < tv + P * (v + WB * T) := fun u v tu tv huv hu => by
          have : P * (u + 1) ≤ P * v := Nd _ huv;rw [M_] at this;rw [M_, M_];omega
        refine Gd.ix (by omega) (by rw [hkn]; exact hx) (Gd.ix (by omega) (by rw [hkn]; exact hy) (Gd.ite (fun hne => ?_) (fun he => ?_)))
        · have hne : ¬ x.n = y.n := by simpa using hne
          refine Gd.ix (by omega) (by rw [hkn]; exact hx) (Gd.ix (by omega) (by rw [hkn]; exact hy) (Gd.ite (fun hlt => Gd.ret ?_) (fun hlt => Gd.ret ?_)))
          · have hlt : x.n < y.n := Ht hlt
            have := lt_of_lt x.n.toNat y.n.toNat ta tb (by omega) la
            rw [← sa, ← sb] at this;exact ⟨⟨fun _ => this, fun _ => by omega⟩, ⟨fun h => by omega, fun h => by omega⟩⟩
          · have hlt : ¬ x.n < y.n := HG hlt
            have := lt_of_lt y.n.toNat x.n.toNat tb ta (by omega) lb
            rw [← sa, ← sb] at this;exact ⟨⟨fun h => by omega, fun h => by omega⟩, ⟨fun h => by omega, fun h => by omega⟩⟩
        · have he : x.n = y.n := by simpa using he
          rw [bR ⟨by omega, by omega⟩]
          refine hnx _ ⟨by omega, by omega, ?_⟩ (by omega)
          rw [show ((k : Int) - 1 + 1).toNat = k by omega, mW hx, mW hy, h3]
          have : x = y := by cases x; cases y; simp only at he; rw [he]
          rw [this]
      · have hi : ¬ 0 ≤ i := HG hi
        have : (i + 1).toNat = 0 := by omega
        rw [this, Jb, Jb] at h3;rw [h3];exact ⟨⟨fun h => by omega, fun h => by omega⟩, ⟨fun _ => rfl, fun _ => rfl⟩⟩
    · rw [show ((a.length : Int) - 1 + 1).toNat = a.length by omega, KE, ML (by omega)]
theorem DE {a b:List bI} (ha:Wf a) (hb:Wf b) (hle:nv b≤nv a) (hl:b.length≤a.length) (hz:a.length≤1000000):
  Gd (kN a b) (fun r=>Wf r∧r.length=a.length∧nv r=nv a-nv b):=by
 unfold kN;refine Gd.nd ⟨by omega,by omega⟩ ?_
 refine Gd.jH (fun m k (z:List bI×Int)=>k+m=a.length∧z.1.length=a.length∧Wf z.1∧-1≤z.2∧z.2≤0∧(nv (z.1.take k):Int)+(WB ^ k:Nat)*z.2=nv (a.take k)-nv (b.take k)) ?_ ?_ _ 0 _ ⟨by simp,by simp,fun y hy=>?_,by show (-1:Int)≤0; omega,Kt _,by simp [nv]⟩
 ·rintro m k ⟨l,c⟩ nx ⟨h0,h1,h2,h3,h4,h5⟩ hnx
  simp only at h1 h2 h3 h4 h5 hnx ⊢;have hka:k<a.length:=by omega
  have hkn:((k:Int)).toNat=k:=by omega
  obtain ⟨y,hy⟩:∃ y,a[k]? = some y:=⟨_,Hi hka⟩;have hyw:=ha y (HE hy);have fin:∀ (n:Int) (x:Nat),n=c+y.n-x→x<WB→nv (b.take (k+1))=nv (b.take k)+WB ^ k*x→Gd (jw l nx k n) _:=fun n x hn hx hb1=>by
   unfold jw;rw [Dx,hkn,rU];have hx:x<4294967296:=hx;refine Gd.ks (by omega) (hnx _ ⟨by omega,by simp [h1],?_,by simp only; omega,by simp only; omega,?_⟩)
   ·intro z hz
    rcases MX hz with hz | hz
    ·exact h2 z hz
    ·rw [hz]; simp only; omega
   ·simp only
    rw [rr (by omega),pX,Ic,IH (by omega),nb hy,hb1]
    simp only;have e1:((n%4294967296).toNat:Int)+4294967296*(n / 4294967296)=c+y.n.toNat-x:=by omega
    have e2:((WB ^ k:Nat):Int)*((n%4294967296).toNat:Int)+((WB ^ (k+1):Nat):Int)*(n / 4294967296)=((WB ^ k:Nat):Int)*c+((WB ^ k:Nat):Int)*(y.n.toNat:Int)-((WB ^ k:Nat):Int)*(x:Int):=by
     rw [Nn,Iw,MD,← MC,show ((WB:Nat):Int)=4294967296 from rfl,e1,ME,MC]
    simp only [MF,Iw] at *
    omega
  unfold nr;refine Gd.ix (by omega) (by rw [hkn]; exact hy) (Gd.ite (fun h=>?_) (fun h=>?_))
  ·have hkb:k<b.length:=by have:=Ht h; omega
   obtain ⟨x,hx⟩:∃ x,b[k]? = some x:=⟨_,Hi hkb⟩;have hxw:=hb x (HE hx);refine Gd.ix (by omega) (by rw [hkn]; exact hx) (fin _ x.n.toNat ?_ (by show x.n.toNat<4294967296; omega) (nb hx))
   rw [bR (n:=y.n) (by omega),bR (n:=c+y.n) (by omega),bR (n:=x.n) (by omega),bR (by omega)]
   omega
  ·have hkb:b.length≤k:=by have:=HG h; omega
   refine fin _ 0 ?_ (by decide) ?_
   ·rw [bR (n:=y.n) (by omega),bR (by omega)]; simp
   ·rw [HR (by omega),HR (by omega)]; simp
 ·rintro k ⟨l,c⟩ ⟨h0,h1,h2,h3,h4,h5⟩
  simp only at h1 h2 h3 h4 h5 ⊢;have hk:k=a.length:=by omega
  subst hk;rw [JA,HR hl,HR (by omega)] at h5
  have hlt:=oI h2;rw [h1] at hlt;have hc:c=0:=by
   rcases (show c = -1∨c=0 by omega) with h | h
   ·exfalso; rw [h] at h5; omega
   ·exact h
  rw [hc] at h5;exact Gd.ret ⟨h2,h1,by omega⟩
 ·rw [MY] at hy
  rw [hy.2]; simp
theorem oK.tp {a:LI} (h:oK a):qV a.words:=h.top
theorem sL {r:LI}{m:Bool}{n:Nat} (h1:nv r.words=n) (h2:r.minus=true↔m=true∧n≠0):eY r=if m=true then -(n:Int) else n:=by
 unfold eY;rw [h1]
 by_cases hr:r.minus=true
 ·rw [Hv hr,Hv (h2.1 hr).1]
 ·rw [Hs hr]
  by_cases hm:m=true
  ·have:n=0:=by
    by_cases hn:n=0
    ·exact hn
    ·exact absurd (h2.2 ⟨hm,hn⟩) hr
   rw [Hv hm,this]; rfl
  ·rw [Hs hm]
theorem xv {a:LI} (h:oK a) (hz:a.words.length≤1000000):Gd (jz a) (fun r=>oK r∧r.words.length≤a.words.length∧eY r = -eY a):=by
 unfold jz;refine Gd.eV (pq (!a.minus) a.words h.wf hz) (fun r hr=>Gd.ret ⟨hr.1,hr.2.1,?_⟩);rw [sL hr.2.2.1 hr.2.2.2];unfold eY;cases a.minus <;> simp
theorem xn {a b:LI} (ha:oK a) (hb:oK b) (hza:a.words.length≤900000) (hzb:b.words.length≤900000):
  Gd (jy a b) (fun r=>oK r∧r.words.length≤max a.words.length b.words.length+1∧eY r=eY a+eY b):=by
 unfold jy;refine Gd.ite (fun h=>?_) (fun h=>?_)
 ·have h:a.minus=b.minus:=Ht h
  refine Gd.eV (Fl ha.wf hb.wf (by omega) (by omega)) (fun w hw=>Gd.eV (pq a.minus w hw.1 (by omega)) (fun r hr=>Gd.ret ⟨hr.1,by omega,?_⟩))
  rw [sL hr.2.2.1 hr.2.2.2,hw.2.2];unfold eY;rw [← h];cases a.minus <;> simp <;> omega
 ·have h:a.minus≠b.minus:=HG h
  refine Gd.eV (Cn ha.wf hb.wf ha.tp hb.tp (by omega) (by omega)) (fun c hc=>Gd.ite (fun h0=>?_) (fun h0=>?_))
  ·have h0:0≤c:=Ht h0
   have hle:nv b.words≤nv a.words:=by
    have:=hc.1; omega
   have hlen:b.words.length≤a.words.length:=by
    rcases JG a.words.length b.words.length with hlt | hge
    ·have:=qB ha.wf hb.wf hb.tp hlt; omega
    ·exact hge
   refine Gd.eV (DE ha.wf hb.wf hle hlen (by omega)) (fun w hw=>Gd.eV (pq a.minus w hw.1 (by omega)) (fun r hr=>Gd.ret ⟨hr.1,by omega,?_⟩))
   rw [sL hr.2.2.1 hr.2.2.2,hw.2.2];unfold eY;cases ea:a.minus <;> cases eb:b.minus <;> first | (rw [ea,eb] at h; exact absurd rfl h) | (simp; omega)
  ·have h0:¬ 0≤c:=HG h0
   have hlt:nv a.words<nv b.words:=hc.1.1 (by omega)
   have hlen:a.words.length≤b.words.length:=by
    rcases JG b.words.length a.words.length with hl | hge
    ·have:=qB hb.wf ha.wf ha.tp hl; omega
    ·exact hge
   refine Gd.eV (DE hb.wf ha.wf (by omega) hlen (by omega)) (fun w hw=>Gd.eV (pq b.minus w hw.1 (by omega)) (fun r hr=>Gd.ret ⟨hr.1,by omega,?_⟩))
   rw [sL hr.2.2.1 hr.2.2.2,hw.2.2];unfold eY;cases ea:a.minus <;> cases eb:b.minus <;> first | (rw [ea,eb] at h; exact absurd rfl h) | (simp; omega)
theorem Eg {a b:LI} (ha:oK a) (hb:oK b) (hza:a.words.length≤900000) (hzb:b.words.length≤900000):
  Gd (k6 a b) (fun r=>oK r∧r.words.length≤max a.words.length b.words.length+1∧eY r=eY a-eY b):=by
 unfold k6;refine Gd.eV (xv hb (by omega)) (fun c hc=>Gd.eV (xn ha hc.1 hza (by omega)) (fun r hr=>Gd.ret ⟨hr.1,by omega,by rw [hr.2.2,hc.2.2]; omega⟩))
theorem vY {l:List bI}{k:Nat}{x v:bI} (h:l[k]? = some x):nv (l.set k v)+WB ^ k*x.n.toNat=nv l+WB ^ k*v.n.toNat:=by
 have hk:=(He.1 h).1;have h1:=rk h;have h2:nv (l.set k v)=nv (l.take k)+WB ^ k*(v.n.toNat+WB*nv (l.drop (k+1))):=by
  have:=rk (l:=l.set k v) (k:=k) (x:=v) (H7 hk);rw [Ki (HQ _),Kg (by omega)] at this
  exact this
 rw [M_] at h1 h2;omega
theorem Wf.set {l:List bI} (h:Wf l) {k:Nat}{v:Int} (hv:0≤v∧v<4294967296):Wf (l.set k ⟨v⟩):=fun z hz=>by
 rcases MX hz with hz | hz
 ·exact h z hz
 ·rw [hz]; exact hv
theorem C5 {nz nz' nz0 P W c qC x y s B T:Nat} (h1:nz'+P*qC=nz+P*(s%W)) (hs:s=c+qC+x*y) (h2:nz+P*c=nz0+x*T*B):nz'+P*W*(s / W)=nz0+x*T*B+P*x*y:=by
 have hd:s%W+W*(s / W)=s:=M9 s W;have e:P*(s%W)+P*(W*(s / W))=P*s:=by rw [← M_,hd]
 have e2:P*s=P*c+P*qC+P*(x*y):=by rw [hs,M_,M_]
 rw [Na P W,Na P x];omega
theorem qZ {a b:LI} (ha:oK a) (hb:oK b) (hz:a.words.length+b.words.length≤900000):
  Gd (eI a b) (fun r=>oK r∧r.words.length≤a.words.length+b.words.length∧eY r=eY a*eY b):=by
 have wN:i64.wrap ((a.words.length:Int)+(b.words.length:Int))=((a.words.length+b.words.length:Nat):Int):=by rw [bR ⟨by omega,by omega⟩]; omega
 unfold eI;rw [wN];refine Gd.nd ⟨by omega,by omega⟩ ?_
 refine Gd.eE (fun i ys (z:List bI)=>ys=a.words.drop i∧i≤a.words.length∧z.length=a.words.length+b.words.length∧Wf z∧nv z=nv (a.words.take i)*nv b.words∧∀ q,i+b.words.length≤q→∀ y,z[q]? = some y→y.n=0) ?_ ?_ _ 0 _ ⟨by simp,by omega,by simp; omega,fun y hy=>?_,by rw [Dc]; simp [nv],fun q _ y hy=>?_⟩
 ·rintro i x ys z0 nx ⟨e0,e1,e2,e3,e4,e5⟩ hnx
  have hi:i<a.words.length:=by
   have:=HH List.length e0;simp at this; omega
  have hx:a.words[i]? = some x:=by
   have:=HH (·[0]?) e0;simpa [Ir] using this.symm
  have hys:ys=a.words.drop (i+1):=by
   have:=HH (List.drop 1) e0;simpa using this
  have hxw:=ha.wf x (HE hx);unfold nV;refine Gd.eE (fun k bs (z:List bI×Int)=>bs=b.words.drop k∧k≤b.words.length∧z.1.length=a.words.length+b.words.length∧Wf z.1∧0≤z.2∧z.2<4294967296∧nv z.1+WB ^ (i+k)*z.2.toNat=nv z0+x.n.toNat*nv (b.words.take k)*WB ^ i∧∀ q,i+k≤q→z.1[q]? = z0[q]?) ?_ ?_ _ 0 _ ⟨by simp,by omega,e2,e3,Kt _,by show (0:Int)<4294967296; omega,by simp [nv],fun q _=>rfl⟩
  ·rintro k y bs ⟨l,c⟩ nx2 ⟨f0,f1,f2,f3,f4,f5,f6,f7⟩ hnx2
   simp only at f2 f3 f4 f5 f6 f7 hnx2 ⊢;have hk:k<b.words.length:=by
    have:=HH List.length f0;simp at this; omega
   have hy:b.words[k]? = some y:=by
    have:=HH (·[0]?) f0;simpa [Ir] using this.symm
   have hbs:bs=b.words.drop (k+1):=by
    have:=HH (List.drop 1) f0;simpa using this
   have hyw:=hb.wf y (HE hy);obtain ⟨o,ho⟩:∃ o,l[i+k]? = some o:=⟨_,Hi (by omega)⟩
   have how:=f3 o (HE ho);have wj:i64.wrap ((i:Int)+(k:Int))=((i+k:Nat):Int):=by rw [bR ⟨by omega,by omega⟩]; omega
   have hkn:(((i+k:Nat):Int)).toNat=i+k:=by omega
   have hxy0:0≤x.n*y.n:=Int.mul_nonneg hxw.1 hyw.1;have hxy:x.n*y.n≤4294967295*4294967295:=Int.mul_le_mul (by omega) (by omega) hyw.1 (by omega)
   have hs:u64.wrap (c+(u64.wrap ((u64.wrap (o.n))+(u64.wrap ((u64.wrap (x.n))*(u64.wrap (y.n)))))))=c+o.n+x.n*y.n:=by
    rw [fD (n:=o.n) (by omega),fD (n:=x.n) (by omega),fD (n:=y.n) (by omega),fD (n:=x.n*y.n) (by omega),fD (n:=o.n+x.n*y.n) (by omega),fD (by omega)]
    omega
   unfold nW;rw [wj];refine Gd.ix (by omega) (by rw [hkn]; exact ho) (Gd.ix (by omega) (by rw [hkn]; exact ho) ?_)
   rw [hs,hkn,wX,rU];have hxyn:x.n*y.n=((x.n.toNat*y.n.toNat:Nat):Int):=by
    rw [Iw,K3 hxw.1,K3 hyw.1]
   have hsn:c+o.n+x.n*y.n=((c.toNat+o.n.toNat+x.n.toNat*y.n.toNat:Nat):Int):=by rw [hxyn]; omega
   refine hnx2 _ ⟨hbs,by omega,by simp [f2],f3.set (by omega),by simp only; omega,by simp only; omega,?_,fun q hq=>?_⟩
   ·simp only
    have g:=vY (l:=l) (k:=i+k) (x:=o) (v:=⟨(c+o.n+x.n*y.n)%4294967296⟩) ho;simp only at g;have g1:((c+o.n+x.n*y.n)%4294967296).toNat=(c.toNat+o.n.toNat+x.n.toNat*y.n.toNat)%WB:=by rw [hsn]; show _=_%4294967296; omega
    have g2:((c+o.n+x.n*y.n) / 4294967296).toNat=(c.toNat+o.n.toNat+x.n.toNat*y.n.toNat) / WB:=by rw [hsn]; show _=_ / 4294967296; omega
    rw [g1] at g;have:=C5 g rfl f6;rw [g2,show i+(k+1)=(i+k)+1 by omega,Nn,this,nb hy,Ng]
    rw [M_,HS,J8]
    congr 2
    rw [Nc (WB ^ i) (WB ^ k),Nc (WB ^ k*WB ^ i) x.n.toNat,Na,Na,Na,Na,Nc y.n.toNat,Nc (WB ^ i) y.n.toNat]
   ·simp only
    rw [HV (by omega)]
    exact f7 q (by omega)
  ·rintro k ⟨l,c⟩ ⟨f0,f1,f2,f3,f4,f5,f6,f7⟩
   simp only at f2 f3 f4 f5 f6 f7 ⊢;have hk:k=b.words.length:=by
    have:=HH List.length f0;simp at this; omega
   subst hk;have wj:i64.wrap ((i:Int)+(b.words.length:Int))=((i+b.words.length:Nat):Int):=by rw [bR ⟨by omega,by omega⟩]; omega
   have hkn:(((i+b.words.length:Nat):Int)).toNat=i+b.words.length:=by omega
   obtain ⟨o,ho⟩:∃ o,l[i+b.words.length]? = some o:=⟨_,Hi (by omega)⟩
   have ho0:o.n=0:=e5 _ (HQ _) o (by rw [← f7 _ (HQ _)]; exact ho)
   rw [wj];refine Gd.ix (by omega) (by rw [hkn]; exact ho) ?_
   rw [hkn,rU,show c%4294967296=c by omega]
   refine hnx _ ⟨hys,by omega,by simp [f2],f3.set (by omega),?_,fun q hq y hy=>?_⟩
   ·have g:=vY (l:=l) (k:=i+b.words.length) (x:=o) (v:=⟨c⟩) ho
    simp only [ho0] at g;rw [JA] at f6;rw [nb hx,HS,← e4];have e:WB ^ i*x.n.toNat*nv b.words=x.n.toNat*nv b.words*WB ^ i:=by rw [Nc (WB ^ i),Na,Nc (WB ^ i),← Na]
    rw [e];simp at g;omega
   ·rw [HV (by omega),f7 _ (by omega)] at hy
    exact e5 _ (by omega) y hy
 ·rintro i z ⟨e0,e1,e2,e3,e4,e5⟩
  have hi:i=a.words.length:=by
   have:=HH List.length e0;simp at this; omega
  subst hi;rw [JA] at e4;refine Gd.eV (pq _ z e3 (by omega)) (fun r hr=>Gd.ret ⟨hr.1,by omega,?_⟩)
  rw [sL hr.2.2.1 hr.2.2.2,e4];unfold eY;cases a.minus <;> cases b.minus <;> simp [Int.mul_neg,Int.neg_mul]
 ·rw [MY] at hy
  rw [hy.2]; simp
 ·have:=HE hy
  rw [MY] at this;rw [this.2]
theorem tU {r y:Int} (hr:0≤r∧r<4294967296) (hy:0≤y∧y<4294967296):
  u64.wrap ((BitVec.ofInt (u64).bits (jx .u64 r 32) ||| BitVec.ofInt (u64).bits (u64.wrap y)).toNat)=r*4294967296+y:=by
 obtain ⟨n,rfl⟩:∃ n:Nat,r=n:=⟨r.toNat,by omega⟩
 obtain ⟨m,rfl⟩:∃ m:Nat,y=m:=⟨y.toNat,by omega⟩
 have e1:jx .u64 (n:Int) 32=((n*4294967296:Nat):Int):=by
  unfold jx;rw [show (min (32:Int).toNat u64.bits)=32 by decide,xH]
  show (n:Int)*4294967296%18446744073709551616=_;omega
 rw [e1,fD (n:=(m:Int)) (by omega)]
 show u64.wrap (((BitVec.ofInt 64 ((n*4294967296:Nat):Int) ||| BitVec.ofInt 64 ((m:Nat):Int)).toNat:Nat):Int)=_;rw [Mw,Mw,BitVec.toNat_or,My,My,JB (by omega),JB (by omega)]
 have e2:n*4294967296 ||| m=n*4294967296+m:=by
  have:=Nat.shiftLeft_add_eq_or_of_lt (i:=32) (b:=m) (by omega) n
  rw [Nat.shiftLeft_eq] at this;exact this.symm
 rw [e2,fD (by omega)]
 omega
theorem BI {r y d:Int} (hr:0≤r∧r<d) (hy:0≤y∧y<4294967296) (hd:0<d∧d<4294967296):
  ∃ q m:Nat,Int.tdiv (r*4294967296+y) d=q∧Int.tmod (r*4294967296+y) d=m∧q<4294967296∧(m:Int)<d∧m+d.toNat*q=WB*r.toNat+y.toNat:=by
 obtain ⟨dn,rfl⟩:∃ dn:Nat,d=dn:=⟨d.toNat,by omega⟩
 obtain ⟨rn,rfl⟩:∃ rn:Nat,r=rn:=⟨r.toNat,by omega⟩
 obtain ⟨Y,rfl⟩:∃ Y:Nat,y=Y:=⟨y.toNat,by omega⟩
 have hdn:0<dn:=by omega
 have e:∀ W:Nat,Y<W→∃ q m:Nat,Int.tdiv ((rn:Int)*W+Y) dn=q∧Int.tmod ((rn:Int)*W+Y) dn=m∧q<W∧m<dn∧m+dn*q=W*rn+Y:=fun W hW=>by
  have hN:rn*W+Y<dn*W:=by
   have:(rn+1)*W≤dn*W:=HL _ (by omega)
   rw [HS] at this;omega
  have hc:(rn:Int)*W+Y=((rn*W+Y:Nat):Int):=by rw [MF,Iw]
  rw [hc];refine ⟨(rn*W+Y) / dn,(rn*W+Y)%dn,rfl,rfl,?_,KJ _ hdn,?_⟩
  ·rw [M5 hdn,Nc W dn]; exact hN
  ·rw [M9,Nc rn W]
 obtain ⟨q,m,h1,h2,h3,h4,h5⟩:=e WB (by show Y<4294967296; omega)
 refine ⟨q,m,h1,h2,h3,by omega,?_⟩
 simp only [Hj];exact h5
theorem BJ {q dn B m Y rn:Nat} (h1:m+dn*q=WB*rn+Y):(q+WB*B)*dn+m=Y+WB*(B*dn+rn):=by
 rw [HS,M_,Na WB,Nc q dn];generalize dn*q=Z at h1;generalize WB*rn=X at h1 ⊢;generalize WB*(B*dn)=T;omega
theorem yS {a:List bI} (ha:Wf a) (hz:a.length≤1000000) {d:Int} (hd:0<d∧d<4294967296):
  Gd (kM a d) (fun r=>Wf r.1∧r.1.length=a.length∧nv r.1=nv a / d.toNat∧r.2=(nv a%d.toNat:Nat)):=by
 unfold kM;refine Gd.nd ⟨by omega,by omega⟩ ?_
 rw [bR ⟨by omega,by omega⟩]
 refine Gd.fV (fun (z:List bI×Int×Int)=>-1≤z.2.2∧z.2.2<a.length∧z.1.length=a.length∧Wf z.1∧0≤z.2.1∧z.2.1<d∧nv (z.1.drop (z.2.2+1).toNat)*d.toNat+z.2.1.toNat=nv (a.drop (z.2.2+1).toNat)) (fun z=>(z.2.2+1).toNat) ?_ eT _ ⟨by simp only; omega,by simp only; omega,by simp,fun y hy=>?_,Kt _,by simp only; omega,?_⟩ (by simp only [eT]; omega)
 ·rintro ⟨l,r,i⟩ nx ⟨h1,h2,h3,h4,h5,h6,h7⟩ hnx
  simp only at h1 h2 h3 h4 h5 h6 h7 hnx ⊢;unfold nq;refine Gd.ite (fun hi=>?_) (fun hi=>Gd.ret ?_)
  ·have hi:0≤i:=Ht hi
   obtain ⟨k,rfl⟩:∃ k:Nat,i=k:=⟨i.toNat,by omega⟩
   obtain ⟨y,hy⟩:∃ y,a[k]? = some y:=⟨_,Hi (by omega)⟩
   have hyw:=ha y (HE hy);have hkn:((k:Int)).toNat=k:=by omega
   rw [fD (n:=d) (by omega)]
   refine Gd.ix (by omega) (by rw [hkn]; exact hy) (Gd.nd (by omega) (Gd.ks (show k<l.length by omega) (Gd.nd (by omega) ?_)))
   rw [tU ⟨h5,by omega⟩ hyw]
   rw [show ((k:Int)+1).toNat=k+1 by omega] at h7
   obtain ⟨q,m,e1,e2,hqlt,hmlt,hdm⟩:=BI ⟨h5,h6⟩ hyw hd;rw [e1,e2,hkn,fD (n:=(q:Int)) (by omega),rU,bR ⟨by omega,by omega⟩,show (q:Int)%4294967296=(q:Int) by omega]
   refine hnx _ ⟨by simp only; omega,by simp only; omega,by simp [h3],h4.set (by omega),by simp only; omega,by simp only; omega,?_⟩ (by simp only; omega)
   simp only;rw [show ((k:Int)-1+1).toNat=k by omega,mW hy,mW (l:=l.set k _) (H7 (by omega)),Kg (by omega),nv,nv,← h7]
   simp only [Hj];exact BJ hdm
  ·have hi:¬ 0≤i:=HG hi
   rw [show (i+1).toNat=0 by omega,Jb,Jb] at h7
   have hdn:0<d.toNat:=by omega
   refine ⟨h4,h3,?_,?_⟩
   ·simp only
    rw [← h7,Nc,Nat.mul_add_div hdn,M4 (by omega)]; rfl
   ·simp only
    rw [rU,← h7,Nc,Nat.mul_add_mod,JB (by omega)]
    omega
 ·rw [MY] at hy
  rw [hy.2]; simp
 ·simp only
  rw [show ((a.length:Int)-1+1).toNat=a.length by omega,KE,ML (by simp)]
  simp [nv]
theorem v_ {n:Int} (h:-9223372036854775808≤n∧n≤9223372036854775807):Gd (ki n) (fun r=>oK r∧r.words.length≤2∧eY r=n):=by
 have core:∀ m:Int,0≤m→m<18446744073709551616→(m=n∧0≤n∨m = -n∧n<0)→Gd (my n m) (fun r=>oK r∧r.words.length≤2∧eY r=n):=fun m h0 h1 h2=>by
  unfold my;rw [wX,rU,rU];have hw:Wf [⟨m%4294967296⟩,⟨m / 4294967296%4294967296⟩]:=fun y hy=>by
   rcases Ix.1 hy with rfl | hy
   ·simp only; omega
   ·rw [IS] at hy; subst hy; simp only; omega
  have hv:nv [⟨m%4294967296⟩,⟨m / 4294967296%4294967296⟩]=m.toNat:=by
   simp only [nv];show (m%4294967296).toNat+4294967296*((m / 4294967296%4294967296).toNat+4294967296*0)=_;omega
  refine Gd.eV (pq _ _ hw (by simp)) (fun r hr=>Gd.ret ⟨hr.1,hr.2.1,?_⟩)
  rw [sL hr.2.2.1 hr.2.2.2,hv];rcases h2 with ⟨rfl,h2⟩ | ⟨rfl,h2⟩
  ·rw [Hs (by simp; omega)]; omega
  ·rw [Hv (by simp; omega)]; omega
 unfold ki;refine Gd.ite (fun h0=>core _ ?_ ?_ (.inr ⟨?_,?_⟩)) (fun h0=>core _ ?_ ?_ (.inl ⟨?_,?_⟩))
 ·rw [xH]; omega
 ·rw [xH]; omega
 ·have:=Ht h0
  rw [xH,xH]; omega
 ·exact Ht h0
 ·rw [xH]; omega
 ·rw [xH]; omega
 ·have:=HG h0
  rw [xH]; omega
 ·have:=HG h0; omega
theorem FI {c x s:Nat} (hs:s≤31) (hc:c<2 ^ s) (hx:x<4294967296):
  u64.wrap ((BitVec.ofInt (u64).bits (c:Int) ||| BitVec.ofInt (u64).bits (jx .u64 (u64.wrap (x:Int)) (s:Int))).toNat)=((c+x*2 ^ s:Nat):Int):=by
 have hp:(2:Nat) ^ s≤2147483648:=Ni (by decide) hs
 have hx2:x*2 ^ s≤4294967295*2147483648:=Nat.mul_le_mul (by omega) hp
 rw [fD (n:=(x:Int)) (by omega)]
 have e1:jx .u64 (x:Int) (s:Int)=((x*2 ^ s:Nat):Int):=by
  unfold jx;rw [show (min ((s:Int)).toNat u64.bits)=s by show min ((s:Int)).toNat 64=s; omega]
  rw [show (x:Int)*2 ^ s=((x*2 ^ s:Nat):Int) by rw [Iw,Int.natCast_pow]; rfl]
  rw [fD (by omega)]
 rw [e1];show u64.wrap (((BitVec.ofInt 64 ((c:Nat):Int) ||| BitVec.ofInt 64 ((x*2 ^ s:Nat):Int)).toNat:Nat):Int)=_;rw [Mw,Mw,BitVec.toNat_or,My,My,JB (by omega),JB (by omega)]
 have e2:c ||| x*2 ^ s=c+x*2 ^ s:=by
  have:=Nat.shiftLeft_add_eq_or_of_lt (i:=s) (b:=c) hc x;rw [Nat.shiftLeft_eq] at this;rw [Nat.or_comm,← this,Kl]
 rw [e2,fD (by omega)]
theorem z7 {A P c x S W out o c':Nat} (h:out+P*c=A*S) (hd:o+W*c'=c+x*S):(out+P*o)+P*W*c'=(A+P*x)*S:=by
 have e:P*o+P*(W*c')=P*c+P*(x*S):=by rw [← M_,hd,M_]
 rw [Na P W,HS,Na P x];omega
theorem wm {a:List bI} (ha:Wf a) (hz:a.length≤1000000) {s:Nat} (hs:s≤31):
  Gd (k9 a (s:Int)) (fun r=>Wf r∧r.length=a.length+1∧nv r=nv a*2 ^ s∧∃ t,r[a.length]? = some t∧t.n.toNat<2 ^ s):=by
 have w1:i64.wrap ((a.length:Int)+1)=((a.length+1:Nat):Int):=by rw [bR ⟨by omega,by omega⟩]; omega
 have hp:(2:Nat) ^ s≤2147483648:=Ni (by decide) hs
 have hp0:0<(2:Nat) ^ s:=Nl (by decide)
 unfold k9;rw [w1];refine Gd.nd ⟨by omega,by omega⟩ ?_
 refine Gd.eE (fun k ys (z:List bI×Int)=>ys=a.drop k∧k≤a.length∧z.1.length=a.length+1∧Wf z.1∧0≤z.2∧z.2.toNat<2 ^ s∧nv (z.1.take k)+WB ^ k*z.2.toNat=nv (a.take k)*2 ^ s) ?_ ?_ _ 0 _ ⟨by simp,by omega,by simp,fun y hy=>?_,Kt _,by simpa using hp0,by simp [nv]⟩
 ·rintro k x ys ⟨l,c⟩ nx ⟨h0,h1,h2,h3,h4,h5,h6⟩ hnx
  simp only at h2 h3 h4 h5 h6 hnx ⊢;have hk:k<a.length:=by
   have:=HH List.length h0;simp at this; omega
  have hx:a[k]? = some x:=by
   have:=HH (·[0]?) h0;simpa [Ir] using this.symm
  have hys:ys=a.drop (k+1):=by
   have:=HH (List.drop 1) h0;simpa using this
  have hxw:=ha x (HE hx);obtain ⟨cn,rfl⟩:∃ cn:Nat,c=cn:=⟨c.toNat,by omega⟩
  obtain ⟨X,hX⟩:∃ X:Nat,x.n=X:=⟨x.n.toNat,by omega⟩
  have hkn:((k:Int)).toNat=k:=by omega
  unfold nY;rw [hX];simp only [Hj] at h5 h6;rw [FI hs h5 (by omega)]
  refine Gd.nd (by omega) (Gd.ks (show k<l.length by omega) ?_)
  rw [hkn,rU,wX];have hb:cn+X*2 ^ s<4294967296*2 ^ s:=by
   have:(X+1)*2 ^ s≤4294967296*2 ^ s:=HL _ (by omega)
   rw [HS] at this;omega
  have hdm:=M9 (cn+X*2 ^ s) WB;have hq:(cn+X*2 ^ s) / WB<2 ^ s:=by
   rw [M5 (by decide),Nc (2 ^ s)]; exact hb
  have e1:((cn+X*2 ^ s:Nat):Int)%4294967296=(((cn+X*2 ^ s)%WB:Nat):Int):=rfl;have e2:((cn+X*2 ^ s:Nat):Int) / 4294967296=(((cn+X*2 ^ s) / WB:Nat):Int):=rfl;have hm:(cn+X*2 ^ s)%WB<WB:=KJ _ (by decide)
  rw [e1,e2];generalize (cn+X*2 ^ s)%WB=o at hdm hm;generalize (cn+X*2 ^ s) / WB=c' at hdm hq;refine hnx _ ⟨hys,by omega,by simp [h2],h3.set ⟨by omega,by have:o<4294967296:=hm; omega⟩,by simp only; omega,by simp only [Hj]; exact hq,?_⟩
  simp only;rw [rr (by omega),pX,Ic,IH (by omega),nb hx,hX,Nn]
  simp only [Hj];exact z7 h6 hdm
 ·rintro k ⟨l,c⟩ ⟨h0,h1,h2,h3,h4,h5,h6⟩
  simp only at h2 h3 h4 h5 h6 ⊢;have hk:k=a.length:=by
   have:=HH List.length h0;simp at this; omega
  subst hk;have hkn:((a.length:Int)).toNat=a.length:=by omega
  rw [hkn,rU,show c%4294967296=c by omega]
  refine Gd.ks (by omega) (Gd.ret ⟨h3.set (by omega),by simp [h2],?_,⟨⟨c⟩,H7 (by omega),h5⟩⟩)
  have e:=rr (l:=l) (k:=a.length) (v:=⟨c⟩) (by omega)
  rw [HR (by simp; omega)] at e
  rw [e,pX,Ic,IH (by omega)]
  rw [JA] at h6;exact h6
 ·rw [MY] at hy
  rw [hy.2]; simp
section
variable {W R v1 v2 vl u2 ul top q V U:Nat}
structure Ae (W R v1 v2 vl u2 ul top V U:Nat):Prop where
 V:V=(v1*W+v2)*R+vl
 U:U=(top*W+u2)*R+ul
 vl:vl<R
 ul:ul<R
 u2:u2<W
 v2:v2<W
theorem Ae.FP (h:Ae W R v1 v2 vl u2 ul top V U) (hq:q*V≤U):q*v1≤top:=by
 rcases JG top (q*v1) with hlt | hge
 ·exfalso
  have h1:(top+1)*(W*R)≤q*v1*(W*R):=HL _ hlt;have h2:v1*(W*R)≤V:=by
   rw [h.V,HS,Na v1]; omega
  have h3:q*(v1*(W*R))≤q*V:=Nd _ h2;have h4:U<(top+1)*(W*R):=by
   have e1:(u2+1)*R≤W*R:=HL _ h.u2;rw [HS] at e1;have hul:=h.ul;rw [h.U,HS,Na top,HS top];omega
  rw [Na q] at h1;omega
 ·exact hge
theorem Ae.xq (h:Ae W R v1 v2 vl u2 ul top V U) (hq:q*V≤U):q*(v1*W+v2)≤top*W+u2:=by
 rcases JG (top*W+u2) (q*(v1*W+v2)) with hlt | hge
 ·exfalso
  have h1:(top*W+u2+1)*R≤q*(v1*W+v2)*R:=HL _ hlt;have h2:(v1*W+v2)*R≤V:=by rw [h.V]; omega
  have h3:q*((v1*W+v2)*R)≤q*V:=Nd _ h2;have hul:=h.ul;have hU:=h.U;rw [HS _ 1] at h1;rw [Na q] at h1;omega
 ·exact hge
theorem Ae.GG (h:Ae W R v1 v2 vl u2 ul top V U) {g:Nat} (hg:g≤W) (hv:1≤v1) (hl:g*(v1*W+v2)≤top*W+u2):g*V<U+V:=by
 have h1:g*(v1*W+v2)*R≤(top*W+u2)*R:=HL _ hl;have h2:g*vl≤W*vl:=HL _ hg;have h3:W*(vl+1)≤W*R:=Nd _ h.vl;have h4:1*(W*R)≤v1*(W*R):=HL _ hv;have e1:g*V=g*(v1*W+v2)*R+g*vl:=by rw [h.V,M_,Na]
 have e2:V=v1*(W*R)+v2*R+vl:=by rw [h.V,HS,Na]
 have hU:=h.U;have hR:0<R:=by have:=h.vl; omega
 have hW:0<W:=by have:=h.u2; omega
 rw [M_,Ku] at h3;omega
structure Gs (W R v1 v2 vl u2 ul top V U q g rest:Nat):Prop where
 ge:q≤g
 eq:g*v1+rest=top
 rest:rest<W
 le:g≤W+1
structure FW (W V U q g:Nat):Prop where
 ge:q≤g
 le:g≤q+1
 w:g≤W
theorem Ae.out (h:Ae W R v1 v2 vl u2 ul top V U) {g:Nat} (hq:U<(q+1)*V) (hge:q≤g) (hg:g≤W) (hv:1≤v1) (hl:g*(v1*W+v2)≤top*W+u2):FW W V U q g:=by
 refine ⟨hge,?_,hg⟩;have h1:=h.GG hg hv hl;rcases JG (q+1) g with hlt | hge'
 ·exfalso
  have h2:(q+2)*V≤g*V:=HL _ hlt;rw [HS] at h2 hq;omega
 ·exact hge'
theorem Gs.stop (h:Ae W R v1 v2 vl u2 ul top V U) {g rest:Nat} (hs:Gs W R v1 v2 vl u2 ul top V U q g rest) (hq:U<(q+1)*V) (hv:1≤v1) (hg:g<W) (ht:g*v2≤rest*W+u2):FW W V U q g:=by
 refine h.out hq hs.ge (by omega) hv ?_
 rw [← hs.eq,M_,HS,Na];omega
theorem Gs.less (h:Ae W R v1 v2 vl u2 ul top V U) {g rest:Nat} (hs:Gs W R v1 v2 vl u2 ul top V U q g rest) (hq:q*V≤U) (hqW:q<W) (ht:W≤g∨rest*W+u2<g*v2):q<g:=by
 rcases ht with ht | ht
 ·omega
 ·have h1:=h.xq hq
  rw [← hs.eq] at h1;rcases JG q g with hlt | hge
  ·exact hlt
  ·exfalso
   have h2:g*(v1*W+v2)≤q*(v1*W+v2):=HL _ hge;rw [M_ g] at h2;rw [HS (g*v1),Na] at h1;omega
theorem Gs.next {g rest:Nat} (hs:Gs W R v1 v2 vl u2 ul top V U q g rest) (hl:q<g) (hr:rest+v1<W):Gs W R v1 v2 vl u2 ul top V U q (g-1) (rest+v1):=by
 have h:=hs.eq; have hle:=hs.le
 obtain ⟨k,rfl⟩:∃ k,g=k+1:=⟨g-1,by omega⟩
 rw [HS] at h;exact ⟨by omega,by rw [Nat.add_sub_cancel]; omega,hr,by omega⟩
theorem Gs.over (h:Ae W R v1 v2 vl u2 ul top V U) {g rest:Nat} (hs:Gs W R v1 v2 vl u2 ul top V U q g rest) (hq:U<(q+1)*V) (hv:1≤v1) (hl:q<g) (hr:W≤rest+v1):FW W V U q (g-1):=by
 have he:=hs.eq; have hle:=hs.le; have hv2:=h.v2
 obtain ⟨k,rfl⟩:∃ k,g=k+1:=⟨g-1,by omega⟩
 rw [Nat.add_sub_cancel];rw [HS] at he;refine h.out hq (by omega) (by omega) hv ?_
 have h1:k*v2≤W*v2:=HL _ (by omega)
 have h2:W*(v2+1)≤W*W:=Nd _ hv2;have h3:W*W≤(rest+v1)*W:=HL _ hr;have e:top=k*v1+(rest+v1):=by omega
 rw [e,M_ k,HS (k*v1),Na];rw [M_] at h2;omega
end
def AE:List U8:=iH (⟨#[0,1,2,2,3,3,3,3,4,4,4,4,4,4,4,4,5,5,5,5,5,5,5,5,5,5,5,5,5,5,5,5,6,6,6,6,6,6,6,6,6,6,6,6,6,6,6,6,6,6,6,6,6,6,6,6,6,6,6,6,6,6,6,6,7,7,7,7,7,7,7,7,7,7,7,7,7,7,7,7,7,7,7,7,7,7,7,7,7,7,7,7,7,7,7,7,7,7,7,7,7,7,7,7,7,7,7,7,7,7,7,7,7,7,7,7,7,7,7,7,7,7,7,7,7,7,7,7,8,8,8,8,8,8,8,8,8,8,8,8,8,8,8,8,8,8,8,8,8,8,8,8,8,8,8,8,8,8,8,8,8,8,8,8,8,8,8,8,8,8,8,8,8,8,8,8,8,8,8,8,8,8,8,8,8,8,8,8,8,8,8,8,8,8,8,8,8,8,8,8,8,8,8,8,8,8,8,8,8,8,8,8,8,8,8,8,8,8,8,8,8,8,8,8,8,8,8,8,8,8,8,8,8,8,8,8,8,8,8,8,8,8,8,8,8,8,8,8,8,8,8,8,8,8,8,8]⟩)
def C0 (i:Nat) (y:U8):Bool:=decide (1≤y.n) && (decide (y.n≤8) && (decide (2 ^ (y.n.toNat-1)≤i) && decide (i<2 ^ y.n.toNat)))
theorem Eo:∀ i:Nat,1≤i→i<256→∃ y,AE[i]? = some y∧C0 i y=true:=by
 have h:(List.range 256).all (fun i=>decide (i=0) || (match AE[i]? with | some y=>C0 i y | none=>false))=true:=by decide +kernel
 intro i h1 h2;have:=IT.1 h i (by simpa using h2)
 rw [NG (by omega),Bool.false_or] at this
 cases hy:AE[i]? with
 | none=>rw [hy] at this; cases this
 | some y=>rw [hy] at this; exact ⟨y,rfl,this⟩
theorem xr {n m:Int} (h1:1≤n) (h2:n<256) (hm:0≤m∧m≤24):Gd (iO n m) (fun r=>∃ L:Nat,r=m+L∧1≤L∧L≤8∧2 ^ (L-1)≤n.toNat∧n.toNat<2 ^ L):=by
 obtain ⟨y,hy,hb⟩:=Eo n.toNat (by omega) (by omega)
 simp only [C0,Jp,IN] at hb;obtain ⟨b1,b2,b3,b4⟩:=hb;have hw:u8.wrap n=n:=by
  rw [show u8.wrap n=n%256 by simp [IntKind.wrap,IntKind.bits,IntKind.signed]]; omega
 unfold iO;rw [hw];refine Gd.ix (l:=AE) (by omega) hy (Gd.ret ⟨y.n.toNat,?_,by omega,by omega,b3,b4⟩)
 rw [bR (n:=y.n) (by omega),bR (by omega)]
 omega
theorem z8 {n:Int}{k:Nat} (hk:k≤32):jW .u32 n (k:Int)=n / (2 ^ k:Nat):=by
 unfold jW;rw [show (min ((k:Int)).toNat u32.bits)=k by show min ((k:Int)).toNat 32=k; omega,Kn _ (Int.le_of_lt (Int.pow_pos (by decide)))]
 rw [Int.natCast_pow]; rfl
theorem F4 {x:Int} (h1:1≤x) (h2:x<4294967296):Gd (gF x) (fun r=>∃ s:Nat,r=s∧s≤31∧2147483648≤x.toNat*2 ^ s∧x.toNat*2 ^ s<4294967296):=by
 have fin:∀ (o:Option Int),Gd o (fun r=>∃ l:Nat,r=l∧1≤l∧l≤32∧2 ^ (l-1)≤x.toNat∧x.toNat<2 ^ l)→Gd (o.bind fun r101=>some (i64.wrap (32-r101))) (fun r=>∃ s:Nat,r=s∧s≤31∧2147483648≤x.toNat*2 ^ s∧x.toNat*2 ^ s<4294967296):=fun o ho=>by
  refine Gd.eV ho (fun r hr=>Gd.ret ?_);obtain ⟨l,rfl,l1,l2,l3,l4⟩:=hr;refine ⟨32-l,by rw [bR (by omega)]; omega,by omega,?_,?_⟩
  ·have:2 ^ (l-1)*2 ^ (32-l)≤x.toNat*2 ^ (32-l):=HL _ l3
   rw [← Ng,show l-1+(32-l)=31 by omega] at this
   exact this
  ·have:x.toNat*2 ^ (32-l)<2 ^ l*2 ^ (32-l):=Nat.mul_lt_mul_of_pos_right l4 (Nl (by decide))
   rw [← Ng,show l+(32-l)=32 by omega] at this
   exact this
 have part:∀ (n:Int) (base:Nat),n=x / (2 ^ base:Nat)→base≤24→∀ L:Nat,1≤L→2 ^ (L-1)≤n.toNat→n.toNat<2 ^ L→2 ^ (base+L-1)≤x.toNat∧x.toNat<2 ^ (base+L):=fun n base hn hb L l1 l2 l3=>by
  have e:n.toNat=x.toNat / 2 ^ base:=by
   rw [hn];obtain ⟨X,rfl⟩:∃ X:Nat,x=X:=⟨x.toNat,by omega⟩
   rfl
  have hp:0<2 ^ base:=Nl (by decide)
  rw [e] at l2 l3;rw [M6 hp,← Ng] at l2;rw [M5 hp,← Ng] at l3;rw [show base+L-1=L-1+base by omega,Kl base L]
  exact ⟨l2,l3⟩
 unfold gF;refine fin _ ?_;unfold mO;refine Gd.ite (fun h=>?_) (fun h=>?_)
 ·have h:=Ht h
  rw [show jW .u32 x 16=x / 65536 from z8 (k:=16) (by omega)]
  unfold iP;refine Gd.ite (fun h3=>?_) (fun h3=>?_)
  ·have h3:=Ht h3
   rw [show jW .u32 (x / 65536) 8=x / 65536 / 256 from z8 (k:=8) (by omega),show i64.wrap (16+8)=24 by decide]
   refine (xr (by omega) (by omega) (by omega)).mono ?_
   rintro r ⟨L,rfl,l1,l2,l3,l4⟩;obtain ⟨p1,p2⟩:=part (x / 65536 / 256) 24 (by show _=x / 16777216; omega) (by omega) L l1 l3 l4
   exact ⟨24+L,by omega,by omega,by omega,p1,p2⟩
  ·have h3:=HG h3
   refine (xr (by omega) (by omega) (by omega)).mono ?_
   rintro r ⟨L,rfl,l1,l2,l3,l4⟩;obtain ⟨p1,p2⟩:=part (x / 65536) 16 (by show _=x / 65536; omega) (by omega) L l1 l3 l4
   exact ⟨16+L,by omega,by omega,by omega,p1,p2⟩
 ·have h:=HG h
  unfold iP;refine Gd.ite (fun h3=>?_) (fun h3=>?_)
  ·have h3:=Ht h3
   rw [show jW .u32 x 8=x / 256 from z8 (k:=8) (by omega),show i64.wrap (0+8)=8 by decide]
   refine (xr (by omega) (by omega) (by omega)).mono ?_
   rintro r ⟨L,rfl,l1,l2,l3,l4⟩;obtain ⟨p1,p2⟩:=part (x / 256) 8 (by show _=x / 256; omega) (by omega) L l1 l3 l4
   exact ⟨8+L,by omega,by omega,by omega,p1,p2⟩
  ·have h3:=HG h3
   refine (xr (by omega) (by omega) (by omega)).mono ?_
   rintro r ⟨L,rfl,l1,l2,l3,l4⟩;obtain ⟨p1,p2⟩:=part x 0 (by show _=x / 1; omega) (by omega) L l1 l3 l4
   exact ⟨0+L,by omega,by omega,by omega,p1,p2⟩
theorem D1 {t:Nat} (h:t<18446744073709551616):u64.wrap ((BitVec.ofInt (u64).bits (t:Int) &&& BitVec.ofInt (u64).bits 4294967295).toNat)=((t%WB:Nat):Int):=by
 have e:(BitVec.ofInt (u64).bits 4294967295).toNat=4294967295:=by decide
 have e2:(BitVec.ofInt (u64).bits (t:Int)).toNat=t:=by
  show (BitVec.ofInt 64 (t:Int)).toNat=t;rw [Mw,My,JB h]
 rw [BitVec.toNat_and,e,e2];have:=M3 t 32;rw [show (2:Nat) ^ 32-1=4294967295 from rfl] at this;rw [this,show (2:Nat) ^ 32=WB from rfl];have hm:t%WB<WB:=KJ _ (by decide)
 rw [fD ⟨by omega,by have:t%WB<4294967296:=hm; omega⟩]
theorem AL {l:List bI}{k:Nat}{x v:bI} (h:l[k]? = some x) (hx:0≤x.n) (hv:0≤v.n):(nv (l.set k v):Int)+((WB ^ k:Nat):Int)*x.n=nv l+((WB ^ k:Nat):Int)*v.n:=by
 have:=HH (fun n:Nat=>(n:Int)) (vY (v:=v) h);simp only [MF,Iw] at this;rw [K3 hx,K3 hv] at this;exact this
theorem Eu {nl nl' o nw P W bo ca low ca' bo' Z gy:Int} (hA:nl'+P*o=nl+P*nw) (hB:nw+W*bo'=bo+o-low) (hC:low+W*ca'=ca+gy) (hI:nl+P*(bo-ca)=Z):
  nl'+P*W*(bo'-ca')=Z-P*gy:=by
 have e:W*(bo'-ca')=bo+o-nw-ca-gy:=by rw [ME]; omega
 rw [MD,e,← hI,ME,ME,ME,MC,ME];omega
theorem AN {l l0:List bI}{m:Nat} (h:∀ p,m≤p→l[p]? = l0[p]?) (hm:m≤l.length):nv l=nv (l.take m)+WB ^ m*nv (l0.drop m):=by
 have e:l.drop m=l0.drop m:=by
  apply Jx;intro i;rw [Ir,Ir];exact h _ (by omega)
 have:nv l=nv (l.take m++l.drop m):=by rw [Ji]
 rw [this,xy,e,Ic,IH hm]
theorem vZ (l:List bI) {m:Nat} (hm:m≤l.length):nv l=nv (l.take m)+WB ^ m*nv (l.drop m):=AN (fun _ _=>rfl) hm
theorem F5 {b r134 vs:List bI}{j g:Nat}{l0:List bI}{fin:List bI×Int×Int→Option (List bI×List bI)}{Q:List bI×List bI→Prop}
  (hvs:lK r134 0 (((b.length:Int):Int).toNat)=vs) (hvl:vs.length=b.length) (hvw:Wf vs) (hl:Wf l0) (hjn:j+b.length<l0.length) (hN:l0.length≤1000001) (hg:g≤WB)
  (hk:∀ l bo ca,l.length=l0.length→Wf l→-1≤bo→bo≤0→0≤ca→ca<4294967296→(nv l:Int)+((WB ^ (j+b.length):Nat):Int)*(bo-ca)=nv l0-((WB ^ j:Nat):Int)*((g:Int)*(nv vs:Int)) →
   (∀ p,j+b.length≤p→l[p]? = l0[p]?)→(∀ p,p<j→l[p]? = l0[p]?)→Gd (fin (l,bo,ca)) Q):
  Gd (jH (fun k s1409 n=>lu b r134 (j:Int) (g:Int) k s1409.1 s1409.2.1 s1409.2.2 n) fin b.length 0 (l0,0,0)) Q:=by
 have hg:g≤4294967296:=hg;refine Gd.jH (fun m k (z:List bI×Int×Int)=>k+m=b.length∧z.1.length=l0.length∧Wf z.1∧-1≤z.2.1∧z.2.1≤0∧0≤z.2.2∧z.2.2<4294967296∧(nv z.1:Int)+((WB ^ (j+k):Nat):Int)*(z.2.1-z.2.2)=nv l0-((WB ^ j:Nat):Int)*((g:Int)*(nv (vs.take k):Int))∧(∀ p,j+k≤p→z.1[p]? = l0[p]?)∧(∀ p,p<j→z.1[p]? = l0[p]?)) ?_ ?_ _ 0 _ ⟨by omega,rfl,hl,by show (-1:Int)≤0; omega,Kt _,Kt _,by show (0:Int)<4294967296; omega,by simp [nv],fun p _=>rfl,fun p _=>rfl⟩
 ·rintro m k ⟨l,bo,ca⟩ nx ⟨h0,h1,h2,h3,h4,h5,h6,h7,h8,h9⟩ hnx
  simp only at h1 h2 h3 h4 h5 h6 h7 h8 h9 hnx ⊢;have hkb:k<b.length:=by omega
  obtain ⟨y,hy⟩:∃ y,vs[k]? = some y:=⟨_,Hi (by omega)⟩
  have hyw:=hvw y (HE hy);obtain ⟨o,ho⟩:∃ o,l[j+k]? = some o:=⟨_,Hi (by omega)⟩
  have how:=h2 o (HE ho);have wj:i64.wrap ((k:Int)+(j:Int))=((j+k:Nat):Int):=by rw [bR ⟨by omega,by omega⟩]; omega
  have hjk:(((j+k:Nat):Int)).toNat=j+k:=by omega
  unfold lu;rw [hvs,wj];refine Gd.ix (by omega) (by rw [Hj]; exact hy) (Gd.ix (by omega) (by rw [hjk]; exact ho) (Gd.ix (by omega) (by rw [hjk]; exact ho) ?_))
  obtain ⟨Y,hY⟩:∃ Y:Nat,y.n=Y:=⟨y.n.toNat,by omega⟩
  obtain ⟨cn,rfl⟩:∃ cn:Nat,ca=cn:=⟨ca.toNat,by omega⟩
  have hgy:g*Y≤4294967296*4294967295:=Nat.mul_le_mul hg (by omega)
  have ht:u64.wrap ((cn:Int)+(u64.wrap ((g:Int)*(u64.wrap (y.n)))))=((cn+g*Y:Nat):Int):=by
   rw [hY,fD (n:=(Y:Int)) (by omega),show (g:Int)*(Y:Int)=((g*Y:Nat):Int) by rw [Iw],fD (n:=((g*Y:Nat):Int)) (by omega),fD (by omega)]
   omega
  rw [ht,D1 (by omega),wX]
  have hdm:=M9 (cn+g*Y) WB;have hlow:(cn+g*Y)%WB<WB:=KJ _ (by decide)
  have hcl:(cn+g*Y) / WB<4294967296:=by
   rw [M5 (by decide)]
   show cn+g*Y<4294967296*4294967296;omega
  have e2:((cn+g*Y:Nat):Int) / 4294967296=(((cn+g*Y) / WB:Nat):Int):=rfl;rw [e2];have hC:(((cn+g*Y)%WB:Nat):Int)+4294967296*(((cn+g*Y) / WB:Nat):Int)=(cn:Int)+((g*Y:Nat):Int):=by
   have:(cn+g*Y)%WB+4294967296*((cn+g*Y) / WB)=cn+g*Y:=hdm;omega
  generalize (cn+g*Y)%WB=low at hlow hC;generalize (cn+g*Y) / WB=c2 at hcl hC;have hlow:low<4294967296:=hlow;have hnb:i64.wrap (bo+(i64.wrap ((i64.wrap (o.n))-(i64.wrap ((low:Nat):Int)))))=bo+o.n-low:=by
   rw [bR (n:=o.n) (by omega),bR (n:=(low:Int)) (by omega),bR (n:=o.n-low) (by omega),bR (by omega)]
   omega
  rw [hnb,hjk,rU,Dx];refine hnx _ ⟨by omega,by simp [h1],h2.set (by omega),by simp only; omega,by simp only; omega,by simp only; omega,by simp only; omega,?_,fun p hp=>?_,fun p hp=>?_⟩
  ·simp only
   have hA:=AL (l:=l) (k:=j+k) (x:=o) (v:=⟨(bo+o.n-low)%4294967296⟩) ho how.1 (by simp only; omega)
   simp only at hA;have hB:(bo+o.n-low)%4294967296+4294967296*((bo+o.n-low) / 4294967296)=bo+o.n-low:=by omega
   have:=Eu hA hB hC h7;rw [show j+(k+1)=(j+k)+1 by omega,Nn,Iw,show ((WB:Nat):Int)=4294967296 from rfl,this,nb hy,hY,Ng]
   simp only [Hj,MF,Iw];rw [MC (g:Int),MC ((WB ^ j:Nat):Int),MD ((WB ^ j:Nat):Int) ((WB ^ k:Nat):Int)];have e:(g:Int)*(((WB ^ k:Nat):Int)*(Y:Int))=((WB ^ k:Nat):Int)*((g:Int)*(Y:Int)):=by
    rw [← MD,Int.mul_comm (g:Int),MD]
   rw [e];omega
  ·simp only
   rw [HV (by omega)]
   exact h8 p (by omega)
  ·simp only
   rw [HV (by omega)]
   exact h9 p hp
 ·rintro k ⟨l,bo,ca⟩ ⟨h0,h1,h2,h3,h4,h5,h6,h7,h8,h9⟩
  simp only at h1 h2 h3 h4 h5 h6 h7 h8 h9;have hk':k=b.length:=by omega
  subst hk';rw [← hvl,JA] at h7;rw [hvl] at h7;exact hk l bo ca h1 h2 h3 h4 h5 h6 h7 h8 h9
theorem DZ {nl nl' o s P W c Y T T' B X:Nat} (h1:nl'+P*o=nl+P*(s%W)) (hs:s=c+o+Y) (h2:nl+P*c=X+B*T) (hP:P*Y=B*(T'-T)) (hT:T≤T'):nl'+P*W*(s / W)=X+B*T':=by
 have hd:s%W+W*(s / W)=s:=M9 s W;have e:P*(s%W)+P*(W*(s / W))=P*s:=by rw [← M_,hd]
 have e2:P*s=P*c+P*o+P*Y:=by rw [hs,M_,M_]
 have e3:B*T'=B*T+B*(T'-T):=by rw [← M_]; congr 1; omega
 rw [Na P W];omega
theorem FY {b r134 vs:List bI}{j:Nat}{l1:List bI}{fin:List bI×Int→Option (List bI×List bI)}{Q:List bI×List bI→Prop}
  (hvs:lK r134 0 (((b.length:Int):Int).toNat)=vs) (hvl:vs.length=b.length) (hvw:Wf vs) (hl:Wf l1) (hjn:j+b.length<l1.length) (hN:l1.length≤1000001)
  (hk:∀ l c,l.length=l1.length→Wf l→0≤c→c≤1→nv l+WB ^ (j+b.length)*c.toNat=nv l1+WB ^ j*nv vs→(∀ p,j+b.length≤p→l[p]? = l1[p]?)→(∀ p,p<j→l[p]? = l1[p]?)→Gd (fin (l,c)) Q):
  Gd (jH (fun k s1621 n=>lv b r134 (j:Int) k s1621.1 s1621.2 n) fin b.length 0 (l1,0)) Q:=by
 refine Gd.jH (fun m k (z:List bI×Int)=>k+m=b.length∧z.1.length=l1.length∧Wf z.1∧0≤z.2∧z.2≤1∧nv z.1+WB ^ (j+k)*z.2.toNat=nv l1+WB ^ j*nv (vs.take k)∧(∀ p,j+k≤p→z.1[p]? = l1[p]?)∧(∀ p,p<j→z.1[p]? = l1[p]?)) ?_ ?_ _ 0 _ ⟨by omega,rfl,hl,Kt _,by show (0:Int)≤1; omega,by simp [nv],fun p _=>rfl,fun p _=>rfl⟩
 ·rintro m k ⟨l,c⟩ nx ⟨h0,h1,h2,h3,h4,h7,h8,h9⟩ hnx
  simp only at h1 h2 h3 h4 h7 h8 h9 hnx ⊢;obtain ⟨y,hy⟩:∃ y,vs[k]? = some y:=⟨_,Hi (by omega)⟩
  have hyw:=hvw y (HE hy);obtain ⟨o,ho⟩:∃ o,l[j+k]? = some o:=⟨_,Hi (by omega)⟩
  have how:=h2 o (HE ho);have wj:i64.wrap ((k:Int)+(j:Int))=((j+k:Nat):Int):=by rw [bR ⟨by omega,by omega⟩]; omega
  have hjk:(((j+k:Nat):Int)).toNat=j+k:=by omega
  unfold lv;rw [hvs,wj];refine Gd.ix (by omega) (by rw [hjk]; exact ho) (Gd.ix (by omega) (by rw [Hj]; exact hy) (Gd.ix (by omega) (by rw [hjk]; exact ho) ?_))
  have hs:u64.wrap (c+(u64.wrap ((u64.wrap (o.n))+(u64.wrap (y.n)))))=c+o.n+y.n:=by
   rw [fD (n:=o.n) (by omega),fD (n:=y.n) (by omega),fD (n:=o.n+y.n) (by omega),fD (by omega)]
   omega
  rw [hs,hjk,wX,rU];have hsn:c+o.n+y.n=((c.toNat+o.n.toNat+y.n.toNat:Nat):Int):=by omega
  refine hnx _ ⟨by omega,by simp [h1],h2.set (by omega),by simp only; omega,by simp only; omega,?_,fun p hp=>?_,fun p hp=>?_⟩
  ·simp only
   have g:=vY (l:=l) (k:=j+k) (x:=o) (v:=⟨(c+o.n+y.n)%4294967296⟩) ho;simp only at g;have g1:((c+o.n+y.n)%4294967296).toNat=(c.toNat+o.n.toNat+y.n.toNat)%WB:=by rw [hsn]; show _=_%4294967296; omega
   have g2:((c+o.n+y.n) / 4294967296).toNat=(c.toNat+o.n.toNat+y.n.toNat) / WB:=by rw [hsn]; show _=_ / 4294967296; omega
   rw [g1] at g;rw [g2,show j+(k+1)=(j+k)+1 by omega,Nn]
   refine DZ g rfl h7 (T':=nv (vs.take (k+1))) ?_ ?_
   ·rw [nb hy,JV,Ng,Na]
   ·rw [nb hy]; omega
  ·simp only
   rw [HV (by omega)]
   exact h8 p (by omega)
  ·simp only
   rw [HV (by omega)]
   exact h9 p hp
 ·rintro k ⟨l,c⟩ ⟨h0,h1,h2,h3,h4,h7,h8,h9⟩
  simp only at h1 h2 h3 h4 h7 h8 h9;have hk':k=b.length:=by omega
  subst hk';rw [← hvl,JA] at h7;rw [hvl] at h7;exact hk l c h1 h2 h3 h4 h7 h8 h9
theorem Cc {qs l':List bI}{j:Nat}{g:Int}{nx:List bI×List bI×Int→Option (List bI×List bI)}{Q:List bI×List bI→Prop} (hj:j<qs.length) (hN:qs.length≤1000001) (hg:0≤g∧g<4294967296)
  (hn:Gd (nx (qs.set j ⟨g⟩,l',(j:Int)-1)) Q):Gd (iN qs (j:Int) nx l' g) Q:=by
 unfold iN;refine Gd.ks hj ?_;rw [Hj,rU,bR (by omega),show g%4294967296=g by omega]
 exact hn
theorem Fp {W P B low U V n0:Nat} (h0:n0=low+P*U) (hlow:low<P) (hV:V≤B) (hU:U<W*V):n0<P*(W*B):=by
 have h1:U+1≤W*B:=I2 hU (Nd _ hV);have h2:P*(U+1)≤P*(W*B):=Nd _ h1;rw [M_] at h2;omega
theorem u5 {n0 X M T:Nat} (h:n0=X+M*T) (hb:n0<M):T=0:=by
 rcases Nat.eq_zero_or_pos T with h' | h'
 ·exact h'
 ·have:M*1≤M*T:=Nd _ h'
  omega
theorem Cy {b r134 vs:List bI}{j g q U:Nat}{l0 qs:List bI}{nx:List bI×List bI×Int→Option (List bI×List bI)}{Q:List bI×List bI→Prop}
  (hvs:lK r134 0 (((b.length:Int):Int).toNat)=vs) (hvl:vs.length=b.length) (hvw:Wf vs) (hl:Wf l0) (hjn:j+b.length<l0.length) (hN:l0.length≤1000001) (hj:j<qs.length) (hqN:qs.length≤1000001)
  (hU:nv (l0.drop j)=U) (hV:nv vs≤WB ^ b.length) (hUW:U<WB*nv vs) (hq1:q*nv vs≤U) (hq2:U<(q+1)*nv vs) (hqW:q<WB) (hg:FW WB (nv vs) U q g)
  (hn:∀ l',l'.length=l0.length→Wf l'→nv l'+WB ^ j*(q*nv vs)=nv l0→(∀ p,p<j→l'[p]? = l0[p]?)→Gd (nx (qs.set j ⟨(q:Int)⟩,l',(j:Int)-1)) Q):
  Gd (eO b r134 qs l0 (j:Int) nx (g:Int)) Q:=by
 have hqW':q<4294967296:=hqW;have wjn:i64.wrap ((j:Int)+(b.length:Int))=((j+b.length:Nat):Int):=by rw [bR ⟨by omega,by omega⟩]; omega
 have hjk:(((j+b.length:Nat):Int)).toNat=j+b.length:=by omega
 have h0:=vZ l0 (m:=j) (by omega)
 rw [hU] at h0;have hlow:=oI (hl.take j);rw [Ic,IH (by omega)] at hlow
 have hpow:WB ^ (j+b.length+1)=WB ^ j*(WB*WB ^ b.length):=by rw [Nn,Ng,Nc WB,Na]
 have hbig:nv l0<WB ^ (j+b.length+1):=by rw [hpow]; exact Fp h0 hlow hV hUW
 have habove:nv (l0.drop (j+b.length+1))=0:=u5 (vZ l0 (m:=j+b.length+1) (by omega)) hbig
 have small:∀ l:List bI,l.length=l0.length→Wf l→(∀ p,j+b.length+1≤p→l[p]? = l0[p]?)→nv l<WB ^ (j+b.length+1):=fun l h1 h2 h3=>by
  rw [AN h3 (by omega),habove,Nf,Jj]
  have:=oI (h2.take (j+b.length+1));rw [Ic,IH (by omega)] at this
  exact this
 unfold eO;rw [show ((b.length:Int):Int).toNat=b.length by omega] at hvs
 rw [show ((b.length:Int):Int).toNat=b.length by omega]
 refine F5 (by rw [show ((b.length:Int):Int).toNat=b.length by omega]; exact hvs) hvl hvw hl hjn hN hg.w (fun l bo ca e1 e2 e3 e4 e5 e6 e7 e8 e9=>?_)
 obtain ⟨o,ho⟩:∃ o,l[j+b.length]? = some o:=⟨_,Hi (by omega)⟩
 have how:=e2 o (HE ho);simp only;rw [wjn];refine Gd.ix (by omega) (by rw [hjk]; exact ho) (Gd.ix (by omega) (by rw [hjk]; exact ho) ?_)
 have hnb:i64.wrap (bo+(i64.wrap ((i64.wrap (o.n))-(i64.wrap ca))))=bo+o.n-ca:=by
  rw [bR (n:=o.n) (by omega),bR (n:=ca) (by omega),bR (n:=o.n-ca) (by omega),bR (by omega)]
  omega
 rw [hnb,hjk,rU];have hA:=AL (l:=l) (k:=j+b.length) (x:=o) (v:=⟨(bo+o.n-ca)%4294967296⟩) ho how.1 (by simp only; omega)
 simp only at hA;have hW1:Wf (l.set (j+b.length) ⟨(bo+o.n-ca)%4294967296⟩):=e2.set (by omega)
 have hlen1:(l.set (j+b.length) (⟨(bo+o.n-ca)%4294967296⟩:bI)).length=l0.length:=by simp [e1]
 have hab1:∀ p,j+b.length+1≤p→(l.set (j+b.length) (⟨(bo+o.n-ca)%4294967296⟩:bI))[p]? = l0[p]? := fun p hp=>by
  rw [HV (by omega)]; exact e8 p (by omega)
 have hbe1:∀ p,p<j→(l.set (j+b.length) (⟨(bo+o.n-ca)%4294967296⟩:bI))[p]? = l0[p]? := fun p hp=>by
  rw [HV (by omega)]; exact e9 p hp
 have hsm1:=small _ hlen1 hW1 hab1;generalize l.set (j+b.length) (⟨(bo+o.n-ca)%4294967296⟩:bI)=l1 at hA hW1 hlen1 hab1 hbe1 hsm1;have hPW:((WB ^ (j+b.length+1):Nat):Int)=((WB ^ (j+b.length):Nat):Int)*4294967296:=by rw [Nn,Iw,show ((WB:Nat):Int)=4294967296 from rfl]
 have hZ:(nv l1:Int)+((WB ^ (j+b.length):Nat):Int)*(bo+o.n-ca-(bo+o.n-ca)%4294967296)=nv l0-((WB ^ j:Nat):Int)*((g:Int)*(nv vs:Int)):=by
  rw [← e7,ME,ME,MC,ME];omega
 have hZU:(nv l0:Int)-((WB ^ j:Nat):Int)*((g:Int)*(nv vs:Int))=nv (l0.take j)+((WB ^ j:Nat):Int)*((U:Int)-(g:Int)*(nv vs:Int)):=by
  rw [h0,MF,Iw,ME]; omega
 have hge:=hg.ge; have hle:=hg.le
 refine Gd.ite (fun hneg=>?_) (fun hpos=>?_)
 ·have hneg:bo+o.n-ca<0:=Ht hneg
  have hdiv:bo+o.n-ca-(bo+o.n-ca)%4294967296 = -4294967296:=by omega
  rw [hdiv] at hZ;have hZ1:(nv l1:Int)-((WB ^ (j+b.length+1):Nat):Int)=nv l0-((WB ^ j:Nat):Int)*((g:Int)*(nv vs:Int)):=by
   rw [hPW,← hZ,Int.mul_neg]; omega
  have hgq:g=q+1:=by
   rcases (show g=q∨g=q+1 by omega) with h | h
   ·exfalso
    rw [h] at hZ1 hZU;have h0':(0:Int)≤(U:Int)-(q:Int)*(nv vs:Int):=by
     have h1':((q*nv vs:Nat):Int)≤U:=by omega
     rw [Iw] at h1'; omega
    have:(0:Int)≤((WB ^ j:Nat):Int)*((U:Int)-(q:Int)*(nv vs:Int)):=Int.mul_nonneg (by omega) h0'
    omega
   ·exact h
  refine FY (j:=j) (l1:=l1) (by rw [show ((b.length:Int):Int).toNat=b.length by omega]; exact hvs) hvl hvw hW1 (by omega) (by omega) (fun l2 c f1 f2 f3 f4 f5 f6 f7=>?_)
  obtain ⟨o2,ho2⟩:∃ o2,l2[j+b.length]? = some o2:=⟨_,Hi (by omega)⟩
  have how2:=f2 o2 (HE ho2);simp only;refine Gd.ix (by omega) (by rw [hjk]; exact ho2) (Gd.ix (by omega) (by rw [hjk]; exact ho2) ?_)
  rw [rU,rU,show c%4294967296=c by omega]
  have hg1:u64.wrap ((g:Int)-1)=(q:Int):=by rw [hgq,fD (by omega)]; omega
  rw [hg1];have hB:=vY (l:=l2) (k:=j+b.length) (x:=o2) (v:=⟨(o2.n+c)%4294967296⟩) ho2;simp only at hB;have hW2:Wf (l2.set (j+b.length) ⟨(o2.n+c)%4294967296⟩):=f2.set (by omega)
  have hlen2:(l2.set (j+b.length) (⟨(o2.n+c)%4294967296⟩:bI)).length=l0.length:=by simp [f1,hlen1]
  have hab2:∀ p,j+b.length+1≤p→(l2.set (j+b.length) (⟨(o2.n+c)%4294967296⟩:bI))[p]? = l0[p]? := fun p hp=>by
   rw [HV (by omega),f6 p (by omega)]; exact hab1 p hp
  have hbe2:∀ p,p<j→(l2.set (j+b.length) (⟨(o2.n+c)%4294967296⟩:bI))[p]? = l0[p]? := fun p hp=>by
   rw [HV (by omega),f7 p hp]; exact hbe1 p hp
  have hsm2:=small _ hlen2 hW2 hab2;generalize l2.set (j+b.length) (⟨(o2.n+c)%4294967296⟩:bI)=l3 at hB hW2 hlen2 hab2 hbe2 hsm2;refine Cc hj hqN (by omega) (hn l3 hlen2 hW2 ?_ hbe2)
  obtain ⟨κ,hκ⟩:∃ κ:Nat,o2.n.toNat+c.toNat=((o2.n+c)%4294967296).toNat+WB*κ:=by
   refine ⟨((o2.n+c) / 4294967296).toNat,?_⟩;have eW:WB=4294967296:=rfl;rw [eW]; omega
  have hsum:nv l3+WB ^ (j+b.length+1)*κ=nv l1+WB ^ j*nv vs:=by
   have e:WB ^ (j+b.length)*o2.n.toNat+WB ^ (j+b.length)*c.toNat=WB ^ (j+b.length)*((o2.n+c)%4294967296).toNat+WB ^ (j+b.length)*(WB*κ):=by
    rw [← M_,hκ,M_]
   rw [Nn,Na];omega
  have hVlt:WB ^ j*nv vs<WB ^ (j+b.length+1):=by
   have h1:WB ^ j*nv vs≤WB ^ j*WB ^ b.length:=Nd _ hV;have h2:WB ^ j*WB ^ b.length<WB ^ (j+b.length+1):=by
    rw [← Ng]; exact Nat.pow_lt_pow_right (by decide) (by omega)
   omega
  have hZq:(nv l1:Int)+((WB ^ j*nv vs:Nat):Int)=nv (l0.take j)+((WB ^ j:Nat):Int)*((U:Int)-(q:Int)*(nv vs:Int))+((WB ^ (j+b.length+1):Nat):Int):=by
   rw [hgq] at hZ1 hZU;have e:((WB ^ j:Nat):Int)*((U:Int)-((q+1:Nat):Int)*(nv vs:Int))=((WB ^ j:Nat):Int)*((U:Int)-(q:Int)*(nv vs:Int))-((WB ^ j*nv vs:Nat):Int):=by
    rw [Iw,← ME]
    congr 1
    rw [show ((q+1:Nat):Int)=(q:Int)+1 by omega,Int.add_mul]
    omega
   rw [e] at hZU;omega
  have hnn:(0:Int)≤((WB ^ j:Nat):Int)*((U:Int)-(q:Int)*(nv vs:Int)):=Int.mul_nonneg (by omega) (by
   have:((q*nv vs:Nat):Int)≤U:=by omega
   rw [Iw] at this; omega)
  have hκ1:κ=1:=by
   rcases JG κ 1 with h | h
   ·exfalso
    have:κ=0:=by omega
    rw [this] at hsum; omega
   ·rcases JG 1 κ with h2 | h2
    ·exfalso
     have:WB ^ (j+b.length+1)*2≤WB ^ (j+b.length+1)*κ:=Nd _ h2;omega
    ·omega
  rw [hκ1,Ku] at hsum;have e:((WB ^ j:Nat):Int)*((U:Int)-(q:Int)*(nv vs:Int))=((WB ^ j*U:Nat):Int)-((WB ^ j*(q*nv vs):Nat):Int):=by
   rw [ME,Iw,Iw,Iw]
  rw [e] at hZq;omega
 ·have hpos:¬ bo+o.n-ca<0:=HG hpos
  have hdiv:bo+o.n-ca-(bo+o.n-ca)%4294967296=0:=by omega
  rw [hdiv,Int.mul_zero,Int.add_zero] at hZ;have hgq:g=q:=by
   rcases (show g=q∨g=q+1 by omega) with h | h
   ·exact h
   ·exfalso
    rw [h] at hZ hZU;have h1:(U:Int)-((q+1:Nat):Int)*(nv vs:Int)≤-1:=by
     have:(U:Int)<(((q+1)*nv vs:Nat):Int):=by omega
     rw [Iw] at this; omega
    have h2:((WB ^ j:Nat):Int)*((U:Int)-((q+1:Nat):Int)*(nv vs:Int))≤((WB ^ j:Nat):Int)*(-1):=Int.mul_le_mul_of_nonneg_left h1 (by omega)
    omega
  rw [hgq] at hZ ⊢;refine Cc hj hqN (by omega) (hn l1 hlen1 hW1 ?_ hbe1)
  have e:((WB ^ j:Nat):Int)*((q:Int)*(nv vs:Int))=((WB ^ j*(q*nv vs):Nat):Int):=by rw [Iw,Iw]
  rw [e] at hZ;omega
theorem AM {l:List bI}{m:Nat}{x y:bI} (h1:l[m+1]? = some x) (h2:l[m]? = some y) (h0:nv (l.drop (m+2))=0):nv l=(x.n.toNat*WB+y.n.toNat)*WB ^ m+nv (l.take m):=by
 have e:=rk h2;have e1:nv (l.drop (m+1))=x.n.toNat+WB*nv (l.drop (m+2)):=by rw [mW h1,nv]
 rw [e,e1,h0,Nf,Jj,Nc (WB ^ m),Kl (nv (l.take m)),Kl y.n.toNat,Nc WB x.n.toNat]
theorem Da {l:List bI}{m:Nat}{x y z:bI} (h1:l[m+2]? = some x) (h2:l[m+1]? = some y) (h3:l[m]? = some z) (h0:nv (l.drop (m+3))=0):nv l=((x.n.toNat*WB+y.n.toNat)*WB+z.n.toNat)*WB ^ m+nv (l.take m):=by
 have e:=rk h3;have e1:nv (l.drop (m+1))=y.n.toNat+WB*nv (l.drop (m+2)):=by rw [mW h2,nv]
 have e2:nv (l.drop (m+2))=x.n.toNat+WB*nv (l.drop (m+3)):=by rw [mW h1,nv]
 rw [e,e1,e2,h0,Nf,Jj,Nc (WB ^ m),Kl (nv (l.take m)),Kl z.n.toNat,Nc WB (y.n.toNat+_),Kl y.n.toNat,Nc WB x.n.toNat]
theorem CN {b r134 vs:List bI}{j n2 q U R v1 v2 vl u2 ul top:Nat}{l0 qs:List bI}{nx:List bI×List bI×Int→Option (List bI×List bI)}{Q:List bI×List bI→Prop}
  (hb:b.length=n2+2) (hvs:lK r134 0 (((b.length:Int):Int).toNat)=vs) (hvl:vs.length=b.length) (hl0:j+b.length<l0.length) (hN:l0.length≤1000001)
  (y1 y2 z2:bI) (hy1:vs[n2+1]? = some y1) (hy2:vs[n2]? = some y2) (hz2:l0[j+n2]? = some z2) (e1:y1.n=v1) (e2:y2.n=v2) (e3:z2.n=u2) (w1:v1<4294967296) (hv1:1≤v1)
  (hS:Ae WB R v1 v2 vl u2 ul top (nv vs) U) (hq1:q*nv vs≤U) (hq2:U<(q+1)*nv vs) (hqW:q<WB)
  (hk:∀ g,FW WB (nv vs) U q g→Gd (eO b r134 qs l0 (j:Int) nx (g:Int)) Q)
  {g0 rest0:Nat} (h0:Gs WB R v1 v2 vl u2 ul top (nv vs) U q g0 rest0):
  Gd (fV (fun s1721 n=>lx b r134 qs l0 (j:Int) nx s1721.1 s1721.2 n) eT ((g0:Int),(rest0:Int))) Q:=by
 have hu2:u2<4294967296:=hS.u2;have hv2:v2<4294967296:=hS.v2;have eW:WB=4294967296:=rfl;refine Gd.fV (fun (z:Int×Int)=>∃ g rest:Nat,z=((g:Int),(rest:Int))∧Gs WB R v1 v2 vl u2 ul top (nv vs) U q g rest) (fun z=>z.1.toNat) ?_ eT _ ⟨g0,rest0,rfl,h0⟩ ?_
 ·rintro z nx2 ⟨g,rest,rfl,hG⟩ hnx
  simp only at hnx ⊢;have hrest:rest<4294967296:=hG.rest;have hgW:g≤4294967297:=hG.le;have wn1:i64.wrap ((b.length:Int)-1)=((n2+1:Nat):Int):=by rw [hb,bR (by omega)]; omega
  have wn2:i64.wrap ((b.length:Int)-2)=((n2:Nat):Int):=by rw [hb,bR (by omega)]; omega
  have wjn:i64.wrap ((i64.wrap ((j:Int)+(b.length:Int)))-2)=((j+n2:Nat):Int):=by rw [hb,bR (n:=(j:Int)+_) (by omega),bR (by omega)]; omega
  have dec:q<g→Gd (if decide (4294967296≤(u64.wrap ((rest:Int)+(u64.wrap (y1.n))))) then (eO b r134 qs l0 (j:Int) nx (u64.wrap ((g:Int)-1))) else (nx2 (u64.wrap ((g:Int)-1),u64.wrap ((rest:Int)+(u64.wrap (y1.n)))))) Q:=fun hlt=>by
   have er:u64.wrap ((rest:Int)+(u64.wrap (y1.n)))=((rest+v1:Nat):Int):=by
    rw [e1,fD (n:=(v1:Int)) (by omega),fD (by omega)]; omega
   have eg:u64.wrap ((g:Int)-1)=((g-1:Nat):Int):=by rw [fD (by omega)]; omega
   rw [er,eg];refine Gd.ite (fun h=>hk _ (hG.over hS hq2 hv1 hlt (by rw [eW]; have:=Ht h; omega))) (fun h=>hnx _ ⟨g-1,rest+v1,rfl,hG.next hlt (by rw [eW]; have:=HG h; omega)⟩ ?_)
   simp only [Hj];omega
  unfold lx;rw [hvs,wn1,wn2,wjn];refine Gd.ite (fun h=>?_) (fun h=>?_)
  ·have h:=Ht h
   refine Gd.ix (by omega) (by rw [Hj]; exact hy1) (dec (hG.less hS hq1 hqW (.inl (by rw [eW]; omega))))
  ·have h:=HG h
   refine Gd.ix (by omega) (by rw [Hj]; exact hy2) (Gd.ix (by omega) (by rw [Hj]; exact hz2) ?_)
   have eor:u64.wrap ((BitVec.ofInt (u64).bits (jx .u64 (rest:Int) 32) ||| BitVec.ofInt (u64).bits (u64.wrap (z2.n))).toNat)=((rest*WB+u2:Nat):Int):=by
    rw [tU ⟨by omega,by omega⟩ (by rw [e3]; omega),e3,eW]; omega
   have egv:u64.wrap ((g:Int)*(u64.wrap (y2.n)))=((g*v2:Nat):Int):=by
    have hb2:g*v2≤4294967296*4294967295:=Nat.mul_le_mul (by omega) (by omega)
    rw [e2,fD (n:=(v2:Int)) (by omega),show (g:Int)*(v2:Int)=((g*v2:Nat):Int) by rw [Iw],fD (by omega)]
   rw [eor,egv];refine Gd.ite (fun h2=>Gd.ix (by omega) (by rw [Hj]; exact hy1) (dec (hG.less hS hq1 hqW (.inr ?_)))) (fun h2=>hk g (hG.stop hS hq2 hv1 (by rw [eW]; omega) ?_))
   ·exact Int.ofNat_lt.1 (Ht h2)
   ·have:=HG h2
    exact Int.ofNat_le.1 (Int.not_lt.1 this)
 ·simp only [eT,Hj]
  have:g0≤4294967297:=h0.le;omega
theorem CM {W R v1 v2 vl u2 ul u0 u1 V U q:Nat} (h:Ae W R v1 v2 vl u2 ul (u0*W+u1) V U) (hq:q*V≤U) (hv:1≤v1) (hv1:v1<W) (hW:W≤2*v1) (hu0:u0≤v1) (hu1:u1<W):
  Gs W R v1 v2 vl u2 ul (u0*W+u1) V U q ((u0*W+u1) / v1) ((u0*W+u1)%v1):=by
 have hm:(u0*W+u1)%v1<v1:=KJ _ hv;refine ⟨(M6 hv).2 (h.FP hq),?_,by omega,?_⟩
 ·rw [Nc,Kl,M9]
 ·have h1:u0*W≤v1*W:=HL _ hu0
  have h2:u0*W+u1<(W+2)*v1:=by
   rw [HS,Nc W v1]; omega
  have:=(M5 hv).2 h2;omega
theorem xq {W R u0 u1 v1 v2 vl ul V X:Nat} (hX:X=(u0*W+u1)*R+ul) (hV:V=(v1*W+v2)*R+vl) (hlt:X<V) (hvl:vl<R) (hv2:v2<W):u0≤v1:=by
 rcases JG v1 u0 with h | h
 ·exfalso
  have h1:(v1+1)*W*R≤u0*W*R:=HL _ (HL _ h);have h2:(v2+1)*R≤W*R:=HL _ hv2;have e1:(v1+1)*W*R=v1*W*R+W*R:=by rw [HS,HS,Lx]
  have e2:X=u0*W*R+u1*R+ul:=by rw [hX,HS]
  have e3:V=v1*W*R+v2*R+vl:=by rw [hV,HS]
  rw [HS] at h2;omega
 ·exact h
theorem CS {q W D V P nl nu U0:Nat} (h1:nl+P*(q*V)=nu) (h2:D*V*(P*W)+nu=U0):(q+W*D)*V*P+nl=U0:=by
 have e1:(q+W*D)*V*P=P*(q*V)+D*V*(P*W):=by
  rw [HS,HS,Nc P (q*V)]
  congr 1
  rw [Nc W D,Na D W V,Nc W V,← Na D V W,Na (D*V) W P,Nc W P]
 omega
theorem Ev {W x y V:Nat} (hx:x<W) (hy:y<V):x+W*y<W*V:=by
 have:W*(y+1)≤W*V:=Nd _ hy;rw [M_] at this; omega
theorem Dr {P a x q V U:Nat} (hP:0<P) (h1:a+P*x+P*(q*V)=a+P*U) (h2:U<(q+1)*V):x<V:=by
 have e:P*(x+q*V)=P*U:=by rw [M_]; omega
 have:=Nat.eq_of_mul_eq_mul_left hP e;rw [HS] at h2;omega
theorem Bg {b r134 vs:List bI}{r127:Int}{n2 N U0:Nat}{Q:List bI×List bI→Prop}
  (hb:b.length=n2+2) (hvs:lK r134 0 (((b.length:Int):Int).toNat)=vs) (hvl:vs.length=b.length) (hvw:Wf vs) (hN:N≤1000001)
  (y1 y2:bI) (hy1:vs[n2+1]? = some y1) (hy2:vs[n2]? = some y2) (hnorm:2147483648≤y1.n)
  (qs0 u0:List bI) (hq0:qs0.length+b.length=N) (hqw:Wf qs0) (hu0:u0.length=N) (huw:Wf u0) (hstart:nv (u0.drop qs0.length)<nv vs) (hval:nv u0=U0)
  (hk:∀ qs u,qs.length=qs0.length→Wf qs→u.length=N→Wf u→nv qs*nv vs+nv u=U0→nv u<nv vs →
   Gd (dH (0≤(b.length:Int)∧(b.length:Int)*4≤140737488355328) (jH (fun k s1815 n=>jR r127 u k s1815 n) (fun s1815=>some (qs,s1815)) ((b.length:Int):Int).toNat 0 (List.replicate ((b.length:Int):Int).toNat (⟨0⟩:bI)))) Q):
  Gd (fV (fun s1227 n=>lr b r127 r134 s1227.1 s1227.2.1 s1227.2.2 n) eT (qs0,u0,(qs0.length:Int)-1)) Q:=by
 have hy1w:=hvw y1 (HE hy1); have hy2w:=hvw y2 (HE hy2)
 have hVB:nv vs≤WB ^ b.length:=by have:=oI hvw; rw [hvl] at this; omega
 refine Gd.fV (fun (z:List bI×List bI×Int)=>z.1.length=qs0.length∧Wf z.1∧z.2.1.length=N∧Wf z.2.1∧-1≤z.2.2∧z.2.2<qs0.length∧nv (z.1.drop (z.2.2+1).toNat)*nv vs*WB ^ (z.2.2+1).toNat+nv z.2.1=U0∧nv (z.2.1.drop (z.2.2+1).toNat)<nv vs) (fun z=>(z.2.2+1).toNat) ?_ eT _ ⟨rfl,hqw,hu0,huw,by simp only; omega,by simp only; omega,?_,?_⟩ (by simp only [eT]; omega)
 ·rintro ⟨qs,u,j⟩ nx ⟨h1,h2,h3,h4,h5,h6,h7,h8⟩ hnx
  simp only at h1 h2 h3 h4 h5 h6 h7 h8 hnx ⊢;unfold lr;refine Gd.ite (fun hj=>?_) (fun hj=>?_)
  ·have hj:=Ht hj
   obtain ⟨k,rfl⟩:∃ k:Nat,j=k:=⟨j.toNat,by omega⟩
   rw [show ((k:Int)+1).toNat=k+1 by omega] at h7 h8
   obtain ⟨t0,ht0⟩:∃ t,u[k+n2+2]? = some t:=⟨_,Hi (by omega)⟩
   obtain ⟨t1,ht1⟩:∃ t,u[k+n2+1]? = some t:=⟨_,Hi (by omega)⟩
   obtain ⟨t2,ht2⟩:∃ t,u[k+n2]? = some t:=⟨_,Hi (by omega)⟩
   have w0:=h4 t0 (HE ht0); have w1:=h4 t1 (HE ht1); have w2:=h4 t2 (HE ht2)
   have wjn:i64.wrap ((k:Int)+(b.length:Int))=((k+n2+2:Nat):Int):=by rw [hb,bR (by omega)]; omega
   have wjm:i64.wrap (((k+n2+2:Nat):Int)-1)=((k+n2+1:Nat):Int):=by rw [bR (by omega)]; omega
   have wn1:i64.wrap ((b.length:Int)-1)=((n2+1:Nat):Int):=by rw [hb,bR (by omega)]; omega
   rw [hvs,wjn,wjm,wn1];have ey1:u64.wrap y1.n=y1.n:=fD (by omega)
   refine Gd.ix (by omega) (by rw [Hj]; exact ht0) (Gd.ix (by omega) (by rw [Hj]; exact ht1) (Gd.ix (by omega) (by rw [Hj]; exact hy1) (Gd.nd (by rw [ey1]; omega) (Gd.ix (by omega) (by rw [Hj]; exact hy1) (Gd.nd (by rw [ey1]; omega) ?_)))))
   rw [fD (n:=t0.n) (by omega),tU w0 w1,ey1]
   obtain ⟨x,hx⟩:∃ x,u[k]? = some x:=⟨_,Hi (by omega)⟩
   have hxw:=h4 x (HE hx);have hU1:nv (u.drop k)=x.n.toNat+WB*nv (u.drop (k+1)):=by rw [mW hx,nv]
   have hUlt:nv (u.drop k)<WB*nv vs:=by rw [hU1]; exact Ev (by show x.n.toNat<4294967296; omega) h8
   have hVlt:nv vs<WB ^ (n2+2):=by have:=oI hvw; rw [hvl,hb] at this; exact this
   have hz:nv (u.drop (k+1+(n2+2)))=0:=by
    have e:=vZ (u.drop (k+1)) (m:=n2+2) (by rw [Jq]; omega)
    rw [Jt] at e;exact u5 e (by omega)
   have hVe:=AM hy1 hy2 (by rw [ML (by omega)]; rfl)
   have hXe:=AM (l:=u.drop (k+1)) (m:=n2) (x:=t0) (y:=t1) (by rw [Ir,show k+1+(n2+1)=k+n2+2 by omega]; exact ht0) (by rw [Ir,show k+1+n2=k+n2+1 by omega]; exact ht1) (by rw [Jt]; exact hz)
   have hUe:=Da (l:=u.drop k) (m:=n2) (x:=t0) (y:=t1) (z:=t2) (by rw [Ir,show k+(n2+2)=k+n2+2 by omega]; exact ht0) (by rw [Ir,show k+(n2+1)=k+n2+1 by omega]; exact ht1) (by rw [Ir]; exact ht2) (by rw [Jt,show k+(n2+3)=k+1+(n2+2) by omega]; exact hz)
   have hvl':nv (vs.take n2)<WB ^ n2:=by have:=oI (hvw.take n2); rw [Ic,IH (by omega)] at this; exact this
   have hul':nv ((u.drop k).take n2)<WB ^ n2:=by
    have:=oI (l:=(u.drop k).take n2) (fun z hz=>h4 z (List.mem_of_mem_drop (JY hz)));rw [Ic,Jq,IH (by omega)] at this; exact this
   have hS:Ae WB (WB ^ n2) y1.n.toNat y2.n.toNat (nv (vs.take n2)) t2.n.toNat (nv ((u.drop k).take n2)) (t0.n.toNat*WB+t1.n.toNat) (nv vs) (nv (u.drop k)):=
    ⟨hVe,hUe,hvl',hul',by show t2.n.toNat<4294967296; omega,by show y2.n.toNat<4294967296; omega⟩
   have hle:t0.n.toNat≤y1.n.toNat:=xq hXe hVe h8 hvl' (by show y2.n.toNat<4294967296; omega)
   have hVpos:0<nv vs:=by omega
   obtain ⟨q,hq1,hq2,hqW⟩:∃ q,q*nv vs≤nv (u.drop k)∧nv (u.drop k)<(q+1)*nv vs∧q<WB:=by
    refine ⟨nv (u.drop k) / nv vs,Nat.div_mul_le_self _ _,?_,(M5 hVpos).2 hUlt⟩;have:=Hq (nv (u.drop k) / nv vs);exact (M5 hVpos).1 this
   have hG:=CM hS hq1 (show 1≤y1.n.toNat by omega) (show y1.n.toNat<WB by show y1.n.toNat<4294967296; omega) (show WB≤2*y1.n.toNat by show 4294967296≤2*y1.n.toNat; omega) hle (show t1.n.toNat<WB by show t1.n.toNat<4294967296; omega)
   have hg0:=hG.le;have etop:t0.n*4294967296+t1.n=((t0.n.toNat*WB+t1.n.toNat:Nat):Int):=by
    show _=((t0.n.toNat*4294967296+t1.n.toNat:Nat):Int); omega
   have ey:y1.n=((y1.n.toNat:Nat):Int):=by omega
   have ed:Int.tdiv (t0.n*4294967296+t1.n) y1.n=(((t0.n.toNat*WB+t1.n.toNat) / y1.n.toNat:Nat):Int):=by
    rw [etop,ey]; rfl
   have em:Int.tmod (t0.n*4294967296+t1.n) y1.n=(((t0.n.toNat*WB+t1.n.toNat)%y1.n.toNat:Nat):Int):=by
    rw [etop,ey]; rfl
   rw [ed,em];generalize (t0.n.toNat*WB+t1.n.toNat) / y1.n.toNat=g0 at hG hg0 ⊢;generalize (t0.n.toNat*WB+t1.n.toNat)%y1.n.toNat=rest0 at hG ⊢;have eW:(WB:Nat)=4294967296:=rfl;rw [eW] at hg0;rw [fD (n:=(g0:Int)) (by omega)]
   refine CN hb hvs hvl (by omega) (by omega) y1 y2 t2 hy1 hy2 ht2 (by omega) (by omega) (by omega) (by omega) (by omega) hS hq1 hq2 hqW (fun g hg=>?_) hG
   refine Cy hvs hvl hvw h4 (by omega) (by omega) (by omega) (by omega) rfl hVB hUlt hq1 hq2 hqW hg (fun l' f1 f2 f3 f4=>?_)
   have ek:((k:Int)-1+1).toNat=k:=by omega
   refine hnx _ ⟨by rw [HI]; exact h1,h2.set (by rw [eW] at hqW; omega),by simp only; omega,f2,by simp only; omega,by simp only; omega,?_,?_⟩ (by simp only; omega)
   ·simp only
    rw [ek,mW (H7 (by omega)),nv,Kg (by omega)]
    rw [Hj];rw [Nn] at h7;exact CS f3 h7
   ·simp only
    rw [ek];have e1:=vZ l' (m:=k) (by omega)
    have e2:=vZ u (m:=k) (by omega)
    have e3:l'.take k=u.take k:=by
     apply Jx;intro i;rw [ID,ID]
     by_cases hi:i<k
     ·rw [Hv hi,Hv hi]; exact f4 i hi
     ·rw [Hs hi,Hs hi]
    rw [e3] at e1;refine Dr (a:=nv (u.take k)) (P:=WB ^ k) (Nl (by decide)) ?_ hq2
    omega
  ·have hj:=HG hj
   rw [show (j+1).toNat=0 by omega,Jb,No,Ku] at h7
   rw [show (j+1).toNat=0 by omega,Jb] at h8
   exact hk qs u h1 h2 h3 h4 h7 h8
 ·simp only
  rw [show ((qs0.length:Int)-1+1).toNat=qs0.length by omega,KE]
  simp [nv,hval]
 ·simp only
  rw [show ((qs0.length:Int)-1+1).toNat=qs0.length by omega]
  exact hstart
theorem wG {W S M u0 u1 hi:Nat} (hW:W=S*M) (hS:0<S):
  (u0+W*(u1+W*hi)) / S%W=(u1*W+u0) / S%W:=by
 have e:u0+W*(u1+W*hi)=(u1*W+u0)+S*(M*(W*hi)):=by
  have e1:W*(W*hi)=S*(M*(W*hi)):=by rw [← Na S M,← hW]
  rw [M_,e1,Nc W u1]; omega
 rw [e,Nat.add_mul_div_left _ _ hS];have e2:M*(W*hi)=W*(M*hi):=by rw [← Na,Nc M W,Na]
 rw [e2,Nat.add_mul_mod_self_left]
theorem xI {W S u0 T:Nat} (hu:u0<W):(u0+W*T) / S / W=T / S:=by
 rw [Nat.div_div_eq_div_mul,Nc S W,← Nat.div_div_eq_div_mul,Nat.add_mul_div_left _ _ (by omega),M4 hu,Ii]
theorem FO {n:Int}{k:Nat} (hk:k≤64):jW .u64 n (k:Int)=n / (2 ^ k:Nat):=by
 unfold jW;rw [show (min ((k:Int)).toNat u64.bits)=k by show min ((k:Int)).toNat 64=k; omega,Kn _ (Int.le_of_lt (Int.pow_pos (by decide)))]
 rw [Int.natCast_pow]; rfl
theorem yW {A P d W D D' Z:Nat} (h:A+P*D=Z) (hd:D%W=d) (hD:D / W=D'):(A+P*d)+P*W*D'=Z:=by
 have e:d+W*D'=D:=by rw [← hd,← hD,M9]
 rw [Na P W,J8,← M_,e,h]
theorem Ab {n s:Nat} (hs:s≤31) {u:List bI} (hu:Wf u) (hl:n<u.length) (hz:u.length≤1000001) {qs:List bI}{Q:List bI×List bI→Prop} (hlt:nv u / 2 ^ s<WB ^ n)
  (hk:∀ r,Wf r→r.length=n→nv r=nv u / 2 ^ s→Q (qs,r)):
  Gd (jH (fun k s1815 n=>jR (s:Int) u k s1815 n) (fun s1815=>some (qs,s1815)) n 0 (List.replicate n (⟨0⟩:bI))) Q:=by
 have hS:0<(2:Nat) ^ s:=Nl (by decide)
 have hWS:WB=2 ^ s*2 ^ (32-s):=by rw [← Ng,show s+(32-s)=32 by omega]
 refine Gd.jH (fun m k (z:List bI)=>k+m=n∧z.length=n∧Wf z∧nv (z.take k)+WB ^ k*(nv (u.drop k) / 2 ^ s)=nv u / 2 ^ s) ?_ ?_ _ 0 _ ⟨by omega,by simp,fun y hy=>?_,by simp [nv]⟩
 ·rintro m k l nx ⟨h0,h1,h2,h3⟩ hnx
  obtain ⟨x0,hx0⟩:∃ t,u[k]? = some t:=⟨_,Hi (by omega)⟩
  obtain ⟨x1,hx1⟩:∃ t,u[k+1]? = some t:=⟨_,Hi (by omega)⟩
  have w0:=hu x0 (HE hx0); have w1:=hu x1 (HE hx1)
  have wk:i64.wrap ((k:Int)+1)=((k+1:Nat):Int):=by rw [bR (by omega)]; omega
  unfold jR;rw [wk];refine Gd.ix (by omega) (by rw [Hj]; exact hx1) (Gd.ix (by omega) (by rw [Hj]; exact hx0) (Gd.nd (by omega) (Gd.ks (by omega) ?_)))
  rw [fD (n:=x1.n) (by omega),tU w1 w0,FO (by omega),rU,Hj]
  have e1:x1.n*4294967296+x0.n=((x1.n.toNat*WB+x0.n.toNat:Nat):Int):=by
   show _=((x1.n.toNat*4294967296+x0.n.toNat:Nat):Int); omega
  have e2:(x1.n*4294967296+x0.n) / ((2 ^ s:Nat):Int)%4294967296=(((x1.n.toNat*WB+x0.n.toNat) / 2 ^ s%WB:Nat):Int):=by
   rw [e1]; rfl
  rw [e2];have hd:nv (u.drop k)=x0.n.toNat+WB*nv (u.drop (k+1)):=by rw [mW hx0,nv]
  have hd1:nv (u.drop (k+1))=x1.n.toNat+WB*nv (u.drop (k+2)):=by rw [mW hx1,nv]
  have hm:=wG (u0:=x0.n.toNat) (u1:=x1.n.toNat) (hi:=nv (u.drop (k+2))) hWS hS;rw [← hd1,← hd] at hm;have hn:=xI (W:=WB) (S:=2 ^ s) (u0:=x0.n.toNat) (T:=nv (u.drop (k+1))) (by show x0.n.toNat<4294967296; omega)
  rw [← hd] at hn;have hlt':(x1.n.toNat*WB+x0.n.toNat) / 2 ^ s%WB<WB:=KJ _ (by decide)
  refine hnx _ ⟨by omega,by rw [HI]; exact h1,h2.set ⟨by omega,by have:(WB:Nat)=4294967296:=rfl; rw [this] at hlt'; omega⟩,?_⟩
  rw [rr (by omega),pX,Ic,IH (by omega),Nn,Hj]
  exact yW h3 hm hn
 ·rintro k l ⟨h0,h1,h2,h3⟩
  have hk':k=n:=by omega
  subst hk';rw [HR (by omega)] at h3
  have h0':=u5 h3.symm hlt;rw [h0',Nf,Jj] at h3;exact Gd.ret (hk l h2 h1 h3)
 ·rw [MY] at hy
  rw [hy.2]; simp
theorem Fv {q V a b S u:Nat} (hS:0<S) (hV:V=b*S) (h:q*V+u=a*S) (hu:u<V):u / S=a-q*b∧a-q*b<b∧q*b≤a:=by
 have e:q*V=q*b*S:=by rw [hV,Na]
 have hle:q*b≤a:=by
  have h1:q*b*S≤a*S:=by omega
  exact Nat.le_of_mul_le_mul_right h1 hS
 have e2:u=(a-q*b)*S:=by rw [Nat.mul_sub_right_distrib]; omega
 refine ⟨by rw [e2,Nat.mul_div_cancel _ hS],?_,hle⟩
 rw [e2,hV] at hu;exact Nat.lt_of_mul_lt_mul_right hu
theorem F0 {q a b:Nat} (h1:a-q*b<b) (h2:q*b≤a):q=a / b∧a-q*b=a%b:=by
 have:=(Nat.div_mod_unique (a:=a) (b:=b) (c:=a-q*b) (d:=q) (by omega)).2 ⟨by rw [Nc b q]; omega,h1⟩
 exact ⟨this.1.symm,this.2.symm⟩
theorem DF {W S M x B P:Nat} (hWS:W=S*M) (hx:x*S<W) (hB:B<(x+1)*P):B*S<W*P:=by
 have h1:x<M:=by rw [hWS,Nc] at hx; exact M8 hx
 have h2:(x+1)*S≤W:=by rw [hWS,Nc S M]; exact HL _ h1
 have hS:0<S:=by
  rcases Nat.eq_zero_or_pos S with h | h
  ·rw [h] at hWS; simp at hWS; rw [hWS] at hx; omega
  ·exact h
 have h3:B*S<(x+1)*P*S:=(Nat.mul_lt_mul_right hS).2 hB;have h4:(x+1)*P*S=(x+1)*S*P:=by rw [Na,Nc P S,← Na]
 have h5:(x+1)*S*P≤W*P:=HL _ h2;omega
theorem Cz {a b:List bI} (ha:Wf a) (hb:Wf b) (hta:qV a) (htb:qV b) (hne:b≠[]) (hza:a.length≤900000) (hzb:b.length≤900000):
  Gd (kL a b) (fun r=>Wf r.1∧Wf r.2∧r.1.length≤a.length∧r.2.length≤a.length∧nv r.1=nv a / nv b∧nv r.2=nv a%nv b):=by
 unfold kL;refine Gd.eV (Cn ha hb hta htb (by omega) (by omega)) (fun c hc=>Gd.ite (fun h=>?_) (fun h=>?_))
 ·have hlt:=hc.1.1 (Ht h)
  exact Gd.ret ⟨Wf.nil,ha,by simp,HQ _,by rw [M4 hlt]; rfl,by rw [JB hlt]⟩
 ·have hge:nv b≤nv a:=by
   have h:=HG h;have:=mt hc.1.2 h;omega
  have hbl:0<b.length:=MW.2 hne;have hle:b.length≤a.length:=by
   rcases JG a.length b.length with h | h
   ·have:=qB ha hb htb h; omega
   ·exact h
  refine Gd.ite (fun h1=>?_) (fun h1=>?_)
  ·have h1:=Ht h1
   have h1:b.length=1:=by omega
   obtain ⟨x,rfl⟩:=MS.1 h1;have hx:=hb x (by simp)
   have hx0:x.n≠0:=htb x (by simp)
   refine Gd.ix (y:=x) (by omega) (by simp) (Gd.eV (yS ha (by omega) (d:=x.n) (by omega)) (fun r hr=>Gd.ret ?_))
   obtain ⟨r1,r2,r3,r4⟩:=hr;have hm:nv a%x.n.toNat<x.n.toNat:=KJ _ (by omega)
   refine ⟨r1,?_,by simp only; omega,by simp at hle ⊢; omega,by rw [r3,vX],?_⟩
   ·refine Wf.one ?_
    rw [r4]; omega
   ·simp only
    rw [vX,vX,r4,Hj]
  ·have h1:=HG h1
   obtain ⟨n2,hn2⟩:∃ n2,b.length=n2+2:=⟨b.length-2,by omega⟩
   have wn1:i64.wrap ((b.length:Int)-1)=((n2+1:Nat):Int):=by rw [hn2,bR (by omega)]; omega
   have wab:i64.wrap ((a.length:Int)-(b.length:Int))=((a.length-b.length:Nat):Int):=by rw [bR (by omega)]; omega
   have wab1:i64.wrap (((a.length-b.length:Nat):Int)+1)=((a.length-b.length+1:Nat):Int):=by rw [bR (by omega)]; omega
   rw [wn1,wab,wab1];obtain ⟨x,hx⟩:∃ t,b[n2+1]? = some t:=⟨_,Hi (by omega)⟩
   have hxw:=hb x (HE hx);have hx0:x.n≠0:=htb x (by rw [MQ,hn2]; exact hx)
   refine Gd.ix (by omega) (by rw [Hj]; exact hx) (Gd.eV (F4 (x:=x.n) (by omega) hxw.2) ?_)
   rintro sv ⟨s,rfl,hs1,hs2,hs3⟩;refine Gd.eV (wm ha (by omega) hs1) (fun u0 hu0=>Gd.eV (wm hb (by omega) hs1) (fun v0 hv0=>?_))
   obtain ⟨p1,p2,p3,p4⟩:=hu0;obtain ⟨q1,q2,q3,t,q4,q5⟩:=hv0;refine Gd.nd (by omega) (Gd.nd (by omega) ?_)
   have hS:0<(2:Nat) ^ s:=Nl (by decide)
   have hWS:WB=2 ^ s*2 ^ (32-s):=by rw [← Ng,show s+(32-s)=32 by omega]
   have hbs:nv b=nv (b.take (n2+1))+WB ^ (n2+1)*x.n.toNat:=by
    have:=nb hx;rw [HR (by omega)] at this; exact this
   have hbt:nv (b.take (n2+1))<WB ^ (n2+1):=by
    have:=oI (hb.take (n2+1)); rw [Ic,IH (by omega)] at this; exact this
   have hb2:nv b<(x.n.toNat+1)*WB ^ (n2+1):=by rw [HS,Nc x.n.toNat]; omega
   have hvlt:nv v0<WB ^ (n2+2):=by
    rw [q3,Nn,Nc _ WB];exact DF hWS hs3 hb2
   have hvs:nv (v0.take b.length)=nv v0∧Wf (v0.take b.length)∧(v0.take b.length).length=b.length:=by
    refine ⟨?_,q1.take _,by rw [Ic]; omega⟩
    have e:=vZ v0 (m:=b.length) (by omega)
    have hz:nv (v0.drop b.length)=0:=u5 e (by rw [hn2]; exact hvlt)
    rw [hz,Nf,Jj] at e;exact e.symm
   have hsl:lK v0 0 (((b.length:Int):Int).toNat)=v0.take b.length:=by
    rw [Hj]; rfl
   generalize v0.take b.length=vs at hvs hsl;obtain ⟨v1,v2,v3⟩:=hvs;obtain ⟨y1,hy1⟩:∃ t,vs[n2+1]? = some t:=⟨_,Hi (by omega)⟩
   obtain ⟨y2,hy2⟩:∃ t,vs[n2]? = some t:=⟨_,Hi (by omega)⟩
   have hy1w:=v2 y1 (HE hy1);have hVS:nv vs=nv b*2 ^ s:=by rw [v1,q3]
   have hnorm:2147483648≤y1.n:=by
    have e1:nv vs=nv (vs.take (n2+1))+WB ^ (n2+1)*y1.n.toNat:=by
     have:=nb hy1;rw [HR (by omega)] at this; exact this
    have e2:nv (vs.take (n2+1))<WB ^ (n2+1):=by
     have:=oI (v2.take (n2+1)); rw [Ic,IH (by omega)] at this; exact this
    have e3:WB ^ (n2+1)*x.n.toNat*2 ^ s≤nv b*2 ^ s:=HL _ (by omega)
    rw [Na] at e3;have e4:WB ^ (n2+1)*(x.n.toNat*2 ^ s)<WB ^ (n2+1)*(y1.n.toNat+1):=by rw [M_ (WB ^ (n2+1)) y1.n.toNat 1]; omega
    have e5:=M8 e4;omega
   have hst:nv (u0.drop (a.length-b.length+1))<nv vs:=by
    have e:=vZ u0 (m:=a.length-b.length+1) (by omega)
    have h1:WB ^ (n2+1)≤nv b:=by have:=yG hb htb hne; rw [hn2] at this; exact this
    have h2:nv a<WB ^ a.length:=oI ha;have h3:nv u0<WB ^ a.length*2 ^ s:=by rw [p3]; exact (Nat.mul_lt_mul_right hS).2 h2
    have h4:WB ^ a.length*2 ^ s=WB ^ (a.length-b.length+1)*(WB ^ (n2+1)*2 ^ s):=by
     rw [← Na,← Ng]; congr 2; omega
    have h5:nv (u0.drop (a.length-b.length+1))<WB ^ (n2+1)*2 ^ s:=by
     rw [h4] at h3;exact M8 (a:=WB ^ (a.length-b.length+1)) (by omega)
    have h6:WB ^ (n2+1)*2 ^ s≤nv b*2 ^ s:=HL _ h1;omega
   have hstart:((a.length-b.length:Nat):Int)=((List.replicate (a.length-b.length+1) (⟨0⟩:bI)).length:Int)-1:=by
    rw [I0]; omega
   rw [Hj,hstart];refine Bg (N:=a.length+1) (U0:=nv a*2 ^ s) hn2 hsl v3 v2 (by omega) y1 y2 hy1 hy2 hnorm _ u0 (by rw [I0]; omega) (fun y hy=>by rw [MY] at hy; rw [hy.2]; simp) p2 p1 (by rw [I0]; exact hst) p3 ?_
   intro qs u f1 f2 f3 f4 f5 f6;obtain ⟨g1,g2,g3⟩:=Fv hS hVS f5 f6;obtain ⟨g4,g5⟩:=F0 g2 g3;refine Gd.nd (by omega) ?_
   rw [Hj];refine Ab hs1 f4 (by omega) (by omega) ?_ (fun r r1 r2 r3=>⟨f2,r1,?_,?_,g4,?_⟩)
   ·rw [g1]; have:=oI hb; omega
   ·simp only; rw [f1,I0]; omega
   ·simp only; omega
   ·simp only; rw [r3,g1,g5]
theorem rF {w:List bI} (hw:Wf w) (ht:qV w):nv w=0↔w=[]:=by
 constructor
 ·intro h
  rcases MM w with h' | ⟨a,y,h'⟩
  ·exact h'
  ·have:=yG hw ht (by rw [h']; simp)
   have hp:0<WB ^ (w.length-1):=Nl (by decide)
   omega
 ·intro h; rw [h]; rfl
theorem C_ {a b:List bI} (ha:Wf a) (hb:Wf b) (hta:qV a) (htb:qV b) (h:nv a=nv b):a=b:=by
 rcases KV a.length b.length with h1 | h1 | h1
 ·have:=qB ha hb htb h1; omega
 ·exact C9 ha hb h1 h
 ·have:=qB hb ha hta h1; omega
theorem oK.ext' {a b:LI} (ha:oK a) (hb:oK b) (h:eY a=eY b):a=b:=by
 obtain ⟨am,aw⟩:=a; obtain ⟨bm,bw⟩:=b
 have za:=rF ha.wf ha.tp; have zb:=rF hb.wf hb.tp
 have sa:=ha.sign; have sb:=hb.sign
 simp only [eY] at h za zb sa sb;have key:am=bm→aw=bw→(aB.mk am aw)=aB.mk bm bw:=by rintro rfl rfl; rfl
 cases am <;> cases bm <;> simp at h sa sb
 ·exact key rfl (C_ ha.wf hb.wf ha.tp hb.tp (by omega))
 ·have:nv bw=0:=by omega
  exact absurd (zb.1 this) sb
 ·have:nv aw=0:=by omega
  exact absurd (za.1 this) sa
 ·exact key rfl (C_ ha.wf hb.wf ha.tp hb.tp (by omega))
def FU (A B:Nat):Nat:=if B=0 then 0 else 2*Nat.log2 (A*B)+2+(if A<B then 1 else 0)
theorem Fz {A B:Nat} (hB:B≠0):FU B (A%B)<FU A B:=by
 unfold FU;rw [Hs hB]
 by_cases hR:A%B=0
 ·rw [Hv hR]; omega
 ·rw [Hs hR]
  have hlt:A%B<B:=KJ _ (by omega)
  rw [Hs (by omega:¬ B<A%B)]
  by_cases hAB:A<B
  ·rw [Hv hAB,JB hAB,Nc B A]; omega
  ·rw [Hs hAB]
   have hle:2*(B*(A%B))≤A*B:=by
    have h1:A%B+B*(A / B)=A:=M9 A B;have h2:1≤A / B:=(M6 (by omega)).2 (by omega)
    have h3:B*1≤B*(A / B):=Nd _ h2;have h4:B*(2*(A%B))≤B*A:=Nd _ (by omega)
    rw [Nc A B,← Na,Nc 2 B,Na]; exact h4
   have hpos:0<B*(A%B):=Nat.mul_pos (by omega) (by omega)
   have h5:Nat.log2 (B*(A%B))<Nat.log2 (A*B):=by
    have h6:2 ^ Nat.log2 (B*(A%B))≤B*(A%B):=Nat.log2_self_le (by omega)
    have h7:2 ^ (Nat.log2 (B*(A%B))+1)≤A*B:=by rw [Nn]; omega
    exact (Nat.le_log2 (by omega)).2 h7
   omega
theorem u_ (n:Nat):WB ^ n=2 ^ (32*n):=by rw [Nk]
theorem Fy {a b:List bI} (ha:Wf a) (hb:Wf b) (hza:a.length≤900000) (hzb:b.length≤900000):FU (nv a) (nv b)≤200000000:=by
 unfold FU
 split
 ·omega
 ·rename_i h
  have h1:Nat.log2 (nv a*nv b)≤64000000:=by
   by_cases h0:nv a*nv b=0
   ·rw [h0]; decide
   ·have h2:nv a*nv b<2 ^ (32*(a.length+b.length)):=by
     rw [← u_,Ng];exact Nat.mul_lt_mul_of_lt_of_le (oI ha) (Nat.le_of_lt (oI hb)) (Nl (by decide))
    have:=(Nat.log2_lt h0).2 h2;omega
  split <;> omega
theorem sign_zero {a:LI} (h:oK a):eH a=0↔nv a.words=0:=by
 unfold eH;rw [rF h.wf h.tp]
 by_cases h1:a.words=[]
 ·simp [h1]
 ·have:a.words.length≠0:=fun h=>h1 (H6 h)
  rw [Hs (by simp; exact h1)]
  constructor
  ·intro h; split at h <;> omega
  ·intro h; exact absurd h h1
theorem oK.pos {w:List bI} (hw:Wf w) (ht:qV w):oK (aB.mk false w):=⟨hw,ht,fun h=>by simp at h⟩
theorem CL {a b:LI} (ha:oK a) (hb:oK b) {L:Nat} (hL:L≤900000) (hza:a.words.length≤L) (hzb:b.words.length≤L):
  Gd (l8 a b) (fun r=>oK r∧r.minus=false∧r.words.length≤L∧nv r.words=Nat.gcd (nv a.words) (nv b.words)):=by
 unfold l8;refine Gd.fV (fun (z:Bool×List bI×Bool×List bI)=>z.1=false∧z.2.2.1=false∧Wf z.2.1∧qV z.2.1∧Wf z.2.2.2∧qV z.2.2.2∧z.2.1.length≤L∧z.2.2.2.length≤L∧Nat.gcd (nv z.2.2.2) (nv z.2.1)=Nat.gcd (nv a.words) (nv b.words)) (fun z=>FU (nv z.2.2.2) (nv z.2.1)) ?_ eT _ ⟨rfl,rfl,hb.wf,hb.tp,ha.wf,ha.tp,hzb,hza,rfl⟩ ?_
 ·rintro ⟨c1,l1,c2,l2⟩ nx ⟨h1,h2,h3,h4,h5,h6,h7,h8,h9⟩ hnx
  simp only at h1 h2 h3 h4 h5 h6 h7 h8 h9 hnx ⊢;subst h1 h2;unfold ql oA;have hs:=sign_zero (oK.pos h3 h4);simp only at hs;refine Gd.ite (fun h=>?_) (fun h=>?_)
  ·have hB:nv l1≠0:=by
    intro e;rw [hs.2 e] at h; simp at h
   refine Gd.eV (Cz h5 h3 h6 h4 (fun e=>hB (by rw [e]; rfl)) (by omega) (by omega)) (fun r hr=>?_)
   obtain ⟨r1,r2,r3,r4,r5,r6⟩:=hr;refine Gd.nd (by omega) (Gd.eV (pq false r.2 r2 (by omega)) (fun s hs'=>?_))
   obtain ⟨s1,s2,s3,s4⟩:=hs';have hm:s.minus=false:=by
    rcases Mz s.minus with h | h
    ·have:=s4.1 h; simp at this
    ·exact h
   refine hnx _ ⟨hm,rfl,s1.wf,s1.tp,h3,h4,by simp only; omega,h7,?_⟩ ?_
   ·simp only
    rw [s3,r6,← h9,← Nat.gcd_comm (nv l1) (nv l2),Nat.gcd_rec (nv l1) (nv l2),Nat.gcd_comm]
   ·simp only
    rw [s3,r6];exact Fz hB
  ·have hB:nv l1=0:=by
    apply hs.1;simpa using h
   rw [hB,Nat.gcd_zero_right] at h9;exact Gd.ret ⟨oK.pos h5 h6,rfl,h8,h9⟩
 ·simp only [eT]
  have:=Fy ha.wf hb.wf (by omega) (by omega)
  omega
theorem E8 {a b:LI} (ha:oK a) (hb:oK b) (hm:a.minus=false) (h0:nv b.words≠0) (hza:a.words.length≤900000) (hzb:b.words.length≤900000):
  Gd (cJ a b) (fun r=>oK r.1∧r.1.minus=false∧r.1.words.length≤a.words.length∧nv r.1.words=nv a.words / nv b.words):=by
 unfold cJ jE;refine Gd.eV (Cz ha.wf hb.wf ha.tp hb.tp (fun e=>h0 (by rw [e]; rfl)) hza hzb) (fun r hr=>?_)
 obtain ⟨r1,r2,r3,r4,r5,r6⟩:=hr;refine Gd.nd (by omega) (Gd.eV (pq _ _ r1 (by omega)) (fun s hs=>Gd.nd (by omega) (Gd.eV (pq _ _ r2 (by omega)) (fun t ht=>?_))))
 obtain ⟨s1,s2,s3,s4⟩:=hs;obtain ⟨t1,t2,t3,t4⟩:=ht;rw [hm] at s4 t4;have hsm:s.minus=false:=by
  rcases Mz s.minus with h | h
  ·have:=s4.1 h; simp at this
  ·exact h
 refine Gd.ite (fun h=>?_) (fun h=>Gd.ret ⟨s1,hsm,by simp only; omega,by simp only; rw [s3,r5]⟩)
 have:=t4.1 h; simp at this
abbrev LR:=aA
structure lG (r:LR):Prop where
 n:oK r.N
 d:oK r.D
 pos:r.D.minus=false
 nz:nv r.D.words≠0
 Gx:Nat.Coprime (nv r.N.words) (nv r.D.words)
def rv (r:LR):Rat:=Rat.divInt (eY r.N) (eY r.D)
theorem ml {a:LI} (h:a.minus=false):eY a=(nv a.words:Nat):=by unfold eY; rw [h]; rfl
theorem iJ (a:LI):(eY a).natAbs=nv a.words:=by
 unfold eY
 split <;> omega
theorem lG.eq {r:LR} (h:lG r):rv r=Rat.mk' (eY r.N) (nv r.D.words) h.nz (by rw [iJ]; exact h.Gx):=by
 unfold rv;rw [ml h.pos];exact (Rat.num_divInt_den (Rat.mk' (eY r.N) (nv r.D.words) h.nz (by rw [iJ]; exact h.Gx)))
theorem lG.num {r:LR} (h:lG r):(rv r).num=eY r.N:=by rw [h.eq]
theorem lG.den {r:LR} (h:lG r):(rv r).den=nv r.D.words:=by rw [h.eq]
theorem lG.ext' {r s:LR} (h:lG r) (k:lG s) (e:rv r=rv s):r=s:=by
 have e1:eY r.N=eY s.N:=by rw [← h.num,← k.num,e]
 have e2:nv r.D.words=nv s.D.words:=by rw [← h.den,← k.den,e]
 have e3:=h.n.ext' k.n e1;have e4:=h.d.ext' k.d (by rw [ml h.pos,ml k.pos,e2])
 obtain ⟨a,b⟩:=r; obtain ⟨c,d⟩:=s
 simp only at e3 e4; rw [e3,e4]
def RL (r:LR) (L:Nat):Prop:=r.N.words.length≤L∧r.D.words.length≤L
theorem RL.mono {r:LR}{L M:Nat} (h:RL r L) (hM:L≤M):RL r M:=⟨I2 h.1 hM,I2 h.2 hM⟩
theorem s5 {g a b:Int} (hg:g≠0) (hb:b≠0):Rat.divInt (g*a) (g*b)=Rat.divInt a b:=by
 rw [Rat.divInt_eq_divInt_iff (Int.mul_ne_zero hg hb) hb];rw [Int.mul_comm g a,MD]
theorem F9 {n d g:LI} (hn:oK n) (hd:oK d) (hg:oK g) (hdm:d.minus=false) (hd0:nv d.words≠0) (hgv:nv g.words=Nat.gcd (nv n.words) (nv d.words))
  (hzn:n.words.length≤900000) (hzd:d.words.length≤900000) (hzg:g.words.length≤900000):
  Gd ((cJ (aB.mk false n.words) g).bind fun r195=>(cJ (aB.mk d.minus d.words) g).bind fun r203=>if n.minus then (some (aA.mk (aB.mk (decide (0<(r195.1.words.length:Int))) r195.1.words) r203.1)) else (some (aA.mk (aB.mk false r195.1.words) r203.1)))
   (fun r=>lG r∧r.N.words.length≤n.words.length∧r.D.words.length≤d.words.length∧rv r=Rat.divInt (eY n) (eY d)):=by
 have hg0:nv g.words≠0:=by
  rw [hgv];exact Nat.ne_of_gt (Nat.gcd_pos_of_pos_right _ (by omega))
 have gN:nv g.words ∣ nv n.words:=by rw [hgv]; exact Nat.gcd_dvd_left _ _
 have gD:nv g.words ∣ nv d.words:=by rw [hgv]; exact Nat.gcd_dvd_right _ _
 have hco:Nat.Coprime (nv n.words / nv g.words) (nv d.words / nv g.words):=by
  rw [hgv]; exact Nat.coprime_div_gcd_div_gcd (Nat.gcd_pos_of_pos_right _ (by omega))
 obtain ⟨n',hn'⟩:=gN;obtain ⟨d',hd'⟩:=gD;have en:nv n.words / nv g.words=n':=by rw [hn',Nat.mul_div_cancel_left _ (by omega)]
 have ed:nv d.words / nv g.words=d':=by rw [hd',Nat.mul_div_cancel_left _ (by omega)]
 have hd0':d'≠0:=by intro h; rw [h] at hd'; simp at hd'; exact hd0 hd'
 refine Gd.eV (E8 (a:=aB.mk false n.words) (oK.pos hn.wf hn.tp) hg rfl hg0 hzn hzg) (fun r hr=>Gd.eV (E8 (a:=aB.mk d.minus d.words) hd hg hdm hg0 hzd hzg) (fun t ht=>?_));obtain ⟨r1,r2,r3,r4⟩:=hr;obtain ⟨t1,t2,t3,t4⟩:=ht;simp only at r3 r4 t3 t4;rw [en] at r4 hco;rw [ed] at t4 hco;have hd2:eY d=(nv g.words:Int)*(d':Int):=by rw [ml hdm,hd',Iw]
 have ht2:eY t.1=(d':Int):=by rw [ml t2,t4]
 refine Gd.ite (fun h=>Gd.ret ?_) (fun h=>Gd.ret ?_)
 ·have hN:oK (aB.mk (decide (0<(r.1.words.length:Int))) r.1.words):=⟨r1.wf,r1.tp,fun h e=>by simp only at h e; rw [e] at h; simp at h⟩
  refine ⟨⟨hN,t1,t2,by simp only; omega,by simp only; rw [r4,t4]; exact hco⟩,r3,t3,?_⟩
  have hi:eY (aB.mk (decide (0<(r.1.words.length:Int))) r.1.words) = -(n':Int):=by
   unfold eY;simp only;rw [r4]
   by_cases hl:r.1.words=[]
   ·rw [hl] at r4 ⊢
    have:n'=0:=r4.symm;rw [this]; simp
   ·have:=MW.2 hl
    rw [Hv (by simp; omega)]
  have si:eY n=(nv g.words:Int)*(-(n':Int)):=by
   unfold eY; rw [Hv h,hn',Iw,Int.mul_neg]
  unfold rv;simp only;rw [hi,ht2,si,hd2,s5 (by omega) (by omega)]
 ·refine ⟨⟨oK.pos r1.wf r1.tp,t1,t2,by simp only; omega,by simp only; rw [r4,t4]; exact hco⟩,r3,t3,?_⟩
  have hi:eY (aB.mk false r.1.words)=(n':Int):=by
   rw [ml rfl]; simp only; rw [r4]
  have si:eY n=(nv g.words:Int)*(n':Int):=by
   rw [ml h,hn',Iw]
  unfold rv;simp only;rw [hi,ht2,si,hd2,s5 (by omega) (by omega)]
theorem yH {w:List bI} (h:decide ((w.length:Int)=1)=true):∃ x,w=[x]:=by
 have:=Ht h;exact MS.1 (by omega)
theorem AO {x:bI} (hx:0≤x.n):nv [x]=1↔x.n=1:=by rw [vX]; omega
theorem Dq {n d:LI} (hn:oK n) (hd:oK d) (hdm:d.minus=false) (hd0:nv d.words≠0) (hzn:n.words.length≤900000) (hzd:d.words.length≤900000):
  Gd (kJ d.minus d.words n.minus n.words) (fun r=>lG r∧r.N.words.length≤n.words.length∧r.D.words.length≤d.words.length∧rv r=Rat.divInt (eY n) (eY d)):=by
 have self:Nat.gcd (nv n.words) (nv d.words)=1→Gd (some (aA.mk (aB.mk n.minus n.words) (aB.mk d.minus d.words))) (fun r=>lG r∧r.N.words.length≤n.words.length∧r.D.words.length≤d.words.length∧rv r=Rat.divInt (eY n) (eY d)):=fun hg=>
  Gd.ret ⟨⟨hn,hd,hdm,hd0,hg⟩,HQ _,HQ _,rfl⟩
 have part:Gd ((l8 (aB.mk n.minus n.words) (aB.mk d.minus d.words)).bind fun r135=>if decide ((r135.words.length:Int)=1) then (idx r135.words 0 fun y160=>if decide (y160.n=1) then (some (aA.mk (aB.mk n.minus n.words) (aB.mk d.minus d.words))) else ((cJ (aB.mk false n.words) r135).bind fun r165=>(cJ (aB.mk d.minus d.words) r135).bind fun r173=>if n.minus then (some (aA.mk (aB.mk (decide (0<(r165.1.words.length:Int))) r165.1.words) r173.1)) else (some (aA.mk (aB.mk false r165.1.words) r173.1)))) else ((cJ (aB.mk false n.words) r135).bind fun r143=>(cJ (aB.mk d.minus d.words) r135).bind fun r151=>if n.minus then (some (aA.mk (aB.mk (decide (0<(r143.1.words.length:Int))) r143.1.words) r151.1)) else (some (aA.mk (aB.mk false r143.1.words) r151.1))))
   (fun r=>lG r∧r.N.words.length≤n.words.length∧r.D.words.length≤d.words.length∧rv r=Rat.divInt (eY n) (eY d)):=by
  refine Gd.eV (CL (L:=900000) hn hd (by omega) hzn hzd) (fun g hg=>?_)
  obtain ⟨g1,g2,g3,g4⟩:=hg;refine Gd.ite (fun h=>?_) (fun h=>F9 hn hd g1 hdm hd0 g4 hzn hzd g3);obtain ⟨x,hx⟩:=yH h;have hxw:=g1.wf x (by rw [hx]; simp)
  refine Gd.ix (y:=x) (by omega) (by rw [hx]; rfl) (Gd.ite (fun h2=>self ?_) (fun h2=>F9 hn hd g1 hdm hd0 g4 hzn hzd g3))
  rw [← g4,hx,AO hxw.1]; exact Ht h2
 unfold kJ;refine Gd.ite (fun h=>?_) (fun h=>part);obtain ⟨x,hx⟩:=yH h;have hxw:=hd.wf x (by rw [hx]; simp)
 refine Gd.ix (y:=x) (by omega) (by rw [hx]; rfl) (Gd.ite (fun h2=>self ?_) (fun h2=>part))
 have:=(AO hxw.1).2 (Ht h2);rw [hx,this,Nat.gcd_one_right]
theorem sy {n d:LI} (hn:oK n) (hd:oK d) (hd0:nv d.words≠0) (hzn:n.words.length≤900000) (hzd:d.words.length≤900000):
  Gd (kH n d) (fun r=>lG r∧r.N.words.length≤n.words.length∧r.D.words.length≤d.words.length∧rv r=Rat.divInt (eY n) (eY d)):=by
 unfold kH;refine Gd.ite (fun h=>?_) (fun h=>Dq hn hd h hd0 hzn hzd);refine Gd.eV (xv hn (by omega)) (fun n' hn'=>Gd.eV (xv hd (by omega)) (fun d' hd'=>?_))
 have e:nv d'.words=nv d.words:=by rw [← iJ,hd'.2.2,Int.natAbs_neg,iJ]
 have hm:d'.minus=false:=by
  have h1:=hd'.2.2;unfold eY at h1;rw [Hv h] at h1;rcases Mz d'.minus with h2 | h2
  ·rw [Hv h2] at h1; omega
  ·exact h2
 refine (Dq hn'.1 hd'.1 hm (by rw [e]; exact hd0) (by omega) (by omega)).mono (fun r hr=>⟨hr.1,by omega,by omega,?_⟩)
 rw [hr.2.2.2,hn'.2.2,hd'.2.2];rw [Rat.neg_divInt_neg]
theorem Ff {r:LR} (h:lG r):eY r.D≠0:=by rw [ml h.pos]; have:=h.nz; omega
theorem zQ {a b c:LI} (h:eY c=eY a*eY b) (ha:nv a.words≠0) (hb:nv b.words≠0):nv c.words≠0:=by
 rw [← iJ,h,Int.natAbs_mul,iJ,iJ];exact Nat.mul_ne_zero ha hb
theorem rH {a b:LR} (ha:lG a) (hb:lG b) {A B:Nat} (la:RL a A) (lb:RL b B) (hz:A+B≤800000):
  Gd (fO a b) (fun r=>lG r∧RL r (A+B+1)∧rv r=rv a+rv b):=by
 have:=la.1; have:=la.2; have:=lb.1; have:=lb.2
 unfold fO;refine Gd.eV (qZ ha.n hb.d (by omega)) (fun x hx=>Gd.eV (qZ hb.n ha.d (by omega)) (fun y hy=>Gd.eV (xn hx.1 hy.1 (by omega) (by omega)) (fun s hs=>Gd.eV (qZ ha.d hb.d (by omega)) (fun z hz'=>?_))))
 refine Gd.eV (sy hs.1 hz'.1 (zQ hz'.2.2 ha.nz hb.nz) (by omega) (by omega)) (fun r hr=>Gd.ret ⟨hr.1,⟨by omega,by omega⟩,?_⟩)
 rw [hr.2.2.2,hs.2.2,hx.2.2,hy.2.2,hz'.2.2];unfold rv;rw [Rat.divInt_add_divInt _ _ (Ff ha) (Ff hb)]
theorem AW {a:LR} (ha:lG a) {A:Nat} (la:RL a A) (hz:A≤800000):
  Gd (k7 a) (fun r=>lG r∧RL r A∧rv r = -rv a):=by
 have:=la.1; have:=la.2
 unfold k7;refine Gd.eV (xv ha.n (by omega)) (fun x hx=>Gd.ret ⟨⟨hx.1,ha.d,ha.pos,ha.nz,?_⟩,⟨by simp only; omega,la.2⟩,?_⟩)
 ·have e:nv x.words=nv a.N.words:=by rw [← iJ,hx.2.2,Int.natAbs_neg,iJ]
  simp only; rw [e]; exact ha.Gx
 ·unfold rv
  simp only;rw [hx.2.2,Rat.neg_divInt]
theorem sM {a b:LR} (ha:lG a) (hb:lG b) {A B:Nat} (la:RL a A) (lb:RL b B) (hz:A+B≤800000):
  Gd (gM a b) (fun r=>lG r∧RL r (A+B+1)∧rv r=rv a-rv b):=by
 unfold gM;refine Gd.eV (AW hb lb (by omega)) (fun c hc=>Gd.eV (rH ha hc.1 la hc.2.1 hz) (fun r hr=>Gd.ret ⟨hr.1,hr.2.1,?_⟩))
 rw [hr.2.2,hc.2.2,Rat.sub_eq_add_neg]
theorem tZ {a b:LR} (ha:lG a) (hb:lG b) {A B:Nat} (la:RL a A) (lb:RL b B) (hz:A+B≤800000):
  Gd (jA a b) (fun r=>lG r∧RL r (A+B)∧rv r=rv a*rv b):=by
 have:=la.1; have:=la.2; have:=lb.1; have:=lb.2
 unfold jA;refine Gd.eV (qZ ha.n hb.n (by omega)) (fun x hx=>Gd.eV (qZ ha.d hb.d (by omega)) (fun z hz'=>?_))
 refine Gd.eV (sy hx.1 hz'.1 (zQ hz'.2.2 ha.nz hb.nz) (by omega) (by omega)) (fun r hr=>Gd.ret ⟨hr.1,⟨by omega,by omega⟩,?_⟩)
 rw [hr.2.2.2,hx.2.2,hz'.2.2];unfold rv;rw [Rat.divInt_mul_divInt]
theorem AX {r:LR} (h:lG r):rv r=0↔nv r.N.words=0:=by
 have hn:=h.num;rw [← iJ,Int.natAbs_eq_zero,← hn,Rat.num_eq_zero]
theorem sG {n:Int} (h:-9223372036854775808≤n∧n≤9223372036854775807):Gd (jP n) (fun r=>lG r∧RL r 2∧rv r=(n:Rat)):=by
 unfold jP;refine Gd.eV (v_ h) (fun x hx=>Gd.eV (v_ (n:=1) (by omega)) (fun y hy=>Gd.ret ?_))
 have hm:y.minus=false:=by
  have h1:=hy.2.2;unfold eY at h1;rcases Mz y.minus with h2 | h2
  ·rw [Hv h2] at h1; omega
  ·exact h2
 have hv:nv y.words=1:=by rw [← iJ,hy.2.2]; rfl
 refine ⟨⟨hx.1,hy.1,hm,by simp only; omega,by simp only; rw [hv]; exact Nat.coprime_one_right _⟩,⟨hx.2.1,hy.2.1⟩,?_⟩
 unfold rv;simp only;rw [hx.2.2,hy.2.2,Rat.divInt_eq_div,Rat.intCast_one]; grind
theorem Av {n d:Int} (h:-9223372036854775808≤n∧n≤9223372036854775807) (k:-9223372036854775808≤d∧d≤9223372036854775807) (h0:d≠0):
  Gd (mZ n d) (fun r=>lG r∧RL r 2∧rv r=(n:Rat) / (d:Rat)):=by
 unfold mZ;refine Gd.eV (v_ h) (fun x hx=>Gd.eV (v_ k) (fun y hy=>?_));have hv:nv y.words≠0:=by rw [← iJ,hy.2.2]; omega
 refine Gd.eV (sy hx.1 hy.1 hv (by omega) (by omega)) (fun r hr=>Gd.ret ⟨hr.1,⟨by omega,by omega⟩,?_⟩)
 rw [hr.2.2.2,hx.2.2,hy.2.2,Rat.divInt_eq_div]
abbrev bl (s:ByteArray):List UInt8:=s.data.toList
def ba (l:List UInt8):ByteArray:=⟨l.toArray⟩
@[simp] theorem Aq (l:List UInt8):bl (ba l)=l:=rfl
@[simp] theorem Cf (s:ByteArray):ba (bl s)=s:=by
 show (⟨s.data.toList.toArray⟩:ByteArray)=s;rw [Array.toArray_toList]
theorem zi {a b:ByteArray} (h:bl a=bl b):a=b:=by rw [← Cf a,h,Cf]
theorem xa (s:ByteArray):(bl s).length=s.size:=by show s.data.toList.length=s.data.size; exact Array.length_toList
theorem fQ (l:List UInt8):(ba l).size=l.length:=(xa (ba l)).symm
theorem Ci (a b:ByteArray):bl (a++b)=bl a++bl b:=by show (a++b).data.toList=_; simp
theorem zg (a b:List UInt8):ba a++ba b=ba (a++b):=zi (Ci _ _)
theorem sf {a b:List UInt8} (h:ba a=ba b):a=b:=by have:=HH bl h; simpa using this
theorem zh (s:ByteArray) (i j:Nat):bl (s.extract i j)=((bl s).take j).drop i:=by
 show (s.extract i j).data.toList=(s.data.toList.take j).drop i;simp [ByteArray.data_extract,Array.toList_extract,J9]
theorem nR (l:List UInt8) (i j:Nat):(ba l).extract i j=ba ((l.take j).drop i):=zi (by rw [zh,Aq,Aq])
theorem Dy (a b:ByteArray):(a++b).size=a.size+b.size:=by rw [← xa,Ci,HZ,xa,xa]
theorem pF (c:UInt8):∀ (l:List UInt8),(c ∉ l∧Lib.indexByte l c = -1)∨∃ a b,l=a++c::b∧c ∉ a∧Lib.indexByte l c=a.length
 | []=>.inl ⟨by simp,rfl⟩
 | x::l=>by
  by_cases e:x=c
  ·subst e
   exact .inr ⟨[],l,rfl,by simp,by simp [Lib.indexByte]⟩
  ·have hb:(x == c)=false:=by simpa using e
   rcases pF c l with ⟨h1,h2⟩ | ⟨a,b,rfl,h2,h3⟩
   ·refine .inl ⟨by simp [h1]; exact fun h=>e h.symm,?_⟩
    simp [Lib.indexByte,hb,h2]
   ·refine .inr ⟨x::a,b,rfl,by simp [h2]; exact fun h=>e h.symm,?_⟩
    simp only [Lib.indexByte,hb,h3];rw [Hs (by simp),Hs (by simp)]
    simp only [HD]; omega
theorem zm (c:UInt8):iH (ba [c])=[⟨c.toNat⟩]:=by simp [iH,ba]
theorem yt (s:ByteArray) (c:UInt8):fN s (ba [c])=some (Lib.indexByte (bl s) c):=by
 unfold fN eN
 by_cases e:ba [c]=s
 ·subst e
  rw [Hv (by simp)]
  simp [Lib.indexByte]
 ·rw [Hs (by simp [fQ,e]),Hv (by simp [fQ]),zm]
  simp [idx,FA]
theorem Bc (l:List UInt8):iH (ba l)=l.map fun b=>(⟨b.toNat⟩:U8):=rfl
theorem yb (l:List UInt8):te (l.map fun b=>(⟨b.toNat⟩:U8))=ba l:=by
 refine zi ?_;show (List.map _ (List.map _ l)).toArray.toList=l;rw [List.map_map,Kj]
 conv=>rhs; rw [← List.map_id l]
 refine List.map_congr_left fun b _=>?_;simp
def wI (c:UInt8):Prop:=48≤c.toNat∧c.toNat≤57
instance (c:UInt8):Decidable (wI c):=by unfold wI; infer_instance
def CC (acc:Nat):List UInt8→Nat
 | []=>acc
 | c::r=>CC (acc*10+(c.toNat-48)) r
def dv (l:List UInt8):Nat:=CC 0 l
theorem xf:∀ (l:List UInt8) (acc:Nat),CC acc l=acc*10 ^ l.length+dv l
 | [],acc=>by
  rw [MU,No,Ku]; rfl
 | c::r,acc=>by
  have h2:=xf r (0*10+(c.toNat-48));unfold dv CC;rw [xf r,h2,HD,Nn];have:(acc*10+(c.toNat-48))*10 ^ r.length=acc*(10 ^ r.length*10)+(0*10+(c.toNat-48))*10 ^ r.length:=by
   rw [HS,Jk,Ii,Na,Nc 10]
  rw [this,J8]
theorem vz (a b:List UInt8):dv (a++b)=dv a*10 ^ b.length+dv b:=by
 have key:∀ (a:List UInt8) (acc:Nat),CC acc (a++b)=CC (CC acc a) b:=by
  intro a
  induction a with
  | nil=>intro acc; rfl
  | cons c r ih=>intro acc; exact ih _
 unfold dv;rw [key,xf]; rfl
theorem zB (c:UInt8):dv [c]=c.toNat-48:=by
 show 0*10+(c.toNat-48)=_;omega
theorem tG (c:UInt8) (r:List UInt8):dv (c::r)=(c.toNat-48)*10 ^ r.length+dv r:=by
 have:=vz [c] r;rw [zB] at this; simpa using this
theorem CE (n:Nat):dv (List.replicate n (48:UInt8))=0:=by
 induction n with
 | zero=>rfl
 | succ n ih=>rw [Kh,tG,ih]; simp
theorem uF:∀ {l:List UInt8},(∀ c ∈ l,wI c)→dv l<10 ^ l.length
 | [],_=>by
  show 0<10 ^ 0
  decide
 | c::r,h=>by
  have h1:=uF (l:=r) (fun z hz=>h z (HB _ hz));have h2:=(h c (Hm ..)).2;rw [tG,HD,Nn,Nc (10 ^ r.length) 10];have:(c.toNat-48)*10 ^ r.length≤9*10 ^ r.length:=HL _ (by omega)
  generalize 10 ^ r.length=P at *
  omega
theorem CD {c:UInt8}{r:List UInt8} (hc:wI c) (h0:c≠48):10 ^ r.length≤dv (c::r):=by
 have:1≤c.toNat-48:=by
  have:=hc.1;have hne:c.toNat≠48:=fun e=>h0 (UInt8.toNat_inj.1 (by rw [e]; rfl))
  omega
 rw [tG];have:1*10 ^ r.length≤(c.toNat-48)*10 ^ r.length:=HL _ this;generalize 10 ^ r.length=P at *
 omega
structure yY (l:List UInt8):Prop where
 xL:∀ c ∈ l,wI c
 ne:l≠[]
 lead:l.head? = some 48→l=[48]
theorem vF {a b:List UInt8} (h:a≠[]):(a++b).head? = a.head? := by
 cases a with
 | nil=>exact absurd rfl h
 | cons x r=>rfl
theorem Cw {u:Nat} (h:u<10):(UInt8.ofNat (48+u)).toNat=48+u:=by rw [UInt8.toNat_ofNat']; omega
theorem jD (u:Nat):yY (Lib.decDigits u)∧dv (Lib.decDigits u)=u:=by
 induction u using Nat.strongRecOn with
 | _ u ih=>
  by_cases h:u<10
  ·rw [MH h]
   have hd:=Cw h;refine ⟨⟨fun c hc=>?_,by simp,fun hh=>?_⟩,by rw [zB,hd]; omega⟩
   ·rw [IS] at hc; subst hc; unfold wI; omega
   ·simp only [MR,Im] at hh
    rw [hh]
  ·obtain ⟨h1,h2⟩:=ih (u / 10) (by omega)
   have e:Lib.decDigits u=Lib.decDigits (u / 10)++[UInt8.ofNat (48+u%10)]:=by rw [Lib.decDigits,dif_neg h]
   have hd:=Cw (u:=u%10) (by omega)
   rw [e];refine ⟨⟨fun c hc=>?_,by simp,fun hh=>?_⟩,?_⟩
   ·rcases Ih.1 hc with hc | hc
    ·exact h1.xL c hc
    ·rw [IS] at hc; subst hc; unfold wI; omega
   ·rw [vF h1.ne] at hh
    have:=h1.lead hh;rw [this] at h2;have:dv [48]=0:=rfl;omega
   ·rw [vz,h2,zB,hd]
    simp only [Iz,Nat.pow_one]; omega
theorem AK:∀ {a b:List UInt8},yY a→yY b→dv a=dv b→a=b:=by
 have zero:∀ {a:List UInt8},yY a→dv a=0→a=[48]:=by
  intro a ha h0;cases a with
  | nil=>exact absurd rfl ha.ne
  | cons c r=>
   by_cases hc:c=48
   ·exact ha.lead (by rw [hc]; rfl)
   ·have:=CD (r:=r) (ha.xL c (Hm ..)) hc
    have:0<10 ^ r.length:=Nl (by decide)
    omega
 have eqlen:∀ (a b:List UInt8),a.length=b.length→(∀ c ∈ a,wI c)→(∀ c ∈ b,wI c)→dv a=dv b→a=b:=by
  intro a
  induction a with
  | nil=>intro b hl _ _ _; cases b with | nil=>rfl | cons _ _=>simp at hl
  | cons c r ih=>
   intro b hl ha hb h;cases b with
   | nil=>simp at hl
   | cons d s=>
    have hl':r.length=s.length:=by simpa using hl
    have h1:=uF (l:=r) (fun z hz=>ha z (HB _ hz));have h2:=uF (l:=s) (fun z hz=>hb z (HB _ hz));have hc:=ha c (Hm ..);have hd:=hb d (Hm ..);rw [tG,tG,← hl'] at h;rw [← hl'] at h2;have hP:0<10 ^ r.length:=Nl (by decide)
    have e1:c.toNat-48=d.toNat-48:=by
     have q1:((c.toNat-48)*10 ^ r.length+dv r) / 10 ^ r.length=c.toNat-48:=by
      rw [Kl,Nat.add_mul_div_right _ _ hP,M4 h1,Ii]
     have q2:((d.toNat-48)*10 ^ r.length+dv s) / 10 ^ r.length=d.toNat-48:=by
      rw [Kl,Nat.add_mul_div_right _ _ hP,M4 h2,Ii]
     rw [← q1,h,q2]
    have e2:c=d:=UInt8.toNat_inj.1 (by have:=hc.1; have:=hd.1; omega)
    rw [e1] at h;rw [e2,ih s hl' (fun z hz=>ha z (HB _ hz)) (fun z hz=>hb z (HB _ hz)) (by omega)]
 intro a b ha hb h
 by_cases h0:dv a=0
 ·rw [zero ha h0,zero hb (by omega)]
 ·have big:∀ {l:List UInt8},yY l→dv l≠0→∃ c r,l=c::r∧10 ^ r.length≤dv l:=by
   intro l hl hz;cases l with
   | nil=>exact absurd rfl hl.ne
   | cons c r=>
    refine ⟨c,r,rfl,CD (hl.xL c (Hm ..)) (fun hc=>hz ?_)⟩;rw [hl.lead (by rw [hc]; rfl)]; rfl
  obtain ⟨c,r,rfl,h1⟩:=big ha h0;obtain ⟨d,s,rfl,h2⟩:=big hb (by omega)
  have h3:=uF ha.xL;have h4:=uF hb.xL;refine eqlen _ _ ?_ ha.xL hb.xL h;rw [h] at h1 h3;have l1:r.length<(d::s).length:=(Nj (by decide)).1 (KM h1 h4)
  have l2:s.length<(c::r).length:=(Nj (by decide)).1 (KM h2 h3)
  simp only [HD] at l1 l2 ⊢; omega
theorem rz {l:List UInt8} (h:yY l):Lib.decDigits (dv l)=l:=AK (jD _).1 h (jD _).2
theorem wR {u k:Nat} (hk:1≤k) (h:u<10 ^ k):(Lib.decDigits u).length≤k:=by
 obtain ⟨h1,h2⟩:=jD u;cases hl:Lib.decDigits u with
 | nil=>simp
 | cons c r=>
  rw [hl] at h1 h2
  by_cases hc:c=48
  ·rw [h1.lead (by rw [hc]; rfl)]; simpa using hk
  ·have:=CD (r:=r) (h1.xL c (Hm ..)) hc
   rw [h2] at this;have:r.length<k:=(Nj (by decide)).1 (KM this h)
   rw [HD]; exact this
theorem vK {u k:Nat} (h:(Lib.decDigits u).length≤k):u<10 ^ k:=by
 obtain ⟨h1,h2⟩:=jD u;have:=uF h1.xL;rw [h2] at this;exact M7 this (Ni (by decide) h)
def pad (k:Nat) (r:Nat):List UInt8:=List.replicate (k-(Lib.decDigits r).length) 48++Lib.decDigits r
theorem EA {k r:Nat} (hk:1≤k) (h:r<10 ^ k):(pad k r).length=k:=by
 have:=wR hk h;unfold pad;rw [HZ,I0]; omega
theorem Ez (k r:Nat):∀ c ∈ pad k r,wI c:=by
 intro c hc;rcases Ih.1 hc with hc | hc
 ·rw [(MY.1 hc).2]; exact ⟨by decide,by decide⟩
 ·exact (jD r).1.xL c hc
theorem Fu (k r:Nat):dv (pad k r)=r:=by
 unfold pad;rw [vz,CE,(jD r).2]; omega
theorem D9 {k q r:Nat} (hk:1≤k) (hq:0<q) (hr:r<10 ^ k):Lib.decDigits (q*10 ^ k+r)=Lib.decDigits q++pad k r:=by
 obtain ⟨h1,h2⟩:=jD q;refine AK (jD _).1 ⟨fun c hc=>?_,by simp [h1.ne],fun hh=>?_⟩ ?_
 ·rcases Ih.1 hc with hc | hc
  ·exact h1.xL c hc
  ·exact Ez _ _ c hc
 ·rw [vF h1.ne] at hh
  rw [h1.lead hh] at h2;have:dv [48]=0:=rfl;omega
 ·rw [(jD _).2,vz,h2,EA hk hr,Fu]
theorem De {M:Nat} (hM:M<1844674407370955162):∀ (l:List UInt8) (acc:Nat),(∀ c ∈ l,wI c)→CC acc l≤M→acc≤M→Lib.parseUintM M acc l=.ok (CC acc l)
 | [],acc,_,_,_=>rfl
 | c::r,acc,h,hl,ha=>by
  have hc:=h c (Hm ..);have hle:acc*10+(c.toNat-48)≤M:=by
   have:=xf r (acc*10+(c.toNat-48));have h1:CC acc (c::r)=CC (acc*10+(c.toNat-48)) r:=rfl;have hP:1≤10 ^ r.length:=Nl (by decide)
   have:(acc*10+(c.toNat-48))*1≤(acc*10+(c.toNat-48))*10 ^ r.length:=Nd _ hP;generalize 10 ^ r.length=P at *
   omega
  rw [Lib.parseUintM,Hv (show 48≤c.toNat∧c.toNat≤57 from hc),Hs (by omega),Hs (by omega)]
  exact De hM r _ (fun z hz=>h z (HB _ hz)) hl hle
theorem ED {l:List UInt8} (h:∀ c ∈ l,wI c) (hl:l.length≤9):Dj (ba l)=((dv l:Int),false):=by
 unfold Dj;have h1:=uF h;have h2:10 ^ l.length≤10 ^ 9:=Ni (by decide) hl
 have e:=De (M:=4294967295) (by decide) l 0 h (by show dv l≤_; omega) (by omega)
 show (match Lib.parseUintM 4294967295 0 l with | .ok v=>((v:Int),false) | .range=>(4294967295,true) | _=>(0,true))=_
 rw [e]; rfl
theorem wU (l:List UInt8):dU (ba l) (⟨#[45]⟩)=some (decide (l.head? = some 45)):=by
 have h1:(⟨#[45]⟩:ByteArray).size=1:=rfl;unfold dU;rw [h1,fQ];cases l with
 | nil=>rfl
 | cons c r=>
  rw [Hv (by simp; omega)]
  unfold dH;rw [Hv (by simp only [HD]; omega),show ((1:Nat):Int).toNat=1 from rfl,nR]
  congr 1
  have e:(ba (((c::r).take 1).drop 0)=(⟨#[45]⟩:ByteArray))↔((c::r).head? = some 45):=by
   rw [show (⟨#[45]⟩:ByteArray)=ba [45] from rfl];constructor
   ·intro h
    have:=sf h;simp at this;simp [this]
   ·intro h
    simp only [MR,Im] at h;rw [h]; rfl
  exact decide_eq_decide.2 e
theorem Bl (l:List UInt8):kB (ba l) (⟨#[45]⟩)=some (decide (l.head? = some 45)):=by
 unfold kB;rw [wU l]; rfl
theorem tn (l:List UInt8):iR (ba l) (⟨#[45]⟩)=some (ba (if l.head? = some 45 then l.tail else l)):=by
 have h1:(⟨#[45]⟩:ByteArray).size=1:=rfl;unfold iR fR;rw [wU l];simp only [Kp]
 by_cases h:l.head? = some 45
 ·rw [Hv (by simp [h]),Hv h,h1,fQ]
  cases l with
  | nil=>cases h
  | cons c r=>
   unfold dH;rw [Hv (by simp only [HD]; omega),show ((1:Nat):Int).toNat=1 from rfl,nR]
   simp
 ·rw [Hs (by simp [h]),Hs h]; rfl
theorem oK.plus {a:LI} (h:oK a) (h0:0≤eY a):a.minus=false:=by
 cases hm:a.minus with
 | false=>rfl
 | true=>
  have hne:=h.sign hm;have:nv a.words≠0:=fun e=>hne ((rF h.wf h.tp).1 e);unfold eY at h0;rw [Hv hm] at h0; omega
theorem D4 {n:Nat} (h:0<n) (h2:n≤100000):i64.wrap ((Int.tmod (i64.wrap ((n:Int)-1)) 9)+1)=(((n-1)%9+1:Nat):Int):=by
 rw [bR (n:=(n:Int)-1) ⟨by omega,by omega⟩]
 have:Int.tmod ((n:Int)-1) 9=(((n-1)%9:Nat):Int):=by
  rw [show (n:Int)-1=((n-1:Nat):Int) by omega]
  rw [Int.tmod_eq_emod_of_nonneg (by omega)]; rfl
 rw [this,bR ⟨by omega,by omega⟩]; omega
theorem BD {D n c v P:Nat} (h:D=0∨n=9) (hP:P=10 ^ n):D*10 ^ 9+c=D*P+c:=by
 rcases h with h | h
 ·rw [h,Jk,Jk]
 ·rw [hP,h]
theorem AV {ds:List UInt8} (h:∀ c ∈ ds,wI c) (hl:ds.length≤2000) (neg:Bool):
  Gd (iW (ba (if neg=true then 45::ds else ds))) (fun a=>oK a∧a.words.length≤10000∧eY a=if neg=true then -(dv ds:Int) else dv ds):=by
 unfold iW;have hll:(if neg=true then 45::ds else ds).length≤1000000:=by
  split
  ·simp only [HD]; omega
  ·omega
 have hhd:(if neg=true then 45::ds else ds).head? = some 45↔neg=true:=by
  cases neg with
  | true=>simp
  | false=>
   simp only [Js,J2,iff_false];intro hh;cases ds with
   | nil=>cases hh
   | cons c r=>
    simp only [MR,Im] at hh;have:=(h c (Hm ..)).1;rw [hh] at this; exact absurd this (by decide)
 have htr:(if (if neg=true then 45::ds else ds).head? = some 45 then (if neg=true then 45::ds else ds).tail else (if neg=true then 45::ds else ds))=ds:=by
  cases neg with
  | true=>simp
  | false=>rw [Hs (by rw [hhd]; simp)]; simp
 refine Gd.bind_eq (Bl _) (Gd.bind_eq (tn _) ?_);rw [htr];have hdec:decide ((if neg=true then 45::ds else ds).head? = some 45)=neg:=by
  cases neg with
  | true=>simp
  | false=>rw [NG (by rw [hhd]; simp)]
 rw [hdec];refine Gd.fV (fun (z:ByteArray×Bool×List bI)=>∃ pre suf:List UInt8,ds=pre++suf∧z.1=ba suf∧z.2.1=false∧oK ⟨false,z.2.2⟩∧(nv z.2.2=dv pre)∧z.2.2.length≤5*pre.length∧(pre=[]∨suf.length%9=0))
  (fun z=>z.1.size) ?_ eT _ ⟨[],ds,rfl,rfl,rfl,⟨Wf.nil,fun y hy=>by simp at hy,fun hh=>by simp at hh⟩,rfl,by simp,.inl rfl⟩ (by rw [fQ]; simp only [eT]; omega)
 rintro ⟨s,c,w⟩ nx ⟨pre,suf,e1,e2,e3,e4,e5,e6,e7⟩ hnx;simp only at e2 e3 e4 e5 e6 e7 hnx ⊢;subst e2 e3;have hlen:pre.length+suf.length≤2000:=by rw [← HZ,← e1]; exact hl
 unfold pI;rw [fQ];refine Gd.ite (fun h0=>?_) (fun h0=>?_)
 ·have h0:0<suf.length:=by have:=Ht h0; omega
  rw [D4 h0 (by omega)]
  generalize hn:(suf.length-1)%9+1=n;have hn9:n≤9:=by omega
  have hns:n≤suf.length:=by have:=Nat.mod_le (suf.length-1) 9; omega
  rw [Hj,nR,nR,Jb,HR (HQ _),fQ];have htl:(suf.take n).length=n:=by rw [Ic]; omega
  have hdg:∀ x ∈ suf.take n,wI x:=fun x hx=>h x (by rw [e1]; exact IP _ (JY hx))
  have hpu:=ED hdg (by rw [htl]; exact hn9)
  have hdl:dv (suf.take n)<10 ^ 9:=M7 (uF hdg) (Ni (by decide) (by omega))
  rw [hpu,htl];refine Gd.nd ⟨by omega,by omega⟩ (Gd.nd ⟨by omega,by omega,rfl⟩ ?_)
  rw [bR (n:=(dv (suf.take n):Int)) ⟨by omega,by omega⟩]
  refine Gd.eV (v_ (n:=1000000000) (by omega)) (fun t ht=>Gd.eV (qZ e4 ht.1 (by simp only; omega)) (fun m hm=>Gd.eV (v_ (n:=(dv (suf.take n):Int)) (by omega)) (fun u hu=>Gd.eV (xn hm.1 hu.1 (by simp only at hm; omega) (by omega)) (fun r hr=>Gd.nd ⟨by omega,by omega⟩ ?_))))
  have hiv:eY (⟨false,w⟩:LI)=(dv pre:Int):=by unfold eY; simp only [Js,J2]; rw [e5]
  have hval:eY r=((dv (pre++suf.take n):Nat):Int):=by
   rw [hr.2.2,hm.2.2,ht.2.2,hu.2.2,hiv,vz,htl];have:=BD (D:=dv pre) (n:=n) (c:=dv (suf.take n)) (v:=0) (P:=10 ^ n) (by
    rcases e7 with e7 | e7
    ·left; rw [e7]; rfl
    ·right; omega) rfl
   rw [← this];have e9:(10 ^ 9:Nat)=1000000000:=rfl;rw [e9];generalize dv pre=A;generalize dv (suf.take n)=C;omega
  have hrm:r.minus=false:=hr.1.plus (by rw [hval]; omega)
  refine hnx _ ⟨pre++suf.take n,suf.drop n,by rw [Ia,Ji]; exact e1,rfl,hrm,?_,?_,?_,?_⟩ ?_
  ·rw [← hrm]; exact hr.1
  ·have:=hval
   unfold eY at this;rw [Hs (by rw [hrm]; simp)] at this
   simp only; omega
  ·simp only at hm ⊢
   rw [HZ,htl]; omega
  ·right; rw [Jq]; omega
  ·simp only [fQ,Jq]; omega
 ·have h0:¬ 0<suf.length:=by have:=HG h0; omega
  have hs0:suf=[]:=H6 (by omega)
  subst hs0;rw [Ij] at e1;subst e1;unfold nM;have e4w:Wf w:=e4.wf;have e4t:qV w:=e4.top;refine Gd.ite (fun hneg=>Gd.ret ⟨⟨e4.wf,e4.top,fun hm hw=>?_⟩,by simp only; omega,?_⟩) (fun hneg=>Gd.ret ⟨e4,by simp only; omega,?_⟩)
  ·have hw:w=[]:=hw
   subst hw;simp at hm
  ·rw [Hv hneg]
   unfold eY;simp only [IN]
   split
   ·rw [e5]
   ·rename_i hh
    have:w=[]:=H6 (by omega)
    rw [this] at e5 ⊢;rw [← e5]; rfl
  ·rw [Hs (by rw [hneg]; simp)]
   unfold eY;simp only [Js,J2];rw [e5]
def pv:List bI→Nat
 | []=>0
 | y::l=>y.n.toNat+1000000000*pv l
theorem AU:∀ (a:List bI) (y:bI),pv (a++[y])=pv a+1000000000 ^ a.length*y.n.toNat
 | [],y=>by
  show y.n.toNat+1000000000*0=0+1000000000 ^ 0*y.n.toNat;rw [No]; omega
 | x::a,y=>by
  rw [J4,pv,AU a y,pv,HD,Nn];rw [M_,← Na,Nc (1000000000 ^ a.length) 1000000000,J8]
theorem EF {l:List bI}{k:Nat}{y:bI} (h:l[k]? = some y):pv (l.drop k)=pv (l.drop (k+1))*1000000000+y.n.toNat:=by
 rw [mW h,pv]; omega
theorem Cg:(⟨#[48,48,48,48,48,48,48,48,48]⟩:ByteArray)=ba (List.replicate 9 48):=rfl
theorem oT (n:Nat):ov (n:Int)=ba (Lib.decDigits n):=by unfold ov; rw [Lib.itoa_nonneg]; rfl
theorem Br {n:Nat} (h:0<n):ov (-(n:Int))=ba (45::Lib.decDigits n):=by
 unfold ov Lib.itoa;rw [Hv (by omega),show (-(n:Int)).natAbs=n by omega]; rfl
def BR (D:List UInt8):List U8:=D.map fun b=>⟨b.toNat⟩
theorem sJ (D:List UInt8):iH (ba D)=BR D:=Bc D
theorem DJ (a b:List UInt8):BR a++BR b=BR (a++b):=by unfold BR; rw [Jc]
theorem xb (D:List UInt8):te (BR D)=ba D:=yb D
theorem xJ (D:List UInt8):(BR D).length=D.length:=JQ _
theorem FL (N:Nat) {Q:List bI} (hQ:∀ z ∈ Q,0≤z.n∧z.n<1000000000) (hl:Q.length≤N):pv Q<10 ^ (9*N):=by
 have key:∀ (Q:List bI),(∀ z ∈ Q,0≤z.n∧z.n<1000000000)→pv Q<1000000000 ^ Q.length:=by
  intro Q
  induction Q with
  | nil=>intro _; show 0<1000000000 ^ 0; decide
  | cons z Q ih=>
   intro hQ;have h1:=ih (fun x hx=>hQ x (HB _ hx));have h2:=hQ z (Hm ..);rw [pv,HD,Nn,Nc];generalize 1000000000 ^ Q.length=X at *
   omega
 have h2:(1000000000:Nat) ^ Q.length≤1000000000 ^ N:=Ni (by decide) hl
 rw [Nk];exact M7 (key Q hQ) h2
theorem EZ (n a b:Nat) (h1:a≤3*n) (h2:10*n≤32*b):10 ^ a≤WB ^ b:=by
 have e1:(10:Nat) ^ a≤10 ^ (3*n):=Ni (by decide) h1
 have e2:((10:Nat) ^ 3) ^ n≤(2 ^ 10) ^ n:=Nh (by decide) n
 have e3:(2:Nat) ^ (10*n)≤2 ^ (32*b):=Ni (by decide) h2
 rw [← Nk,← Nk] at e2;rw [u_ b];exact I2 e1 (I2 e2 e3)
theorem AG (n a b:Nat) (h1:a≤3*n) (h2:10*n≤32*b) {w:List bI} (hw:Wf w) (ht:qV w) (hl:b<w.length):¬ nv w<10 ^ a:=by
 have hne:w≠[]:=fun e=>by rw [e] at hl; simp at hl
 have hge:=yG hw ht hne;have hp:WB ^ b≤WB ^ (w.length-1):=Ni (by decide) (by omega)
 exact Nat.not_lt.2 (I2 (EZ n a b h1 h2) (I2 hp hge))
theorem Dw (N K:Nat) {w:List bI} (hw:Wf w) (hl:w.length≤N) (hK:32*N≤K):nv w<2 ^ K:=by
 have h2:=oI hw;have h3:WB ^ w.length≤WB ^ N:=Ni (by decide) hl
 rw [u_ N] at h3;have h4:(2:Nat) ^ (32*N)≤2 ^ K:=Ni (by decide) hK
 exact M7 h2 (I2 h3 h4)
theorem yE {m:Nat} (h:m≤9):(⟨#[48,48,48,48,48,48,48,48,48]⟩:ByteArray).extract m ((⟨#[48,48,48,48,48,48,48,48,48]⟩:ByteArray).size)=ba (List.replicate (9-m) 48):=by
 rw [Cg,fQ,nR,HR (HQ _),List.drop_replicate]
theorem Eh {a:LI}{P:List bI}{V:Nat} (hP:∀ y ∈ P,0≤y.n∧y.n<1000000000) (hV:pv P=V) (hne:P≠[]) (htop:∀ y,P.getLast? = some y→y.n≠0) (hl:P.length≤1000) (ha:a.minus=true→V≠0):
  Gd (fV (fun s300 n=>lO a P s300.1 s300.2 n) eT (i64.wrap ((P.length:Int)-1),([]:List U8)))
   (fun r=>r.2=decide ((Lib.decDigits V).length≤2000)∧r.1=ov (if a.minus=true then -(V:Int) else V)∧r.1.size≤10000):=by
 have hpos:0<P.length:=MW.2 hne;have wl:i64.wrap ((P.length:Int)-1)=(P.length:Int)-1:=bR ⟨by omega,by omega⟩
 rw [wl];refine Gd.fV (fun (z:Int×List U8)=>-1≤z.1∧z.1<P.length∧(z.1=(P.length:Int)-1∧z.2=[]∨z.1<(P.length:Int)-1∧0<pv (P.drop (z.1+1).toNat)∧z.2=BR (Lib.decDigits (pv (P.drop (z.1+1).toNat)))∧z.2.length≤9*1000))
  (fun z=>(z.1+1).toNat) ?_ eT _ ⟨by simp only; omega,by simp only; omega,.inl ⟨rfl,rfl⟩⟩ (by simp only [eT]; omega)
 rintro ⟨n,l⟩ nx ⟨h1,h2,h3⟩ hnx;simp only at h1 h2 h3 hnx ⊢;unfold lO;refine Gd.ite (fun hn=>?_) (fun hn=>?_)
 ·have hn:0≤n:=Ht hn
  obtain ⟨k,rfl⟩:∃ k:Nat,n=k:=⟨n.toNat,by omega⟩
  obtain ⟨y,hy⟩:∃ y,P[k]? = some y:=⟨_,Hi (by omega)⟩
  have hyw:=hP y (HE hy);obtain ⟨u,hu⟩:∃ u:Nat,y.n=u:=⟨y.n.toNat,by omega⟩
  have hu9:u<10 ^ 9:=by
   have:(10:Nat) ^ 9=1000000000:=rfl;omega
  have hkn:((k:Int)+1).toNat=k+1:=by omega
  have hkk:((k:Int)-1+1).toNat=k:=by omega
  refine Gd.ix (by omega) (by rw [Hj]; exact hy) ?_
  rw [hu,fD (n:=(u:Int)) (by omega),oT]
  refine Gd.nd ⟨by omega,by omega⟩ ?_
  rw [wl];have hlen:(Lib.decDigits u).length≤9:=wR (by decide) hu9
  have hd:=EF hy;have hun:y.n.toNat=u:=by omega
  rw [hun] at hd;have hwk:i64.wrap ((k:Int)-1)=(k:Int)-1:=bR ⟨by omega,by omega⟩
  refine Gd.ite (fun hlt=>?_) (fun hlt=>?_)
  ·have hlt:(k:Int)<(P.length:Int)-1:=Ht hlt
   rcases h3 with ⟨h3,_⟩ | ⟨_,h3,h4,h5⟩
   ·omega
   rw [hkn] at h3 h4;rw [fQ,Hj,yE hlen,sJ];have hsz:(ba (List.replicate (9-(Lib.decDigits u).length) (48:UInt8))).size=9-(Lib.decDigits u).length:=by rw [fQ,I0]
   rw [hsz];refine Gd.nd ⟨by omega,by show ((Lib.decDigits u).length:Int)≤((9:Nat):Int); omega⟩ (Gd.nd (by omega) ?_)
   unfold i_;rw [hu,fD (n:=(u:Int)) (by omega),oT,hwk,sJ,fQ]
   rw [HZ,xJ,I0];refine Gd.nd (by omega) ?_
   have hfin:l++BR (List.replicate (9-(Lib.decDigits u).length) (48:UInt8))++BR (Lib.decDigits u)=BR (Lib.decDigits (pv (P.drop k))):=by
    have hdp:=D9 (k:=9) (by decide) h3 hu9
    rw [show (10:Nat) ^ 9=1000000000 from rfl,← hd] at hdp;rw [h4,Ia,DJ,DJ,hdp]
    rfl
   rw [hfin];have hdl:=vK (u:=pv (P.drop k)) (k:=(Lib.decDigits (pv (P.drop k))).length) (HQ _);refine hnx _ ⟨by simp only; omega,by simp only; omega,.inr ⟨by simp only; omega,by simp only; rw [hkk,hd]; omega,by simp only; rw [hkk],?_⟩⟩ (by simp only; omega)
   simp only;rw [xJ];have hb:=FL 1000 (fun z hz=>hP z (List.mem_of_mem_drop hz)) (show (P.drop k).length≤1000 by rw [Jq]; omega)
   exact wR (k:=9*1000) (by decide) hb
  ·have hlt:¬ (k:Int)<(P.length:Int)-1:=HG hlt
   rcases h3 with ⟨h3,h4⟩ | ⟨h3,_⟩
   ·unfold i_
    rw [hu,fD (n:=(u:Int)) (by omega),oT,hwk,sJ,fQ,h4]
    refine Gd.nd (by simp only [MU]; omega) ?_
    have hlast:P.drop (k+1)=[]:=ML (by omega)
    rw [hlast] at hd;have hd:pv (P.drop k)=u:=by rw [hd]; show 0*1000000000+u=u; omega
    have hu0:u≠0:=by
     have:=htop y (by rw [MQ,show P.length-1=k by omega]; exact hy)
     omega
    rw [Ju];refine hnx _ ⟨by simp only; omega,by simp only; omega,.inr ⟨by simp only; omega,by simp only; rw [hkk,hd]; omega,by simp only; rw [hkk,hd],?_⟩⟩ (by simp only; omega)
    simp only;rw [xJ]; omega
   ·omega
 ·have hn:¬ 0≤n:=HG hn
  rcases h3 with ⟨h3,_⟩ | ⟨_,h3,h4,h5⟩
  ·omega
  have hz:(n+1).toNat=0:=by omega
  rw [hz,Jb,hV] at h3 h4;subst h4;rw [xJ] at h5 ⊢;have hne':(Lib.decDigits V)≠[]:=(jD V).1.ne;have hp:0<(Lib.decDigits V).length:=MW.2 hne';have hsz:((ba (Lib.decDigits V)).size:Int)=((Lib.decDigits V).length:Int):=by rw [fQ]
  have hdd:decide (((ba (Lib.decDigits V)).size:Int)≤2000)=decide ((Lib.decDigits V).length≤2000):=by
   rw [hsz]; exact decide_eq_decide.2 (by omega)
  refine Gd.nd hp (Gd.ite (fun hm=>Gd.nd ?_ ?_) (fun hm=>?_))
  ·rw [xb,fQ,show (⟨#[45]⟩:ByteArray).size=1 from rfl]
   unfold maxLen; omega
  ·unfold jt
   rw [xb];have hx:(⟨#[45]⟩:ByteArray)++ba (Lib.decDigits V)=ba (45::Lib.decDigits V):=by
    rw [show (⟨#[45]⟩:ByteArray)=ba [45] from rfl,zg]; rfl
   refine Gd.ret ⟨hdd,?_,?_⟩
   ·rw [Hv hm,Br (by have:=ha hm; omega)]; exact hx
   ·simp only
    rw [hx,fQ,HD]; omega
  ·unfold jt
   rw [xb];refine Gd.ret ⟨hdd,?_,?_⟩
   ·rw [Hs (by rw [hm]; simp),oT]
   ·simp only
    rw [fQ]; omega
theorem zW (K N:Nat) {p n W:Nat} (h:1000000000 ^ p*n≤W) (hn:1≤n) (hW:W<2 ^ K) (hK:K≤29*N):p<N:=by
 rcases JG p N with hp | hp
 ·exact hp
 ·exfalso
  have h1:((2:Nat) ^ 29) ^ N≤(1000000000:Nat) ^ N:=Nh (by decide) N
  have h2:(1000000000:Nat) ^ N≤1000000000 ^ p:=Ni (by decide) hp
  have h3:(1000000000:Nat) ^ p*1≤1000000000 ^ p*n:=Nd _ hn;have h4:(2:Nat) ^ K≤2 ^ (29*N):=Ni (by decide) hK
  rw [← Nk] at h1;rw [Ku] at h3;exact absurd hW (Nat.not_lt.2 (I2 h4 (I2 h1 (I2 h2 (I2 h3 h)))))
theorem BB {V A B n:Nat} (h:V=A+B*n):V=(A+B*(n%1000000000))+B*1000000000*(n / 1000000000):=by
 rw [Na,J8,← M_,M9]; exact h
theorem vG {a:LI} (h:oK a):Gd (iM a) (fun r=>r.2=decide ((Lib.decDigits (nv a.words)).length≤2000)∧(r.2=true→r.1=ov (eY a))∧r.1.size≤10000):=by
 unfold iM;refine Gd.ite (fun h0=>?_) (fun h0=>?_)
 ·have h0:a.words=[]:=H6 (by have:=Ht h0; omega)
  have hm:a.minus=false:=by
   cases hm:a.minus with
   | false=>rfl
   | true=>exact absurd h0 (h.sign hm)
  refine Gd.ret ⟨?_,fun _=>?_,by decide⟩
  ·rw [h0]
   have hx:(Lib.decDigits (nv [])).length≤2000:=by
    show (Lib.decDigits 0).length≤2000;rw [MH (by omega)]; simp
   rw [NI hx]
  ·unfold eY
   rw [Hs (by rw [hm]; simp),h0]
   show (⟨#[48]⟩:ByteArray)=ov ((0:Nat):Int);rw [oT,MH (by omega)]; rfl
 ·have h0:a.words.length≠0:=by have:=HG h0; omega
  have hne:a.words≠[]:=fun e=>h0 (by rw [e]; rfl)
  refine Gd.ite (fun h1=>?_) (fun h1=>?_)
  ·have h1:210<a.words.length:=by have:=Ht h1; omega
   refine Gd.ret ⟨?_,fun hh=>absurd hh (by simp),by decide⟩
   symm
   refine NG fun hle=>?_;exact AG 667 2000 210 (by decide) (by decide) h.wf h.tp h1 (vK (k:=2000) hle)
  ·have h1:a.words.length≤210:=by have:=HG h1; omega
   have hW:=Dw 210 6720 h.wf h1 (by decide)
   have hnz:nv a.words≠0:=fun e=>hne ((rF h.wf h.tp).1 e);refine Gd.fV (fun (z:List bI×List bI)=>(∀ y ∈ z.1,0≤y.n∧y.n<1000000000)∧Wf z.2∧qV z.2∧z.2.length≤210∧nv a.words=pv z.1+1000000000 ^ z.1.length*nv z.2∧z.1.length≤300∧(nv z.2=0→z.1≠[]∧∀ y,z.1.getLast? = some y→y.n≠0))
    (fun z=>301-z.1.length) ?_ eT _ ⟨by simp,h.wf,h.tp,h1,?_,by simp,fun e=>absurd e hnz⟩ (by simp only [eT,MU]; omega)
   ·rintro ⟨P,w⟩ nx ⟨i1,i2,i3,i4,i5,i6,i7⟩ hnx
    simp only at i1 i2 i3 i4 i5 i6 i7 hnx ⊢;unfold nj;refine Gd.ite (fun hw=>?_) (fun hw=>?_)
    ·have hw:0<w.length:=by have:=Ht hw; omega
     have hwn:w≠[]:=fun e=>by rw [e] at hw; simp at hw
     have hwz:nv w≠0:=fun e=>hwn ((rF i2 i3).1 e);have hpl:=zW 6720 300 (p:=P.length) (n:=nv w) (W:=nv a.words) (by rw [i5]; exact Nat.le_add_left _ _) (by omega) hW (by decide)
     refine Gd.eV (yS i2 (by omega) (d:=1000000000) (by omega)) (fun r hr=>?_)
     have hdn:(1000000000:Int).toNat=1000000000:=rfl;rw [hdn] at hr;refine Gd.nd (by simp only [Iz]; omega) (Gd.eV (pq false r.1 hr.1 (by omega)) (fun q hq=>?_))
     have hrn:0≤r.2∧r.2<1000000000∧r.2.toNat=nv w%1000000000:=by
      have:=KJ (nv w) (show 1000000000 > 0 by omega)
      rw [hr.2.2.2]; omega
     refine hnx _ ⟨?_,hq.1.wf,hq.1.tp,by simp only; omega,?_,by simp only [HZ,Iz]; omega,fun hz=>⟨by simp,fun y hy=>?_⟩⟩ (by simp only [HZ,Iz]; omega)
     ·intro y hy
      rcases Ih.1 hy with hy | hy
      ·exact i1 y hy
      ·rw [IS] at hy; subst hy; simp only; omega
     ·simp only
      rw [AU,HZ,Iz,Nn,hq.2.2.1,hr.2.2.1];simp only;rw [hrn.2.2];exact BB i5
     ·simp only at hz hy
      rw [List.getLast?_append,List.getLast?_singleton] at hy;simp only [Option.some_or,Im] at hy;subst hy;simp only;rw [hq.2.2.1,hr.2.2.1] at hz;have:nv w / 1000000000=0:=hz;omega
    ·have hw:w=[]:=H6 (by have:=HG hw; omega)
     subst hw;obtain ⟨j1,j2⟩:=i7 rfl;have hVV:pv P=nv a.words:=by
      rw [i5];show pv P=pv P+1000000000 ^ P.length*0;rw [Nf]; rfl
     refine (Eh (a:=a) i1 hVV j1 j2 (by omega) (fun _=>hnz)).mono (fun r hr=>⟨hr.1,fun _=>?_,hr.2.2⟩)
     rw [hr.2.1]; rfl
   ·show nv a.words=0+1000000000 ^ 0*nv a.words
    rw [No]; omega
def cl (q:Rat):List UInt8:=Lib.itoa q.num++(if q.den=1 then [] else 47::Lib.decDigits q.den)
def ctext (q:Rat):ByteArray:=ba (cl q)
def fits (q:Rat):Prop:=(Lib.decDigits q.num.natAbs).length≤2000∧(Lib.decDigits q.den).length≤2000
instance (q:Rat):Decidable (fits q):=by unfold fits; infer_instance
theorem vW {l:List UInt8} (h:∀ c ∈ l,wI c):(47:UInt8) ∉ l:=fun hm=>absurd (h 47 hm) (by unfold wI; decide)
theorem pV (n:Int):Lib.itoa n=if n<0 then 45::Lib.decDigits n.natAbs else Lib.decDigits n.natAbs:=by
 unfold Lib.itoa
 split
 ·rfl
 ·rw [show n.toNat=n.natAbs by omega]
theorem CO (u:Nat):(Lib.decDigits u).head? ≠ some 45:=by
 obtain ⟨h,_⟩:=jD u;cases hl:Lib.decDigits u with
 | nil=>simp
 | cons c r=>
  rw [hl] at h;have:=h.xL c (Hm ..);simp only [MR,ne_eq,Im];rintro rfl;exact absurd this (by unfold wI; decide)
theorem As (q:Rat):(cl q).head? = some 45↔q.num<0:=by
 unfold cl;rw [pV]
 by_cases h:q.num<0
 ·rw [Hv h]; simp [h]
 ·rw [Hs h,vF (jD _).1.ne]
  simp only [h,iff_false];exact CO _
theorem D5 (q:Rat):(if (cl q).head? = some 45 then (cl q).tail else cl q)=Lib.decDigits q.num.natAbs++(if q.den=1 then [] else 47::Lib.decDigits q.den):=by
 by_cases h:q.num<0
 ·rw [Hv ((As q).2 h)]
  unfold cl;rw [pV,Hv h]; rfl
 ·rw [Hs (fun e=>h ((As q).1 e))]
  unfold cl;rw [pV,Hs h]
theorem zI {c:UInt8}{l:List UInt8} (h:c ∉ l):Lib.indexByte l c = -1:=by
 rcases pF c l with ⟨_,h2⟩ | ⟨a,b,rfl,_⟩
 ·exact h2
 ·exact absurd (by simp) h
theorem yq {c:UInt8}{b:List UInt8}:∀ {a:List UInt8},c ∉ a→Lib.indexByte (a++c::b) c=a.length
 | [],_=>by simp [Lib.indexByte]
 | x::a,h=>by
  have hx:(x == c)=false:=by simp only [Ix,not_or] at h; simpa using fun e=>h.1 e.symm
  have ih:=yq (b:=b) (a:=a) (fun hm=>h (HB _ hm));rw [J4];simp only [Lib.indexByte,hx,ih];rw [Hs (by simp),Hs (by simp)]
  simp only [HD]; omega
theorem vr {l:List UInt8} (h:(47:UInt8) ∉ l):kI (ba l) (⟨#[47]⟩)=some (ba l,⟨#[]⟩,false):=by
 unfold kI gE;rw [show (⟨#[47]⟩:ByteArray)=ba [47] from rfl,yt,Aq,zI h]
 rfl
theorem vw {a b:List UInt8} (h:(47:UInt8) ∉ a) (hs:a.length+1+b.length≤maxLen):kI (ba (a++47::b)) (⟨#[47]⟩)=some (ba a,ba b,true):=by
 have hsz:(ba (a++47::b)).size=a.length+1+b.length:=by rw [fQ]; simp; omega
 unfold maxLen at hs;unfold kI gE;rw [show (⟨#[47]⟩:ByteArray)=ba [47] from rfl,yt,Aq,yq h];simp only [Kp];rw [Hv (by simp),hsz,show (ba [47]).size=1 from rfl,bR ⟨by omega,by omega⟩]
 unfold dH;rw [Hv ⟨by omega,by omega⟩,Hv ⟨by omega,by omega⟩,Hj,show ((a.length:Int)+((1:Nat):Int)).toNat=a.length+1 by omega,nR,nR]
 simp only [Kp,Jb];rw [K0,HR (by simp; omega),show a++47::b=(a++[47])++b by simp,List.drop_left' (by simp)]
theorem pg (l:List UInt8) (hs:l.length≤maxLen):Gd (oa (ba l)) (fun c=>c=0↔yY l∧l.length≤2000):=by
 unfold oa;refine Gd.nd (by rw [fQ]; exact hs) ?_
 rw [sJ];refine Gd.seen (fun pre _=>∀ y ∈ pre,48≤y.n∧y.n≤57) ?_ ?_ () (fun y hy=>by cases hy)
 ·rintro i y _ nx pre ⟨post,hl⟩ hI hnx
  have hy:y ∈ BR l:=by rw [hl]; simp
  obtain ⟨c,hc,rfl⟩:=IQ.1 hy;unfold sq;refine Gd.ite (fun hb=>Gd.ret ?_) (fun hb=>hnx () (fun z hz=>?_))
  ·simp only [Jl,IN] at hb
   constructor
   ·intro h; simp at h
   ·rintro ⟨h,_⟩
    have:=h.xL c hc;unfold wI at this; omega
  ·simp only [MA,NH] at hb
   rcases Ih.1 hz with hz | hz
   ·exact hI z hz
   ·rw [IS] at hz; subst hz; simp only; omega
 ·intro _ hI
  have hd:∀ c ∈ l,wI c:=fun c hc=>by
   have:=hI ⟨c.toNat⟩ (IQ.2 ⟨c,hc,rfl⟩);unfold wI; simp only at this; omega
  refine Gd.ite (fun h=>Gd.ret ?_) (fun h=>?_)
  ·have h:l=[]:=sf ((Ht h).trans rfl)
   constructor
   ·intro h; simp at h
   ·rintro ⟨hn,_⟩; exact absurd h hn.ne
  ·have hne:l≠[]:=fun e=>absurd (HG h) (by rw [e]; simp [ba])
   have last:(l.head? = some 48→l=[48])→Gd (if decide (2000<((ba l).size:Int))=true then some (2:Int) else some 0) (fun c=>c=0↔yY l∧l.length≤2000):=fun hlead=>by
    rw [fQ];refine Gd.ite (fun h2=>Gd.ret ?_) (fun h2=>Gd.ret ?_)
    ·have:=Ht h2
     constructor
     ·intro h; simp at h
     ·rintro ⟨_,h⟩; omega
    ·have:=HG h2
     exact ⟨fun _=>⟨⟨hd,hne,hlead⟩,by omega⟩,fun _=>rfl⟩
   refine Gd.ite (fun h1=>?_) (fun h1=>last (fun hh=>?_))
   ·rw [fQ] at h1
    have h1:=Ht h1;cases l with
    | nil=>exact absurd rfl hne
    | cons c r=>
     refine Gd.ix (y:=⟨c.toNat⟩) (by omega) rfl (Gd.ite (fun h2=>Gd.ret ?_) (fun h2=>last (fun hh=>?_)))
     ·have h2:=Ht h2
      simp only at h2;constructor
      ·intro h; simp at h
      ·rintro ⟨hn,_⟩
       have hc:c=48:=UInt8.toNat_inj.1 (by show c.toNat=48; omega)
       have:=hn.lead (by rw [hc]; rfl)
       rw [this] at h1; simp at h1
     ·have h2:=HG h2
      simp only [MR,Im] at hh;subst hh;exact absurd rfl h2
   ·rw [fQ] at h1
    have h1:=HG h1;cases l with
    | nil=>exact absurd rfl hne
    | cons c r=>
     have:r=[]:=H6 (by simp only [HD] at h1; omega)
     subst this;simp only [MR,Im] at hh;rw [hh]
theorem we {n:List UInt8} (hn:yY n) (l1:n.length≤2000):Gd (iW (ba n)) (fun a=>oK a∧a.words.length≤10000∧eY a=dv n):=by
 have:=AV hn.xL l1 false;simpa using this
theorem Ex {n d:List UInt8} (hn:yY n) (hd:yY d) (l1:n.length≤2000) (l2:d.length≤2000):
  Gd (ur (ba n) (ba d)) (fun r=>r.2.2=0∧(oK r.1∧r.1.words.length≤10000∧eY r.1=dv n)∧(oK r.2.1∧r.2.1.words.length≤10000∧eY r.2.1=dv d)):=by
 unfold ur;have chk:∀ {l:List UInt8},yY l→l.length≤2000→Gd (oa (ba l)) (fun c=>c=0):=fun h hl=>(pg _ (by unfold maxLen; omega)).mono (fun c hc=>hc.2 ⟨h,hl⟩)
 refine Gd.jH (fun m i _=>m+i=2) (fun m i _ nx hI hnx=>?_) (fun i _ _=>?_) _ 0 () rfl
 ·unfold tP
  have hi:i=0∨i=1:=by omega
  have hy:∃ l:List UInt8,([ba n,ba d]:List ByteArray)[i]? = some (ba l)∧yY l∧l.length≤2000:=by
   rcases hi with rfl | rfl
   ·exact ⟨n,rfl,hn,l1⟩
   ·exact ⟨d,rfl,hd,l2⟩
  obtain ⟨l,hl,h1,h2⟩:=hy;refine Gd.ix (by omega) (by rw [Hj]; exact hl) (Gd.eV (chk h1 h2) (fun c hc=>?_))
  subst hc;exact hnx () (by omega)
 ·exact Gd.eV (we hn l1) (fun a ha=>Gd.eV (we hd l2) (fun b hb=>Gd.ret ⟨rfl,ha,hb⟩))
theorem qK:Lib.decDigits 1=[49]:=MH (by omega)
theorem tE:Lib.decDigits 0=[48]:=MH (by omega)
theorem tD {a b:Nat} (h:Lib.decDigits a=Lib.decDigits b):a=b:=by
 have h1:=(jD a).2;rw [h,(jD b).2] at h1; exact h1.symm
theorem AJ {n d:List UInt8} (hn:yY n) (hd:yY d) (l1:n.length≤2000) (l2:d.length≤2000):
  Gd (uq (ba n) (ba d)) (fun r=>r.1=(⟨#[49]⟩:ByteArray)↔Nat.gcd (dv n) (dv d)=1):=by
 unfold uq;refine Gd.eV (Ex hn hd l1 l2) (fun r hr=>?_);obtain ⟨h0,h1,h2⟩:=hr;rw [h0];refine Gd.eV (CL h1.1 h2.1 (L:=10000) (by omega) h1.2.1 h2.2.1) (fun g hg=>?_)
 have e1:nv r.1.words=dv n:=by rw [← iJ,h1.2.2]; rfl
 have e2:nv r.2.1.words=dv d:=by rw [← iJ,h2.2.2]; rfl
 rw [e1,e2] at hg;unfold vP;have hb:Gd ((iM g).bind fun r102=>if (!r102.2)=true then some ((⟨#[]⟩:ByteArray),(2:Int)) else some (r102.1,0)) (fun t=>t.1=(⟨#[49]⟩:ByteArray)↔Nat.gcd (dv n) (dv d)=1):=by
  refine Gd.eV (vG hg.1) (fun t ht=>Gd.ite (fun hf=>Gd.ret ?_) (fun hf=>Gd.ret ?_))
  ·have hf:t.2=false:=by simpa using hf
   rw [hf,hg.2.2.2] at ht;constructor
   ·intro h; exact absurd h (by decide)
   ·intro h
    have:=ht.1;rw [h,qK] at this; simp at this
  ·have hf:t.2=true:=by simpa using hf
   have e3:=ht.2.1 hf;simp only;rw [e3,ml hg.2.1,oT,hg.2.2.2,show (⟨#[49]⟩:ByteArray)=ba [49] from rfl];constructor
   ·intro h
    exact tD ((sf h).trans qK.symm)
   ·intro h; rw [h,qK]
 exact Gd.eV hb (fun t ht=>Gd.ret ht)
theorem zY {q:Rat} (h:fits q):ob (ctext q)=some 0:=by
 refine Gd.eq.1 ?_;have hD:=(jD q.num.natAbs).1;have hE:=(jD q.den).1;unfold ob ctext;refine Gd.bind_eq (tn _) ?_;rw [D5];have hz:q.num<0→Lib.decDigits q.num.natAbs≠[48]:=fun hn e=>by
  rw [← tE] at e;have:=tD e; omega
 by_cases hd:q.den=1
 ·rw [Hv hd,Ij]
  refine Gd.bind_eq (vr (vW hD.xL)) ?_;refine Gd.eV (pg _ (by have:=h.1; unfold maxLen; omega)) (fun c hc=>?_)
  have hc0:=hc.2 ⟨hD,h.1⟩;subst hc0;refine Gd.ite (fun hx=>by simp at hx) (fun _=>?_)
  unfold lT;refine Gd.ite (fun hx=>?_) (fun _=>Gd.ret rfl);exfalso;simp only [show decide ((0:Int)=5)=false from rfl,Bool.or_self,Bool.false_or,Jp,IN] at hx;have h1:Lib.decDigits q.num.natAbs=[48]:=sf (hx.1.trans rfl);have h2:=hx.2;rw [fQ,fQ] at h2;unfold cl at h2;rw [Hv hd,Ij,pV] at h2
  split at h2
  ·rename_i hn; exact hz hn h1
  ·omega
 ·rw [Hs hd]
  refine Gd.bind_eq (vw (vW hD.xL) (by have:=h.1; have:=h.2; unfold maxLen; omega)) ?_
  refine Gd.eV (pg _ (by have:=h.1; unfold maxLen; omega)) (fun c hc=>?_)
  have hc0:=hc.2 ⟨hD,h.1⟩;subst hc0;refine Gd.ite (fun _=>?_) (fun hx=>by simp at hx)
  refine Gd.eV (pg _ (by have:=h.2; unfold maxLen; omega)) (fun c hc=>?_)
  have hc0:=hc.2 ⟨hE,h.2⟩;subst hc0;unfold lT;refine Gd.ite (fun hx=>?_) (fun _=>Gd.ite (fun hx=>by simp at hx) (fun _=>Gd.ite (fun _=>?_) (fun hx=>by simp at hx)))
  ·exfalso
   simp only [show decide ((0:Int)=5)=false from rfl,Bool.or_self,Bool.false_or,Jp,IN] at hx;have h1:Lib.decDigits q.num.natAbs=[48]:=sf (hx.1.trans rfl);have h2:=hx.2;rw [fQ,fQ] at h2;unfold cl at h2;rw [Hs hd,pV] at h2
   split at h2
   ·rename_i hn; exact hz hn h1
   ·omega
  ·refine Gd.eV (AJ hD hE h.1 h.2) (fun r hr=>?_)
   rw [(jD q.num.natAbs).2,(jD q.den).2] at hr;have hr1:=hr.2 q.reduced;refine Gd.ite (fun hx=>?_) (fun _=>Gd.ret rfl);exfalso;simp only [hr1,decide_true,Bool.not_true,Bool.or_false,Jl,IN] at hx;rcases hx with hx | hx
   ·have:=tD ((sf (hx.trans rfl):Lib.decDigits q.den=[48]).trans tE.symm)
    exact q.den_nz this
   ·have:=tD ((sf (hx.trans rfl):Lib.decDigits q.den=[49]).trans qK.symm)
    exact hd this
theorem E7 {neg:Bool}{n:List UInt8}{m:Int} (hn:yY n) (h0:¬ (n=[48]∧neg=true)) (hm:m=if neg=true then -(dv n:Int) else dv n):
  Lib.itoa m=(if neg=true then 45::n else n)∧m.natAbs=dv n:=by
 have hz:dv n=0→n=[48]:=fun h=>by
  have e:=rz hn;rw [h,tE] at e; exact e.symm
 rw [pV];cases neg with
 | false=>
  simp only [Js,J2] at hm ⊢;rw [Hs (by omega),show m.natAbs=dv n by omega]
  exact ⟨rz hn,rfl⟩
 | true=>
  simp only [Lr] at hm ⊢;have hnz:dv n≠0:=fun h=>h0 ⟨hz h,rfl⟩;rw [Hv (by omega),show m.natAbs=dv n by omega]
  exact ⟨by rw [rz hn],rfl⟩
theorem BC (s:ByteArray) (hs:s.size≤maxLen):Gd (ob s) (fun c=>c=0↔∃ q,fits q∧s=ctext q):=by
 have sound:Gd (ob s) (fun c=>c=0→∃ q,fits q∧s=ctext q):=by
  obtain ⟨l,rfl⟩:∃ l,s=ba l:=⟨bl s,(Cf s).symm⟩;rw [fQ] at hs;unfold ob;refine Gd.bind_eq (tn l) ?_;obtain ⟨neg,hneg⟩:∃ neg:Bool,neg=decide (l.head? = some 45):=⟨_,rfl⟩;generalize ht:(if l.head? = some 45 then l.tail else l)=t
  have hl:l=if neg=true then 45::t else t:=by
   by_cases h:l.head? = some 45
   ·rw [Hv h] at ht
    rw [hneg,NI h,Hv rfl,← ht];cases l with
    | nil=>cases h
    | cons c r=>simp only [MR,Im] at h; rw [h]; rfl
   ·rw [Hs h] at ht
    rw [hneg,NG h,Hs (by simp)]; exact ht
  have htl:t.length≤l.length:=by
   rw [hl]; split
   ·simp
   ·omega
  have hsz:neg=true→(ba t).size<(ba l).size:=fun h=>by
   rw [fQ,fQ,hl,Hv h]; simp
  by_cases hsl:(47:UInt8) ∈ t
  ·obtain ⟨a,b,e,ha,_⟩:∃ a b,t=a++47::b∧(47:UInt8) ∉ a∧True:=by
    rcases pF 47 t with ⟨h1,_⟩ | ⟨a,b,e,h2,_⟩
    ·exact absurd hsl h1
    ·exact ⟨a,b,e,h2,Hh⟩
   have hab:a.length+1+b.length=t.length:=by rw [e]; simp; omega
   rw [e];refine Gd.bind_eq (vw ha (by omega)) ?_
   refine Gd.eV (pg a (by omega)) (fun c1 hc1=>Gd.ite (fun _=>?_) (fun hx=>by simp at hx))
   refine Gd.eV (pg b (by omega)) (fun c2 hc2=>?_)
   unfold lT;refine Gd.ite (fun _=>Gd.ret (fun h=>by simp at h)) (fun hA=>Gd.ite (fun _=>Gd.ret (fun h=>by simp at h)) (fun hB=>Gd.ite (fun _=>?_) (fun hx=>by simp at hx)))
   simp only [MA,Bool.not_eq_false',IN] at hB;obtain ⟨n1,n2⟩:=hc1.1 hB.1;obtain ⟨d1,d2⟩:=hc2.1 hB.2;have h0:¬ (a=[48]∧neg=true):=by
    rintro ⟨ea,en⟩;simp only [MA,Bool.and_eq_false_iff,NH] at hA;rcases hA.2 with h | h
    ·exact h (by rw [ea]; rfl)
    ·have:=hsz en; rw [e] at this; omega
   refine Gd.eV (AJ n1 d1 n2 d2) (fun r hr=>Gd.ite (fun _=>Gd.ret (fun h=>by simp at h)) (fun hC=>Gd.ret (fun _=>?_)))
   simp only [MA,Bool.not_eq_false',IN,NH] at hC;have hg:=hr.1 hC.2;have hnz:dv b≠0:=fun h=>hC.1.1 (by
    have:=rz d1;rw [h,tE] at this; rw [← this]; rfl)
   have hn1:dv b≠1:=fun h=>hC.1.2 (by
    have:=rz d1;rw [h,qK] at this; rw [← this]; rfl)
   obtain ⟨e1,e2⟩:=E7 (neg:=neg) n1 h0 rfl;refine ⟨Rat.mk' (if neg=true then -(dv a:Int) else dv a) (dv b) hnz (by rw [e2]; exact hg),⟨?_,?_⟩,?_⟩
   ·simp only; rw [e2,rz n1]; exact n2
   ·simp only; rw [rz d1]; exact d2
   ·unfold ctext cl
    simp only;rw [e1,Hs hn1,rz d1,hl,e]
    split <;> rfl
  ·refine Gd.bind_eq (vr hsl) ?_
   refine Gd.eV (pg t (by omega)) (fun c1 hc1=>Gd.ite (fun hx=>by simp at hx) (fun _=>?_))
   unfold lT;refine Gd.ite (fun _=>Gd.ret (fun h=>by simp at h)) (fun hA=>Gd.ite (fun _=>Gd.ret (fun h=>by simp at h)) (fun hB=>Gd.ite (fun hx=>by simp at hx) (fun _=>Gd.ret (fun _=>?_))))
   simp only [MA,Bool.not_eq_false',IN] at hB;obtain ⟨n1,n2⟩:=hc1.1 hB.1;have h0:¬ (t=[48]∧neg=true):=by
    rintro ⟨ea,en⟩;simp only [MA,Bool.and_eq_false_iff,NH] at hA;rcases hA.2 with h | h
    ·exact h (by rw [ea]; rfl)
    ·have:=hsz en; omega
   obtain ⟨e1,e2⟩:=E7 (neg:=neg) n1 h0 rfl;refine ⟨Rat.mk' (if neg=true then -(dv t:Int) else dv t) 1 (by decide) (by rw [e2]; exact Nat.coprime_one_right _),⟨?_,?_⟩,?_⟩
   ·simp only; rw [e2,rz n1]; exact n2
   ·simp only; rw [qK]; decide
   ·unfold ctext cl
    simp only;rw [e1,Hv Hh,Ij,← hl]
 obtain ⟨c,e,h⟩:=sound;refine ⟨c,e,h,?_⟩;rintro ⟨q,hq,rfl⟩;rw [zY hq] at e;exact (Hc e).symm
theorem Au {u k:Nat}{l:List bI} (hw:Wf l) (ht:qV l) (hk:(Lib.decDigits (nv l)).length≤2000):l.length≤300:=by
 rcases JG 300 l.length with h | h
 ·exact absurd (vK (k:=2000) hk) (AG 667 2000 300 (by decide) (by decide) hw ht h)
 ·exact h
theorem lG.small {a:LR} (h:lG a) (hf:fits (rv a)):RL a 300:=by
 obtain ⟨h1,h2⟩:=hf;rw [h.num,iJ] at h1;rw [h.den] at h2;exact ⟨Au (u:=0) (k:=0) h.n.wf h.n.tp h1,Au (u:=0) (k:=0) h.d.wf h.d.tp h2⟩
theorem Du {a:LR} (h:lG a):Gd (lR a) (fun r=>(r.2=true↔fits (rv a))∧(r.2=true→r.1=ctext (rv a))):=by
 have e1:(rv a).num.natAbs=nv a.N.words:=by rw [h.num,iJ]
 have e2:(rv a).den=nv a.D.words:=h.den;unfold lR;refine Gd.eV (vG h.n) (fun t ht=>Gd.ite (fun hf=>Gd.ret ?_) (fun hf=>?_))
 ·have hf:t.2=false:=by simpa using hf
  refine ⟨⟨fun hh=>by simp at hh,fun hh=>?_⟩,fun hh=>by simp at hh⟩
  have h1:=ht.1;rw [hf] at h1;have:=hh.1;rw [e1] at this;exact absurd this (HG h1.symm)
 ·have hf:t.2=true:=by simpa using hf
  have hN:=ht.1;rw [hf] at hN;have hN:=Ht hN.symm;have hNt:=ht.2.1 hf;refine Gd.eV (vG h.d) (fun u hu=>?_);have hval:eY a.D=((nv a.D.words:Nat):Int):=ml h.pos;have hiff:(u.2=true↔fits (rv a)):=by
   unfold fits;rw [e1,e2,hu.1,IN];exact ⟨fun x=>⟨hN,x⟩,fun x=>x.2⟩
  have hut:u.2=true→u.1=ba (Lib.decDigits (rv a).den):=fun x=>by rw [hu.2.1 x,hval,oT,e2]
  have hnt:t.1=ba (Lib.itoa (rv a).num):=by rw [hNt,h.num]; rfl
  refine Gd.ite (fun h1=>Gd.ret ⟨hiff,fun hh=>?_⟩) (fun h1=>Gd.nd ?_ (Gd.nd ?_ (Gd.ret ⟨hiff,fun hh=>?_⟩)))
  ·have h1:u.1=(⟨#[49]⟩:ByteArray):=Ht h1
   have:=hut hh;rw [h1] at this;have hd:(rv a).den=1:=tD ((sf (show ba [49]=_ from this)).symm.trans qK.symm);unfold ctext cl;rw [Hv hd,Ij]; exact hnt
  ·have:=ht.2.2
   show t.1.size+1≤maxLen;unfold maxLen; omega
  ·have:=ht.2.2
   have:=hu.2.2;rw [Dy];show t.1.size+1+u.1.size≤maxLen;unfold maxLen; omega
  ·have h1:u.1≠(⟨#[49]⟩:ByteArray):=HG h1
   have h2:=hut hh;have hd:(rv a).den≠1:=fun e=>h1 (by rw [h2,e,qK]; rfl)
   unfold ctext cl;rw [Hs hd];simp only;rw [hnt,h2,show (⟨#[47]⟩:ByteArray)=ba [47] from rfl,zg,zg,Ia]; rfl
theorem EH {p q:Rat} (h1:p.num=q.num) (h2:p.den=q.den):p=q:=Rat.ext h1 h2
theorem uy {n:Int} (h:(Lib.decDigits n.natAbs).length≤2000):Gd (iW (ba (Lib.itoa n))) (fun a=>oK a∧a.words.length≤10000∧eY a=n):=by
 have hD:=jD n.natAbs;have:=AV hD.1.xL h (decide (n<0));rw [pV];simp only [IN] at this;refine this.mono (fun a ha=>⟨ha.1,ha.2.1,?_⟩);rw [ha.2.2,hD.2]
 split <;> omega
theorem vH (n:Int):(47:UInt8) ∉ Lib.itoa n:=by
 rw [pV];have:=vW (jD n.natAbs).1.xL
 split
 ·simp only [Ix,not_or]; exact ⟨by decide,this⟩
 ·exact this
theorem Az {n:Int} (h:(Lib.decDigits n.natAbs).length≤2000):(Lib.itoa n).length≤2001:=by
 rw [pV]
 split
 ·simp only [HD]; omega
 ·omega
theorem Ea {q:Rat}{k:Nat} (hn:q.num.natAbs<10 ^ k) (hd:q.den<10 ^ k) (hk:1≤k) (hk2:k≤2000):fits q:=
 ⟨I2 (wR hk hn) hk2,I2 (wR hk hd) hk2⟩
theorem zx {q:Rat} (h:fits q):(ctext q).size≤10000:=by
 unfold ctext cl;rw [fQ,HZ];have:=Az h.1;have:=h.2
 split
 ·simp; omega
 ·simp only [HD]; omega
theorem yd {l:List ByteArray} (hs:∀ s ∈ l,s.size≤maxLen):Gd (qw l) (fun c=>c=0↔∀ s ∈ l,∃ q,fits q∧s=ctext q):=by
 unfold qw;refine Gd.seen (fun pre _=>∀ s ∈ pre,∃ q,fits q∧s=ctext q) ?_ (fun _ hI=>Gd.ret ⟨fun _=>hI,fun _=>rfl⟩) () (fun s hs=>by cases hs)
 rintro i y _ nx pre ⟨post,hl⟩ hI hnx;have hy:y ∈ l:=by rw [hl]; simp
 unfold qQ;refine Gd.eV (BC y (hs y hy)) (fun c hc=>Gd.ite (fun h=>Gd.ret ?_) (fun h=>hnx () (fun z hz=>?_)))
 ·have h:c≠0:=by simpa using h
  exact ⟨fun e=>absurd e h,fun e=>absurd (hc.2 (e y hy)) h⟩
 ·have h:c=0:=by simpa using h
  rcases Ih.1 hz with hz | hz
  ·exact hI z hz
  ·rw [IS] at hz; subst hz; exact hc.1 h
def RB (q:Rat) (L:Nat):Prop:=∃ r:LR,lG r∧RL r L∧rv r=q
theorem lG.rb {r:LR} (h:lG r) {L:Nat} (hb:RB (rv r) L):RL r L:=by
 obtain ⟨s,h1,h2,h3⟩:=hb;rw [h.ext' h1 h3.symm]; exact h2
theorem RB.mono {q:Rat}{L M:Nat} (h:RB q L) (hM:L≤M):RB q M:=by
 obtain ⟨s,h1,h2,h3⟩:=h;exact ⟨s,h1,h2.mono hM,h3⟩
theorem RB.add {p q:Rat}{A B:Nat} (h:RB p A) (k:RB q B) (hz:A+B≤800000):RB (p+q) (A+B+1):=by
 obtain ⟨a,h1,h2,h3⟩:=h; obtain ⟨b,k1,k2,k3⟩:=k
 obtain ⟨r,_,r1,r2,r3⟩:=rH h1 k1 h2 k2 hz;exact ⟨r,r1,r2,by rw [r3,h3,k3]⟩
theorem RB.sub {p q:Rat}{A B:Nat} (h:RB p A) (k:RB q B) (hz:A+B≤800000):RB (p-q) (A+B+1):=by
 obtain ⟨a,h1,h2,h3⟩:=h; obtain ⟨b,k1,k2,k3⟩:=k
 obtain ⟨r,_,r1,r2,r3⟩:=sM h1 k1 h2 k2 hz;exact ⟨r,r1,r2,by rw [r3,h3,k3]⟩
theorem RB.mul {p q:Rat}{A B:Nat} (h:RB p A) (k:RB q B) (hz:A+B≤800000):RB (p*q) (A+B):=by
 obtain ⟨a,h1,h2,h3⟩:=h; obtain ⟨b,k1,k2,k3⟩:=k
 obtain ⟨r,_,r1,r2,r3⟩:=tZ h1 k1 h2 k2 hz;exact ⟨r,r1,r2,by rw [r3,h3,k3]⟩
theorem FD {w:List bI} (hw:Wf w) (ht:qV w) {k:Nat} (h:nv w<WB ^ k):w.length≤k:=by
 rcases JG k w.length with hl | hl
 ·exfalso
  have hne:w≠[]:=fun e=>by rw [e] at hl; simp at hl
  have h1:=yG hw ht hne;have h2:WB ^ k≤WB ^ (w.length-1):=Ni (by decide) (by omega)
  exact absurd h (Nat.not_lt.2 (I2 h2 h1))
 ·exact hl
theorem BP (k m:Nat) (h:32*k≤3*m):WB ^ k≤10 ^ m:=by
 have h3:(2:Nat) ^ (32*k)≤2 ^ (3*m):=Ni (by decide) h
 have h5:((2:Nat) ^ 3) ^ m≤10 ^ m:=Nh (by decide) m
 rw [← Nk] at h5;rw [u_ k];exact I2 h3 h5
theorem DL {k:Nat} (hk:k≤187):WB ^ k≤10 ^ 2000:=BP k 2000 (by omega)
theorem RB.fits {q:Rat}{L:Nat} (h:RB q L) (hL:L≤187):fits q:=by
 obtain ⟨r,h1,h2,rfl⟩:=h;have e:=DL hL;have key:∀ {w:List bI},Wf w→w.length≤L→nv w<10 ^ 2000:=fun hw hl=>
  M7 (oI hw) (I2 (Ni (by decide) hl) e)
 refine Ea (k:=2000) ?_ ?_ (by decide) (HQ _)
 ·rw [h1.num,iJ]; exact key h1.n.wf h2.1
 ·rw [h1.den]; exact key h1.d.wf h2.2
theorem Fb {m:Int}{k:Nat} (h:m.natAbs<WB ^ k) (hk:k≤187):∃ a:LI,oK a∧a.words.length≤k∧eY a=m:=by
 obtain ⟨a,_,h1,h2,h3⟩:=uy (n:=m) (wR (by decide) (M7 h (DL hk)))
 exact ⟨a,h1,FD h1.wf h1.tp (by rw [← iJ,h3]; exact h),h3⟩
theorem RB.ratio {m d:Int}{k:Nat} (h:m.natAbs<WB ^ k) (hd:d.natAbs<WB ^ k) (h0:d≠0) (hk:k≤187):RB ((m:Rat) / (d:Rat)) k:=by
 obtain ⟨a,a1,a2,a3⟩:=Fb h hk;obtain ⟨b,b1,b2,b3⟩:=Fb hd hk;obtain ⟨r,_,r1,r2,r3,r4⟩:=sy a1 b1 (by rw [← iJ,b3]; omega) (by omega) (by omega)
 exact ⟨r,r1,⟨by omega,by omega⟩,by rw [r4,a3,b3,Rat.divInt_eq_div]⟩
theorem RB.int {m:Int}{k:Nat} (h:m.natAbs<WB ^ k) (h1:1≤k) (hk:k≤187):RB (m:Rat) k:=by
 have:=RB.ratio (m:=m) (d:=1) h (by
  have:WB ^ 1≤WB ^ k:=Ni (by decide) h1
  have:WB ^ 1=4294967296:=by decide
  show 1<WB ^ k;omega) (by decide) hk
 have e:(m:Rat) / ((1:Int):Rat)=(m:Rat):=by rw [Rat.intCast_one]; grind
 rwa [e] at this
theorem RB.small {m:Int} (h:m.natAbs<4294967296):RB (m:Rat) 1:=RB.int (k:=1) (by show m.natAbs<4294967296 ^ 1; omega) (by decide) (by decide)
theorem RB.GA {m d:Int} (h:m.natAbs<4294967296) (hd:d.natAbs<4294967296) (h0:d≠0):RB ((m:Rat) / (d:Rat)) 1:=
 RB.ratio (k:=1) (by show m.natAbs<4294967296 ^ 1; omega) (by show d.natAbs<4294967296 ^ 1; omega) h0 (by decide)
theorem Df {q:Rat} (h:fits q):Gd (nJ (ctext q)) (fun a=>lG a∧RL a 300∧rv a=q):=by
 have fin:∀ a:LR,oK a.N→oK a.D→eY a.N=q.num→eY a.D=(q.den:Int)→lG a∧RL a 300∧rv a=q:=fun a h1 h2 h3 h4=>by
  have hp:a.D.minus=false:=h2.plus (by omega)
  have hd:nv a.D.words=q.den:=by
   have:=ml hp;omega
  have hok:lG a:=⟨h1,h2,hp,by rw [hd]; exact q.den_nz,by rw [hd,← iJ,h3]; exact q.reduced⟩
  have hv:rv a=q:=EH (by rw [hok.num,h3]) (by rw [hok.den,hd])
  exact ⟨hok,hok.small (by rw [hv]; exact h),hv⟩
 have hl:=Az h.1;unfold nJ ctext cl
 by_cases hd:q.den=1
 ·rw [Hv hd,Ij]
  refine Gd.bind_eq (vr (vH _)) (Gd.ite (fun _=>?_) (fun hx=>by simp at hx))
  refine Gd.eV (uy h.1) (fun a ha=>Gd.eV (v_ (n:=1) (by omega)) (fun b hb=>Gd.ret ?_))
  exact fin _ ha.1 hb.1 ha.2.2 (by rw [hb.2.2,hd]; rfl)
 ·rw [Hs hd]
  refine Gd.bind_eq (vw (vH _) (by have:=h.2; unfold maxLen; omega)) (Gd.ite (fun hx=>by simp at hx) (fun _=>?_))
  refine Gd.eV (uy h.1) (fun a ha=>Gd.eV (we (jD q.den).1 h.2) (fun b hb=>Gd.ret ?_));exact fin _ ha.1 hb.1 ha.2.2 (by rw [hb.2.2,(jD q.den).2])
end Go.Sim
namespace Go.Sim
open _root_.Go.IntKind (i64 u64 u32 u8)
def sm:Nat→(Nat→Rat)→Rat
 | 0,_=>0
 | n+1,f=>sm n f+f n
def pr:Nat→(Nat→Rat)→Rat
 | 0,_=>1
 | n+1,f=>pr n f*f n
theorem lE {f g:Nat→Rat}:∀ {n:Nat},(∀ i,i<n→f i=g i)→sm n f=sm n g
 | 0,_=>rfl
 | n+1,h=>by
  unfold sm;rw [lE (fun i hi=>h i (by omega)),h n (by omega)]
theorem rl {f g:Nat→Rat}:∀ {n:Nat},(∀ i,i<n→f i=g i)→pr n f=pr n g
 | 0,_=>rfl
 | n+1,h=>by
  unfold pr;rw [rl (fun i hi=>h i (by omega)),h n (by omega)]
theorem qU {f:Nat→Rat}:∀ {n:Nat},(∀ i,i<n→f i=0)→sm n f=0
 | 0,_=>rfl
 | n+1,h=>by
  unfold sm;rw [qU (fun i hi=>h i (by omega)),h n (by omega)]; grind
theorem rK (f g:Nat→Rat):∀ n:Nat,sm n (fun i=>f i+g i)=sm n f+sm n g
 | 0=>by unfold sm; grind
 | n+1=>by unfold sm; rw [rK f g n]; grind
theorem nD (a:Rat) (f:Nat→Rat):∀ n:Nat,sm n (fun i=>a*f i)=a*sm n f
 | 0=>by unfold sm; grind
 | n+1=>by unfold sm; rw [nD a f n]; grind
theorem wu {f:Nat→Rat}{p:Nat}:∀ {n:Nat},p<n→(∀ i,i<n→i≠p→f i=0)→sm n f=f p
 | 0,h,_=>by omega
 | n+1,h,hz=>by
  unfold sm
  by_cases e:p=n
  ·subst e
   rw [qU (fun i hi=>hz i (by omega) (by omega))]; grind
  ·rw [wu (by omega) (fun i hi hne=>hz i (by omega) hne),hz n (by omega) (fun h=>e h.symm)]; grind
theorem DB {f:Nat→Rat}{p:Nat}:∀ {n:Nat},p+1<n→(∀ i,i<n→i≠p→i≠p+1→f i=0)→sm n f=f p+f (p+1)
 | 0,h,_=>by omega
 | n+1,h,hz=>by
  unfold sm
  by_cases e:p+1=n
  ·subst e
   rw [wu (p:=p) (by omega) (fun i hi hne=>hz i (by omega) hne (by omega))]
  ·rw [DB (by omega) (fun i hi h1 h2=>hz i (by omega) h1 h2),hz n (by omega) (by omega) (fun h=>e h.symm)]; grind
theorem pj {f:Nat→Rat}:∀ {n:Nat},(∀ i,i<n→0≤f i)→0≤sm n f
 | 0,_=>Nx
 | n+1,h=>by
  unfold sm;have h1:=pj (n:=n) (fun i hi=>h i (by omega))
  have h2:=h n (by omega)
  grind
theorem DA {f g:Nat→Rat}:∀ {n:Nat},(∀ i,i<n→f i≤g i)→sm n f≤sm n g
 | 0,_=>Nx
 | n+1,h=>by
  unfold sm;have h1:=DA (n:=n) (fun i hi=>h i (by omega))
  have h2:=h n (by omega)
  grind
theorem kd {f:Nat→Rat}:∀ {n:Nat},(∀ i,i<n→0≤f i)→0≤pr n f
 | 0,_=>by unfold pr; decide
 | n+1,h=>by
  unfold pr;exact NB (kd (n:=n) (fun i hi=>h i (by omega))) (h n (by omega))
theorem mC {a b c d:Rat} (h1:a≤b) (h2:c≤d) (a0:0≤a) (c0:0≤c):a*c≤b*d:=by
 have x1:a*c≤b*c:=Rat.mul_le_mul_of_nonneg_right h1 c0;have x2:b*c≤b*d:=Rat.mul_le_mul_of_nonneg_left h2 (by grind)
 exact Ny x1 x2
theorem AR {f g:Nat→Rat}:∀ {n:Nat},(∀ i,i<n→0≤f i)→(∀ i,i<n→f i≤g i)→pr n f≤pr n g
 | 0,_,_=>Nx
 | n+1,h0,h=>by
  unfold pr;exact mC (AR (fun i hi=>h0 i (by omega)) (fun i hi=>h i (by omega))) (h n (by omega)) (kd (fun i hi=>h0 i (by omega))) (h0 n (by omega))
theorem xA (f g:Nat→Rat):∀ n:Nat,pr n (fun i=>f i*g i)=pr n f*pr n g
 | 0=>by unfold pr; grind
 | n+1=>by unfold pr; rw [xA f g n]; grind
abbrev Mt:=Nat→Nat→Rat
def skip (p i:Nat):Nat:=if i<p then i else i+1
def minor (M:Mt) (p:Nat):Mt:=fun r c=>M (skip p r) (c+1)
def sg (i:Nat):Rat:=if i%2=0 then 1 else -1
def mP:Nat→Mt→Rat
 | 0,_=>1
 | n+1,M=>sm (n+1) (fun i=>sg i*M i 0*mP n (minor M i))
def row (M:Mt) (p:Nat) (x:Nat→Rat):Mt:=fun r=>if r=p then x else M r
theorem sK:∀ {n:Nat}{M M':Mt},(∀ r c,r<n→c<n→M r c=M' r c)→mP n M=mP n M'
 | 0,_,_,_=>rfl
 | n+1,M,M',h=>by
  unfold mP;refine lE (fun i hi=>?_);rw [h i 0 hi (by omega),sK (fun r c hr hc=>?_)]
  unfold minor;exact h _ _ (by unfold skip; split <;> omega) (by omega)
theorem qA (M:Mt) (p:Nat) (x:Nat→Rat):minor (row M p x) p=minor M p:=by
 funext r c
 unfold minor row;rw [Hs (by unfold skip; split <;> omega)]
theorem rE (M:Mt) {p i:Nat} (h:p<i) (x:Nat→Rat):minor (row M p x) i=row (minor M i) p (fun c=>x (c+1)):=by
 funext r c
 unfold minor row
 by_cases e:r=p
 ·subst e
  rw [Hv (by unfold skip; rw [Hv h]),Hv rfl]
 ·rw [Hs (by unfold skip; split <;> omega),Hs e]
theorem rD (M:Mt) {p i:Nat} (h:i<p) (x:Nat→Rat):minor (row M p x) i=row (minor M i) (p-1) (fun c=>x (c+1)):=by
 funext r c
 unfold minor row
 by_cases e:r=p-1
 ·subst e
  rw [Hv (by unfold skip; split <;> omega),Hv rfl]
 ·rw [Hs (by unfold skip; split <;> omega),Hs e]
theorem tF:∀ {n:Nat} (M:Mt) {p:Nat} (hp:p<n) (a b:Rat) (x y:Nat→Rat),mP n (row M p (fun c=>a*x c+b*y c))=a*mP n (row M p x)+b*mP n (row M p y)
 | 0,_,_,h,_,_,_,_=>by omega
 | n+1,M,p,hp,a,b,x,y=>by
  unfold mP;rw [← nD,← nD,← rK];refine lE (fun i hi=>?_);rcases KV i p with h | h | h
  ·rw [rD M h,rD M h,rD M h,tF (minor M i) (by omega) a b (fun c=>x (c+1)) (fun c=>y (c+1))]
   unfold row;rw [Hs (by omega),Hs (by omega),Hs (by omega)]
   grind
  ·subst h
   rw [qA,qA,qA];unfold row;rw [Hv rfl,Hv rfl,Hv rfl]
   grind
  ·rw [rE M h,rE M h,rE M h,tF (minor M i) (by omega) a b (fun c=>x (c+1)) (fun c=>y (c+1))]
   unfold row;rw [Hs (by omega),Hs (by omega),Hs (by omega)]
   grind
theorem EK (i:Nat):sg (i+1) = - sg i:=by
 unfold sg
 by_cases h:i%2=0
 ·rw [Hv h,Hs (by omega)]
 ·rw [if_neg h,if_pos (by omega)]; grind
theorem uV:∀ {n:Nat}{M:Mt}{p:Nat},p+1<n→(∀ c,c<n→M p c=M (p+1) c)→mP n M=0
 | 0,_,_,h,_=>by omega
 | n+1,M,p,hp,he=>by
  unfold mP;rw [DB (p:=p) hp (fun i hi h1 h2=>?_)]
  ·have:mP n (minor M p)=mP n (minor M (p+1)):=sK (fun r c hr hc=>by
    unfold minor skip
    by_cases e:r=p
    ·subst e
     rw [Hs (by omega),Hv (by omega)]
     exact (he (c+1) (by omega)).symm
    ·by_cases e2:r<p
     ·rw [Hv e2,Hv (by omega)]
     ·rw [Hs e2,Hs (by omega)])
   rw [this,EK,he 0 (by omega)]
   grind
  ·have:mP n (minor M i)=0:=by
    rcases KV i p with h | h | h
    ·refine uV (p:=p-1) (by omega) (fun c hc=>?_)
     unfold minor skip;rw [Hs (by omega),Hs (by omega),show p-1+1=p by omega]
     exact he (c+1) (by omega)
    ·exact absurd h h1
    ·refine uV (p:=p) (by omega) (fun c hc=>?_)
     unfold minor skip;rw [Hv (by omega),Hv (by omega)]
     exact he (c+1) (by omega)
   rw [this]; grind
theorem wh (M:Mt) (p:Nat):row M p (M p)=M:=by
 funext r
 unfold row
 by_cases e:r=p
 ·subst e; rw [Hv rfl]
 ·rw [Hs e]
theorem rq (M:Mt) {p q:Nat} (h:p≠q) (x y:Nat→Rat):row (row M p x) q y=row (row M q y) p x:=by
 funext r
 unfold row
 by_cases e:r=q
 ·subst e; rw [Hv rfl,Hs (fun e=>h e.symm),Hv rfl]
 ·rw [Hs e]
  by_cases e2:r=p
  ·rw [Hv e2,Hv e2]
  ·rw [Hs e2,Hs e2,Hs e]
theorem vx {n:Nat} (M:Mt) {p:Nat} (hp:p<n) (x y:Nat→Rat):mP n (row M p (fun c=>x c+y c))=mP n (row M p x)+mP n (row M p y):=by
 have:=tF M hp 1 1 x y;simp only [Rat.one_mul] at this;exact this
theorem Cv {n:Nat} (M:Mt) {p:Nat} (hp:p+1<n) (x y:Nat→Rat):mP n (row (row M p x) (p+1) y) = - mP n (row (row M p y) (p+1) x):=by
 have two:∀ u:Nat→Rat,mP n (row (row M p u) (p+1) u)=0:=fun u=>uV hp (fun c hc=>by
  unfold row;rw [Hs (by omega),Hv rfl,Hv rfl])
 have h:=two (fun c=>x c+y c);have hne:p≠p+1:=by omega
 rw [vx _ hp,rq M hne,rq M hne,vx _ (by omega),vx _ (by omega),← rq M hne,← rq M hne,← rq M hne,← rq M hne,two x,two y] at h
 grind
theorem xc:∀ (k:Nat) {n:Nat}{M:Mt}{p q:Nat},q=p+1+k→q<n→(∀ c,M p c=M q c)→mP n M=0
 | 0,n,M,p,q,hq,hn,he=>by
  subst hq;exact uV (by omega) (fun c _=>he c)
 | k+1,n,M,p,q,hq,hn,he=>by
  have e1:mP n M=mP n (row (row M (q-1) (M (q-1))) (q-1+1) (M (q-1+1))):=by
   rw [wh,wh]
  rw [e1,Cv M (by omega)]
  have:mP n (row (row M (q-1) (M (q-1+1))) (q-1+1) (M (q-1)))=0:=by
   refine xc k (p:=p) (q:=q-1) (by omega) (by omega) (fun c=>?_)
   unfold row;rw [Hs (by omega),Hs (by omega),Hs (by omega),Hv rfl,show q-1+1=q by omega]
   exact he c
  rw [this]; grind
theorem Ct {n:Nat}{M:Mt}{p q:Nat} (hp:p<n) (hq:q<n) (hne:p≠q) (he:∀ c,M p c=M q c):mP n M=0:=by
 rcases JG p q with h | h
 ·exact xc (q-p-1) (p:=p) (q:=q) (by omega) hq he
 ·exact xc (p-q-1) (p:=q) (q:=p) (by omega) hp (fun c=>(he c).symm)
theorem xe {n:Nat} (M:Mt) {p:Nat} (hp:p<n):mP n (row M p (fun _=>0))=0:=by
 have:=tF M hp 0 0 (fun _=>0) (fun _=>0);have e:(fun c:Nat=>(0:Rat)*(fun _:Nat=>(0:Rat)) c+0*(fun _:Nat=>(0:Rat)) c)=fun _=>0:=by funext c; grind
 rw [e] at this;rw [this]; grind
theorem vy {n:Nat} (M:Mt) {p:Nat} (hp:p<n) (x:Nat→Rat) (Y:Mt):∀ k:Nat,mP n (row M p (fun c=>sm k (fun j=>x j*Y j c)))=sm k (fun j=>x j*mP n (row M p (Y j)))
 | 0=>xe M hp
 | k+1=>by
  have e:(fun c=>sm (k+1) (fun j=>x j*Y j c))=fun c=>1*sm k (fun j=>x j*Y j c)+x k*Y k c:=by
   funext c
   show sm k (fun j=>x j*Y j c)+x k*Y k c=_;rw [Rat.one_mul]
  rw [e,tF M hp 1 (x k) (fun c=>sm k (fun j=>x j*Y j c)) (Y k),vy M hp x Y k];show _=sm k _+_
  grind
theorem yf {n:Nat} (M:Mt) {p:Nat} (hp:p<n) (x:Nat→Rat):mP n (row M p (fun c=>sm n (fun j=>x j*M j c)))=x p*mP n M:=by
 rw [vy M hp,wu hp (fun j hj hne=>?_),wh];have:mP n (row M p (M j))=0:=Ct hp hj (fun e=>hne e.symm) (fun c=>by
  unfold row;rw [Hv rfl,Hs hne])
 rw [this]; grind
theorem Cp {n:Nat}{M:Mt}{x b:Nat→Rat} (h:∀ c,c<n→sm n (fun j=>x j*M j c)=b c) {p:Nat} (hp:p<n):mP n (row M p b)=x p*mP n M:=by
 rw [← yf M hp];refine sK (fun r c hr hc=>?_);unfold row
 by_cases e:r=p
 ·rw [Hv e,Hv e]; exact (h c hc).symm
 ·rw [Hs e,Hs e]
theorem yg:∀ {n:Nat}{M:Mt},(∀ c,c<n→M n c=0)→mP (n+1) M=M n n*mP n M
 | 0,M,_=>by
  show (0:Rat)+sg 0*M 0 0*1=M 0 0*1;have:sg 0=1:=rfl;rw [this]; grind
 | n+1,M,h=>by
  have e1:mP (n+1+1) M=sm (n+1) (fun i=>sg i*M i 0*mP (n+1) (minor M i))+sg (n+1)*M (n+1) 0*mP (n+1) (minor M (n+1)):=rfl;have e2:mP (n+1) M=sm (n+1) (fun i=>sg i*M i 0*mP n (minor M i)):=rfl;rw [e1,e2,h 0 (by omega),← nD]
  have:sm (n+1) (fun i=>sg i*M i 0*mP (n+1) (minor M i))=sm (n+1) (fun i=>M (n+1) (n+1)*(sg i*M i 0*mP n (minor M i))):=by
   refine lE (fun i hi=>?_);have hs:skip i n=n+1:=by unfold skip; rw [Hs (by omega)]
   have hl:mP (n+1) (minor M i)=minor M i n n*mP n (minor M i):=yg (fun c hc=>by
    unfold minor;rw [hs];exact h (c+1) (by omega))
   have hm:minor M i n n=M (n+1) (n+1):=by unfold minor; rw [hs]
   rw [hl,hm]; grind
  rw [this]; grind
def pU (q:Rat):Prop:=∃ z:Int,q=(z:Rat)
theorem tJ {a b:Rat} (h:pU a) (k:pU b):pU (a+b):=by
 obtain ⟨x,rfl⟩:=h; obtain ⟨y,rfl⟩:=k
 exact ⟨x+y,(Rat.intCast_add x y).symm⟩
theorem ou {a b:Rat} (h:pU a) (k:pU b):pU (a*b):=by
 obtain ⟨x,rfl⟩:=h; obtain ⟨y,rfl⟩:=k
 exact ⟨x*y,(Nv x y).symm⟩
theorem FB (i:Nat):pU (sg i):=by
 unfold sg
 split
 ·exact ⟨1,rfl⟩
 ·exact ⟨-1,rfl⟩
theorem zK {f:Nat→Rat}:∀ {n:Nat},(∀ i,i<n→pU (f i))→pU (sm n f)
 | 0,_=>⟨0,rfl⟩
 | n+1,h=>by unfold sm; exact tJ (zK (fun i hi=>h i (by omega))) (h n (by omega))
theorem xd:∀ {n:Nat}{M:Mt},(∀ r c,r<n→c<n→pU (M r c))→pU (mP n M)
 | 0,_,_=>⟨1,rfl⟩
 | n+1,M,h=>by
  unfold mP;exact zK (fun i hi=>ou (ou (FB i) (h i 0 hi (by omega))) (xd (fun r c hr hc=>h _ _ (by unfold skip; split <;> omega) (by omega))))
theorem AT (v w:Nat→Rat) (hv:∀ i,0≤v i) (hw:∀ i,0≤w i):∀ n:Nat,sm (n+1) (fun i=>v i*pr n (fun r=>w (skip i r)))+pr (n+1) w≤pr (n+1) (fun r=>v r+w r)
 | 0=>by
  show 0+v 0*1+1*w 0≤1*(v 0+w 0)
  grind
 | n+1=>by
  have ih:=AT v w hv hw n;have e1:sm (n+1+1) (fun i=>v i*pr (n+1) (fun r=>w (skip i r)))=sm (n+1) (fun i=>v i*pr (n+1) (fun r=>w (skip i r)))+v (n+1)*pr (n+1) (fun r=>w (skip (n+1) r)):=rfl;have e2:sm (n+1) (fun i=>v i*pr (n+1) (fun r=>w (skip i r)))=w (n+1)*sm (n+1) (fun i=>v i*pr n (fun r=>w (skip i r))):=by
   rw [← nD];refine lE (fun i hi=>?_);have:pr (n+1) (fun r=>w (skip i r))=pr n (fun r=>w (skip i r))*w (n+1):=by
    show pr n _*w (skip i n)=_;rw [show skip i n=n+1 by unfold skip; rw [Hs (by omega)]]
   rw [this]; grind
  have e3:pr (n+1) (fun r=>w (skip (n+1) r))=pr (n+1) w:=rl (fun r hr=>by unfold skip; rw [Hv hr])
  have e4:pr (n+1+1) w=pr (n+1) w*w (n+1):=rfl;have e5:pr (n+1+1) (fun r=>v r+w r)=pr (n+1) (fun r=>v r+w r)*(v (n+1)+w (n+1)):=rfl;rw [e1,e2,e3,e4,e5];have s0:0≤sm (n+1) (fun i=>v i*pr n (fun r=>w (skip i r))):=pj (fun i _=>Rat.mul_nonneg (hv i) (kd (fun r _=>hw _)));have m1:=Rat.mul_le_mul_of_nonneg_right ih (show (0:Rat)≤v (n+1)+w (n+1) by have:=hv (n+1); have:=hw (n+1); grind)
  have m2:=NB s0 (hv (n+1))
  grind
theorem zA:∀ {n:Nat}{M A:Mt},(∀ r c,0≤A r c)→(∀ r c,r<n→c<n→-A r c≤M r c∧M r c≤A r c)→-pr n (fun r=>sm n (A r))≤mP n M∧mP n M≤pr n (fun r=>sm n (A r))
 | 0,_,_,_,_=>by unfold mP pr; exact ⟨by decide,by decide⟩
 | n+1,M,A,h0,h=>by
  have hsplit:∀ r,sm (n+1) (A r)=A r 0+sm n (fun c=>A r (c+1)):=fun r=>by
   have:∀ k,sm (k+1) (A r)=A r 0+sm k (fun c=>A r (c+1)):=fun k=>by
    induction k with
    | zero=>show 0+A r 0=A r 0+0; grind
    | succ k ih=>
     have e1:sm (k+1+1) (A r)=sm (k+1) (A r)+A r (k+1):=rfl;have e2:sm (k+1) (fun c=>A r (c+1))=sm k (fun c=>A r (c+1))+A r (k+1):=rfl;rw [e1,e2,ih]; grind
   exact this n
  have hw:∀ r,0≤sm n (fun c=>A r (c+1)):=fun r=>pj (fun c _=>h0 r (c+1));have hp:=AT (fun r=>A r 0) (fun r=>sm n (fun c=>A r (c+1))) (fun r=>h0 r 0) hw n;have hP:pr (n+1) (fun r=>sm (n+1) (A r))=pr (n+1) (fun r=>A r 0+sm n (fun c=>A r (c+1))):=rl (fun r _=>hsplit r);have hw1:=kd (n:=n+1) (f:=fun r=>sm n (fun c=>A r (c+1))) (fun r _=>hw r);have term:∀ i,i<n+1→-(A i 0*pr n (fun r=>sm n (fun c=>A (skip i r) (c+1))))≤sg i*M i 0*mP n (minor M i)∧sg i*M i 0*mP n (minor M i)≤A i 0*pr n (fun r=>sm n (fun c=>A (skip i r) (c+1))):=fun i hi=>by
   obtain ⟨d1,d2⟩:=zA (n:=n) (M:=minor M i) (A:=fun r c=>A (skip i r) (c+1)) (fun r c=>h0 _ _) (fun r c hr hc=>h _ _ (by unfold skip; split <;> omega) (by omega))
   obtain ⟨m1,m2⟩:=h i 0 hi (by omega)
   have key:∀ a b x y:Rat,-a≤x→x≤a→-b≤y→y≤b→-(a*b)≤x*y∧x*y≤a*b:=fun a b x y h1 h2 h3 h4=>by
    have t1:=Rat.mul_nonneg (show (0:Rat)≤a-x by grind) (show (0:Rat)≤b-y by grind)
    have t2:=Rat.mul_nonneg (show (0:Rat)≤a+x by grind) (show (0:Rat)≤b+y by grind)
    have t3:=Rat.mul_nonneg (show (0:Rat)≤a-x by grind) (show (0:Rat)≤b+y by grind)
    have t4:=Rat.mul_nonneg (show (0:Rat)≤a+x by grind) (show (0:Rat)≤b-y by grind)
    constructor <;> grind
   obtain ⟨k1,k2⟩:=key _ _ _ _ m1 m2 d1 d2;unfold sg
   split
   ·constructor <;> grind
   ·constructor <;> grind
  rw [hP];have hle:sm (n+1) (fun i=>A i 0*pr n (fun r=>sm n (fun c=>A (skip i r) (c+1))))≤pr (n+1) (fun r=>A r 0+sm n (fun c=>A r (c+1))):=by grind
  have up:mP (n+1) M≤sm (n+1) (fun i=>A i 0*pr n (fun r=>sm n (fun c=>A (skip i r) (c+1)))):=DA (fun i hi=>(term i hi).2);have lo:sm (n+1) (fun i=>(-1)*(A i 0*pr n (fun r=>sm n (fun c=>A (skip i r) (c+1)))))≤mP (n+1) M:=DA (fun i hi=>by have:=(term i hi).1; grind)
  rw [nD] at lo;constructor <;> grind
theorem Cu {k:Nat}{M:Mt}{x:Nat→Rat} (hx:x k=1) (h0:∀ c,c<k→sm (k+1) (fun j=>x j*M j c)=0):mP (k+1) M=sm (k+1) (fun j=>x j*M j k)*mP k M:=by
 have h1:=yf M (Hq k) x;rw [hx,Rat.one_mul] at h1;rw [← h1];have h2:mP (k+1) (row M k (fun c=>sm (k+1) (fun j=>x j*M j c)))=(row M k (fun c=>sm (k+1) (fun j=>x j*M j c))) k k*mP k (row M k (fun c=>sm (k+1) (fun j=>x j*M j c))):=yg (fun c hc=>by
  unfold row;rw [Hv rfl];exact h0 c hc)
 rw [h2];have h3:mP k (row M k (fun c=>sm (k+1) (fun j=>x j*M j c)))=mP k M:=sK (fun r c hr hc=>by
  unfold row;rw [Hs (by omega)])
 rw [h3];unfold row;rw [Hv rfl]
theorem zw {k:Nat}{M:Mt}{x b:Nat→Rat} (hM:∀ r c,r<k→c<k→pU (M r c)) (hb:∀ c,c<k→pU (b c)) (h:∀ c,c<k→sm k (fun j=>x j*M j c)=b c) {p:Nat} (hp:p<k):pU (x p*mP k M):=by
 rw [← Cp h hp];refine xd (fun r c hr hc=>?_);unfold row
 by_cases e:r=p
 ·rw [Hv e]; exact hb c hc
 ·rw [Hs e]; exact hM r c hr hc
theorem xB {f:Nat→Rat}:∀ {n:Nat},(∀ i,i<n→1≤f i)→1≤pr n f
 | 0,_=>by unfold pr; decide
 | n+1,h=>by
  unfold pr;have h1:=xB (n:=n) (fun i hi=>h i (by omega))
  have h2:=h n (by omega)
  have:=mC h1 h2 (by decide) (by decide)
  grind
theorem Dh {f:Nat→Rat}{s:Rat} (hs:0≤s) {p:Nat}:∀ {n:Nat},p<n→(∀ i,i<n→1≤f i)→pr n (fun r=>if r=p then s else f r)≤pr n f*s
 | 0,h,_=>by omega
 | n+1,h,h1=>by
  have hf:∀ i,i<n+1→0≤f i:=fun i hi=>by have:=h1 i hi; grind
  have hp0:=kd (n:=n) (f:=f) (fun i hi=>hf i (by omega))
  by_cases e:p=n
  ·subst e
   show pr p (fun r=>if r=p then s else f r)*(if p=p then s else f p)≤pr p f*f p*s
   rw [Hv rfl];have e2:pr p (fun r=>if r=p then s else f r)=pr p f:=rl (fun i hi=>Hs (by omega))
   rw [e2];have hps:=NB hp0 hs;have:=mC (Nx (a:=pr p f*s)) (h1 p (by omega)) hps (by decide)
   grind
  ·show pr n (fun r=>if r=p then s else f r)*(if n=p then s else f n)≤pr n f*f n*s
   rw [Hs (fun e2:n=p=>e e2.symm)];have hpn:p<n:=by omega
   have ih:=Dh (f:=f) hs hpn (fun i hi=>h1 i (Nat.lt_succ_of_lt hi));have:=Rat.mul_le_mul_of_nonneg_right ih (hf n (by omega))
   grind
theorem Be {k:Nat}{M A:Mt}{x b a:Nat→Rat}{S:Rat} (hA0:∀ r c,0≤A r c) (ha0:∀ c,0≤a c) (hM:∀ r c,r<k→c<k→-A r c≤M r c∧M r c≤A r c) (hb:∀ c,c<k→-a c≤b c∧b c≤a c)
  (h1:∀ r,r<k→1≤sm k (A r)) (hS:sm k a≤S) (h:∀ c,c<k→sm k (fun j=>x j*M j c)=b c) {p:Nat} (hp:p<k):-(pr k (fun r=>sm k (A r))*S)≤x p*mP k M∧x p*mP k M≤pr k (fun r=>sm k (A r))*S:=by
 rw [← Cp h hp];obtain ⟨d1,d2⟩:=zA (n:=k) (M:=row M p b) (A:=row A p a) (fun r c=>by
  unfold row
  by_cases e:r=p
  ·rw [Hv e]; exact ha0 c
  ·rw [Hs e]; exact hA0 r c) (fun r c hr hc=>by
  unfold row
  by_cases e:r=p
  ·rw [Hv e,Hv e]; exact hb c hc
  ·rw [Hs e,Hs e]; exact hM r c hr hc)
 have hs0:0≤sm k a:=pj (fun c _=>ha0 c);have e1:pr k (fun r=>sm k (row A p a r))=pr k (fun r=>if r=p then sm k a else sm k (A r)):=rl (fun r _=>by
  unfold row
  by_cases e:r=p
  ·rw [Hv e,Hv e]
  ·rw [Hs e,Hs e])
 rw [e1] at d1 d2;have h2:=Dh hs0 (p:=p) (n:=k) (f:=fun r=>sm k (A r)) hp h1;have h3:=Rat.mul_le_mul_of_nonneg_left hS (kd (n:=k) (f:=fun r=>sm k (A r)) (fun r hr=>by have:=h1 r hr; grind))
 have h4:=Rat.le_trans h2 h3;constructor <;> grind
def dl (i j:Nat):Rat:=if i=j then 1 else 0
theorem mV (i:Nat):dl i i=1:=Hv rfl
theorem mj {i j:Nat} (h:i≠j):dl i j=0:=Hs h
structure Gj (n:Nat) (A:Mt) (k:Nat) (m:Mt):Prop where
 comb:∀ i c,i<n→c<n→m i c=sm n (fun j=>m i (n+j)*A j c)
 right:∀ i j,i<n→j<n→k≤j→m i (n+j)=dl i j
 left:∀ i c,i<n→c<n→c<k→m i c=dl i c
def qj (k:Nat) (m:Mt):Mt:=fun i c=>if i=k then m k c / m k k else m i c-m i k*(m k c / m k k)
theorem Gj.step {n:Nat}{A m:Mt}{k:Nat} (h:Gj n A k m) (hk:k<n) (hd:m k k≠0):Gj n A (k+1) (qj k m):=by
 have hk0:∀ c,c<k→m k c=0:=fun c hc=>by rw [h.left k c hk (by omega) hc,mj (by omega)]
 have hkr:∀ j,j<n→k+1≤j→m k (n+j)=0:=fun j hj hkj=>by rw [h.right k j hk hj (by omega),mj (by omega)]
 have hdiv:m k k / m k k=1:=by rw [Nt]; exact NA _ hd
 refine ⟨fun i c hi hc=>?_,fun i j hi hj hkj=>?_,fun i c hi hc hck=>?_⟩
 ·have e1:=h.comb i c hi hc
  have e2:=h.comb k c hk hc;unfold qj
  by_cases e:i=k
  ·subst e
   simp only [if_true];have:(fun j=>m i (n+j) / m i i*A j c)=fun j=>(m i i)⁻¹*(m i (n+j)*A j c):=by funext j; rw [Rat.div_def]; grind
   rw [this,nD,← e2,Rat.div_def]; grind
  ·simp only [Hs e]
   have:(fun j=>(m i (n+j)-m i k*(m k (n+j) / m k k))*A j c)=fun j=>m i (n+j)*A j c+(-(m i k*(m k k)⁻¹))*(m k (n+j)*A j c):=by funext j; rw [Rat.div_def]; grind
   rw [this,rK,nD,← e1,← e2,Rat.div_def]; grind
 ·unfold qj
  have e1:=hkr j hj hkj
  by_cases e:i=k
  ·subst e
   rw [if_pos rfl,e1,mj (by omega),Rat.div_def]; grind
  ·rw [if_neg e,e1,h.right i j hi hj (by omega),Rat.div_def]; grind
 ·unfold qj
  by_cases e:i=k
  ·subst e
   rw [Hv rfl]
   by_cases e2:c=i
   ·subst e2; rw [hdiv,mV]
   ·rw [hk0 c (by omega),mj (fun e3=>e2 e3.symm),Rat.div_def]; grind
  ·rw [Hs e]
   by_cases e2:c=k
   ·subst e2; rw [hdiv,mj e]; grind
   ·rw [hk0 c (by omega),h.left i c hi hc (by omega),Rat.div_def]; grind
def Pd (n:Nat) (A:Mt):Prop:=∀ x:Nat→Rat,sm n (fun c=>x c*sm n (fun j=>x j*A j c))=0→∀ i,i<n→x i=0
theorem Gj.Fc {n:Nat}{A m:Mt}{k:Nat} (h:Gj n A k m) (hp:Pd n A) (hk:k<n):m k k≠0:=by
 intro h0;have h1:=hp (fun j=>m k (n+j)) (qU (fun c hc=>by
  have e1:=(h.comb k c hk hc).symm;show m k (n+c)*sm n (fun j=>m k (n+j)*A j c)=0;rw [e1];rcases KV c k with hck | hck | hck
  ·rw [h.left k c hk hc hck,mj (by omega)]; grind
  ·subst hck; rw [h0]; grind
  ·rw [h.right k c hk hc (by omega),mj (by omega)]; grind)) k hk
 have h2:=h.right k k hk hk (HQ k);have h3:m k (n+k)=0:=h1;rw [h2,mV] at h3;exact absurd h3 (by decide)
theorem Gj.Fs {n:Nat}{A m:Mt}{k:Nat} (h:Gj n A k m) (hk:k≤n) {i:Nat} (hi:i<n) {c:Nat} (hc:c<n):m i c=sm k (fun j=>m i (n+j)*A j c)+(if k≤i then A i c else 0):=by
 have key:∀ q,k≤q→q≤n→sm q (fun j=>m i (n+j)*A j c)=sm k (fun j=>m i (n+j)*A j c)+(if k≤i∧i<q then A i c else 0):=by
  intro q hq
  induction q with
  | zero=>
   intro _;obtain rfl:k=0:=by omega
   rw [if_neg (by omega)]; grind
  | succ q ih=>
   intro hqn
   by_cases e:k=q+1
   ·rw [← e,if_neg (by omega)]; grind
   ·have e1:sm (q+1) (fun j=>m i (n+j)*A j c)=sm q (fun j=>m i (n+j)*A j c)+m i (n+q)*A q c:=rfl
    rw [e1,ih (by omega) (by omega),h.right i q hi (by omega) (by omega)]
    by_cases e2:i=q
    ·subst e2
     rw [mV,if_neg (by omega),if_pos ⟨by omega,by omega⟩]; grind
    ·rw [mj e2]
     by_cases e3:k≤i∧i<q
     ·rw [if_pos e3,if_pos ⟨e3.1,by omega⟩]; grind
     ·rw [if_neg e3,if_neg (by omega)]; grind
 rw [h.comb i c hi hc,key n hk (HQ n)]
 by_cases e:k≤i
 ·rw [Hv ⟨e,hi⟩,Hv e]
 ·rw [Hs (fun e2=>e e2.1),Hs e]
theorem Gj.mP {n:Nat}{A m:Mt}{k:Nat} (h:Gj n A k m) (hk:k<n) {L:Nat→Rat} (hL:∀ i,i<n→L i≠0):Sim.mP (k+1) (fun r c=>L r*A r c)=L k*m k k*Sim.mP k (fun r c=>L r*A r c):=by
 have hc:∀ c,c<n→sm (k+1) (fun j=>(L k*m k (n+j) / L j)*(L j*A j c))=L k*m k c:=fun c hc=>by
  have e1:=h.Fs (Nat.le_of_lt hk) hk hc;rw [Hv (HQ k)] at e1;have e2:sm (k+1) (fun j=>(L k*m k (n+j) / L j)*(L j*A j c))=sm (k+1) (fun j=>L k*(m k (n+j)*A j c)):=lE (fun j hj=>by
   have:=NA (L j) (hL j (by omega))
   rw [Rat.div_def]; grind)
  rw [e2,nD];have e3:sm (k+1) (fun j=>m k (n+j)*A j c)=sm k (fun j=>m k (n+j)*A j c)+m k (n+k)*A k c:=rfl;rw [e3,h.right k k hk hk (Nat.le_refl k),mV,e1]; grind
 have h1:=Cu (k:=k) (M:=fun r c=>L r*A r c) (x:=fun j=>L k*m k (n+j) / L j) (by
  rw [h.right k k hk hk (HQ k),mV,Rat.mul_one,Nt];exact NA _ (hL k hk)) (fun c hck=>by
  rw [hc c (by omega),h.left k c hk (by omega) hck,mj (by omega)]; grind)
 rw [h1,hc k hk]
structure BY (n:Nat) (A:Mt) (L:Nat→Rat) (B:Mt) (R:Nat→Rat):Prop where
 li:∀ i,i<n→pU (L i)
 l1:∀ i,i<n→1≤L i
 ai:∀ i c,i<n→c<n→pU (L i*A i c)
 b0:∀ i c,0≤B i c
 b1:∀ i,i<n→1≤B i i
 ab:∀ i c,i<n→c<n→-B i c≤L i*A i c∧L i*A i c≤B i c
 rs:∀ i,i<n→sm n (B i)≤R i
theorem uZ {f:Nat→Rat} (h:∀ i,0≤f i) {k:Nat}:∀ {n:Nat},k≤n→sm k f≤sm n f
 | 0,hk=>by
  obtain rfl:k=0:=by omega
  exact Nx
 | n+1,hk=>by
  by_cases e:k=n+1
  ·subst e; exact Nx
  ·have h1:=uZ h (k:=k) (n:=n) (by omega)
   have h2:=h n;have h3:sm (n+1) f=sm n f+f n:=rfl;rw [h3]
   grind
theorem Fh {f:Nat→Rat} (h:∀ i,0≤f i) {k p:Nat} (hp:p<k):f p≤sm k f:=by
 have h1:=uZ h (k:=p+1) (n:=k) (by omega)
 have h2:=pj (n:=p) (f:=f) (fun i _=>h i);have h3:sm (p+1) f=sm p f+f p:=rfl
 grind
theorem BY.FN {n:Nat}{A B:Mt}{L R:Nat→Rat} (h:BY n A L B R) {k r:Nat} (hr:r<k) (hk:k≤n):1≤sm k (B r):=by
 have h1:=Fh (h.b0 r) hr;have h2:=h.b1 r (by omega)
 grind
theorem BY.R1 {n:Nat}{A B:Mt}{L R:Nat→Rat} (h:BY n A L B R) {r:Nat} (hr:r<n):1≤R r:=by
 have h1:=h.FN hr (HQ n);have h2:=h.rs r hr
 grind
theorem AS {f:Nat→Rat}{k:Nat}:∀ {n:Nat},k≤n→(∀ i,i<n→1≤f i)→pr k f≤pr n f
 | 0,hk,_=>by
  obtain rfl:k=0:=by omega
  exact Nx
 | n+1,hk,h=>by
  by_cases e:k=n+1
  ·subst e; exact Nx
  ·have h1:=AS (k:=k) (n:=n) (by omega) (fun i hi=>h i (by omega))
   have h2:=mC (Rat.le_refl (a:=pr n f)) (h n (by omega)) (kd (fun i hi=>by have:=h i (by omega); grind)) (by decide)
   have h3:pr (n+1) f=pr n f*f n:=rfl;rw [h3]
   grind
theorem BY.prod {n:Nat}{A B:Mt}{L R:Nat→Rat} (h:BY n A L B R) {k:Nat} (hk:k≤n):pr k (fun r=>sm k (B r))≤pr n R:=by
 have h1:pr k (fun r=>sm k (B r))≤pr k R:=AR (fun r hr=>by have:=h.FN hr hk; grind) (fun r hr=>Rat.le_trans (uZ (h.b0 r) hk) (h.rs r (by omega)))
 exact Ny h1 (AS hk (fun i hi=>h.R1 hi))
theorem BY.mP {n:Nat}{A B:Mt}{L R:Nat→Rat} (h:BY n A L B R) {k:Nat} (hk:k≤n):pU (Sim.mP k (fun r c=>L r*A r c))∧-pr n R≤Sim.mP k (fun r c=>L r*A r c)∧Sim.mP k (fun r c=>L r*A r c)≤pr n R:=by
 refine ⟨xd (fun r c hr hc=>h.ai r c (by omega) (by omega)),?_⟩
 obtain ⟨d1,d2⟩:=zA (n:=k) (M:=fun r c=>L r*A r c) (A:=B) h.b0 (fun r c hr hc=>h.ab r c (by omega) (by omega))
 have:=h.prod hk;constructor <;> grind
theorem Gj.num {n:Nat}{A B m:Mt}{L R:Nat→Rat}{k:Nat} (h:Gj n A k m) (s:BY n A L B R) (hk:k≤n) {i p:Nat} (hi:i<n) (hp:p<k):
  ∃ N:Rat,pU N∧-(pr n R*R i)≤N∧N≤pr n R*R i∧(if k≤i then L i else 1)*m i (n+p)*Sim.mP k (fun r c=>L r*A r c)=N*L p:=by
 have hL:∀ j,j<n→L j≠0:=fun j hj e=>by have:=s.l1 j hj; rw [e] at this; exact absurd this (by decide)
 have hx:∀ c,c<k→sm k (fun j=>((if k≤i then L i else 1)*m i (n+j) / L j)*((fun r c=>L r*A r c) j c))=if k≤i then -(L i*A i c) else dl i c:=fun c hc=>by
  have e1:=h.Fs hk hi (c:=c) (by omega)
  have e2:sm k (fun j=>((if k≤i then L i else 1)*m i (n+j) / L j)*((fun r c=>L r*A r c) j c))=sm k (fun j=>(if k≤i then L i else 1)*(m i (n+j)*A j c)):=lE (fun j hj=>by
   have:=NA (L j) (hL j (by omega))
   simp only [Nt]
   grind)
  rw [e2,nD];have e3:=h.left i c hi (by omega) hc
  by_cases e:k≤i
  ·rw [Hv e,Hv e]
   rw [Hv e,e3,mj (by omega)] at e1
   grind
  ·rw [Hs e,Hs e]
   rw [Hs e,e3] at e1
   grind
 have hb:∀ c,c<k→pU (if k≤i then -(L i*A i c) else dl i c):=fun c hc=>by
  by_cases e:k≤i
  ·rw [Hv e]
   obtain ⟨z,hz⟩:=s.ai i c hi (by omega)
   exact ⟨-z,by rw [hz,Nw]⟩
  ·rw [Hs e]
   unfold dl
   split
   ·exact ⟨1,rfl⟩
   ·exact ⟨0,rfl⟩
 have hB:∀ c,c<k→-(B i c)≤(if k≤i then -(L i*A i c) else dl i c)∧(if k≤i then -(L i*A i c) else dl i c)≤B i c:=fun c hc=>by
  have h1:=s.ab i c hi (by omega)
  have h2:=s.b0 i c
  by_cases e:k≤i
  ·rw [Hv e]
   constructor <;> grind
  ·rw [Hs e]
   unfold dl
   split
   ·rename_i e2
    subst e2;have:=s.b1 i hi;constructor <;> grind
   ·constructor <;> grind
 have c1:=zw (k:=k) (M:=fun r c=>L r*A r c) (fun r c hr hc=>s.ai r c (by omega) (by omega)) hb hx hp
 obtain ⟨c2,c3⟩:=Be (k:=k) (M:=fun r c=>L r*A r c) (A:=B) (a:=B i) (S:=R i) s.b0 (s.b0 i) (fun r c hr hc=>s.ab r c (by omega) (by omega)) hB (fun r hr=>s.FN hr hk) (Ny (uZ (s.b0 i) hk) (s.rs i hi)) hx hp
 have hP:=Rat.mul_le_mul_of_nonneg_right (s.prod hk) (show (0:Rat)≤R i by have:=s.R1 hi; grind)
 refine ⟨_,c1,by grind,by grind,?_⟩
 have:=NA (L p) (hL p (by omega))
 rw [Nt]
 grind
def qf (n:Nat) (x:Nat→Rat) (A:Mt):Rat:=sm n (fun c=>x c*sm n (fun j=>x j*A j c))
theorem Dm (n:Nat) (x:Nat→Rat) (A A':Mt):qf n x (fun j c=>A j c+A' j c)=qf n x A+qf n x A':=by
 unfold qf;rw [← rK];refine lE (fun c _=>?_);have:sm n (fun j=>x j*(A j c+A' j c))=sm n (fun j=>x j*A j c)+sm n (fun j=>x j*A' j c):=by
  rw [← rK];exact lE (fun j _=>by grind)
 rw [this]; grind
theorem Dn (n:Nat) (x e:Nat→Rat) (b:Rat):qf n x (fun j c=>b*e j*e c)=b*(sm n (fun j=>x j*e j)*sm n (fun j=>x j*e j)):=by
 unfold qf;have h1:sm n (fun c=>x c*sm n (fun j=>x j*(b*e j*e c)))=sm n (fun c=>(b*sm n (fun j=>x j*e j))*(x c*e c)):=lE (fun c _=>by
  have:sm n (fun j=>x j*(b*e j*e c))=sm n (fun j=>(b*e c)*(x j*e j)):=lE (fun j _=>by grind)
  rw [this,nD]; grind)
 rw [h1,nD]; grind
def fK:List (Rat×(Nat→Rat))→Mt
 | []=>fun _ _=>0
 | be::l=>fun j c=>be.1*be.2 j*be.2 c+fK l j c
theorem sq_nonneg (a:Rat):0≤a*a:=by
 rcases (Rat.le_total:(0:Rat)≤a∨a≤0) with h | h
 ·exact NB h h
 ·have:=Rat.mul_nonneg (show (0:Rat)≤-a by grind) (show (0:Rat)≤-a by grind)
  grind
theorem vI (n:Nat) (x:Nat→Rat):∀ (l:List (Rat×(Nat→Rat))),(∀ be ∈ l,0<be.1)→0≤qf n x (fK l)
 | [],_=>by
  have:qf n x (fK [])=0:=qU (fun c _=>by
   rw [qU (fun j _=>by show x j*0=0; grind)]; grind)
  rw [this]; exact Nx
 | be::l,h=>by
  have h1:=vI n x l (fun b hb=>h b (HB _ hb));have h2:=h be (Hm ..);have e:qf n x (fK (be::l))=be.1*(sm n (fun j=>x j*be.2 j)*sm n (fun j=>x j*be.2 j))+qf n x (fK l):=by
   rw [← Dn,← Dm]; rfl
  rw [e];have h3:=NB (Rat.le_of_lt h2) (sq_nonneg (sm n (fun j=>x j*be.2 j)))
  grind
theorem yu (n:Nat) (x:Nat→Rat):∀ (l:List (Rat×(Nat→Rat))),(∀ be ∈ l,0<be.1)→qf n x (fK l)=0→∀ be ∈ l,sm n (fun j=>x j*be.2 j)=0
 | [],_,_,be,hb=>by simp at hb
 | be::l,h,h0,b,hb=>by
  have h1:=vI n x l (fun b hb=>h b (HB _ hb));have h2:=h be (Hm ..);have e:qf n x (fK (be::l))=be.1*(sm n (fun j=>x j*be.2 j)*sm n (fun j=>x j*be.2 j))+qf n x (fK l):=by
   rw [← Dn,← Dm]; rfl
  rw [e] at h0;have h3:=Rat.mul_nonneg (Rat.le_of_lt h2) (sq_nonneg (sm n (fun j=>x j*be.2 j)));have h4:qf n x (fK l)=0:=by grind
  have h5:be.1*(sm n (fun j=>x j*be.2 j)*sm n (fun j=>x j*be.2 j))=0:=by grind
  rcases Ix.1 hb with rfl | hb
  ·rcases Nz.1 h5 with h6 | h6
   ·rw [h6] at h2; exact absurd h2 (Rat.lt_irrefl)
   ·rcases Nz.1 h6 with h7 | h7 <;> exact h7
  ·exact yu n x l (fun b hb=>h b (HB _ hb)) h4 b hb
inductive Lk (l:List (Rat×Nat×Nat)) (u:Nat):Nat→Prop
 | refl:Lk l u u
 | step {b:Rat}{v w:Nat}:Lk l u v→((b,v,w) ∈ l∨(b,w,v) ∈ l)→Lk l u w
def kD (F:Nat→Nat) (e:Rat×Nat×Nat):Rat×(Nat→Rat):=(e.1,fun j=>dl (F j) e.2.1-dl (F j) e.2.2)
theorem F8 {n:Nat}{F:Nat→Nat}{l:List (Rat×Nat×Nat)} (hb:∀ e ∈ l,0<e.1) (hF:∀ i j,i<n→j<n→F i=F j→i=j)
  (hr:∀ i,i<n→∃ r,(∀ j,j<n→F j≠r)∧Lk l (F i) r):Pd n (fK (l.map (kD F))):=by
 intro x h0 i hi;have hz:=yu n x (l.map (kD F)) (fun be hbe=>by
  obtain ⟨e,he,rfl⟩:=IQ.1 hbe;exact hb e he) h0
 have hd:∀ p q:Nat,sm n (fun j=>x j*(dl (F j) p-dl (F j) q))=sm n (fun j=>x j*dl (F j) p)-sm n (fun j=>x j*dl (F j) q):=fun p q=>by
  have h1:sm n (fun j=>x j*(dl (F j) p-dl (F j) q))=sm n (fun j=>x j*dl (F j) p+(-1)*(x j*dl (F j) q)):=lE (fun j _=>by grind)
  rw [h1,rK,nD]; grind
 have he:∀ (b:Rat) (p q:Nat),(b,p,q) ∈ l→sm n (fun j=>x j*dl (F j) p)=sm n (fun j=>x j*dl (F j) q):=fun b p q h=>by
  have h1:sm n (fun j=>x j*(dl (F j) p-dl (F j) q))=0:=hz (kD F (b,p,q)) (IQ.2 ⟨_,h,rfl⟩);have h2:=hd p q
  grind
 have hl:∀ u v,Lk l u v→sm n (fun j=>x j*dl (F j) u)=sm n (fun j=>x j*dl (F j) v):=fun u v h=>by
  induction h with
  | refl=>rfl
  | step _ h ih=>
   rcases h with h | h
   ·rw [ih]; exact he _ _ _ h
   ·rw [ih]; exact (he _ _ _ h).symm
 obtain ⟨r,hr1,hr2⟩:=hr i hi;have h1:=hl _ _ hr2;have h2:sm n (fun j=>x j*dl (F j) r)=0:=qU (fun j hj=>by rw [mj (hr1 j hj)]; grind)
 have h3:sm n (fun j=>x j*dl (F j) (F i))=x i*dl (F i) (F i):=wu hi (fun j hj hne=>by rw [mj (fun e=>hne (hF j i hj hi e))]; grind)
 rw [h2,h3,mV] at h1
 grind
def pO (u:Nat):List (Rat×Nat×Nat)→Rat
 | []=>1
 | e::l=>(if e.2.1=u∨e.2.2=u then e.1 else 1)*pO u l
def ra:List (Rat×Nat×Nat)→Rat
 | []=>1
 | e::l=>e.1*ra l
theorem uX {u:Nat}:∀ {l:List (Rat×Nat×Nat)},(∀ e ∈ l,pU e.1)→pU (pO u l)
 | [],_=>⟨1,rfl⟩
 | e::l,h=>by
  unfold pO;refine ou ?_ (uX (fun e he=>h e (HB _ he)))
  split
  ·exact h e (Hm ..)
  ·exact ⟨1,rfl⟩
theorem ua {u:Nat}:∀ {l:List (Rat×Nat×Nat)},(∀ e ∈ l,1≤e.1)→1≤pO u l
 | [],_=>Nx
 | e::l,h=>by
  unfold pO;have h1:=ua (u:=u) (l:=l) (fun e he=>h e (HB _ he));have h2:=h e (Hm ..)
  split
  ·have:=mC h2 h1 (by decide) (by decide)
   grind
  ·grind
theorem vj:∀ {l:List (Rat×Nat×Nat)},(∀ e ∈ l,1≤e.1)→1≤ra l
 | [],_=>Nx
 | e::l,h=>by
  unfold ra;have h1:=vj (l:=l) (fun e he=>h e (HB _ he));have h2:=h e (Hm ..);have:=mC h2 h1 (by decide) (by decide)
  grind
theorem xE {u:Nat}:∀ {l:List (Rat×Nat×Nat)},(∀ e ∈ l,pU e.1∧1≤e.1)→∀ e ∈ l,(e.2.1=u∨e.2.2=u)→∀ t:Rat,pU t→pU (pO u l*(t / e.1))
 | [],_,e,he,_,_,_=>by simp at he
 | d::l,h,e,he,hu,t,ht=>by
  have hl:∀ e ∈ l,pU e.1∧1≤e.1:=fun e he=>h e (HB _ he);unfold pO;rcases Ix.1 he with rfl | he
  ·rw [Hv hu]
   have hne:e.1≠0:=fun e0=>by have:=(h e (Hm ..)).2; rw [e0] at this; exact absurd this (by decide)
   have:=Rat.mul_inv_cancel e.1 hne;have h1:e.1*pO u l*(t / e.1)=pO u l*t:=by rw [Rat.div_def]; grind
   rw [h1];exact ou (uX (fun e he=>(hl e he).1)) ht
  ·have h1:=xE hl e he hu t ht
   have h2:(if d.2.1=u∨d.2.2=u then d.1 else 1)*pO u l*(t / e.1)=(if d.2.1=u∨d.2.2=u then d.1 else 1)*(pO u l*(t / e.1)):=Rat.mul_assoc ..
   rw [h2];refine ou ?_ h1
   split
   ·exact (h d (Hm ..)).1
   ·exact ⟨1,rfl⟩
theorem ux {F:Nat→Nat}{q:Rat} (hq:1≤q) {p:Nat}:∀ {n:Nat},(∀ i j,i<n→j<n→F i=F j→i=j)→pr n (fun i=>if F i=p then q else 1)≤q
 | 0,_=>hq
 | n+1,h=>by
  have ih:=ux hq (p:=p) (n:=n) (fun i j hi hj e=>h i j (by omega) (by omega) e)
  show pr n (fun i=>if F i=p then q else 1)*(if F n=p then q else 1)≤q
  by_cases e:F n=p
  ·rw [Hv e]
   have:pr n (fun i=>if F i=p then q else 1)=pr n (fun _=>1):=rl (fun i hi=>Hs (fun e2=>by
    have:=h i n (by omega) (by omega) (e2.trans e.symm)
    omega))
   rw [this];have h1:∀ k,pr k (fun _=>(1:Rat))=1:=fun k=>by
    induction k with
    | zero=>rfl
    | succ k ih=>show pr k (fun _=>(1:Rat))*1=1; rw [ih]; grind
   rw [h1]; grind
  ·rw [if_neg e]; grind
theorem yQ {n:Nat}{F:Nat→Nat} (hF:∀ i j,i<n→j<n→F i=F j→i=j):∀ {l:List (Rat×Nat×Nat)},(∀ e ∈ l,1≤e.1)→pr n (fun i=>pO (F i) l)≤ra l*ra l
 | [],_=>by
  have h1:∀ k,pr k (fun _=>(1:Rat))=1:=fun k=>by
   induction k with
   | zero=>rfl
   | succ k ih=>show pr k (fun _=>(1:Rat))*1=1; rw [ih]; grind
  show pr n (fun _=>(1:Rat))≤1*1;rw [h1,Rat.one_mul]; exact Nx
 | e::l,h=>by
  have hl:∀ e ∈ l,1≤e.1:=fun e he=>h e (HB _ he);have hq:=h e (Hm ..);have ih:=yQ hF hl;have e1:pr n (fun i=>pO (F i) (e::l))=pr n (fun i=>if e.2.1=F i∨e.2.2=F i then e.1 else 1)*pr n (fun i=>pO (F i) l):=by rw [← xA]; rfl
  have e2:pr n (fun i=>if e.2.1=F i∨e.2.2=F i then e.1 else 1)≤pr n (fun i=>(if F i=e.2.1 then e.1 else 1)*(if F i=e.2.2 then e.1 else 1)):=AR (fun i _=>by split <;> grind) (fun i _=>by
   have:=mC hq hq (by decide) (by decide)
   by_cases a:F i=e.2.1
   ·by_cases b:F i=e.2.2
    ·rw [Hv (.inl a.symm),Hv a,Hv b]
     have:=Rat.mul_le_mul_of_nonneg_left hq (show (0:Rat)≤e.1 by grind)
     grind
    ·rw [if_pos (.inl a.symm),if_pos a,if_neg b]; grind
   ·by_cases b:F i=e.2.2
    ·rw [if_pos (.inr b.symm),if_neg a,if_pos b]; grind
    ·rw [if_neg (fun h=>h.elim (fun h=>a h.symm) (fun h=>b h.symm)),if_neg a,if_neg b]; grind)
  rw [xA] at e2;have s1:=ux (F:=F) hq (p:=e.2.1) hF;have s2:=ux (F:=F) hq (p:=e.2.2) hF;have n1:0≤pr n (fun i=>if F i=e.2.1 then e.1 else 1):=kd (fun i _=>by split <;> grind)
  have n2:0≤pr n (fun i=>if F i=e.2.2 then e.1 else 1):=kd (fun i _=>by split <;> grind)
  have m1:=mC s1 s2 n1 n2;have n3:0≤pr n (fun i=>if e.2.1=F i∨e.2.2=F i then e.1 else 1):=kd (fun i _=>by split <;> grind)
  have n4:0≤pr n (fun i=>pO (F i) l):=kd (fun i _=>by have:=ua (u:=F i) hl; grind)
  have m2:=mC (Ny e2 m1) ih n3 n4;rw [e1];have e3:ra (e::l)=e.1*ra l:=rfl;rw [e3]
  grind
def wt (t:Rat) (e:Rat×Nat×Nat):Rat×Nat×Nat:=(t / e.1,e.2)
def lM (F:Nat→Nat) (e:Rat×Nat×Nat):Rat×(Nat→Rat):=(e.1,fun j=>dl (F j) e.2.1+dl (F j) e.2.2)
theorem rM (i j:Nat):dl i j=0∨dl i j=1:=by
 unfold dl
 split
 ·exact .inr rfl
 ·exact .inl rfl
theorem AB (F:Nat→Nat) (i c:Nat):∀ {l:List (Rat×Nat×Nat)},(∀ e ∈ l,0<e.1)→-fK (l.map (lM F)) i c≤fK (l.map (kD F)) i c∧fK (l.map (kD F)) i c≤fK (l.map (lM F)) i c
 | [],_=>by
  show -(0:Rat)≤0∧(0:Rat)≤0;constructor <;> decide
 | e::l,h=>by
  obtain ⟨h1,h2⟩:=AB F i c (l:=l) (fun e he=>h e (List.mem_cons_of_mem _ he));have h3:=h e (List.mem_cons_self ..);have e1:fK ((e::l).map (kD F)) i c=e.1*(dl (F i) e.2.1-dl (F i) e.2.2)*(dl (F c) e.2.1-dl (F c) e.2.2)+fK (l.map (kD F)) i c:=rfl;have e2:fK ((e::l).map (lM F)) i c=e.1*(dl (F i) e.2.1+dl (F i) e.2.2)*(dl (F c) e.2.1+dl (F c) e.2.2)+fK (l.map (lM F)) i c:=rfl;rw [e1,e2];rcases rM (F i) e.2.1 with a | a <;> rcases rM (F i) e.2.2 with b | b <;> rcases rM (F c) e.2.1 with u | u <;> rcases rM (F c) e.2.2 with v | v <;> rw [a,b,u,v] <;> constructor <;> grind
theorem sd (F:Nat→Nat) (i c:Nat):∀ {l:List (Rat×Nat×Nat)},(∀ e ∈ l,0<e.1)→0≤fK (l.map (lM F)) i c
 | [],_=>Nx
 | e::l,h=>by
  have h1:=sd F i c (l:=l) (fun e he=>h e (List.mem_cons_of_mem _ he));have h3:=h e (List.mem_cons_self ..);have e2:fK ((e::l).map (lM F)) i c=e.1*(dl (F i) e.2.1+dl (F i) e.2.2)*(dl (F c) e.2.1+dl (F c) e.2.2)+fK (l.map (lM F)) i c:=rfl;rw [e2];rcases rM (F i) e.2.1 with a | a <;> rcases rM (F i) e.2.2 with b | b <;> rcases rM (F c) e.2.1 with u | u <;> rcases rM (F c) e.2.2 with v | v <;> rw [a,b,u,v] <;> grind
theorem AD {F:Nat→Nat}{t:Rat} (ht:pU t) {l:List (Rat×Nat×Nat)} (hq:∀ e ∈ l,pU e.1∧1≤e.1) (i c:Nat):∀ {l':List (Rat×Nat×Nat)},(∀ e ∈ l',e ∈ l)→pU (pO (F i) l*fK ((l'.map (wt t)).map (kD F)) i c)
 | [],_=>by
  have:pO (F i) l*fK ((([]:List (Rat×Nat×Nat)).map (wt t)).map (kD F)) i c=0:=by show pO (F i) l*0=0; grind
  rw [this]; exact ⟨0,rfl⟩
 | e::l',h=>by
  have h1:=AD (F:=F) ht hq i c (l':=l') (fun e he=>h e (HB _ he));have h2:=h e (Hm ..);have e1:fK (((e::l').map (wt t)).map (kD F)) i c=(t / e.1)*(dl (F i) e.2.1-dl (F i) e.2.2)*(dl (F c) e.2.1-dl (F c) e.2.2)+fK ((l'.map (wt t)).map (kD F)) i c:=rfl;have hI:∀ p q:Nat,pU (dl p q):=fun p q=>by
   rcases rM p q with a | a <;> rw [a]
   ·exact ⟨0,rfl⟩
   ·exact ⟨1,rfl⟩
  have hS:∀ {a b:Rat},pU a→pU b→pU (a-b):=fun {a b} ⟨x,hx⟩ ⟨y,hy⟩=>⟨x-y,by rw [hx,hy,Rat.intCast_sub]⟩
  have e2:pO (F i) l*((t / e.1)*(dl (F i) e.2.1-dl (F i) e.2.2)*(dl (F c) e.2.1-dl (F c) e.2.2)+fK ((l'.map (wt t)).map (kD F)) i c)=(pO (F i) l*(t / e.1))*(dl (F i) e.2.1-dl (F i) e.2.2)*(dl (F c) e.2.1-dl (F c) e.2.2)+pO (F i) l*fK ((l'.map (wt t)).map (kD F)) i c:=by grind
  rw [e1,e2];refine tJ ?_ h1
  by_cases hu:e.2.1=F i∨e.2.2=F i
  ·exact ou (ou (xE hq e h2 hu t ht) (hS (hI _ _) (hI _ _))) (hS (hI _ _) (hI _ _))
  ·have a:dl (F i) e.2.1=0:=mj (fun e0=>hu (.inl e0.symm))
   have b:dl (F i) e.2.2=0:=mj (fun e0=>hu (.inr e0.symm));rw [a,b];have:pO (F i) l*(t / e.1)*(0-0)*(dl (F c) e.2.1-dl (F c) e.2.2)=0:=by grind
   rw [this]; exact ⟨0,rfl⟩
def wz:List (Rat×Nat×Nat)→Rat
 | []=>0
 | e::l=>e.1+wz l
theorem p6 (i j:Nat):0≤dl i j:=by rcases rM i j with h | h <;> rw [h] <;> decide
theorem CA (i j:Nat):dl i j≤1:=by rcases rM i j with h | h <;> rw [h] <;> decide
theorem AZ {F:Nat→Nat}{p:Nat}:∀ {n:Nat},(∀ i j,i<n→j<n→F i=F j→i=j)→sm n (fun c=>dl (F c) p)≤1
 | 0,_=>by unfold sm; decide
 | n+1,h=>by
  have ih:=AZ (F:=F) (p:=p) (n:=n) (fun i j hi hj e=>h i j (by omega) (by omega) e)
  show sm n (fun c=>dl (F c) p)+dl (F n) p≤1
  by_cases e:F n=p
  ·have:sm n (fun c=>dl (F c) p)=0:=qU (fun i hi=>mj (fun e2=>by
    have:=h i n (by omega) (by omega) (e2.trans e.symm)
    omega))
   rw [this];have:=CA (F n) p
   grind
  ·rw [mj e]; grind
theorem Ak {n:Nat}{F:Nat→Nat} (hF:∀ i j,i<n→j<n→F i=F j→i=j) (i:Nat):∀ {l:List (Rat×Nat×Nat)},(∀ e ∈ l,0<e.1)→sm n (fK (l.map (lM F)) i)≤4*wz l
 | [],_=>by
  have:sm n (fK (([]:List (Rat×Nat×Nat)).map (lM F)) i)=0:=qU (fun _ _=>rfl);rw [this];show (0:Rat)≤4*0
  grind
 | e::l,h=>by
  have ih:=Ak hF i (l:=l) (fun e he=>h e (HB _ he));have h3:=h e (Hm ..);have e1:sm n (fK ((e::l).map (lM F)) i)=(e.1*(dl (F i) e.2.1+dl (F i) e.2.2))*(sm n (fun c=>dl (F c) e.2.1)+sm n (fun c=>dl (F c) e.2.2))+sm n (fK (l.map (lM F)) i):=by
   rw [← rK,← nD,← rK]; rfl
  have e2:wz (e::l)=e.1+wz l:=rfl;rw [e1,e2];have s1:=AZ (F:=F) (p:=e.2.1) hF;have s2:=AZ (F:=F) (p:=e.2.2) hF;have n1:=pj (n:=n) (f:=fun c=>dl (F c) e.2.1) (fun c _=>p6 _ _);have n2:=pj (n:=n) (f:=fun c=>dl (F c) e.2.2) (fun c _=>p6 _ _);have d1:=CA (F i) e.2.1;have d2:=CA (F i) e.2.2;have d3:=p6 (F i) e.2.1;have d4:=p6 (F i) e.2.2;have m0:e.1*(dl (F i) e.2.1+dl (F i) e.2.2)≤e.1*2:=Rat.mul_le_mul_of_nonneg_left (by grind) (Rat.le_of_lt h3)
  have m1:0≤e.1*(dl (F i) e.2.1+dl (F i) e.2.2):=Rat.mul_nonneg (Rat.le_of_lt h3) (by grind)
  have m2:=mC m0 (show sm n (fun c=>dl (F c) e.2.1)+sm n (fun c=>dl (F c) e.2.2)≤2 by grind) m1 (by grind)
  grind
theorem Ew {n:Nat}{F:Nat→Nat}{l:List (Rat×Nat×Nat)}{t:Rat} (hF:∀ i j,i<n→j<n→F i=F j→i=j) (ht:pU t) (t0:0<t) (hq:∀ e ∈ l,pU e.1∧1≤e.1):
  BY n (fK ((l.map (wt t)).map (kD F))) (fun i=>pO (F i) l) (fun i c=>pO (F i) l*fK ((l.map (wt t)).map (lM F)) i c+dl i c) (fun i=>pO (F i) l*(4*wz (l.map (wt t)))+1):=by
 have hw:∀ e ∈ l.map (wt t),0<e.1:=fun e he=>by
  obtain ⟨d,hd,rfl⟩:=List.mem_map.1 he;have h1:=(hq d hd).2;show 0<t / d.1;rw [Rat.div_def];exact Rat.mul_pos t0 (Rat.inv_pos.2 (by grind))
 have hs1:∀ i,1≤pO (F i) l:=fun i=>ua (fun e he=>(hq e he).2);have ha0:∀ i c,0≤pO (F i) l*fK ((l.map (wt t)).map (lM F)) i c:=fun i c=>Rat.mul_nonneg (by have:=hs1 i; grind) (sd F i c hw)
 refine ⟨fun i _=>uX (fun e he=>(hq e he).1),fun i _=>hs1 i,fun i c _ _=>AD ht hq i c (fun e he=>he),fun i c=>?_,fun i _=>?_,fun i c _ _=>?_,fun i hi=>?_⟩
 ·have:=ha0 i c
  have:=p6 i c
  grind
 ·have:=ha0 i i
  rw [mV]; grind
 ·obtain ⟨h1,h2⟩:=AB F i c hw
  have h3:0≤pO (F i) l:=by have:=hs1 i; grind
  have m1:=Rat.mul_le_mul_of_nonneg_left h1 h3;have m2:=Rat.mul_le_mul_of_nonneg_left h2 h3;have:=p6 i c;constructor <;> grind
 ·rw [rK,nD]
  have h1:=Ak hF i hw;have h3:0≤pO (F i) l:=by have:=hs1 i; grind
  have m1:=Rat.mul_le_mul_of_nonneg_left h1 h3;have h2:sm n (fun c=>dl i c)≤1:=by
   have e:sm n (fun c=>dl i c)=sm n (fun c=>dl ((fun x:Nat=>x) c) i):=lE (fun c _=>by
    unfold dl
    by_cases a:i=c
    ·subst a; rfl
    ·rw [Hs a,Hs (fun b=>a b.symm)])
   rw [e];exact AZ (fun i j _ _ e=>e)
  have e2:sm n (fun c=>fK ((l.map (wt t)).map (lM F)) i c)=sm n (fK ((l.map (wt t)).map (lM F)) i):=rfl;rw [e2]
  grind
theorem Am {q:Rat}:∀ {l:List (Rat×Nat×Nat)},(∀ e ∈ l,1≤e.1∧e.1≤q)→ra l≤pr l.length (fun _=>q)
 | [],_=>Nx
 | e::l,h=>by
  have h1:=Am (q:=q) (l:=l) (fun e he=>h e (List.mem_cons_of_mem _ he));have h2:=h e (List.mem_cons_self ..);have h3:=vj (l:=l) (fun e he=>(h e (List.mem_cons_of_mem _ he)).1);have h4:=mC h1 h2.2 (by grind) (by grind)
  have e1:ra (e::l)=e.1*ra l:=rfl;have e2:pr (e::l).length (fun _=>q)=pr l.length (fun _=>q)*q:=rfl;rw [e1,e2]; grind
theorem F6 {n:Nat}{F:Nat→Nat}{l:List (Rat×Nat×Nat)}{s w:Rat} (hF:∀ i j,i<n→j<n→F i=F j→i=j) (hq:∀ e ∈ l,1≤e.1) (s0:0≤s) (hs:s≤w):
  pr n (fun i=>pO (F i) l*s+1)≤ra l*ra l*pr n (fun _=>w+1):=by
 have h1:∀ i,1≤pO (F i) l:=fun i=>ua hq;have p1:pr n (fun i=>pO (F i) l*s+1)≤pr n (fun i=>pO (F i) l*(w+1)):=AR (fun i _=>by
  have:=Rat.mul_nonneg (show (0:Rat)≤pO (F i) l by have:=h1 i; grind) s0
  grind) (fun i _=>by
  have:=Rat.mul_le_mul_of_nonneg_left hs (show (0:Rat)≤pO (F i) l by have:=h1 i; grind)
  have:=h1 i
  grind)
 rw [xA] at p1;have p2:=yQ hF hq;have n1:0≤pr n (fun i=>pO (F i) l):=kd (fun i _=>by have:=h1 i; grind)
 have n2:0≤pr n (fun _:Nat=>w+1):=kd (fun i _=>by grind)
 exact Ny p1 (mC p2 Nx n1 n2)
def s7 (n:Nat):List Nat:=(List.range n).map (·+1)
theorem rJ (n:Nat):(s7 n).length=n:=by simp [s7]
theorem xF {n i:Nat} (hi:i<n):(s7 n)[i]? = some (i+1):=by simp [s7,hi]
theorem wi {α:Type}{l:List α}{i:Nat}{a:α} (h:l[i]? = some a):l.set i a=l:=by
 apply Jx;intro j
 by_cases e:i=j
 ·subst e
  rw [H7 (He.1 h).1,h]
 ·rw [HV e]
theorem uY {n i:Nat} (hi:i<n):(s7 n).set i (i+1)=s7 n:=wi (xF hi)
theorem yR {n i:Nat} (hi:i<n):((s7 n).set ((i:Int)).toNat (i+1)).set ((i:Int)).toNat (i+1)=s7 n:=by
 rw [Hj,uY hi,uY hi]
structure pY (rows:List (List LR)) (n w W:Nat) (m:Mt):Prop where
 len:rows.length=n
 row:∀ i,i<n→∃ l,rows[i]? = some l∧l.length=w∧∀ c,c<w→∃ y,l[c]? = some y∧lG y∧RL y W∧rv y=m i c
theorem pY.congr {rows:List (List LR)}{n w W:Nat}{m m':Mt} (h:pY rows n w W m) (e:∀ i c,i<n→c<w→m i c=m' i c):pY rows n w W m':=by
 refine ⟨h.len,fun i hi=>?_⟩;obtain ⟨l,h1,h2,h3⟩:=h.row i hi;refine ⟨l,h1,h2,fun c hc=>?_⟩;obtain ⟨y,y1,y2,y3,y4⟩:=h3 c hc;exact ⟨y,y1,y2,y3,by rw [y4,e i c hi hc]⟩
theorem pY.mono {rows:List (List LR)}{n w W W':Nat}{m:Mt} (h:pY rows n w W m) (e:W≤W'):pY rows n w W' m:=by
 refine ⟨h.len,fun i hi=>?_⟩;obtain ⟨l,h1,h2,h3⟩:=h.row i hi;refine ⟨l,h1,h2,fun c hc=>?_⟩;obtain ⟨y,y1,y2,y3,y4⟩:=h3 c hc;exact ⟨y,y1,y2,y3.mono e,y4⟩
theorem pY.set {rows:List (List LR)}{n w W:Nat}{m:Mt} (h:pY rows n w W m) {i c:Nat} (hi:i<n) (hc:c<w) {e:LR} (he:lG e) (hW:RL e W):
  pY (rows.set i (((rows[i]?).getD []).set c e)) n w W (fun i' c'=>if i'=i∧c'=c then rv e else m i' c'):=by
 refine ⟨by rw [HI]; exact h.len,fun i' hi'=>?_⟩
 obtain ⟨l,h1,h2,h3⟩:=h.row i' hi'
 by_cases e1:i=i'
 ·subst e1
  refine ⟨l.set c e,by rw [h1,H7 (by rw [h.len]; exact hi)]; rfl,by rw [HI]; exact h2,fun c' hc'=>?_⟩
  by_cases e2:c=c'
  ·subst e2
   exact ⟨e,by rw [H7 (by omega)],he,hW,by rw [Hv ⟨rfl,rfl⟩]⟩
  ·obtain ⟨y,y1,y2,y3,y4⟩:=h3 c' hc'
   exact ⟨y,by rw [HV e2]; exact y1,y2,y3,by rw [Hs (fun hh=>e2 hh.2.symm)]; exact y4⟩
 ·refine ⟨l,by rw [HV e1]; exact h1,h2,fun c' hc'=>?_⟩
  obtain ⟨y,y1,y2,y3,y4⟩:=h3 c' hc';exact ⟨y,y1,y2,y3,by rw [Hs (fun hh=>e1 hh.1.symm)]; exact y4⟩
theorem AH (rows:List (List LR)) (i:Nat):((([]::rows:List (List LR))[i+1]?).getD [])=(rows[i]?).getD []:=rfl
theorem FF (rows:List (List LR)) (i:Nat) (l:List LR):([]::rows:List (List LR)).set (i+1) l=[]::rows.set i l:=rfl
theorem pY.Dt {rows:List (List LR)}{n w W:Nat}{m:Mt} (h:pY rows n w W m) {i:Nat} (hi:i<n):((([]::rows:List (List LR))[i+1]?).getD []).length=w:=by
 obtain ⟨l,h1,h2,_⟩:=h.row i hi;rw [AH,h1]; exact h2
theorem lZ {R:Type}{Q:R→Prop}{n i:Nat} (hi:i<n) {f:Nat→Option R} (h:Gd (f (i+1)) Q):Gd (idx (s7 n) (i:Int) f) Q:=
 Gd.ix (by omega) (by rw [Hj]; exact xF hi) h
theorem oM {R:Type}{Q:R→Prop}{rows:List (List LR)}{n w W:Nat}{m:Mt} (h:pY rows n w W m) {i c:Nat} (hi:i<n) (hc:c<w) {f:LR→Option R}
  (hk:∀ y,lG y→RL y W→rv y=m i c→Gd (f y) Q):Gd (idx ((([]::rows:List (List LR))[i+1]?).getD []) (c:Int) f) Q:=by
 obtain ⟨l,h1,h2,h3⟩:=h.row i hi;obtain ⟨y,y1,y2,y3,y4⟩:=h3 c hc;refine Gd.ix (y:=y) (by omega) ?_ (hk y y2 y3 y4)
 rw [AH,h1,Hj]; exact y1
theorem sE {r:LR} (h:lG r):decide (cK r=0)=decide (rv r=0):=by
 unfold cK;rw [decide_eq_decide,sign_zero h.n,AX h]
theorem EJ {a b:LR} (ha:lG a) (hb:lG b) (h0:rv b≠0) {A B:Nat} (la:RL a A) (lb:RL b B) (hz:A+B≤800000):
  Gd (mq a b) (fun r=>lG r∧RL r (A+B)∧rv r=rv a / rv b):=by
 have:=la.1; have:=la.2; have:=lb.1; have:=lb.2
 have hb0:nv b.N.words≠0:=fun e=>h0 ((AX hb).2 e);unfold mq;refine Gd.eV (qZ ha.n hb.d (by omega)) (fun x hx=>Gd.eV (qZ ha.d hb.n (by omega)) (fun z hz'=>?_))
 refine Gd.eV (sy hx.1 hz'.1 (zQ hz'.2.2 ha.nz hb0) (by omega) (by omega)) (fun r hr=>Gd.ret ⟨hr.1,⟨by omega,by omega⟩,?_⟩)
 rw [hr.2.2.2,hx.2.2,hz'.2.2];unfold rv;rw [Nt,Rat.inv_divInt,Rat.divInt_mul_divInt]
end Go.Sim
namespace Go.Sim
open Go
open _root_.Go.IntKind (i64 u64 u32 u8)
theorem yT {a:LI} (h:oK a):(0<eH a↔0<eY a)∧(eH a<0↔eY a<0):=by
 have hz:=rF h.wf h.tp;unfold eH eY
 by_cases h1:a.words=[]
 ·have h0:nv a.words=0:=hz.2 h1
  have hm:a.minus=false:=by
   cases hm:a.minus
   ·rfl
   ·exact absurd h1 (h.sign hm)
  simp [h1,hm,nv]
 ·have h0:nv a.words≠0:=fun e=>h1 (hz.1 e)
  have hl:a.words.length≠0:=fun e=>h1 (H6 e);rw [Hs (by simp; exact h1)]
  cases hm:a.minus
  ·simp; omega
  ·simp; omega
theorem wO {a b c d:Int} (hb:0<b) (hd:0<d):Rat.divInt a b<Rat.divInt c d↔a*d<c*b:=by
 rw [← Rat.not_le,← Int.not_le];refine not_congr ?_;have e:=Rat.divInt_sub_divInt a c (d₁:=b) (d₂:=d) (by omega) (by omega)
 have k:=Ns (a:=a*d-c*b) (b:=b*d) (Int.mul_pos hb hd);rw [← e] at k;constructor
 ·intro h
  have:0≤Rat.divInt a b-Rat.divInt c d:=by grind
  have:=k.1 this;omega
 ·intro h
  have:0≤Rat.divInt a b-Rat.divInt c d:=k.2 (by omega)
  grind
theorem lG.CB {a:LR} (h:lG a):0<eY a.D:=by
 rw [ml h.pos];have:=h.nz;omega
theorem EI {a b:LR} (ha:lG a) (hb:lG b) {A B:Nat} (la:RL a A) (lb:RL b B) (hz:A+B≤800000):
  Gd (mo a b) (fun r=>(0<r↔rv b<rv a)∧(r<0↔rv a<rv b)):=by
 have:=la.1; have:=la.2; have:=lb.1; have:=lb.2
 unfold mo nK;refine Gd.eV (qZ ha.n hb.d (by omega)) (fun x hx=>Gd.eV (qZ hb.n ha.d (by omega)) (fun y hy=>?_))
 refine Gd.eV (P:=fun r=>(0<r↔rv b<rv a)∧(r<0↔rv a<rv b)) (Gd.eV (Eg hx.1 hy.1 (by omega) (by omega)) (fun z hz'=>Gd.ret ?_)) (fun r hr=>Gd.ret hr)
 have s:=yT hz'.1;rw [hz'.2.2,hx.2.2,hy.2.2] at s;unfold rv;rw [wO hb.CB ha.CB,wO ha.CB hb.CB];exact ⟨s.1.trans ⟨fun h=>by omega,fun h=>by omega⟩,s.2.trans ⟨fun h=>by omega,fun h=>by omega⟩⟩
theorem wW {a:LR} (h:lG a):cK a<0↔rv a<0:=by
 have k:=Ns (a:=eY a.N) (b:=eY a.D) h.CB;unfold cK rv;rw [(yT h.n).2,← Rat.not_le,k];omega
def FM (q:Rat):Rat:=if q<0 then -q else q
theorem EG {a:LR} (ha:lG a) {A:Nat} (la:RL a A) (hz:A≤800000):Gd (mn a) (fun r=>lG r∧RL r A∧rv r=FM (rv a)):=by
 unfold mn FM;refine Gd.ite (fun h=>?_) (fun h=>?_)
 ·have h:rv a<0:=(wW ha).1 (Ht h)
  refine Gd.eV (AW ha la hz) (fun r hr=>Gd.ret ?_);rw [Hv h]; exact hr
 ·have h:¬ rv a<0:=fun e=>HG h ((wW ha).2 e)
  rw [Hs h];exact Gd.ret ⟨ha,la,rfl⟩
end Go.Sim
