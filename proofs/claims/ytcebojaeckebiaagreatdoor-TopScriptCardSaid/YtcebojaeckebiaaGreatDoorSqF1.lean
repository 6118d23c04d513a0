/-
  The proof, part F1.
-/
import Derived.Lib.ItoaNum
import Derived.Lib.ParseIntB
import Derived.KernelRfl
import Derived.Test.YtcebojaeckebiaaGreatDoorSqA2
set_option linter.unusedVariables false
set_option linter.unusedSimpArgs false
set_option linter.unusedSectionVars false
set_option linter.unnecessarySimpa false
namespace Go.Sim
abbrev VO := @BitVec.ofInt_natCast
abbrev VP := @BitVec.toNat_ofNat
abbrev VQ := @Bool.eq_false_or_eq_true
abbrev VR := @Bool.not_eq_false'
abbrev VS := @Bool.or_eq_false_iff
abbrev VU := @Int.mul_add
abbrev VV := @Int.mul_assoc
abbrev VW := @Int.mul_sub
abbrev VX := @Int.natCast_add
abbrev V0 := @Go.Lib.decDigits_one
abbrev V4 := @List.drop_of_length_le
abbrev V5 := @List.eq_nil_or_concat
abbrev V9 := @List.getLast?_eq_getElem?
abbrev V_ := @List.head?_cons
abbrev Wa := @List.length_eq_one_iff
abbrev Wc := @List.length_nil
abbrev Wd := @List.length_pos_iff
abbrev We := @List.mem_or_eq_of_mem_set
abbrev Wg := @List.mem_replicate
abbrev Wl := @List.take_add_one
abbrev Wm := @Nat.and_two_pow_sub_one_eq_mod
abbrev Wn := @Nat.div_eq_of_lt
abbrev Wo := @Nat.div_lt_iff_lt_mul
abbrev Wq := @Nat.le_div_iff_mul_le
abbrev Wr := @Nat.lt_of_mul_lt_mul_left
abbrev Ws := @Nat.mod_add_div
abbrev Wt := @Nat.mul_add
abbrev Wv := @Nat.mul_assoc
abbrev Ww := @Nat.mul_comm
abbrev Wx := @Nat.mul_le_mul_left
abbrev Wy := @Nat.mul_zero
abbrev Wz := @Nat.pow_add
abbrev WA := @Nat.pow_le_pow_left
abbrev WC := @Nat.pow_le_pow_right
abbrev WD := @Nat.pow_lt_pow_iff_right
abbrev WE := @Nat.pow_mul
abbrev WG := @Nat.pow_pos
abbrev WH := @Nat.pow_succ
abbrev WI := @Nat.pow_zero
abbrev WM := @Rat.divInt_nonneg_iff_of_pos_right
abbrev WN := @Rat.div_def
abbrev WQ := @Rat.intCast_mul
abbrev WR := @Rat.intCast_neg
abbrev WS := @Rat.le_refl
abbrev WT := @Rat.le_trans
abbrev WU := @Rat.mul_eq_zero
abbrev WV := @Rat.mul_inv_cancel
abbrev WW := @Rat.mul_nonneg
abbrev WX := @decide_eq_decide
abbrev WY := @decide_eq_false
abbrev WZ := @decide_eq_false_iff_not
abbrev W0 := @decide_eq_true
end Go.Sim
namespace Go.Sim
open Go
open _root_.Go.IntKind (i64 u64 u32 u8)
abbrev WB:Nat:=4294967296
def nv:List bT->Nat
 | []=>0
 | y::l=>y.n.toNat+WB*nv l
def Wf (l:List bT):Prop:=∀ y ∈ l,0<=y.n/\y.n<4294967296
theorem Wf.nil:Wf []:=λy h=>by cases h
theorem Wf.app {a b:List bT} (I:Wf a) (J:Wf b):Wf (a++b):=λy h=>by
 rcases Rh.1 h with h | h
 ·exact I y h
 ·exact J y h
theorem Wf.one {v:Int} (h:0<=v/\v<4294967296):Wf [⟨v⟩]:=λy I=>by
 rw [Rz] at I; subst I; exact h
theorem Wf.take {l:List bT} (h:Wf l) (k:Nat):Wf (l.take k):=λy I=>h y (TU I)
theorem Ei:∀ (a b:List bT),nv (a++b)=nv a+WB ^ a.length*nv b
 | [],b=>by simp [nv]
 | y::a,b=>by
  rw [S5,nv,Ei a b,nv,Rd,WH];rw [Wt,<- Wv,Ww (WB ^ a.length) WB,Tv]
theorem Cy (y:bT):nv [y]=y.n.toNat:=by simp [nv]
theorem uS (a:List bT) (y:bT):nv (a++[y])=nv a+WB ^ a.length*y.n.toNat:=by rw [Ei,Cy]
theorem s8:∀ {l:List bT},Wf l->nv l<WB ^ l.length
 | [],_=>by simp [nv]
 | y::l,h=>by
  have I:=s8 (l:=l) (λz J=>h z (Rc _ J));have O:=h y (by simp)
  rw [nv,Rd,WH];have:WB*nv l+WB<=WB ^ l.length*WB:=by
   rw [Ww (WB ^ l.length) WB,<- Nat.mul_succ];exact Wx _ I
  have:y.n.toNat<WB:=by show y.n.toNat<4294967296; omega
  omega
theorem rF {l:List bT}{k:Nat}{y:bT} (h:l[k]? = some y):nv (l.take (k+1))=nv (l.take k)+WB ^ k*y.n.toNat:=by
 have I:=(Q7.1 h).1;rw [Wl,h];show nv (l.take k++[y])=_;rw [uS,RC,Sd (by omega)]
theorem KT (n:Nat):nv (List.replicate n (⟨0⟩:bT))=0:=by
 induction n with
 | zero=>rfl
 | succ n ih=>rw [Ta,nv,ih]; rfl
theorem wX {l:List bT}{k:Nat}{v:bT} (h:k<l.length):(l.set k v).take (k+1)=l.take k++[v]:=by
 rw [Wl,RF h,TX (Rq _)]; rfl
theorem xS (n:Int):u32.wrap n=n%4294967296:=by simp [IntKind.wrap,IntKind.bits,IntKind.signed]
theorem ED (n:Int):u64.wrap n=n%18446744073709551616:=by simp [IntKind.wrap,IntKind.bits,IntKind.signed]
theorem gH {n:Int} (h:0<=n/\n<18446744073709551616):u64.wrap n=n:=by rw [ED]; omega
theorem Dy (n:Int):ot .u64 n 32=n / 4294967296:=by
 unfold ot;rw [show (min (32:Int).toNat u64.bits)=32 by decide,TM _ (by decide)]
 rfl
theorem K_ (n:Int):ot .i64 n 32=n / 4294967296:=by
 unfold ot;rw [show (min (32:Int).toNat i64.bits)=32 by decide,TM _ (by decide)]
 rfl
abbrev LI:=aD
structure th (a:LI):Prop where
 wf:Wf a.words
 top:∀ y,a.words.getLast? = some y->y.n≠0
 sign:a.minus=true->a.words≠[]
def fV (a:LI):Int:=if a.minus=true then -(nv a.words:Int) else (nv a.words:Int)
theorem tT (minus:Bool):∀ (w:List bT),Wf w->w.length<=1000000->Gd (iJ minus w) (λr=>th r/\r.words.length<=w.length/\nv r.words=nv w/\(r.minus=true↔minus=true/\nv w≠0)):=by
 intro w hw hl;unfold iJ;refine Gd.fX (λ(l:List bT)=>Wf l/\l.length<=w.length/\nv l=nv w) (λl=>l.length) ?_ eY w ⟨hw,Rq _,rfl⟩ (by simp only [eY]; omega)
 rintro l nx ⟨Z,h2,Y⟩ hnx;have O:(∀ y,l.getLast? = some y->y.n≠0)->Gd (oz minus l) (λr=>th r/\r.words.length<=w.length/\nv r.words=nv w/\(r.minus=true↔minus=true/\nv w≠0)):=λht=>by
  have hz:nv l=0->l=[]:=λI=>by
   rcases V5 l with h | ⟨a,y,h⟩
   ·exact h
   ·exfalso
    have h:l=a++[y]:=by simpa using h
    have J:=ht y (by rw [h]; simp)
    have hyw:=Z y (by rw [h]; simp)
    rw [h,uS] at I;have hp:0<WB ^ a.length:=WG (by decide)
    have:0<WB ^ a.length*y.n.toNat:=Nat.mul_pos hp (by omega)
    omega
  unfold oz;refine Gd.ite (λhm=>Gd.ret ⟨⟨Z,ht,?_⟩,h2,Y,?_⟩) (λhm=>Gd.ret ⟨⟨Z,ht,λh=>by cases h⟩,h2,Y,?_⟩)
  ·intro h e
   have h:decide (0<(l.length:Int))=true:=h;have e:l=[]:=e;rw [e] at h; simp at h
  ·constructor
   ·intro h
    have h:0<(l.length:Int):=Q_ h;refine ⟨hm,λI=>?_⟩;rw [<- Y] at I;have:=hz I;rw [this] at h; simp at h
   ·intro h
    show decide (0<(l.length:Int))=true;rw [RS];cases l with
    | nil=>exact absurd (Y.symm.trans rfl) h.2
    | cons a b=>simp
  ·rw [hm]
   constructor
   ·intro h; cases h
   ·intro h; cases h.1
 unfold uw;refine Gd.ite (λh=>?_) (λh=>O (λy J=>?_))
 ·have hpos:0<l.length:=by have:=Q_ h; omega
  have hw1:i64.wrap ((l.length:Int)-1)=((l.length-1:Nat):Int):=by rw [bJ ⟨by omega,by omega⟩]; omega
  rw [hw1];refine Gd.gK (by omega) (Gd.ite (λI=>?_) (λI=>O (λy J=>?_)))
  ·have I:(l[l.length-1]).n=0:=Q_ I
   refine Gd.nd ⟨by omega,by omega⟩ ?_
   have hs:sJ l 0 (((l.length-1:Nat):Int).toNat)=l.take (l.length-1):=by simp [sJ]
   rw [hs];refine hnx _ ⟨Z.take _,by rw [RC]; omega,?_⟩ (by rw [RC]; omega)
   have:=rF (l:=l) (k:=l.length-1) (Q4 (by omega))
   rw [show l.length-1+1=l.length by omega,SW,I] at this
   rw [<- Y,this]; simp
  ·have I:(l[l.length-1]).n≠0:=Rf I
   rw [V9,Q4 (by omega)] at J
   rw [<- Q8 J]; exact I
 ·have h:¬ 0<(l.length:Int):=Rf h
  have:l=[]:=RA (by omega)
  rw [this] at J; cases J
theorem E1 {a b:List bT} (ha:Wf a) (hb:Wf b) (hl:b.length<=a.length) (I:a.length<=1000000):
  Gd (lC a b) (λr=>Wf r/\r.length=a.length+1/\nv r=nv a+nv b):=by
 have w1:i64.wrap ((a.length:Int)+1)=((a.length+1:Nat):Int):=by rw [bJ ⟨by omega,by omega⟩]; omega
 unfold lC;rw [w1];refine Gd.nd ⟨by omega,by omega⟩ ?_
 refine Gd.jW (λm k (z:List bT×Int)=>k+m=a.length/\z.1.length=a.length+1/\Wf z.1/\0<=z.2/\z.2<=1/\nv (z.1.take k)+WB ^ k*z.2.toNat=nv (a.take k)+nv (b.take k)) ?_ ?_ _ 0 _ ⟨by simp,by simp,λy Y=>?_,Tu _,by show (0:Int)<=1; omega,by simp [nv]⟩
 ·rintro m k ⟨l,c⟩ nx ⟨h0,h1,h2,h3,h4,h5⟩ hnx
  simp only at h1 h2 h3 h4 h5 hnx ⊢;have hka:k<a.length:=by omega
  have J:((k:Int)).toNat=k:=by omega
  obtain ⟨y,Y⟩:∃ y,a[k]? = some y:=⟨_,Q4 hka⟩;have hyw:=ha y (Rg Y);have Z:∀ (n:Int) (x:Nat),n=c+y.n+x->x<WB->nv (b.take (k+1))=nv (b.take k)+WB ^ k*x->Gd (lB l nx k n) _:=λn x hn O hb1=>by
   unfold lB;rw [Dy,J,xS];have O:x<4294967296:=O;refine Gd.gK (by omega) (hnx _ ⟨by omega,by simp [h1],?_,by simp only; omega,by simp only; omega,?_⟩)
   ·intro z I
    rcases We I with I | I
    ·exact h2 z I
    ·rw [I]; simp only; omega
   ·simp only
    rw [wX (by omega),uS,RC,Sd (by omega),rF Y,hb1]
    simp only;have e1:(n%4294967296).toNat+WB*(n / 4294967296).toNat=c.toNat+y.n.toNat+x:=by
     show (n%4294967296).toNat+4294967296*(n / 4294967296).toNat=_;omega
    have e2:WB ^ k*(n%4294967296).toNat+WB ^ (k+1)*(n / 4294967296).toNat=WB ^ k*c.toNat+WB ^ k*y.n.toNat+WB ^ k*x:=by
     rw [WH,Wv,<- Wt,e1,Wt,Wt]
    omega
  unfold rM;refine Gd.ix (by omega) (by rw [J]; exact Y) (Gd.ite (λh=>?_) (λh=>?_))
  ·have hkb:k<b.length:=by have:=Q_ h; omega
   obtain ⟨x,O⟩:∃ x,b[k]? = some x:=⟨_,Q4 hkb⟩;have hxw:=hb x (Rg O);refine Gd.ix (by omega) (by rw [J]; exact O) (Z _ x.n.toNat ?_ (by show x.n.toNat<4294967296; omega) (rF O))
   rw [gH (n:=y.n) (by omega),gH (n:=c+y.n) (by omega),gH (n:=x.n) (by omega),gH (by omega)]
   omega
  ·have hkb:b.length<=k:=by have:=Rf h; omega
   refine Z _ 0 ?_ (by decide) ?_
   ·rw [gH (n:=y.n) (by omega),gH (by omega)]; simp
   ·rw [Ri (by omega),Ri (by omega)]; simp
 ·rintro k ⟨l,c⟩ ⟨h0,h1,h2,h3,h4,h5⟩
  simp only at h1 h2 h3 h4 h5 ⊢;have hk:k=a.length:=by omega
  subst hk;have hln:((a.length:Int)).toNat=a.length:=by omega
  rw [hln,xS];refine Gd.gK (by omega) (Gd.ret ⟨?_,by simp [h1],?_⟩)
  ·intro z I
   rcases We I with I | I
   ·exact h2 z I
   ·rw [I]; simp only; omega
  ·have e:=wX (l:=l) (k:=a.length) (v:=⟨c%4294967296⟩) (by omega)
   rw [Ri (by simp; omega)] at e
   rw [e,uS,RC,Sd (by omega)]
   simp only;rw [SW,Ri hl] at h5;rw [show (c%4294967296).toNat=c.toNat by omega]
   exact h5
 ·rw [Wg] at Y
  rw [Y.2]; simp
theorem NR {a b:List bT} (Y:Wf a) (Z:Wf b) (J:a.length<=1000000) (O:b.length<=1000000):
  Gd (pz a b) (λr=>Wf r/\r.length=max a.length b.length+1/\nv r=nv a+nv b):=by
 unfold pz;refine Gd.ite (λh=>(E1 Z Y (by have:=Q_ h; omega) O).mono ?_) (λh=>(E1 Y Z (by have:=Rf h; omega) J).mono ?_)
 ·rintro r ⟨I,h2,h3⟩
  have:=Q_ h;exact ⟨I,by omega,by omega⟩
 ·rintro r ⟨I,h2,h3⟩
  have:=Rf h;exact ⟨I,by omega,by omega⟩
def wh (l:List bT):Prop:=∀ y,l.getLast? = some y->y.n≠0
theorem FA {l:List bT} (J:Wf l) (ht:wh l) (I:l≠[]):WB ^ (l.length-1)<=nv l:=by
 rcases V5 l with h | ⟨a,y,h⟩
 ·exact absurd h I
 ·have h:l=a++[y]:=by simpa using h
  have Y:=ht y (by rw [h]; simp)
  have O:=J y (by rw [h]; simp)
  rw [h,uS,Ro,Sa,Nat.add_sub_cancel];have:WB ^ a.length*1<=WB ^ a.length*y.n.toNat:=Wx _ (by omega)
  omega
theorem vB {a b:List bT} (J:Wf a) (O:Wf b) (I:wh b) (h:a.length<b.length):nv a<nv b:=by
 have Y:=s8 J;have Z:=FA O I (by intro e; rw [e] at h; simp at h)
 have h3:WB ^ a.length<=WB ^ (b.length-1):=WC (by decide) (by omega)
 omega
theorem KQ {a b:List bT} (O:Wf a) (Y:Wf b):a.length=b.length->nv a=nv b->a=b:=by
 induction a generalizing b with
 | nil=>intro h _; exact (RA h.symm).symm
 | cons x a ih=>
  intro h e;cases b with
  | nil=>simp at h
  | cons y b=>
   have Z:=O x (by simp); have hy:=Y y (by simp)
   rw [nv,nv] at e;have J:x.n.toNat=y.n.toNat:=by
    have:=Rn (·%WB) e;simp only [Nat.add_mul_mod_self_left] at this;rw [SX (by show x.n.toNat<4294967296; omega),SX (by show y.n.toNat<4294967296; omega)] at this
    exact this
   have e2:nv a=nv b:=by
    rw [J] at e;exact Nat.eq_of_mul_eq_mul_left (by decide) (Nat.add_left_cancel e)
   have:=ih (λz I=>O z (Rc _ I)) (λz I=>Y z (Rc _ I)) (by simpa using h) e2
   cases x; cases y
   simp only at J Z hy;rw [this]
   congr 2; omega
theorem rr {l:List bT}{k:Nat}{x:bT} (h:l[k]? = some x):l.drop k=x::l.drop (k+1):=by
 obtain ⟨I,J⟩:=Q7.1 h;rw [RK I,J]
theorem wU {l:List bT}{k:Nat}{x:bT} (h:l[k]? = some x):nv l=nv (l.take k)+WB ^ k*(x.n.toNat+WB*nv (l.drop (k+1))):=by
 have I:=(Q7.1 h).1;have e:nv l=nv (l.take k++l.drop k):=by rw [SA]
 rw [e,Ei,rr h,RC,Sd (by omega)]
 rfl
def PQ (r:Int) (x y:Nat):Prop:=(r<0↔x<y)/\(r=0↔x=y)
theorem JX {a b : List bT} (ha : Wf a) (hb : Wf b) (hta : wh a) (htb : wh b) (hza : a.length ≤ 1000000) (hzb : b.length ≤ 1000000) : Gd (nH a b) (fun r => PQ r (nv a) (nv b)) := by
  unfold nH;refine Gd.ite (fun h => Gd.ret ?_) (fun h => ?_)
  · have h : ¬ (a.length : Int) = b.length := by simpa using h
    rw [bJ ⟨by omega, by omega⟩]
    rcases Nat.lt_or_gt_of_ne (show a.length ≠ b.length by omega) with hl | hl
    · have := vB ha hb htb hl
      exact ⟨⟨fun _ => this, fun _ => by omega⟩, ⟨fun h => by omega, fun h => by omega⟩⟩
    · have := vB hb ha hta hl
      exact ⟨⟨fun h => by omega, fun h => by omega⟩, ⟨fun h => by omega, fun h => by omega⟩⟩
  · have hl : a.length = b.length := by have : (a.length : Int) = b.length := by simpa using h
                                        omega
    rw [bJ ⟨by omega, by omega⟩]
    refine Gd.fX (fun (i : Int) => -1 ≤ i ∧ i < a.length ∧ a.drop (i + 1).toNat = b.drop (i + 1).toNat) (fun i => (i + 1).toNat) ?_ eY _ ⟨by omega, by omega, ?_⟩ (by simp only [eY]; omega)
    · rintro i nx ⟨h1, h2, Y⟩ hnx
      unfold rN;refine Gd.ite (fun hi => ?_) (fun hi => Gd.ret ?_)
      · have hi : 0 ≤ i := Q_ hi
        obtain ⟨k, rfl⟩ : ∃ k : Nat, i = k := ⟨i.toNat, by omega⟩
        obtain ⟨x, hx⟩ : ∃ x, a[k]? = some x := ⟨_, Q4 (by omega)⟩
        obtain ⟨y, hy⟩ : ∃ y, b[k]? = some y := ⟨_, Q4 (by omega)⟩
        have hxw := ha x (Rg hx); have hyw := hb y (Rg hy)
        have O : ((k : Int)).toNat = k := by omega
        rw [show ((k : Int) + 1).toNat = k + 1 by omega] at Y
        have sa := wU hx;have sb := wU hy;rw [← Y] at sb;have la := s8 (ha.take k); have lb := s8 (hb.take k)
        rw [RC, Sd (by omega)] at la lb
        generalize nv (a.drop (k + 1)) = T at sa sb;generalize nv (a.take k) = ta at sa la;generalize nv (b.take k) = tb at sb lb;generalize WB ^ k = P at sa sb la lb;have I : ∀ (u v tu tv : Nat), u < v → tu < P → tu + P * (u + WB * T) < tv + P * (v + WB * T) := fun u v tu tv huv hu => by
          have : P * (u + 1) ≤ P * v := Wx _ huv;rw [Wt] at this;rw [Wt, Wt];omega
        refine Gd.ix (by omega) (by rw [O]; exact hx) (Gd.ix (by omega) (by rw [O]; exact hy) (Gd.ite (fun Z => ?_) (fun he => ?_)))
        · have Z : ¬ x.n = y.n := by simpa using Z
          refine Gd.ix (by omega) (by rw [O]; exact hx) (Gd.ix (by omega) (by rw [O]; exact hy) (Gd.ite (fun J => Gd.ret ?_) (fun J => Gd.ret ?_)))
          · have J : x.n < y.n := Q_ J
            have := I x.n.toNat y.n.toNat ta tb (by omega) la
            rw [← sa, ← sb] at this;exact ⟨⟨fun _ => this, fun _ => by omega⟩, ⟨fun h => by omega, fun h => by omega⟩⟩
          · have J : ¬ x.n < y.n := Rf J
            have := I y.n.toNat x.n.toNat tb ta (by omega) lb
            rw [← sa, ← sb] at this;exact ⟨⟨fun h => by omega, fun h => by omega⟩, ⟨fun h => by omega, fun h => by omega⟩⟩
        · have he : x.n = y.n := by simpa using he
          rw [bJ ⟨by omega, by omega⟩]
          refine hnx _ ⟨by omega, by omega, ?_⟩ (by omega)
          rw [show ((k : Int) - 1 + 1).toNat = k by omega, rr hx, rr hy, Y]
          have : x = y := by cases x; cases y; simp only at he; rw [he]
          rw [this]
      · have hi : ¬ 0 ≤ i := Rf hi
        have : (i + 1).toNat = 0 := by omega
        rw [this, Su, Su] at Y;rw [Y];exact ⟨⟨fun h => by omega, fun h => by omega⟩, ⟨fun _ => rfl, fun _ => rfl⟩⟩
    · rw [show ((a.length : Int) - 1 + 1).toNat = a.length by omega, TY, V4 (by omega)]
theorem Lh {a b:List bT} (ha:Wf a) (hb:Wf b) (hle:nv b<=nv a) (hl:b.length<=a.length) (hz:a.length<=1000000):
  Gd (nK a b) (λr=>Wf r/\r.length=a.length/\nv r=nv a-nv b):=by
 unfold nK;refine Gd.nd ⟨by omega,by omega⟩ ?_
 refine Gd.jW (λm k (z:List bT×Int)=>k+m=a.length/\z.1.length=a.length/\Wf z.1/\-1<=z.2/\z.2<=0/\(nv (z.1.take k):Int)+(WB ^ k:Nat)*z.2=nv (a.take k)-nv (b.take k)) ?_ ?_ _ 0 _ ⟨by simp,by simp,λy hy=>?_,by show (-1:Int)<=0; omega,Tu _,by simp [nv]⟩
 ·rintro m k ⟨l,c⟩ nx ⟨h0,J,O,h3,h4,Y⟩ hnx
  simp only at J O h3 h4 Y hnx ⊢;have hka:k<a.length:=by omega
  have I:((k:Int)).toNat=k:=by omega
  obtain ⟨y,hy⟩:∃ y,a[k]? = some y:=⟨_,Q4 hka⟩;have hyw:=ha y (Rg hy);have fin:∀ (n:Int) (x:Nat),n=c+y.n-x->x<WB->nv (b.take (k+1))=nv (b.take k)+WB ^ k*x->Gd (lD l nx k n) _:=λn x hn Z hb1=>by
   unfold lD;rw [K_,I,xS];have Z:x<4294967296:=Z;refine Gd.gK (by omega) (hnx _ ⟨by omega,by simp [J],?_,by simp only; omega,by simp only; omega,?_⟩)
   ·intro z hz
    rcases We hz with hz | hz
    ·exact O z hz
    ·rw [hz]; simp only; omega
   ·simp only
    rw [wX (by omega),uS,RC,Sd (by omega),rF hy,hb1]
    simp only;have e1:((n%4294967296).toNat:Int)+4294967296*(n / 4294967296)=c+y.n.toNat-x:=by omega
    have e2:((WB ^ k:Nat):Int)*((n%4294967296).toNat:Int)+((WB ^ (k+1):Nat):Int)*(n / 4294967296)=((WB ^ k:Nat):Int)*c+((WB ^ k:Nat):Int)*(y.n.toNat:Int)-((WB ^ k:Nat):Int)*(x:Int):=by
     rw [WH,R2,VV,<- VU,show ((WB:Nat):Int)=4294967296 from rfl,e1,VW,VU]
    simp only [VX,R2] at *
    omega
  unfold rP;refine Gd.ix (by omega) (by rw [I]; exact hy) (Gd.ite (λh=>?_) (λh=>?_))
  ·have hkb:k<b.length:=by have:=Q_ h; omega
   obtain ⟨x,Z⟩:∃ x,b[k]? = some x:=⟨_,Q4 hkb⟩;have hxw:=hb x (Rg Z);refine Gd.ix (by omega) (by rw [I]; exact Z) (fin _ x.n.toNat ?_ (by show x.n.toNat<4294967296; omega) (rF Z))
   rw [bJ (n:=y.n) (by omega),bJ (n:=c+y.n) (by omega),bJ (n:=x.n) (by omega),bJ (by omega)]
   omega
  ·have hkb:b.length<=k:=by have:=Rf h; omega
   refine fin _ 0 ?_ (by decide) ?_
   ·rw [bJ (n:=y.n) (by omega),bJ (by omega)]; simp
   ·rw [Ri (by omega),Ri (by omega)]; simp
 ·rintro k ⟨l,c⟩ ⟨h0,J,O,h3,h4,Y⟩
  simp only at J O h3 h4 Y ⊢;have hk:k=a.length:=by omega
  subst hk;rw [SW,Ri hl,Ri (by omega)] at Y
  have hlt:=s8 O;rw [J] at hlt;have hc:c=0:=by
   rcases (show c = -1\/c=0 by omega) with h | h
   ·exfalso; rw [h] at Y; omega
   ·exact h
  rw [hc] at Y;exact Gd.ret ⟨O,J,by omega⟩
 ·rw [Wg] at hy
  rw [hy.2]; simp
theorem th.tp {a:LI} (h:th a):wh a.words:=h.top
theorem yz {r:LI}{m:Bool}{n:Nat} (O:nv r.words=n) (J:r.minus=true↔m=true/\n≠0):fV r=if m=true then -(n:Int) else n:=by
 unfold fV;rw [O]
 by_cases I:r.minus=true
 ·rw [Rb I,Rb (J.1 I).1]
 ·rw [Ra I]
  by_cases hm:m=true
  ·have:n=0:=by
    by_cases hn:n=0
    ·exact hn
    ·exact absurd (J.2 ⟨hm,hn⟩) I
   rw [Rb hm,this]; rfl
  ·rw [Ra hm]
theorem Eg {a:LI} (h:th a) (J:a.words.length<=1000000):Gd (lI a) (λr=>th r/\r.words.length<=a.words.length/\fV r = -fV a):=by
 unfold lI;refine Gd.eN (tT (!a.minus) a.words h.wf J) (λr I=>Gd.ret ⟨I.1,I.2.1,?_⟩);rw [yz I.2.2.1 I.2.2.2];unfold fV;cases a.minus <;> simp
theorem D7 {a b:LI} (O:th a) (Y:th b) (hza:a.words.length<=900000) (hzb:b.words.length<=900000):
  Gd (lH a b) (λr=>th r/\r.words.length<=max a.words.length b.words.length+1/\fV r=fV a+fV b):=by
 unfold lH;refine Gd.ite (λh=>?_) (λh=>?_)
 ·have h:a.minus=b.minus:=Q_ h
  refine Gd.eN (NR O.wf Y.wf (by omega) (by omega)) (λw Z=>Gd.eN (tT a.minus w Z.1 (by omega)) (λr J=>Gd.ret ⟨J.1,by omega,?_⟩))
  rw [yz J.2.2.1 J.2.2.2,Z.2.2];unfold fV;rw [<- h];cases a.minus <;> simp <;> omega
 ·have h:a.minus≠b.minus:=Rf h
  refine Gd.eN (JX O.wf Y.wf O.tp Y.tp (by omega) (by omega)) (λc hc=>Gd.ite (λh0=>?_) (λh0=>?_))
  ·have h0:0<=c:=Q_ h0
   have hle:nv b.words<=nv a.words:=by
    have:=hc.1; omega
   have I:b.words.length<=a.words.length:=by
    rcases S3 a.words.length b.words.length with hlt | hge
    ·have:=vB O.wf Y.wf Y.tp hlt; omega
    ·exact hge
   refine Gd.eN (Lh O.wf Y.wf hle I (by omega)) (λw Z=>Gd.eN (tT a.minus w Z.1 (by omega)) (λr J=>Gd.ret ⟨J.1,by omega,?_⟩))
   rw [yz J.2.2.1 J.2.2.2,Z.2.2];unfold fV;cases ea:a.minus <;> cases eb:b.minus <;> first | (rw [ea,eb] at h; exact absurd rfl h) | (simp; omega)
  ·have h0:¬ 0<=c:=Rf h0
   have hlt:nv a.words<nv b.words:=hc.1.1 (by omega)
   have I:a.words.length<=b.words.length:=by
    rcases S3 b.words.length a.words.length with hl | hge
    ·have:=vB Y.wf O.wf O.tp hl; omega
    ·exact hge
   refine Gd.eN (Lh Y.wf O.wf (by omega) I (by omega)) (λw Z=>Gd.eN (tT b.minus w Z.1 (by omega)) (λr J=>Gd.ret ⟨J.1,by omega,?_⟩))
   rw [yz J.2.2.1 J.2.2.2,Z.2.2];unfold fV;cases ea:a.minus <;> cases eb:b.minus <;> first | (rw [ea,eb] at h; exact absurd rfl h) | (simp; omega)
theorem L7 {a b:LI} (Y:th a) (Z:th b) (I:a.words.length<=900000) (hzb:b.words.length<=900000):
  Gd (ou a b) (λr=>th r/\r.words.length<=max a.words.length b.words.length+1/\fV r=fV a-fV b):=by
 unfold ou;refine Gd.eN (Eg Z (by omega)) (λc J=>Gd.eN (D7 Y J.1 I (by omega)) (λr O=>Gd.ret ⟨O.1,by omega,by rw [O.2.2,J.2.2]; omega⟩))
theorem Cz {l:List bT}{k:Nat}{x v:bT} (h:l[k]? = some x):nv (l.set k v)+WB ^ k*x.n.toNat=nv l+WB ^ k*v.n.toNat:=by
 have O:=(Q7.1 h).1;have I:=wU h;have J:nv (l.set k v)=nv (l.take k)+WB ^ k*(v.n.toNat+WB*nv (l.drop (k+1))):=by
  have:=wU (l:=l.set k v) (k:=k) (x:=v) (RF O);rw [TX (Rq _),TG (by omega)] at this
  exact this
 rw [Wt] at I J;omega
theorem Wf.set {l:List bT} (h:Wf l) {k:Nat}{v:Int} (J:0<=v/\v<4294967296):Wf (l.set k ⟨v⟩):=λz I=>by
 rcases We I with I | I
 ·exact h z I
 ·rw [I]; exact J
theorem KM {nz I J P W c vC x y s B T:Nat} (Y:I+P*vC=nz+P*(s%W)) (hs:s=c+vC+x*y) (Z:nz+P*c=J+x*T*B):I+P*W*(s / W)=J+x*T*B+P*x*y:=by
 have O:s%W+W*(s / W)=s:=Ws s W;have e:P*(s%W)+P*(W*(s / W))=P*s:=by rw [<- Wt,O]
 have e2:P*s=P*c+P*vC+P*(x*y):=by rw [hs,Wt,Wt]
 rw [Wv P W,Wv P x];omega
theorem wz {a b:LI} (ha:th a) (hb:th b) (hz:a.words.length+b.words.length<=900000):
  Gd (eX a b) (λr=>th r/\r.words.length<=a.words.length+b.words.length/\fV r=fV a*fV b):=by
 have wN:i64.wrap ((a.words.length:Int)+(b.words.length:Int))=((a.words.length+b.words.length:Nat):Int):=by rw [bJ ⟨by omega,by omega⟩]; omega
 unfold eX;rw [wN];refine Gd.nd ⟨by omega,by omega⟩ ?_
 refine Gd.dM (λi ys (z:List bT)=>ys=a.words.drop i/\i<=a.words.length/\z.length=a.words.length+b.words.length/\Wf z/\nv z=nv (a.words.take i)*nv b.words/\∀ q,i+b.words.length<=q->∀ y,z[q]? = some y->y.n=0) ?_ ?_ _ 0 _ ⟨by simp,by omega,by simp; omega,λy J=>?_,by rw [KT]; simp [nv],λq _ y J=>?_⟩
 ·rintro i x ys z0 nx ⟨e0,e1,e2,e3,e4,e5⟩ hnx
  have hi:i<a.words.length:=by
   have:=Rn List.length e0;simp at this; omega
  have hx:a.words[i]? = some x:=by
   have:=Rn (·[0]?) e0;simpa [RT] using this.symm
  have hys:ys=a.words.drop (i+1):=by
   have:=Rn (List.drop 1) e0;simpa using this
  have hxw:=ha.wf x (Rg hx);unfold ss;refine Gd.dM (λk bs (z:List bT×Int)=>bs=b.words.drop k/\k<=b.words.length/\z.1.length=a.words.length+b.words.length/\Wf z.1/\0<=z.2/\z.2<4294967296/\nv z.1+WB ^ (i+k)*z.2.toNat=nv z0+x.n.toNat*nv (b.words.take k)*WB ^ i/\∀ q,i+k<=q->z.1[q]? = z0[q]?) ?_ ?_ _ 0 _ ⟨by simp,by omega,e2,e3,Tu _,by show (0:Int)<4294967296; omega,by simp [nv],λq _=>rfl⟩
  ·rintro k y bs ⟨l,c⟩ nx2 ⟨f0,f1,f2,f3,f4,f5,f6,f7⟩ O
   simp only at f2 f3 f4 f5 f6 f7 O ⊢;have hk:k<b.words.length:=by
    have:=Rn List.length f0;simp at this; omega
   have J:b.words[k]? = some y:=by
    have:=Rn (·[0]?) f0;simpa [RT] using this.symm
   have hbs:bs=b.words.drop (k+1):=by
    have:=Rn (List.drop 1) f0;simpa using this
   have Z:=hb.wf y (Rg J);obtain ⟨o,Y⟩:∃ o,l[i+k]? = some o:=⟨_,Q4 (by omega)⟩
   have how:=f3 o (Rg Y);have wj:i64.wrap ((i:Int)+(k:Int))=((i+k:Nat):Int):=by rw [bJ ⟨by omega,by omega⟩]; omega
   have I:(((i+k:Nat):Int)).toNat=i+k:=by omega
   have hxy0:0<=x.n*y.n:=Int.mul_nonneg hxw.1 Z.1;have hxy:x.n*y.n<=4294967295*4294967295:=Int.mul_le_mul (by omega) (by omega) Z.1 (by omega)
   have hs:u64.wrap (c+(u64.wrap ((u64.wrap (o.n))+(u64.wrap ((u64.wrap (x.n))*(u64.wrap (y.n)))))))=c+o.n+x.n*y.n:=by
    rw [gH (n:=o.n) (by omega),gH (n:=x.n) (by omega),gH (n:=y.n) (by omega),gH (n:=x.n*y.n) (by omega),gH (n:=o.n+x.n*y.n) (by omega),gH (by omega)]
    omega
   unfold su;rw [wj];refine Gd.ix (by omega) (by rw [I]; exact Y) (Gd.ix (by omega) (by rw [I]; exact Y) ?_)
   rw [hs,I,Dy,xS];have hxyn:x.n*y.n=((x.n.toNat*y.n.toNat:Nat):Int):=by
    rw [R2,Um hxw.1,Um Z.1]
   have hsn:c+o.n+x.n*y.n=((c.toNat+o.n.toNat+x.n.toNat*y.n.toNat:Nat):Int):=by rw [hxyn]; omega
   refine O _ ⟨hbs,by omega,by simp [f2],f3.set (by omega),by simp only; omega,by simp only; omega,?_,λq hq=>?_⟩
   ·simp only
    have g:=Cz (l:=l) (k:=i+k) (x:=o) (v:=⟨(c+o.n+x.n*y.n)%4294967296⟩) Y;simp only at g;have g1:((c+o.n+x.n*y.n)%4294967296).toNat=(c.toNat+o.n.toNat+x.n.toNat*y.n.toNat)%WB:=by rw [hsn]; show _=_%4294967296; omega
    have g2:((c+o.n+x.n*y.n) / 4294967296).toNat=(c.toNat+o.n.toNat+x.n.toNat*y.n.toNat) / WB:=by rw [hsn]; show _=_ / 4294967296; omega
    rw [g1] at g;have:=KM g rfl f6;rw [g2,show i+(k+1)=(i+k)+1 by omega,WH,this,rF J,Wz]
    rw [Wt,Ru,Tv]
    congr 2
    rw [Ww (WB ^ i) (WB ^ k),Ww (WB ^ k*WB ^ i) x.n.toNat,Wv,Wv,Wv,Wv,Ww y.n.toNat,Ww (WB ^ i) y.n.toNat]
   ·simp only
    rw [Ry (by omega)]
    exact f7 q (by omega)
  ·rintro k ⟨l,c⟩ ⟨f0,f1,f2,f3,f4,f5,f6,f7⟩
   simp only at f2 f3 f4 f5 f6 f7 ⊢;have hk:k=b.words.length:=by
    have:=Rn List.length f0;simp at this; omega
   subst hk;have wj:i64.wrap ((i:Int)+(b.words.length:Int))=((i+b.words.length:Nat):Int):=by rw [bJ ⟨by omega,by omega⟩]; omega
   have I:(((i+b.words.length:Nat):Int)).toNat=i+b.words.length:=by omega
   obtain ⟨o,Y⟩:∃ o,l[i+b.words.length]? = some o:=⟨_,Q4 (by omega)⟩
   have ho0:o.n=0:=e5 _ (Rq _) o (by rw [<- f7 _ (Rq _)]; exact Y)
   rw [wj];refine Gd.ix (by omega) (by rw [I]; exact Y) ?_
   rw [I,xS,show c%4294967296=c by omega]
   refine hnx _ ⟨hys,by omega,by simp [f2],f3.set (by omega),?_,λq hq y J=>?_⟩
   ·have g:=Cz (l:=l) (k:=i+b.words.length) (x:=o) (v:=⟨c⟩) Y
    simp only [ho0] at g;rw [SW] at f6;rw [rF hx,Ru,<- e4];have e:WB ^ i*x.n.toNat*nv b.words=x.n.toNat*nv b.words*WB ^ i:=by rw [Ww (WB ^ i),Wv,Ww (WB ^ i),<- Wv]
    rw [e];simp at g;omega
   ·rw [Ry (by omega),f7 _ (by omega)] at J
    exact e5 _ (by omega) y J
 ·rintro i z ⟨e0,e1,e2,e3,e4,e5⟩
  have hi:i=a.words.length:=by
   have:=Rn List.length e0;simp at this; omega
  subst hi;rw [SW] at e4;refine Gd.eN (tT _ z e3 (by omega)) (λr hr=>Gd.ret ⟨hr.1,by omega,?_⟩)
  rw [yz hr.2.2.1 hr.2.2.2,e4];unfold fV;cases a.minus <;> cases b.minus <;> simp [Int.mul_neg,Int.neg_mul]
 ·rw [Wg] at J
  rw [J.2]; simp
 ·have:=Rg J
  rw [Wg] at this;rw [this.2]
theorem zX {r y:Int} (J:0<=r/\r<4294967296) (O:0<=y/\y<4294967296):
  u64.wrap ((BitVec.ofInt (u64).bits (uj .u64 r 32) ||| BitVec.ofInt (u64).bits (u64.wrap y)).toNat)=r*4294967296+y:=by
 obtain ⟨n,rfl⟩:∃ n:Nat,r=n:=⟨r.toNat,by omega⟩
 obtain ⟨m,rfl⟩:∃ m:Nat,y=m:=⟨y.toNat,by omega⟩
 have I:uj .u64 (n:Int) 32=((n*4294967296:Nat):Int):=by
  unfold uj;rw [show (min (32:Int).toNat u64.bits)=32 by decide,ED]
  show (n:Int)*4294967296%18446744073709551616=_;omega
 rw [I,gH (n:=(m:Int)) (by omega)]
 show u64.wrap (((BitVec.ofInt 64 ((n*4294967296:Nat):Int) ||| BitVec.ofInt 64 ((m:Nat):Int)).toNat:Nat):Int)=_;rw [VO,VO,BitVec.toNat_or,VP,VP,SX (by omega),SX (by omega)]
 have e2:n*4294967296 ||| m=n*4294967296+m:=by
  have:=Nat.shiftLeft_add_eq_or_of_lt (i:=32) (b:=m) (by omega) n
  rw [Nat.shiftLeft_eq] at this;exact this.symm
 rw [e2,gH (by omega)]
 omega
theorem Jb {r y d:Int} (hr:0<=r/\r<d) (hy:0<=y/\y<4294967296) (hd:0<d/\d<4294967296):
  ∃ q m:Nat,Int.tdiv (r*4294967296+y) d=q/\Int.tmod (r*4294967296+y) d=m/\q<4294967296/\(m:Int)<d/\m+d.toNat*q=WB*r.toNat+y.toNat:=by
 obtain ⟨I,rfl⟩:∃ I:Nat,d=I:=⟨d.toNat,by omega⟩
 obtain ⟨J,rfl⟩:∃ J:Nat,r=J:=⟨r.toNat,by omega⟩
 obtain ⟨Y,rfl⟩:∃ Y:Nat,y=Y:=⟨y.toNat,by omega⟩
 have O:0<I:=by omega
 have e:∀ W:Nat,Y<W->∃ q m:Nat,Int.tdiv ((J:Int)*W+Y) I=q/\Int.tmod ((J:Int)*W+Y) I=m/\q<W/\m<I/\m+I*q=W*J+Y:=λW hW=>by
  have hN:J*W+Y<I*W:=by
   have:(J+1)*W<=I*W:=Rl _ (by omega)
   rw [Ru] at this;omega
  have hc:(J:Int)*W+Y=((J*W+Y:Nat):Int):=by rw [VX,R2]
  rw [hc];refine ⟨(J*W+Y) / I,(J*W+Y)%I,rfl,rfl,?_,T4 _ O,?_⟩
  ·rw [Wo O,Ww W I]; exact hN
  ·rw [Ws,Ww J W]
 obtain ⟨q,m,Z,h2,h3,h4,h5⟩:=e WB (by show Y<4294967296; omega)
 refine ⟨q,m,Z,h2,h3,by omega,?_⟩
 simp only [Q5];exact h5
theorem Jc {q I B m Y J:Nat} (O:m+I*q=WB*J+Y):(q+WB*B)*I+m=Y+WB*(B*I+J):=by
 rw [Ru,Wt,Wv WB,Ww q I];generalize I*q=Z at O;generalize WB*J=X at O ⊢;generalize WB*(B*I)=T;omega
theorem FL {a:List bT} (ha:Wf a) (hz:a.length<=1000000) {d:Int} (hd:0<d/\d<4294967296):
  Gd (nJ a d) (λr=>Wf r.1/\r.1.length=a.length/\nv r.1=nv a / d.toNat/\r.2=(nv a%d.toNat:Nat)):=by
 unfold nJ;refine Gd.nd ⟨by omega,by omega⟩ ?_
 rw [bJ ⟨by omega,by omega⟩]
 refine Gd.fX (λ(z:List bT×Int×Int)=>-1<=z.2.2/\z.2.2<a.length/\z.1.length=a.length/\Wf z.1/\0<=z.2.1/\z.2.1<d/\nv (z.1.drop (z.2.2+1).toNat)*d.toNat+z.2.1.toNat=nv (a.drop (z.2.2+1).toNat)) (λz=>(z.2.2+1).toNat) ?_ eY _ ⟨by simp only; omega,by simp only; omega,by simp,λy J=>?_,Tu _,by simp only; omega,?_⟩ (by simp only [eY]; omega)
 ·rintro ⟨l,r,i⟩ nx ⟨h1,h2,h3,h4,h5,h6,I⟩ Y
  simp only at h1 h2 h3 h4 h5 h6 I Y ⊢;unfold rO;refine Gd.ite (λhi=>?_) (λhi=>Gd.ret ?_)
  ·have hi:0<=i:=Q_ hi
   obtain ⟨k,rfl⟩:∃ k:Nat,i=k:=⟨i.toNat,by omega⟩
   obtain ⟨y,J⟩:∃ y,a[k]? = some y:=⟨_,Q4 (by omega)⟩
   have Z:=ha y (Rg J);have O:((k:Int)).toNat=k:=by omega
   rw [gH (n:=d) (by omega)]
   refine Gd.ix (by omega) (by rw [O]; exact J) (Gd.nd (by omega) (Gd.gK (show k<l.length by omega) (Gd.nd (by omega) ?_)))
   rw [zX ⟨h5,by omega⟩ Z]
   rw [show ((k:Int)+1).toNat=k+1 by omega] at I
   obtain ⟨q,m,e1,e2,hqlt,hmlt,hdm⟩:=Jb ⟨h5,h6⟩ Z hd;rw [e1,e2,O,gH (n:=(q:Int)) (by omega),xS,bJ ⟨by omega,by omega⟩,show (q:Int)%4294967296=(q:Int) by omega]
   refine Y _ ⟨by simp only; omega,by simp only; omega,by simp [h3],h4.set (by omega),by simp only; omega,by simp only; omega,?_⟩ (by simp only; omega)
   simp only;rw [show ((k:Int)-1+1).toNat=k by omega,rr J,rr (l:=l.set k _) (RF (by omega)),TG (by omega),nv,nv,<- I]
   simp only [Q5];exact Jc hdm
  ·have hi:¬ 0<=i:=Rf hi
   rw [show (i+1).toNat=0 by omega,Su,Su] at I
   have hdn:0<d.toNat:=by omega
   refine ⟨h4,h3,?_,?_⟩
   ·simp only
    rw [<- I,Ww,Nat.mul_add_div hdn,Wn (by omega)]; rfl
   ·simp only
    rw [xS,<- I,Ww,Nat.mul_add_mod,SX (by omega)]
    omega
 ·rw [Wg] at J
  rw [J.2]; simp
 ·simp only
  rw [show ((a.length:Int)-1+1).toNat=a.length by omega,TY,V4 (by simp)]
  simp [nv]
theorem CB {n:Int} (h:-9223372036854775808<=n/\n<=9223372036854775807):Gd (mQ n) (λr=>th r/\r.words.length<=2/\fV r=n):=by
 have I:∀ m:Int,0<=m->m<18446744073709551616->(m=n/\0<=n\/m = -n/\n<0)->Gd (qF n m) (λr=>th r/\r.words.length<=2/\fV r=n):=λm J h1 Z=>by
  unfold qF;rw [Dy,xS,xS];have hw:Wf [⟨m%4294967296⟩,⟨m / 4294967296%4294967296⟩]:=λy Y=>by
   rcases RU.1 Y with rfl | Y
   ·simp only; omega
   ·rw [Rz] at Y; subst Y; simp only; omega
  have hv:nv [⟨m%4294967296⟩,⟨m / 4294967296%4294967296⟩]=m.toNat:=by
   simp only [nv];show (m%4294967296).toNat+4294967296*((m / 4294967296%4294967296).toNat+4294967296*0)=_;omega
  refine Gd.eN (tT _ _ hw (by simp)) (λr O=>Gd.ret ⟨O.1,O.2.1,?_⟩)
  rw [yz O.2.2.1 O.2.2.2,hv];rcases Z with ⟨rfl,Z⟩ | ⟨rfl,Z⟩
  ·rw [Ra (by simp; omega)]; omega
  ·rw [Rb (by simp; omega)]; omega
 unfold mQ;refine Gd.ite (λJ=>I _ ?_ ?_ (.inr ⟨?_,?_⟩)) (λJ=>I _ ?_ ?_ (.inl ⟨?_,?_⟩))
 ·rw [ED]; omega
 ·rw [ED]; omega
 ·have:=Q_ J
  rw [ED,ED]; omega
 ·exact Q_ J
 ·rw [ED]; omega
 ·rw [ED]; omega
 ·have:=Rf J
  rw [ED]; omega
 ·have:=Rf J; omega
theorem Oi {c x s:Nat} (hs:s<=31) (J:c<2 ^ s) (Z:x<4294967296):
  u64.wrap ((BitVec.ofInt (u64).bits (c:Int) ||| BitVec.ofInt (u64).bits (uj .u64 (u64.wrap (x:Int)) (s:Int))).toNat)=((c+x*2 ^ s:Nat):Int):=by
 have O:(2:Nat) ^ s<=2147483648:=WC (by decide) hs
 have Y:x*2 ^ s<=4294967295*2147483648:=Nat.mul_le_mul (by omega) O
 rw [gH (n:=(x:Int)) (by omega)]
 have I:uj .u64 (x:Int) (s:Int)=((x*2 ^ s:Nat):Int):=by
  unfold uj;rw [show (min ((s:Int)).toNat u64.bits)=s by show min ((s:Int)).toNat 64=s; omega]
  rw [show (x:Int)*2 ^ s=((x*2 ^ s:Nat):Int) by rw [R2,Int.natCast_pow]; rfl]
  rw [gH (by omega)]
 rw [I];show u64.wrap (((BitVec.ofInt 64 ((c:Nat):Int) ||| BitVec.ofInt 64 ((x*2 ^ s:Nat):Int)).toNat:Nat):Int)=_;rw [VO,VO,BitVec.toNat_or,VP,VP,SX (by omega),SX (by omega)]
 have e2:c ||| x*2 ^ s=c+x*2 ^ s:=by
  have:=Nat.shiftLeft_add_eq_or_of_lt (i:=s) (b:=c) J x;rw [Nat.shiftLeft_eq] at this;rw [Nat.or_comm,<- this,TJ]
 rw [e2,gH (by omega)]
theorem GY {A P c x S W out o I:Nat} (h:out+P*c=A*S) (J:o+W*I=c+x*S):(out+P*o)+P*W*I=(A+P*x)*S:=by
 have e:P*o+P*(W*I)=P*c+P*(x*S):=by rw [<- Wt,J,Wt]
 rw [Wv P W,Ru,Wv P x];omega
theorem CN {a:List bT} (ha:Wf a) (hz:a.length<=1000000) {s:Nat} (hs:s<=31):
  Gd (oA a (s:Int)) (λr=>Wf r/\r.length=a.length+1/\nv r=nv a*2 ^ s/\∃ t,r[a.length]? = some t/\t.n.toNat<2 ^ s):=by
 have w1:i64.wrap ((a.length:Int)+1)=((a.length+1:Nat):Int):=by rw [bJ ⟨by omega,by omega⟩]; omega
 have hp:(2:Nat) ^ s<=2147483648:=WC (by decide) hs
 have hp0:0<(2:Nat) ^ s:=WG (by decide)
 unfold oA;rw [w1];refine Gd.nd ⟨by omega,by omega⟩ ?_
 refine Gd.dM (λk ys (z:List bT×Int)=>ys=a.drop k/\k<=a.length/\z.1.length=a.length+1/\Wf z.1/\0<=z.2/\z.2.toNat<2 ^ s/\nv (z.1.take k)+WB ^ k*z.2.toNat=nv (a.take k)*2 ^ s) ?_ ?_ _ 0 _ ⟨by simp,by omega,by simp,λy hy=>?_,Tu _,by simpa using hp0,by simp [nv]⟩
 ·rintro k x ys ⟨l,c⟩ nx ⟨Z,h1,h2,h3,h4,Y,I⟩ hnx
  simp only at h2 h3 h4 Y I hnx ⊢;have hk:k<a.length:=by
   have:=Rn List.length Z;simp at this; omega
  have hx:a[k]? = some x:=by
   have:=Rn (·[0]?) Z;simpa [RT] using this.symm
  have hys:ys=a.drop (k+1):=by
   have:=Rn (List.drop 1) Z;simpa using this
  have hxw:=ha x (Rg hx);obtain ⟨cn,rfl⟩:∃ cn:Nat,c=cn:=⟨c.toNat,by omega⟩
  obtain ⟨X,hX⟩:∃ X:Nat,x.n=X:=⟨x.n.toNat,by omega⟩
  have O:((k:Int)).toNat=k:=by omega
  unfold sA;rw [hX];simp only [Q5] at Y I;rw [Oi hs Y (by omega)]
  refine Gd.nd (by omega) (Gd.gK (show k<l.length by omega) ?_)
  rw [O,xS,Dy];have hb:cn+X*2 ^ s<4294967296*2 ^ s:=by
   have:(X+1)*2 ^ s<=4294967296*2 ^ s:=Rl _ (by omega)
   rw [Ru] at this;omega
  have J:=Ws (cn+X*2 ^ s) WB;have hq:(cn+X*2 ^ s) / WB<2 ^ s:=by
   rw [Wo (by decide),Ww (2 ^ s)]; exact hb
  have e1:((cn+X*2 ^ s:Nat):Int)%4294967296=(((cn+X*2 ^ s)%WB:Nat):Int):=rfl;have e2:((cn+X*2 ^ s:Nat):Int) / 4294967296=(((cn+X*2 ^ s) / WB:Nat):Int):=rfl;have hm:(cn+X*2 ^ s)%WB<WB:=T4 _ (by decide)
  rw [e1,e2];generalize (cn+X*2 ^ s)%WB=o at J hm;generalize (cn+X*2 ^ s) / WB=c' at J hq;refine hnx _ ⟨hys,by omega,by simp [h2],h3.set ⟨by omega,by have:o<4294967296:=hm; omega⟩,by simp only; omega,by simp only [Q5]; exact hq,?_⟩
  simp only;rw [wX (by omega),uS,RC,Sd (by omega),rF hx,hX,WH]
  simp only [Q5];exact GY I J
 ·rintro k ⟨l,c⟩ ⟨Z,h1,h2,h3,h4,Y,I⟩
  simp only at h2 h3 h4 Y I ⊢;have hk:k=a.length:=by
   have:=Rn List.length Z;simp at this; omega
  subst hk;have O:((a.length:Int)).toNat=a.length:=by omega
  rw [O,xS,show c%4294967296=c by omega]
  refine Gd.gK (by omega) (Gd.ret ⟨h3.set (by omega),by simp [h2],?_,⟨⟨c⟩,RF (by omega),Y⟩⟩)
  have e:=wX (l:=l) (k:=a.length) (v:=⟨c⟩) (by omega)
  rw [Ri (by simp; omega)] at e
  rw [e,uS,RC,Sd (by omega)]
  rw [SW] at I;exact I
 ·rw [Wg] at hy
  rw [hy.2]; simp
section
variable {W R v1 v2 vl u2 ul top q V U:Nat}
structure G9 (W R v1 v2 vl u2 ul top V U:Nat):Prop where
 V:V=(v1*W+v2)*R+vl
 U:U=(top*W+u2)*R+ul
 vl:vl<R
 ul:ul<R
 u2:u2<W
 v2:v2<W
theorem G9.Oo (h:G9 W R v1 v2 vl u2 ul top V U) (hq:q*V<=U):q*v1<=top:=by
 rcases S3 top (q*v1) with J | I
 ·exfalso
  have Y:(top+1)*(W*R)<=q*v1*(W*R):=Rl _ J;have Z:v1*(W*R)<=V:=by
   rw [h.V,Ru,Wv v1]; omega
  have h3:q*(v1*(W*R))<=q*V:=Wx _ Z;have h4:U<(top+1)*(W*R):=by
   have O:(u2+1)*R<=W*R:=Rl _ h.u2;rw [Ru] at O;have hul:=h.ul;rw [h.U,Ru,Wv top,Ru top];omega
  rw [Wv q] at Y;omega
 ·exact I
theorem G9.Ea (h:G9 W R v1 v2 vl u2 ul top V U) (hq:q*V<=U):q*(v1*W+v2)<=top*W+u2:=by
 rcases S3 (top*W+u2) (q*(v1*W+v2)) with J | I
 ·exfalso
  have O:(top*W+u2+1)*R<=q*(v1*W+v2)*R:=Rl _ J;have Y:(v1*W+v2)*R<=V:=by rw [h.V]; omega
  have h3:q*((v1*W+v2)*R)<=q*V:=Wx _ Y;have Z:=h.ul;have hU:=h.U;rw [Ru _ 1] at O;rw [Wv q] at O;omega
 ·exact I
theorem G9.P8 (h:G9 W R v1 v2 vl u2 ul top V U) {g:Nat} (J:g<=W) (O:1<=v1) (hl:g*(v1*W+v2)<=top*W+u2):g*V<U+V:=by
 have Z:g*(v1*W+v2)*R<=(top*W+u2)*R:=Rl _ hl;have h2:g*vl<=W*vl:=Rl _ J;have I:W*(vl+1)<=W*R:=Wx _ h.vl;have h4:1*(W*R)<=v1*(W*R):=Rl _ O;have Y:g*V=g*(v1*W+v2)*R+g*vl:=by rw [h.V,Wt,Wv]
 have e2:V=v1*(W*R)+v2*R+vl:=by rw [h.V,Ru,Wv]
 have hU:=h.U;have hR:0<R:=by have:=h.vl; omega
 have hW:0<W:=by have:=h.u2; omega
 rw [Wt,TK] at I;omega
structure Gs (W R v1 v2 vl u2 ul top V U q g rest:Nat):Prop where
 ge:q<=g
 eq:g*v1+rest=top
 rest:rest<W
 le:g<=W+1
structure OM (W V U q g:Nat):Prop where
 ge:q<=g
 le:g<=q+1
 w:g<=W
theorem G9.out (h:G9 W R v1 v2 vl u2 ul top V U) {g:Nat} (hq:U<(q+1)*V) (J:q<=g) (Y:g<=W) (hv:1<=v1) (hl:g*(v1*W+v2)<=top*W+u2):OM W V U q g:=by
 refine ⟨J,?_,Y⟩;have h1:=h.P8 Y hv hl;rcases S3 (q+1) g with O | I
 ·exfalso
  have Z:(q+2)*V<=g*V:=Rl _ O;rw [Ru] at Z hq;omega
 ·exact I
theorem Gs.stop (h:G9 W R v1 v2 vl u2 ul top V U) {g rest:Nat} (hs:Gs W R v1 v2 vl u2 ul top V U q g rest) (I:U<(q+1)*V) (J:1<=v1) (O:g<W) (ht:g*v2<=rest*W+u2):OM W V U q g:=by
 refine h.out I hs.ge (by omega) J ?_
 rw [<- hs.eq,Wt,Ru,Wv];omega
theorem Gs.less (h:G9 W R v1 v2 vl u2 ul top V U) {g rest:Nat} (hs:Gs W R v1 v2 vl u2 ul top V U q g rest) (Z:q*V<=U) (hqW:q<W) (ht:W<=g\/rest*W+u2<g*v2):q<g:=by
 rcases ht with ht | ht
 ·omega
 ·have O:=h.Ea Z
  rw [<- hs.eq] at O;rcases S3 q g with J | I
  ·exact J
  ·exfalso
   have Y:g*(v1*W+v2)<=q*(v1*W+v2):=Rl _ I;rw [Wt g] at Y;rw [Ru (g*v1),Wv] at O;omega
theorem Gs.next {g rest:Nat} (hs:Gs W R v1 v2 vl u2 ul top V U q g rest) (hl:q<g) (J:rest+v1<W):Gs W R v1 v2 vl u2 ul top V U q (g-1) (rest+v1):=by
 have h:=hs.eq; have I:=hs.le
 obtain ⟨k,rfl⟩:∃ k,g=k+1:=⟨g-1,by omega⟩
 rw [Ru] at h;exact ⟨by omega,by rw [Nat.add_sub_cancel]; omega,J,by omega⟩
theorem Gs.over (h:G9 W R v1 v2 vl u2 ul top V U) {g rest:Nat} (hs:Gs W R v1 v2 vl u2 ul top V U q g rest) (Y:U<(q+1)*V) (hv:1<=v1) (hl:q<g) (Z:W<=rest+v1):OM W V U q (g-1):=by
 have he:=hs.eq; have O:=hs.le; have I:=h.v2
 obtain ⟨k,rfl⟩:∃ k,g=k+1:=⟨g-1,by omega⟩
 rw [Nat.add_sub_cancel];rw [Ru] at he;refine h.out Y (by omega) (by omega) hv ?_
 have h1:k*v2<=W*v2:=Rl _ (by omega)
 have J:W*(v2+1)<=W*W:=Wx _ I;have h3:W*W<=(rest+v1)*W:=Rl _ Z;have e:top=k*v1+(rest+v1):=by omega
 rw [e,Wt k,Ru (k*v1),Wv];rw [Wt] at J;omega
end
def HA:List U8:=iY (⟨#[0,1,2,2,3,3,3,3,4,4,4,4,4,4,4,4,5,5,5,5,5,5,5,5,5,5,5,5,5,5,5,5,6,6,6,6,6,6,6,6,6,6,6,6,6,6,6,6,6,6,6,6,6,6,6,6,6,6,6,6,6,6,6,6,7,7,7,7,7,7,7,7,7,7,7,7,7,7,7,7,7,7,7,7,7,7,7,7,7,7,7,7,7,7,7,7,7,7,7,7,7,7,7,7,7,7,7,7,7,7,7,7,7,7,7,7,7,7,7,7,7,7,7,7,7,7,7,7,8,8,8,8,8,8,8,8,8,8,8,8,8,8,8,8,8,8,8,8,8,8,8,8,8,8,8,8,8,8,8,8,8,8,8,8,8,8,8,8,8,8,8,8,8,8,8,8,8,8,8,8,8,8,8,8,8,8,8,8,8,8,8,8,8,8,8,8,8,8,8,8,8,8,8,8,8,8,8,8,8,8,8,8,8,8,8,8,8,8,8,8,8,8,8,8,8,8,8,8,8,8,8,8,8,8,8,8,8,8,8,8,8,8,8,8,8,8,8,8,8,8,8,8,8,8,8,8]⟩)
def KG (i:Nat) (y:U8):Bool:=decide (1<=y.n) && (decide (y.n<=8) && (decide (2 ^ (y.n.toNat-1)<=i) && decide (i<2 ^ y.n.toNat)))
theorem Mg:∀ i:Nat,1<=i->i<256->∃ y,HA[i]? = some y/\KG i y=true:=by
 have h:(List.range 256).all (λi=>decide (i=0) || (match HA[i]? with | some y=>KG i y | none=>false))=true:=by decide +kernel
 intro i O J;have:=Sj.1 h i (by simpa using J)
 rw [WY (by omega),Bool.false_or] at this
 cases I:HA[i]? with
 | none=>rw [I] at this; cases this
 | some y=>rw [I] at this; exact ⟨y,rfl,this⟩
theorem Eb {n m:Int} (h1:1<=n) (h2:n<256) (hm:0<=m/\m<=24):Gd (kN n m) (λr=>∃ L:Nat,r=m+L/\1<=L/\L<=8/\2 ^ (L-1)<=n.toNat/\n.toNat<2 ^ L):=by
 obtain ⟨y,Z,I⟩:=Mg n.toNat (by omega) (by omega)
 simp only [KG,SK,RS] at I;obtain ⟨b1,b2,J,O⟩:=I;have Y:u8.wrap n=n:=by
  rw [show u8.wrap n=n%256 by simp [IntKind.wrap,IntKind.bits,IntKind.signed]]; omega
 unfold kN;rw [Y];refine Gd.ix (l:=HA) (by omega) Z (Gd.ret ⟨y.n.toNat,?_,by omega,by omega,J,O⟩)
 rw [bJ (n:=y.n) (by omega),bJ (by omega)]
 omega
theorem GZ {n:Int}{k:Nat} (I:k<=32):ot .u32 n (k:Int)=n / (2 ^ k:Nat):=by
 unfold ot;rw [show (min ((k:Int)).toNat u32.bits)=k by show min ((k:Int)).toNat 32=k; omega,TM _ (Int.le_of_lt (Int.pow_pos (by decide)))]
 rw [Int.natCast_pow]; rfl
theorem O9 {x:Int} (h1:1<=x) (h2:x<4294967296):Gd (jE x) (λr=>∃ s:Nat,r=s/\s<=31/\2147483648<=x.toNat*2 ^ s/\x.toNat*2 ^ s<4294967296):=by
 have O:∀ (o:Option Int),Gd o (λr=>∃ l:Nat,r=l/\1<=l/\l<=32/\2 ^ (l-1)<=x.toNat/\x.toNat<2 ^ l)->Gd (o.bind λJ=>some (i64.wrap (32-J))) (λr=>∃ s:Nat,r=s/\s<=31/\2147483648<=x.toNat*2 ^ s/\x.toNat*2 ^ s<4294967296):=λo Z=>by
  refine Gd.eN Z (λr hr=>Gd.ret ?_);obtain ⟨l,rfl,l1,l2,l3,l4⟩:=hr;refine ⟨32-l,by rw [bJ (by omega)]; omega,by omega,?_,?_⟩
  ·have:2 ^ (l-1)*2 ^ (32-l)<=x.toNat*2 ^ (32-l):=Rl _ l3
   rw [<- Wz,show l-1+(32-l)=31 by omega] at this
   exact this
  ·have:x.toNat*2 ^ (32-l)<2 ^ l*2 ^ (32-l):=Nat.mul_lt_mul_of_pos_right l4 (WG (by decide))
   rw [<- Wz,show l+(32-l)=32 by omega] at this
   exact this
 have part:∀ (n:Int) (base:Nat),n=x / (2 ^ base:Nat)->base<=24->∀ L:Nat,1<=L->2 ^ (L-1)<=n.toNat->n.toNat<2 ^ L->2 ^ (base+L-1)<=x.toNat/\x.toNat<2 ^ (base+L):=λn base hn hb L l1 l2 l3=>by
  have e:n.toNat=x.toNat / 2 ^ base:=by
   rw [hn];obtain ⟨X,rfl⟩:∃ X:Nat,x=X:=⟨x.toNat,by omega⟩
   rfl
  have Y:0<2 ^ base:=WG (by decide)
  rw [e] at l2 l3;rw [Wq Y,<- Wz] at l2;rw [Wo Y,<- Wz] at l3;rw [show base+L-1=L-1+base by omega,TJ base L]
  exact ⟨l2,l3⟩
 unfold jE;refine O _ ?_;unfold qV;refine Gd.ite (λh=>?_) (λh=>?_)
 ·have h:=Q_ h
  rw [show ot .u32 x 16=x / 65536 from GZ (k:=16) (by omega)]
  unfold kO;refine Gd.ite (λI=>?_) (λI=>?_)
  ·have I:=Q_ I
   rw [show ot .u32 (x / 65536) 8=x / 65536 / 256 from GZ (k:=8) (by omega),show i64.wrap (16+8)=24 by decide]
   refine (Eb (by omega) (by omega) (by omega)).mono ?_
   rintro r ⟨L,rfl,l1,l2,l3,l4⟩;obtain ⟨p1,p2⟩:=part (x / 65536 / 256) 24 (by show _=x / 16777216; omega) (by omega) L l1 l3 l4
   exact ⟨24+L,by omega,by omega,by omega,p1,p2⟩
  ·have I:=Rf I
   refine (Eb (by omega) (by omega) (by omega)).mono ?_
   rintro r ⟨L,rfl,l1,l2,l3,l4⟩;obtain ⟨p1,p2⟩:=part (x / 65536) 16 (by show _=x / 65536; omega) (by omega) L l1 l3 l4
   exact ⟨16+L,by omega,by omega,by omega,p1,p2⟩
 ·have h:=Rf h
  unfold kO;refine Gd.ite (λI=>?_) (λI=>?_)
  ·have I:=Q_ I
   rw [show ot .u32 x 8=x / 256 from GZ (k:=8) (by omega),show i64.wrap (0+8)=8 by decide]
   refine (Eb (by omega) (by omega) (by omega)).mono ?_
   rintro r ⟨L,rfl,l1,l2,l3,l4⟩;obtain ⟨p1,p2⟩:=part (x / 256) 8 (by show _=x / 256; omega) (by omega) L l1 l3 l4
   exact ⟨8+L,by omega,by omega,by omega,p1,p2⟩
  ·have I:=Rf I
   refine (Eb (by omega) (by omega) (by omega)).mono ?_
   rintro r ⟨L,rfl,l1,l2,l3,l4⟩;obtain ⟨p1,p2⟩:=part x 0 (by show _=x / 1; omega) (by omega) L l1 l3 l4
   exact ⟨0+L,by omega,by omega,by omega,p1,p2⟩
theorem LM {t:Nat} (h:t<18446744073709551616):u64.wrap ((BitVec.ofInt (u64).bits (t:Int) &&& BitVec.ofInt (u64).bits 4294967295).toNat)=((t%WB:Nat):Int):=by
 have e:(BitVec.ofInt (u64).bits 4294967295).toNat=4294967295:=by decide
 have e2:(BitVec.ofInt (u64).bits (t:Int)).toNat=t:=by
  show (BitVec.ofInt 64 (t:Int)).toNat=t;rw [VO,VP,SX h]
 rw [BitVec.toNat_and,e,e2];have:=Wm t 32;rw [show (2:Nat) ^ 32-1=4294967295 from rfl] at this;rw [this,show (2:Nat) ^ 32=WB from rfl];have hm:t%WB<WB:=T4 _ (by decide)
 rw [gH ⟨by omega,by have:t%WB<4294967296:=hm; omega⟩]
theorem HH {l:List bT}{k:Nat}{x v:bT} (h:l[k]? = some x) (J:0<=x.n) (I:0<=v.n):(nv (l.set k v):Int)+((WB ^ k:Nat):Int)*x.n=nv l+((WB ^ k:Nat):Int)*v.n:=by
 have:=Rn (λn:Nat=>(n:Int)) (Cz (v:=v) h);simp only [VX,R2] at this;rw [Um J,Um I] at this;exact this
theorem Mm {nl Y o nw P W bo ca O J I Z gy:Int} (hA:Y+P*o=nl+P*nw) (hB:nw+W*I=bo+o-O) (hC:O+W*J=ca+gy) (hI:nl+P*(bo-ca)=Z):
  Y+P*W*(I-J)=Z-P*gy:=by
 have e:W*(I-J)=bo+o-nw-ca-gy:=by rw [VW]; omega
 rw [VV,e,<- hI,VW,VW,VW,VU,VW];omega
theorem HJ {l I:List bT}{m:Nat} (h:∀ p,m<=p->l[p]? = I[p]?) (hm:m<=l.length):nv l=nv (l.take m)+WB ^ m*nv (I.drop m):=by
 have e:l.drop m=I.drop m:=by
  apply SM;intro i;rw [RT,RT];exact h _ (by omega)
 have:nv l=nv (l.take m++l.drop m):=by rw [SA]
 rw [this,Ei,e,RC,Sd hm]
theorem CA (l:List bT) {m:Nat} (hm:m<=l.length):nv l=nv (l.take m)+WB ^ m*nv (l.drop m):=HJ (λ_ _=>rfl) hm
theorem O_ {b r134 vs:List bT}{j g:Nat}{Z:List bT}{fin:List bT×Int×Int->Option (List bT×List bT)}{Q:List bT×List bT->Prop}
  (hvs:sJ r134 0 (((b.length:Int):Int).toNat)=vs) (hvl:vs.length=b.length) (hvw:Wf vs) (hl:Wf Z) (hjn:j+b.length<Z.length) (hN:Z.length<=1000001) (hg:g<=WB)
  (hk:∀ l O ca,l.length=Z.length->Wf l->-1<=O->O<=0->0<=ca->ca<4294967296->(nv l:Int)+((WB ^ (j+b.length):Nat):Int)*(O-ca)=nv Z-((WB ^ j:Nat):Int)*((g:Int)*(nv vs:Int)) ->
   (∀ p,j+b.length<=p->l[p]? = Z[p]?)->(∀ p,p<j->l[p]? = Z[p]?)->Gd (fin (l,O,ca)) Q):
  Gd (jW (λk J n=>oK b r134 (j:Int) (g:Int) k J.1 J.2.1 J.2.2 n) fin b.length 0 (Z,0,0)) Q:=by
 have hg:g<=4294967296:=hg;refine Gd.jW (λm k (z:List bT×Int×Int)=>k+m=b.length/\z.1.length=Z.length/\Wf z.1/\-1<=z.2.1/\z.2.1<=0/\0<=z.2.2/\z.2.2<4294967296/\(nv z.1:Int)+((WB ^ (j+k):Nat):Int)*(z.2.1-z.2.2)=nv Z-((WB ^ j:Nat):Int)*((g:Int)*(nv (vs.take k):Int))/\(∀ p,j+k<=p->z.1[p]? = Z[p]?)/\(∀ p,p<j->z.1[p]? = Z[p]?)) ?_ ?_ _ 0 _ ⟨by omega,rfl,hl,by show (-1:Int)<=0; omega,Tu _,Tu _,by show (0:Int)<4294967296; omega,by simp [nv],λp _=>rfl,λp _=>rfl⟩
 ·rintro m k ⟨l,O,ca⟩ nx ⟨h0,h1,h2,h3,h4,h5,h6,h7,h8,h9⟩ hnx
  simp only at h1 h2 h3 h4 h5 h6 h7 h8 h9 hnx ⊢;have hkb:k<b.length:=by omega
  obtain ⟨y,hy⟩:∃ y,vs[k]? = some y:=⟨_,Q4 (by omega)⟩
  have hyw:=hvw y (Rg hy);obtain ⟨o,ho⟩:∃ o,l[j+k]? = some o:=⟨_,Q4 (by omega)⟩
  have how:=h2 o (Rg ho);have wj:i64.wrap ((k:Int)+(j:Int))=((j+k:Nat):Int):=by rw [bJ ⟨by omega,by omega⟩]; omega
  have hjk:(((j+k:Nat):Int)).toNat=j+k:=by omega
  unfold oK;rw [hvs,wj];refine Gd.ix (by omega) (by rw [Q5]; exact hy) (Gd.ix (by omega) (by rw [hjk]; exact ho) (Gd.ix (by omega) (by rw [hjk]; exact ho) ?_))
  obtain ⟨Y,hY⟩:∃ Y:Nat,y.n=Y:=⟨y.n.toNat,by omega⟩
  obtain ⟨cn,rfl⟩:∃ cn:Nat,ca=cn:=⟨ca.toNat,by omega⟩
  have hgy:g*Y<=4294967296*4294967295:=Nat.mul_le_mul hg (by omega)
  have ht:u64.wrap ((cn:Int)+(u64.wrap ((g:Int)*(u64.wrap (y.n)))))=((cn+g*Y:Nat):Int):=by
   rw [hY,gH (n:=(Y:Int)) (by omega),show (g:Int)*(Y:Int)=((g*Y:Nat):Int) by rw [R2],gH (n:=((g*Y:Nat):Int)) (by omega),gH (by omega)]
   omega
  rw [ht,LM (by omega),Dy]
  have hdm:=Ws (cn+g*Y) WB;have hlow:(cn+g*Y)%WB<WB:=T4 _ (by decide)
  have hcl:(cn+g*Y) / WB<4294967296:=by
   rw [Wo (by decide)]
   show cn+g*Y<4294967296*4294967296;omega
  have e2:((cn+g*Y:Nat):Int) / 4294967296=(((cn+g*Y) / WB:Nat):Int):=rfl;rw [e2];have hC:(((cn+g*Y)%WB:Nat):Int)+4294967296*(((cn+g*Y) / WB:Nat):Int)=(cn:Int)+((g*Y:Nat):Int):=by
   have:(cn+g*Y)%WB+4294967296*((cn+g*Y) / WB)=cn+g*Y:=hdm;omega
  generalize (cn+g*Y)%WB=I at hlow hC;generalize (cn+g*Y) / WB=c2 at hcl hC;have hlow:I<4294967296:=hlow;have hnb:i64.wrap (O+(i64.wrap ((i64.wrap (o.n))-(i64.wrap ((I:Nat):Int)))))=O+o.n-I:=by
   rw [bJ (n:=o.n) (by omega),bJ (n:=(I:Int)) (by omega),bJ (n:=o.n-I) (by omega),bJ (by omega)]
   omega
  rw [hnb,hjk,xS,K_];refine hnx _ ⟨by omega,by simp [h1],h2.set (by omega),by simp only; omega,by simp only; omega,by simp only; omega,by simp only; omega,?_,λp hp=>?_,λp hp=>?_⟩
  ·simp only
   have hA:=HH (l:=l) (k:=j+k) (x:=o) (v:=⟨(O+o.n-I)%4294967296⟩) ho how.1 (by simp only; omega)
   simp only at hA;have hB:(O+o.n-I)%4294967296+4294967296*((O+o.n-I) / 4294967296)=O+o.n-I:=by omega
   have:=Mm hA hB hC h7;rw [show j+(k+1)=(j+k)+1 by omega,WH,R2,show ((WB:Nat):Int)=4294967296 from rfl,this,rF hy,hY,Wz]
   simp only [Q5,VX,R2];rw [VU (g:Int),VU ((WB ^ j:Nat):Int),VV ((WB ^ j:Nat):Int) ((WB ^ k:Nat):Int)];have e:(g:Int)*(((WB ^ k:Nat):Int)*(Y:Int))=((WB ^ k:Nat):Int)*((g:Int)*(Y:Int)):=by
    rw [<- VV,Int.mul_comm (g:Int),VV]
   rw [e];omega
  ·simp only
   rw [Ry (by omega)]
   exact h8 p (by omega)
  ·simp only
   rw [Ry (by omega)]
   exact h9 p hp
 ·rintro k ⟨l,O,ca⟩ ⟨h0,h1,h2,h3,h4,h5,h6,h7,h8,h9⟩
  simp only at h1 h2 h3 h4 h5 h6 h7 h8 h9;have hk':k=b.length:=by omega
  subst hk';rw [<- hvl,SW] at h7;rw [hvl] at h7;exact hk l O ca h1 h2 h3 h4 h5 h6 h7 h8 h9
theorem LL {nl I o s P W c Y T T' B X:Nat} (O:I+P*o=nl+P*(s%W)) (hs:s=c+o+Y) (Z:nl+P*c=X+B*T) (hP:P*Y=B*(T'-T)) (hT:T<=T'):I+P*W*(s / W)=X+B*T':=by
 have J:s%W+W*(s / W)=s:=Ws s W;have e:P*(s%W)+P*(W*(s / W))=P*s:=by rw [<- Wt,J]
 have e2:P*s=P*c+P*o+P*Y:=by rw [hs,Wt,Wt]
 have e3:B*T'=B*T+B*(T'-T):=by rw [<- Wt]; congr 1; omega
 rw [Wv P W];omega
theorem OV {b J vs:List bT}{j:Nat}{l1:List bT}{fin:List bT×Int->Option (List bT×List bT)}{Q:List bT×List bT->Prop}
  (hvs:sJ J 0 (((b.length:Int):Int).toNat)=vs) (hvl:vs.length=b.length) (hvw:Wf vs) (hl:Wf l1) (hjn:j+b.length<l1.length) (hN:l1.length<=1000001)
  (hk:∀ l c,l.length=l1.length->Wf l->0<=c->c<=1->nv l+WB ^ (j+b.length)*c.toNat=nv l1+WB ^ j*nv vs->(∀ p,j+b.length<=p->l[p]? = l1[p]?)->(∀ p,p<j->l[p]? = l1[p]?)->Gd (fin (l,c)) Q):
  Gd (jW (λk I n=>oL b J (j:Int) k I.1 I.2 n) fin b.length 0 (l1,0)) Q:=by
 refine Gd.jW (λm k (z:List bT×Int)=>k+m=b.length/\z.1.length=l1.length/\Wf z.1/\0<=z.2/\z.2<=1/\nv z.1+WB ^ (j+k)*z.2.toNat=nv l1+WB ^ j*nv (vs.take k)/\(∀ p,j+k<=p->z.1[p]? = l1[p]?)/\(∀ p,p<j->z.1[p]? = l1[p]?)) ?_ ?_ _ 0 _ ⟨by omega,rfl,hl,Tu _,by show (0:Int)<=1; omega,by simp [nv],λp _=>rfl,λp _=>rfl⟩
 ·rintro m k ⟨l,c⟩ nx ⟨h0,h1,Z,h3,h4,O,h8,h9⟩ hnx
  simp only at h1 Z h3 h4 O h8 h9 hnx ⊢;obtain ⟨y,hy⟩:∃ y,vs[k]? = some y:=⟨_,Q4 (by omega)⟩
  have hyw:=hvw y (Rg hy);obtain ⟨o,ho⟩:∃ o,l[j+k]? = some o:=⟨_,Q4 (by omega)⟩
  have how:=Z o (Rg ho);have wj:i64.wrap ((k:Int)+(j:Int))=((j+k:Nat):Int):=by rw [bJ ⟨by omega,by omega⟩]; omega
  have Y:(((j+k:Nat):Int)).toNat=j+k:=by omega
  unfold oL;rw [hvs,wj];refine Gd.ix (by omega) (by rw [Y]; exact ho) (Gd.ix (by omega) (by rw [Q5]; exact hy) (Gd.ix (by omega) (by rw [Y]; exact ho) ?_))
  have hs:u64.wrap (c+(u64.wrap ((u64.wrap (o.n))+(u64.wrap (y.n)))))=c+o.n+y.n:=by
   rw [gH (n:=o.n) (by omega),gH (n:=y.n) (by omega),gH (n:=o.n+y.n) (by omega),gH (by omega)]
   omega
  rw [hs,Y,Dy,xS];have hsn:c+o.n+y.n=((c.toNat+o.n.toNat+y.n.toNat:Nat):Int):=by omega
  refine hnx _ ⟨by omega,by simp [h1],Z.set (by omega),by simp only; omega,by simp only; omega,?_,λp hp=>?_,λp hp=>?_⟩
  ·simp only
   have g:=Cz (l:=l) (k:=j+k) (x:=o) (v:=⟨(c+o.n+y.n)%4294967296⟩) ho;simp only at g;have g1:((c+o.n+y.n)%4294967296).toNat=(c.toNat+o.n.toNat+y.n.toNat)%WB:=by rw [hsn]; show _=_%4294967296; omega
   have g2:((c+o.n+y.n) / 4294967296).toNat=(c.toNat+o.n.toNat+y.n.toNat) / WB:=by rw [hsn]; show _=_ / 4294967296; omega
   rw [g1] at g;rw [g2,show j+(k+1)=(j+k)+1 by omega,WH]
   refine LL g rfl O (T':=nv (vs.take (k+1))) ?_ ?_
   ·rw [rF hy,Ti,Wz,Wv]
   ·rw [rF hy]; omega
  ·simp only
   rw [Ry (by omega)]
   exact h8 p (by omega)
  ·simp only
   rw [Ry (by omega)]
   exact h9 p hp
 ·rintro k ⟨l,c⟩ ⟨h0,h1,Z,h3,h4,O,h8,h9⟩
  simp only at h1 Z h3 h4 O h8 h9;have hk':k=b.length:=by omega
  subst hk';rw [<- hvl,SW] at O;rw [hvl] at O;exact hk l c h1 Z h3 h4 O h8 h9
theorem JO {qs l':List bT}{j:Nat}{g:Int}{I:List bT×List bT×Int->Option (List bT×List bT)}{Q:List bT×List bT->Prop} (J:j<qs.length) (hN:qs.length<=1000001) (O:0<=g/\g<4294967296)
  (hn:Gd (I (qs.set j ⟨g⟩,l',(j:Int)-1)) Q):Gd (kM qs (j:Int) I l' g) Q:=by
 unfold kM;refine Gd.gK J ?_;rw [Q5,xS,bJ (by omega),show g%4294967296=g by omega]
 exact hn
theorem NU {W P B I U V O:Nat} (h0:O=I+P*U) (J:I<P) (hV:V<=B) (hU:U<W*V):O<P*(W*B):=by
 have Y:U+1<=W*B:=Sb hU (Wx _ hV);have Z:P*(U+1)<=P*(W*B):=Wx _ Y;rw [Wt] at Z;omega
theorem Bm {J X M T:Nat} (h:J=X+M*T) (O:J<M):T=0:=by
 rcases Nat.eq_zero_or_pos T with I | I
 ·exact I
 ·have:M*1<=M*T:=Wx _ I
  omega
theorem J9 {b r134 vs:List bT}{j g q U:Nat}{I qs:List bT}{nx:List bT×List bT×Int->Option (List bT×List bT)}{Q:List bT×List bT->Prop}
  (hvs:sJ r134 0 (((b.length:Int):Int).toNat)=vs) (hvl:vs.length=b.length) (hvw:Wf vs) (hl:Wf I) (hjn:j+b.length<I.length) (hN:I.length<=1000001) (hj:j<qs.length) (hqN:qs.length<=1000001)
  (hU:nv (I.drop j)=U) (hV:nv vs<=WB ^ b.length) (hUW:U<WB*nv vs) (hq1:q*nv vs<=U) (hq2:U<(q+1)*nv vs) (hqW:q<WB) (hg:OM WB (nv vs) U q g)
  (hn:∀ l',l'.length=I.length->Wf l'->nv l'+WB ^ j*(q*nv vs)=nv I->(∀ p,p<j->l'[p]? = I[p]?)->Gd (nx (qs.set j ⟨(q:Int)⟩,l',(j:Int)-1)) Q):
  Gd (fI b r134 qs I (j:Int) nx (g:Int)) Q:=by
 have hqW':q<4294967296:=hqW;have wjn:i64.wrap ((j:Int)+(b.length:Int))=((j+b.length:Nat):Int):=by rw [bJ ⟨by omega,by omega⟩]; omega
 have hjk:(((j+b.length:Nat):Int)).toNat=j+b.length:=by omega
 have h0:=CA I (m:=j) (by omega)
 rw [hU] at h0;have hlow:=s8 (hl.take j);rw [RC,Sd (by omega)] at hlow
 have hpow:WB ^ (j+b.length+1)=WB ^ j*(WB*WB ^ b.length):=by rw [WH,Wz,Ww WB,Wv]
 have hbig:nv I<WB ^ (j+b.length+1):=by rw [hpow]; exact NU h0 hlow hV hUW
 have habove:nv (I.drop (j+b.length+1))=0:=Bm (CA I (m:=j+b.length+1) (by omega)) hbig
 have small:∀ l:List bT,l.length=I.length->Wf l->(∀ p,j+b.length+1<=p->l[p]? = I[p]?)->nv l<WB ^ (j+b.length+1):=λl h1 h2 h3=>by
  rw [HJ h3 (by omega),habove,Wy,SH]
  have:=s8 (h2.take (j+b.length+1));rw [RC,Sd (by omega)] at this
  exact this
 unfold fI;rw [show ((b.length:Int):Int).toNat=b.length by omega] at hvs
 rw [show ((b.length:Int):Int).toNat=b.length by omega]
 refine O_ (by rw [show ((b.length:Int):Int).toNat=b.length by omega]; exact hvs) hvl hvw hl hjn hN hg.w (λl O ca e1 e2 e3 e4 e5 e6 e7 e8 e9=>?_)
 obtain ⟨o,ho⟩:∃ o,l[j+b.length]? = some o:=⟨_,Q4 (by omega)⟩
 have how:=e2 o (Rg ho);simp only;rw [wjn];refine Gd.ix (by omega) (by rw [hjk]; exact ho) (Gd.ix (by omega) (by rw [hjk]; exact ho) ?_)
 have hnb:i64.wrap (O+(i64.wrap ((i64.wrap (o.n))-(i64.wrap ca))))=O+o.n-ca:=by
  rw [bJ (n:=o.n) (by omega),bJ (n:=ca) (by omega),bJ (n:=o.n-ca) (by omega),bJ (by omega)]
  omega
 rw [hnb,hjk,xS];have hA:=HH (l:=l) (k:=j+b.length) (x:=o) (v:=⟨(O+o.n-ca)%4294967296⟩) ho how.1 (by simp only; omega)
 simp only at hA;have hW1:Wf (l.set (j+b.length) ⟨(O+o.n-ca)%4294967296⟩):=e2.set (by omega)
 have J:(l.set (j+b.length) (⟨(O+o.n-ca)%4294967296⟩:bT)).length=I.length:=by simp [e1]
 have hab1:∀ p,j+b.length+1<=p->(l.set (j+b.length) (⟨(O+o.n-ca)%4294967296⟩:bT))[p]? = I[p]? := λp hp=>by
  rw [Ry (by omega)]; exact e8 p (by omega)
 have hbe1:∀ p,p<j->(l.set (j+b.length) (⟨(O+o.n-ca)%4294967296⟩:bT))[p]? = I[p]? := λp hp=>by
  rw [Ry (by omega)]; exact e9 p hp
 have hsm1:=small _ J hW1 hab1;generalize l.set (j+b.length) (⟨(O+o.n-ca)%4294967296⟩:bT)=l1 at hA hW1 J hab1 hbe1 hsm1;have hPW:((WB ^ (j+b.length+1):Nat):Int)=((WB ^ (j+b.length):Nat):Int)*4294967296:=by rw [WH,R2,show ((WB:Nat):Int)=4294967296 from rfl]
 have hZ:(nv l1:Int)+((WB ^ (j+b.length):Nat):Int)*(O+o.n-ca-(O+o.n-ca)%4294967296)=nv I-((WB ^ j:Nat):Int)*((g:Int)*(nv vs:Int)):=by
  rw [<- e7,VW,VW,VU,VW];omega
 have hZU:(nv I:Int)-((WB ^ j:Nat):Int)*((g:Int)*(nv vs:Int))=nv (I.take j)+((WB ^ j:Nat):Int)*((U:Int)-(g:Int)*(nv vs:Int)):=by
  rw [h0,VX,R2,VW]; omega
 have hge:=hg.ge; have hle:=hg.le
 refine Gd.ite (λhneg=>?_) (λhpos=>?_)
 ·have hneg:O+o.n-ca<0:=Q_ hneg
  have hdiv:O+o.n-ca-(O+o.n-ca)%4294967296 = -4294967296:=by omega
  rw [hdiv] at hZ;have hZ1:(nv l1:Int)-((WB ^ (j+b.length+1):Nat):Int)=nv I-((WB ^ j:Nat):Int)*((g:Int)*(nv vs:Int)):=by
   rw [hPW,<- hZ,Int.mul_neg]; omega
  have hgq:g=q+1:=by
   rcases (show g=q\/g=q+1 by omega) with h | h
   ·exfalso
    rw [h] at hZ1 hZU;have h0':(0:Int)<=(U:Int)-(q:Int)*(nv vs:Int):=by
     have h1':((q*nv vs:Nat):Int)<=U:=by omega
     rw [R2] at h1'; omega
    have:(0:Int)<=((WB ^ j:Nat):Int)*((U:Int)-(q:Int)*(nv vs:Int)):=Int.mul_nonneg (by omega) h0'
    omega
   ·exact h
  refine OV (j:=j) (l1:=l1) (by rw [show ((b.length:Int):Int).toNat=b.length by omega]; exact hvs) hvl hvw hW1 (by omega) (by omega) (λl2 c f1 f2 f3 f4 f5 f6 f7=>?_)
  obtain ⟨Z,ho2⟩:∃ Z,l2[j+b.length]? = some Z:=⟨_,Q4 (by omega)⟩
  have how2:=f2 Z (Rg ho2);simp only;refine Gd.ix (by omega) (by rw [hjk]; exact ho2) (Gd.ix (by omega) (by rw [hjk]; exact ho2) ?_)
  rw [xS,xS,show c%4294967296=c by omega]
  have hg1:u64.wrap ((g:Int)-1)=(q:Int):=by rw [hgq,gH (by omega)]; omega
  rw [hg1];have hB:=Cz (l:=l2) (k:=j+b.length) (x:=Z) (v:=⟨(Z.n+c)%4294967296⟩) ho2;simp only at hB;have hW2:Wf (l2.set (j+b.length) ⟨(Z.n+c)%4294967296⟩):=f2.set (by omega)
  have Y:(l2.set (j+b.length) (⟨(Z.n+c)%4294967296⟩:bT)).length=I.length:=by simp [f1,J]
  have hab2:∀ p,j+b.length+1<=p->(l2.set (j+b.length) (⟨(Z.n+c)%4294967296⟩:bT))[p]? = I[p]? := λp hp=>by
   rw [Ry (by omega),f6 p (by omega)]; exact hab1 p hp
  have hbe2:∀ p,p<j->(l2.set (j+b.length) (⟨(Z.n+c)%4294967296⟩:bT))[p]? = I[p]? := λp hp=>by
   rw [Ry (by omega),f7 p hp]; exact hbe1 p hp
  have hsm2:=small _ Y hW2 hab2;generalize l2.set (j+b.length) (⟨(Z.n+c)%4294967296⟩:bT)=l3 at hB hW2 Y hab2 hbe2 hsm2;refine JO hj hqN (by omega) (hn l3 Y hW2 ?_ hbe2)
  obtain ⟨κ,hκ⟩:∃ κ:Nat,Z.n.toNat+c.toNat=((Z.n+c)%4294967296).toNat+WB*κ:=by
   refine ⟨((Z.n+c) / 4294967296).toNat,?_⟩;have eW:WB=4294967296:=rfl;rw [eW]; omega
  have hsum:nv l3+WB ^ (j+b.length+1)*κ=nv l1+WB ^ j*nv vs:=by
   have e:WB ^ (j+b.length)*Z.n.toNat+WB ^ (j+b.length)*c.toNat=WB ^ (j+b.length)*((Z.n+c)%4294967296).toNat+WB ^ (j+b.length)*(WB*κ):=by
    rw [<- Wt,hκ,Wt]
   rw [WH,Wv];omega
  have hVlt:WB ^ j*nv vs<WB ^ (j+b.length+1):=by
   have h1:WB ^ j*nv vs<=WB ^ j*WB ^ b.length:=Wx _ hV;have h2:WB ^ j*WB ^ b.length<WB ^ (j+b.length+1):=by
    rw [<- Wz]; exact Nat.pow_lt_pow_right (by decide) (by omega)
   omega
  have hZq:(nv l1:Int)+((WB ^ j*nv vs:Nat):Int)=nv (I.take j)+((WB ^ j:Nat):Int)*((U:Int)-(q:Int)*(nv vs:Int))+((WB ^ (j+b.length+1):Nat):Int):=by
   rw [hgq] at hZ1 hZU;have e:((WB ^ j:Nat):Int)*((U:Int)-((q+1:Nat):Int)*(nv vs:Int))=((WB ^ j:Nat):Int)*((U:Int)-(q:Int)*(nv vs:Int))-((WB ^ j*nv vs:Nat):Int):=by
    rw [R2,<- VW]
    congr 1
    rw [show ((q+1:Nat):Int)=(q:Int)+1 by omega,Int.add_mul]
    omega
   rw [e] at hZU;omega
  have hnn:(0:Int)<=((WB ^ j:Nat):Int)*((U:Int)-(q:Int)*(nv vs:Int)):=Int.mul_nonneg (by omega) (by
   have:((q*nv vs:Nat):Int)<=U:=by omega
   rw [R2] at this; omega)
  have hκ1:κ=1:=by
   rcases S3 κ 1 with h | h
   ·exfalso
    have:κ=0:=by omega
    rw [this] at hsum; omega
   ·rcases S3 1 κ with h2 | h2
    ·exfalso
     have:WB ^ (j+b.length+1)*2<=WB ^ (j+b.length+1)*κ:=Wx _ h2;omega
    ·omega
  rw [hκ1,TK] at hsum;have e:((WB ^ j:Nat):Int)*((U:Int)-(q:Int)*(nv vs:Int))=((WB ^ j*U:Nat):Int)-((WB ^ j*(q*nv vs):Nat):Int):=by
   rw [VW,R2,R2,R2]
  rw [e] at hZq;omega
 ·have hpos:¬ O+o.n-ca<0:=Rf hpos
  have hdiv:O+o.n-ca-(O+o.n-ca)%4294967296=0:=by omega
  rw [hdiv,Int.mul_zero,Int.add_zero] at hZ;have hgq:g=q:=by
   rcases (show g=q\/g=q+1 by omega) with h | h
   ·exact h
   ·exfalso
    rw [h] at hZ hZU;have h1:(U:Int)-((q+1:Nat):Int)*(nv vs:Int)<=-1:=by
     have:(U:Int)<(((q+1)*nv vs:Nat):Int):=by omega
     rw [R2] at this; omega
    have h2:((WB ^ j:Nat):Int)*((U:Int)-((q+1:Nat):Int)*(nv vs:Int))<=((WB ^ j:Nat):Int)*(-1):=Int.mul_le_mul_of_nonneg_left h1 (by omega)
    omega
  rw [hgq] at hZ ⊢;refine JO hj hqN (by omega) (hn l1 J hW1 ?_ hbe1)
  have e:((WB ^ j:Nat):Int)*((q:Int)*(nv vs:Int))=((WB ^ j*(q*nv vs):Nat):Int):=by rw [R2,R2]
  rw [e] at hZ;omega
theorem HI {l:List bT}{m:Nat}{x y:bT} (O:l[m+1]? = some x) (Y:l[m]? = some y) (J:nv (l.drop (m+2))=0):nv l=(x.n.toNat*WB+y.n.toNat)*WB ^ m+nv (l.take m):=by
 have e:=wU Y;have I:nv (l.drop (m+1))=x.n.toNat+WB*nv (l.drop (m+2)):=by rw [rr O,nv]
 rw [e,I,J,Wy,SH,Ww (WB ^ m),TJ (nv (l.take m)),TJ y.n.toNat,Ww WB x.n.toNat]
theorem KS {l:List bT}{m:Nat}{x y z:bT} (O:l[m+2]? = some x) (Y:l[m+1]? = some y) (Z:l[m]? = some z) (J:nv (l.drop (m+3))=0):nv l=((x.n.toNat*WB+y.n.toNat)*WB+z.n.toNat)*WB ^ m+nv (l.take m):=by
 have e:=wU Z;have I:nv (l.drop (m+1))=y.n.toNat+WB*nv (l.drop (m+2)):=by rw [rr Y,nv]
 have e2:nv (l.drop (m+2))=x.n.toNat+WB*nv (l.drop (m+3)):=by rw [rr O,nv]
 rw [e,I,e2,J,Wy,SH,Ww (WB ^ m),TJ (nv (l.take m)),TJ z.n.toNat,Ww WB (y.n.toNat+_),TJ y.n.toNat,Ww WB x.n.toNat]
theorem Kq {b J vs:List bT}{j Z q U R v1 v2 vl u2 ul top:Nat}{l0 qs:List bT}{nx:List bT×List bT×Int->Option (List bT×List bT)}{Q:List bT×List bT->Prop}
  (hb:b.length=Z+2) (hvs:sJ J 0 (((b.length:Int):Int).toNat)=vs) (hvl:vs.length=b.length) (hl0:j+b.length<l0.length) (hN:l0.length<=1000001)
  (y1 y2 z2:bT) (hy1:vs[Z+1]? = some y1) (hy2:vs[Z]? = some y2) (hz2:l0[j+Z]? = some z2) (e1:y1.n=v1) (e2:y2.n=v2) (e3:z2.n=u2) (w1:v1<4294967296) (hv1:1<=v1)
  (hS:G9 WB R v1 v2 vl u2 ul top (nv vs) U) (hq1:q*nv vs<=U) (hq2:U<(q+1)*nv vs) (hqW:q<WB)
  (hk:∀ g,OM WB (nv vs) U q g->Gd (fI b J qs l0 (j:Int) nx (g:Int)) Q)
  {g0 I:Nat} (h0:Gs WB R v1 v2 vl u2 ul top (nv vs) U q g0 I):
  Gd (fX (λO n=>oM b J qs l0 (j:Int) nx O.1 O.2 n) eY ((g0:Int),(I:Int))) Q:=by
 have hu2:u2<4294967296:=hS.u2;have hv2:v2<4294967296:=hS.v2;have eW:WB=4294967296:=rfl;refine Gd.fX (λ(z:Int×Int)=>∃ g rest:Nat,z=((g:Int),(rest:Int))/\Gs WB R v1 v2 vl u2 ul top (nv vs) U q g rest) (λz=>z.1.toNat) ?_ eY _ ⟨g0,I,rfl,h0⟩ ?_
 ·rintro z nx2 ⟨g,rest,rfl,Y⟩ hnx
  simp only at hnx ⊢;have hrest:rest<4294967296:=Y.rest;have hgW:g<=4294967297:=Y.le;have wn1:i64.wrap ((b.length:Int)-1)=((Z+1:Nat):Int):=by rw [hb,bJ (by omega)]; omega
  have wn2:i64.wrap ((b.length:Int)-2)=((Z:Nat):Int):=by rw [hb,bJ (by omega)]; omega
  have wjn:i64.wrap ((i64.wrap ((j:Int)+(b.length:Int)))-2)=((j+Z:Nat):Int):=by rw [hb,bJ (n:=(j:Int)+_) (by omega),bJ (by omega)]; omega
  have dec:q<g->Gd (if decide (4294967296<=(u64.wrap ((rest:Int)+(u64.wrap (y1.n))))) then (fI b J qs l0 (j:Int) nx (u64.wrap ((g:Int)-1))) else (nx2 (u64.wrap ((g:Int)-1),u64.wrap ((rest:Int)+(u64.wrap (y1.n)))))) Q:=λhlt=>by
   have er:u64.wrap ((rest:Int)+(u64.wrap (y1.n)))=((rest+v1:Nat):Int):=by
    rw [e1,gH (n:=(v1:Int)) (by omega),gH (by omega)]; omega
   have eg:u64.wrap ((g:Int)-1)=((g-1:Nat):Int):=by rw [gH (by omega)]; omega
   rw [er,eg];refine Gd.ite (λh=>hk _ (Y.over hS hq2 hv1 hlt (by rw [eW]; have:=Q_ h; omega))) (λh=>hnx _ ⟨g-1,rest+v1,rfl,Y.next hlt (by rw [eW]; have:=Rf h; omega)⟩ ?_)
   simp only [Q5];omega
  unfold oM;rw [hvs,wn1,wn2,wjn];refine Gd.ite (λh=>?_) (λh=>?_)
  ·have h:=Q_ h
   refine Gd.ix (by omega) (by rw [Q5]; exact hy1) (dec (Y.less hS hq1 hqW (.inl (by rw [eW]; omega))))
  ·have h:=Rf h
   refine Gd.ix (by omega) (by rw [Q5]; exact hy2) (Gd.ix (by omega) (by rw [Q5]; exact hz2) ?_)
   have eor:u64.wrap ((BitVec.ofInt (u64).bits (uj .u64 (rest:Int) 32) ||| BitVec.ofInt (u64).bits (u64.wrap (z2.n))).toNat)=((rest*WB+u2:Nat):Int):=by
    rw [zX ⟨by omega,by omega⟩ (by rw [e3]; omega),e3,eW]; omega
   have egv:u64.wrap ((g:Int)*(u64.wrap (y2.n)))=((g*v2:Nat):Int):=by
    have hb2:g*v2<=4294967296*4294967295:=Nat.mul_le_mul (by omega) (by omega)
    rw [e2,gH (n:=(v2:Int)) (by omega),show (g:Int)*(v2:Int)=((g*v2:Nat):Int) by rw [R2],gH (by omega)]
   rw [eor,egv];refine Gd.ite (λh2=>Gd.ix (by omega) (by rw [Q5]; exact hy1) (dec (Y.less hS hq1 hqW (.inr ?_)))) (λh2=>hk g (Y.stop hS hq2 hv1 (by rw [eW]; omega) ?_))
   ·exact Int.ofNat_lt.1 (Q_ h2)
   ·have:=Rf h2
    exact Int.ofNat_le.1 (Int.not_lt.1 this)
 ·simp only [eY,Q5]
  have:g0<=4294967297:=h0.le;omega
theorem Ko {W R v1 v2 vl u2 ul u0 u1 V U q:Nat} (h:G9 W R v1 v2 vl u2 ul (u0*W+u1) V U) (Y:q*V<=U) (J:1<=v1) (hv1:v1<W) (hW:W<=2*v1) (I:u0<=v1) (Z:u1<W):
  Gs W R v1 v2 vl u2 ul (u0*W+u1) V U q ((u0*W+u1) / v1) ((u0*W+u1)%v1):=by
 have hm:(u0*W+u1)%v1<v1:=T4 _ J;refine ⟨(Wq J).2 (h.Oo Y),?_,by omega,?_⟩
 ·rw [Ww,TJ,Ws]
 ·have h1:u0*W<=v1*W:=Rl _ I
  have O:u0*W+u1<(W+2)*v1:=by
   rw [Ru,Ww W v1]; omega
  have:=(Wo J).2 O;omega
theorem Ea {W R u0 u1 v1 v2 vl ul V X:Nat} (Y:X=(u0*W+u1)*R+ul) (O:V=(v1*W+v2)*R+vl) (Z:X<V) (hvl:vl<R) (I:v2<W):u0<=v1:=by
 rcases S3 v1 u0 with h | h
 ·exfalso
  have h1:(v1+1)*W*R<=u0*W*R:=Rl _ (Rl _ h);have J:(v2+1)*R<=W*R:=Rl _ I;have e1:(v1+1)*W*R=v1*W*R+W*R:=by rw [Ru,Ru,UU]
  have e2:X=u0*W*R+u1*R+ul:=by rw [Y,Ru]
  have e3:V=v1*W*R+v2*R+vl:=by rw [O,Ru]
  rw [Ru] at J;omega
 ·exact h
theorem Kx {q W D V P nl I U0:Nat} (O:nl+P*(q*V)=I) (Y:D*V*(P*W)+I=U0):(q+W*D)*V*P+nl=U0:=by
 have J:(q+W*D)*V*P=P*(q*V)+D*V*(P*W):=by
  rw [Ru,Ru,Ww P (q*V)]
  congr 1
  rw [Ww W D,Wv D W V,Ww W V,<- Wv D V W,Wv (D*V) W P,Ww W P]
 omega
theorem Mn {W x y V:Nat} (J:x<W) (I:y<V):x+W*y<W*V:=by
 have:W*(y+1)<=W*V:=Wx _ I;rw [Wt] at this; omega
theorem K5 {P a x q V U:Nat} (hP:0<P) (J:a+P*x+P*(q*V)=a+P*U) (I:U<(q+1)*V):x<V:=by
 have e:P*(x+q*V)=P*U:=by rw [Wt]; omega
 have:=Nat.eq_of_mul_eq_mul_left hP e;rw [Ru] at I;omega
theorem IE {b r134 vs:List bT}{r127:Int}{I N U0:Nat}{Q:List bT×List bT->Prop}
  (hb:b.length=I+2) (hvs:sJ r134 0 (((b.length:Int):Int).toNat)=vs) (hvl:vs.length=b.length) (hvw:Wf vs) (hN:N<=1000001)
  (O y2:bT) (hy1:vs[I+1]? = some O) (hy2:vs[I]? = some y2) (hnorm:2147483648<=O.n)
  (J u0:List bT) (hq0:J.length+b.length=N) (hqw:Wf J) (hu0:u0.length=N) (huw:Wf u0) (hstart:nv (u0.drop J.length)<nv vs) (hval:nv u0=U0)
  (hk:∀ qs u,qs.length=J.length->Wf qs->u.length=N->Wf u->nv qs*nv vs+nv u=U0->nv u<nv vs ->
   Gd (cK (0<=(b.length:Int)/\(b.length:Int)*4<=140737488355328) (jW (λk Z n=>mq r127 u k Z n) (λZ=>some (qs,Z)) ((b.length:Int):Int).toNat 0 (List.replicate ((b.length:Int):Int).toNat (⟨0⟩:bT)))) Q):
  Gd (fX (λY n=>oJ b r127 r134 Y.1 Y.2.1 Y.2.2 n) eY (J,u0,(J.length:Int)-1)) Q:=by
 have hy1w:=hvw O (Rg hy1); have hy2w:=hvw y2 (Rg hy2)
 have hVB:nv vs<=WB ^ b.length:=by have:=s8 hvw; rw [hvl] at this; omega
 refine Gd.fX (λ(z:List bT×List bT×Int)=>z.1.length=J.length/\Wf z.1/\z.2.1.length=N/\Wf z.2.1/\-1<=z.2.2/\z.2.2<J.length/\nv (z.1.drop (z.2.2+1).toNat)*nv vs*WB ^ (z.2.2+1).toNat+nv z.2.1=U0/\nv (z.2.1.drop (z.2.2+1).toNat)<nv vs) (λz=>(z.2.2+1).toNat) ?_ eY _ ⟨rfl,hqw,hu0,huw,by simp only; omega,by simp only; omega,?_,?_⟩ (by simp only [eY]; omega)
 ·rintro ⟨qs,u,j⟩ nx ⟨h1,h2,h3,h4,h5,h6,h7,h8⟩ hnx
  simp only at h1 h2 h3 h4 h5 h6 h7 h8 hnx ⊢;unfold oJ;refine Gd.ite (λhj=>?_) (λhj=>?_)
  ·have hj:=Q_ hj
   obtain ⟨k,rfl⟩:∃ k:Nat,j=k:=⟨j.toNat,by omega⟩
   rw [show ((k:Int)+1).toNat=k+1 by omega] at h7 h8
   obtain ⟨t0,ht0⟩:∃ t,u[k+I+2]? = some t:=⟨_,Q4 (by omega)⟩
   obtain ⟨t1,ht1⟩:∃ t,u[k+I+1]? = some t:=⟨_,Q4 (by omega)⟩
   obtain ⟨t2,ht2⟩:∃ t,u[k+I]? = some t:=⟨_,Q4 (by omega)⟩
   have w0:=h4 t0 (Rg ht0); have w1:=h4 t1 (Rg ht1); have w2:=h4 t2 (Rg ht2)
   have wjn:i64.wrap ((k:Int)+(b.length:Int))=((k+I+2:Nat):Int):=by rw [hb,bJ (by omega)]; omega
   have wjm:i64.wrap (((k+I+2:Nat):Int)-1)=((k+I+1:Nat):Int):=by rw [bJ (by omega)]; omega
   have wn1:i64.wrap ((b.length:Int)-1)=((I+1:Nat):Int):=by rw [hb,bJ (by omega)]; omega
   rw [hvs,wjn,wjm,wn1];have ey1:u64.wrap O.n=O.n:=gH (by omega)
   refine Gd.ix (by omega) (by rw [Q5]; exact ht0) (Gd.ix (by omega) (by rw [Q5]; exact ht1) (Gd.ix (by omega) (by rw [Q5]; exact hy1) (Gd.nd (by rw [ey1]; omega) (Gd.ix (by omega) (by rw [Q5]; exact hy1) (Gd.nd (by rw [ey1]; omega) ?_)))))
   rw [gH (n:=t0.n) (by omega),zX w0 w1,ey1]
   obtain ⟨x,hx⟩:∃ x,u[k]? = some x:=⟨_,Q4 (by omega)⟩
   have hxw:=h4 x (Rg hx);have hU1:nv (u.drop k)=x.n.toNat+WB*nv (u.drop (k+1)):=by rw [rr hx,nv]
   have hUlt:nv (u.drop k)<WB*nv vs:=by rw [hU1]; exact Mn (by show x.n.toNat<4294967296; omega) h8
   have hVlt:nv vs<WB ^ (I+2):=by have:=s8 hvw; rw [hvl,hb] at this; exact this
   have hz:nv (u.drop (k+1+(I+2)))=0:=by
    have e:=CA (u.drop (k+1)) (m:=I+2) (by rw [SL]; omega)
    rw [SV] at e;exact Bm e (by omega)
   have hVe:=HI hy1 hy2 (by rw [V4 (by omega)]; rfl)
   have hXe:=HI (l:=u.drop (k+1)) (m:=I) (x:=t0) (y:=t1) (by rw [RT,show k+1+(I+1)=k+I+2 by omega]; exact ht0) (by rw [RT,show k+1+I=k+I+1 by omega]; exact ht1) (by rw [SV]; exact hz)
   have hUe:=KS (l:=u.drop k) (m:=I) (x:=t0) (y:=t1) (z:=t2) (by rw [RT,show k+(I+2)=k+I+2 by omega]; exact ht0) (by rw [RT,show k+(I+1)=k+I+1 by omega]; exact ht1) (by rw [RT]; exact ht2) (by rw [SV,show k+(I+3)=k+1+(I+2) by omega]; exact hz)
   have hvl':nv (vs.take I)<WB ^ I:=by have:=s8 (hvw.take I); rw [RC,Sd (by omega)] at this; exact this
   have hul':nv ((u.drop k).take I)<WB ^ I:=by
    have:=s8 (l:=(u.drop k).take I) (λz hz=>h4 z (List.mem_of_mem_drop (TU hz)));rw [RC,SL,Sd (by omega)] at this; exact this
   have hS:G9 WB (WB ^ I) O.n.toNat y2.n.toNat (nv (vs.take I)) t2.n.toNat (nv ((u.drop k).take I)) (t0.n.toNat*WB+t1.n.toNat) (nv vs) (nv (u.drop k)):=
    ⟨hVe,hUe,hvl',hul',by show t2.n.toNat<4294967296; omega,by show y2.n.toNat<4294967296; omega⟩
   have hle:t0.n.toNat<=O.n.toNat:=Ea hXe hVe h8 hvl' (by show y2.n.toNat<4294967296; omega)
   have hVpos:0<nv vs:=by omega
   obtain ⟨q,hq1,hq2,hqW⟩:∃ q,q*nv vs<=nv (u.drop k)/\nv (u.drop k)<(q+1)*nv vs/\q<WB:=by
    refine ⟨nv (u.drop k) / nv vs,Nat.div_mul_le_self _ _,?_,(Wo hVpos).2 hUlt⟩;have:=S7 (nv (u.drop k) / nv vs);exact (Wo hVpos).1 this
   have hG:=Ko hS hq1 (show 1<=O.n.toNat by omega) (show O.n.toNat<WB by show O.n.toNat<4294967296; omega) (show WB<=2*O.n.toNat by show 4294967296<=2*O.n.toNat; omega) hle (show t1.n.toNat<WB by show t1.n.toNat<4294967296; omega)
   have hg0:=hG.le;have etop:t0.n*4294967296+t1.n=((t0.n.toNat*WB+t1.n.toNat:Nat):Int):=by
    show _=((t0.n.toNat*4294967296+t1.n.toNat:Nat):Int); omega
   have ey:O.n=((O.n.toNat:Nat):Int):=by omega
   have ed:Int.tdiv (t0.n*4294967296+t1.n) O.n=(((t0.n.toNat*WB+t1.n.toNat) / O.n.toNat:Nat):Int):=by
    rw [etop,ey]; rfl
   have em:Int.tmod (t0.n*4294967296+t1.n) O.n=(((t0.n.toNat*WB+t1.n.toNat)%O.n.toNat:Nat):Int):=by
    rw [etop,ey]; rfl
   rw [ed,em];generalize (t0.n.toNat*WB+t1.n.toNat) / O.n.toNat=g0 at hG hg0 ⊢;generalize (t0.n.toNat*WB+t1.n.toNat)%O.n.toNat=rest0 at hG ⊢;have eW:(WB:Nat)=4294967296:=rfl;rw [eW] at hg0;rw [gH (n:=(g0:Int)) (by omega)]
   refine Kq hb hvs hvl (by omega) (by omega) O y2 t2 hy1 hy2 ht2 (by omega) (by omega) (by omega) (by omega) (by omega) hS hq1 hq2 hqW (λg hg=>?_) hG
   refine J9 hvs hvl hvw h4 (by omega) (by omega) (by omega) (by omega) rfl hVB hUlt hq1 hq2 hqW hg (λl' f1 f2 f3 f4=>?_)
   have ek:((k:Int)-1+1).toNat=k:=by omega
   refine hnx _ ⟨by rw [Sr]; exact h1,h2.set (by rw [eW] at hqW; omega),by simp only; omega,f2,by simp only; omega,by simp only; omega,?_,?_⟩ (by simp only; omega)
   ·simp only
    rw [ek,rr (RF (by omega)),nv,TG (by omega)]
    rw [Q5];rw [WH] at h7;exact Kx f3 h7
   ·simp only
    rw [ek];have e1:=CA l' (m:=k) (by omega)
    have e2:=CA u (m:=k) (by omega)
    have e3:l'.take k=u.take k:=by
     apply SM;intro i;rw [RX,RX]
     by_cases hi:i<k
     ·rw [Rb hi,Rb hi]; exact f4 i hi
     ·rw [Ra hi,Ra hi]
    rw [e3] at e1;refine K5 (a:=nv (u.take k)) (P:=WB ^ k) (WG (by decide)) ?_ hq2
    omega
  ·have hj:=Rf hj
   rw [show (j+1).toNat=0 by omega,Su,WI,TK] at h7
   rw [show (j+1).toNat=0 by omega,Su] at h8
   exact hk qs u h1 h2 h3 h4 h7 h8
 ·simp only
  rw [show ((J.length:Int)-1+1).toNat=J.length by omega,TY]
  simp [nv,hval]
 ·simp only
  rw [show ((J.length:Int)-1+1).toNat=J.length by omega]
  exact hstart
theorem C_ {W S M u0 u1 hi:Nat} (O:W=S*M) (J:0<S):
  (u0+W*(u1+W*hi)) / S%W=(u1*W+u0) / S%W:=by
 have e:u0+W*(u1+W*hi)=(u1*W+u0)+S*(M*(W*hi)):=by
  have I:W*(W*hi)=S*(M*(W*hi)):=by rw [<- Wv S M,<- O]
  rw [Wt,I,Ww W u1]; omega
 rw [e,Nat.add_mul_div_left _ _ J];have e2:M*(W*hi)=W*(M*hi):=by rw [<- Wv,Ww M W,Wv]
 rw [e2,Nat.add_mul_mod_self_left]
theorem EE {W S u0 T:Nat} (I:u0<W):(u0+W*T) / S / W=T / S:=by
 rw [Nat.div_div_eq_div_mul,Ww S W,<- Nat.div_div_eq_div_mul,Nat.add_mul_div_left _ _ (by omega),Wn I,Rv]
theorem On {n:Int}{k:Nat} (I:k<=64):ot .u64 n (k:Int)=n / (2 ^ k:Nat):=by
 unfold ot;rw [show (min ((k:Int)).toNat u64.bits)=k by show min ((k:Int)).toNat 64=k; omega,TM _ (Int.le_of_lt (Int.pow_pos (by decide)))]
 rw [Int.natCast_pow]; rfl
theorem FQ {A P d W D I Z:Nat} (h:A+P*D=Z) (O:D%W=d) (J:D / W=I):(A+P*d)+P*W*I=Z:=by
 have e:d+W*I=D:=by rw [<- O,<- J,Ws]
 rw [Wv P W,Tv,<- Wt,e,h]
theorem G3 {n s:Nat} (hs:s<=31) {u:List bT} (hu:Wf u) (hl:n<u.length) (hz:u.length<=1000001) {qs:List bT}{Q:List bT×List bT->Prop} (hlt:nv u / 2 ^ s<WB ^ n)
  (hk:∀ r,Wf r->r.length=n->nv r=nv u / 2 ^ s->Q (qs,r)):
  Gd (jW (λk I n=>mq (s:Int) u k I n) (λI=>some (qs,I)) n 0 (List.replicate n (⟨0⟩:bT))) Q:=by
 have hS:0<(2:Nat) ^ s:=WG (by decide)
 have hWS:WB=2 ^ s*2 ^ (32-s):=by rw [<- Wz,show s+(32-s)=32 by omega]
 refine Gd.jW (λm k (z:List bT)=>k+m=n/\z.length=n/\Wf z/\nv (z.take k)+WB ^ k*(nv (u.drop k) / 2 ^ s)=nv u / 2 ^ s) ?_ ?_ _ 0 _ ⟨by omega,by simp,λy hy=>?_,by simp [nv]⟩
 ·rintro m k l nx ⟨h0,h1,h2,h3⟩ hnx
  obtain ⟨J,Y⟩:∃ t,u[k]? = some t:=⟨_,Q4 (by omega)⟩
  obtain ⟨O,Z⟩:∃ t,u[k+1]? = some t:=⟨_,Q4 (by omega)⟩
  have w0:=hu J (Rg Y); have w1:=hu O (Rg Z)
  have wk:i64.wrap ((k:Int)+1)=((k+1:Nat):Int):=by rw [bJ (by omega)]; omega
  unfold mq;rw [wk];refine Gd.ix (by omega) (by rw [Q5]; exact Z) (Gd.ix (by omega) (by rw [Q5]; exact Y) (Gd.nd (by omega) (Gd.gK (by omega) ?_)))
  rw [gH (n:=O.n) (by omega),zX w1 w0,On (by omega),xS,Q5]
  have e1:O.n*4294967296+J.n=((O.n.toNat*WB+J.n.toNat:Nat):Int):=by
   show _=((O.n.toNat*4294967296+J.n.toNat:Nat):Int); omega
  have e2:(O.n*4294967296+J.n) / ((2 ^ s:Nat):Int)%4294967296=(((O.n.toNat*WB+J.n.toNat) / 2 ^ s%WB:Nat):Int):=by
   rw [e1]; rfl
  rw [e2];have hd:nv (u.drop k)=J.n.toNat+WB*nv (u.drop (k+1)):=by rw [rr Y,nv]
  have hd1:nv (u.drop (k+1))=O.n.toNat+WB*nv (u.drop (k+2)):=by rw [rr Z,nv]
  have hm:=C_ (u0:=J.n.toNat) (u1:=O.n.toNat) (hi:=nv (u.drop (k+2))) hWS hS;rw [<- hd1,<- hd] at hm;have hn:=EE (W:=WB) (S:=2 ^ s) (u0:=J.n.toNat) (T:=nv (u.drop (k+1))) (by show J.n.toNat<4294967296; omega)
  rw [<- hd] at hn;have hlt':(O.n.toNat*WB+J.n.toNat) / 2 ^ s%WB<WB:=T4 _ (by decide)
  refine hnx _ ⟨by omega,by rw [Sr]; exact h1,h2.set ⟨by omega,by have:(WB:Nat)=4294967296:=rfl; rw [this] at hlt'; omega⟩,?_⟩
  rw [wX (by omega),uS,RC,Sd (by omega),WH,Q5]
  exact FQ h3 hm hn
 ·rintro k l ⟨h0,h1,h2,h3⟩
  have hk':k=n:=by omega
  subst hk';rw [Ri (by omega)] at h3
  have h0':=Bm h3.symm hlt;rw [h0',Wy,SH] at h3;exact Gd.ret (hk l h2 h1 h3)
 ·rw [Wg] at hy
  rw [hy.2]; simp
theorem N1 {q V a b S u:Nat} (J:0<S) (O:V=b*S) (h:q*V+u=a*S) (Y:u<V):u / S=a-q*b/\a-q*b<b/\q*b<=a:=by
 have e:q*V=q*b*S:=by rw [O,Wv]
 have I:q*b<=a:=by
  have Z:q*b*S<=a*S:=by omega
  exact Nat.le_of_mul_le_mul_right Z J
 have e2:u=(a-q*b)*S:=by rw [Nat.mul_sub_right_distrib]; omega
 refine ⟨by rw [e2,Nat.mul_div_cancel _ J],?_,I⟩
 rw [e2,O] at Y;exact Nat.lt_of_mul_lt_mul_right Y
theorem O0 {q a b:Nat} (I:a-q*b<b) (J:q*b<=a):q=a / b/\a-q*b=a%b:=by
 have:=(Nat.div_mod_unique (a:=a) (b:=b) (c:=a-q*b) (d:=q) (by omega)).2 ⟨by rw [Ww b q]; omega,I⟩
 exact ⟨this.1.symm,this.2.symm⟩
theorem Ll {W S M x B P:Nat} (I:W=S*M) (J:x*S<W) (Z:B<(x+1)*P):B*S<W*P:=by
 have O:x<M:=by rw [I,Ww] at J; exact Wr J
 have Y:(x+1)*S<=W:=by rw [I,Ww S M]; exact Rl _ O
 have hS:0<S:=by
  rcases Nat.eq_zero_or_pos S with h | h
  ·rw [h] at I; simp at I; rw [I] at J; omega
  ·exact h
 have h3:B*S<(x+1)*P*S:=(Nat.mul_lt_mul_right hS).2 Z;have h4:(x+1)*P*S=(x+1)*S*P:=by rw [Wv,Ww P S,<- Wv]
 have h5:(x+1)*S*P<=W*P:=Rl _ Y;omega
theorem J_ {a b:List bT} (ha:Wf a) (hb:Wf b) (hta:wh a) (O:wh b) (hne:b≠[]) (hza:a.length<=900000) (hzb:b.length<=900000):
  Gd (nI a b) (λr=>Wf r.1/\Wf r.2/\r.1.length<=a.length/\r.2.length<=a.length/\nv r.1=nv a / nv b/\nv r.2=nv a%nv b):=by
 unfold nI;refine Gd.eN (JX ha hb hta O (by omega) (by omega)) (λc hc=>Gd.ite (λh=>?_) (λh=>?_))
 ·have hlt:=hc.1.1 (Q_ h)
  exact Gd.ret ⟨Wf.nil,ha,by simp,Rq _,by rw [Wn hlt]; rfl,by rw [SX hlt]⟩
 ·have hge:nv b<=nv a:=by
   have h:=Rf h;have:=mt hc.1.2 h;omega
  have hbl:0<b.length:=Wd.2 hne;have hle:b.length<=a.length:=by
   rcases S3 a.length b.length with h | h
   ·have:=vB ha hb O h; omega
   ·exact h
  refine Gd.ite (λY=>?_) (λY=>?_)
  ·have Y:=Q_ Y
   have Y:b.length=1:=by omega
   obtain ⟨x,rfl⟩:=Wa.1 Y;have hx:=hb x (by simp)
   have hx0:x.n≠0:=O x (by simp)
   refine Gd.ix (y:=x) (by omega) (by simp) (Gd.eN (FL ha (by omega) (d:=x.n) (by omega)) (λr hr=>Gd.ret ?_))
   obtain ⟨r1,r2,r3,r4⟩:=hr;have hm:nv a%x.n.toNat<x.n.toNat:=T4 _ (by omega)
   refine ⟨r1,?_,by simp only; omega,by simp at hle ⊢; omega,by rw [r3,Cy],?_⟩
   ·refine Wf.one ?_
    rw [r4]; omega
   ·simp only
    rw [Cy,Cy,r4,Q5]
  ·have Y:=Rf Y
   obtain ⟨I,J⟩:∃ I,b.length=I+2:=⟨b.length-2,by omega⟩
   have wn1:i64.wrap ((b.length:Int)-1)=((I+1:Nat):Int):=by rw [J,bJ (by omega)]; omega
   have wab:i64.wrap ((a.length:Int)-(b.length:Int))=((a.length-b.length:Nat):Int):=by rw [bJ (by omega)]; omega
   have wab1:i64.wrap (((a.length-b.length:Nat):Int)+1)=((a.length-b.length+1:Nat):Int):=by rw [bJ (by omega)]; omega
   rw [wn1,wab,wab1];obtain ⟨x,hx⟩:∃ t,b[I+1]? = some t:=⟨_,Q4 (by omega)⟩
   have hxw:=hb x (Rg hx);have hx0:x.n≠0:=O x (by rw [V9,J]; exact hx)
   refine Gd.ix (by omega) (by rw [Q5]; exact hx) (Gd.eN (O9 (x:=x.n) (by omega) hxw.2) ?_)
   rintro sv ⟨s,rfl,hs1,hs2,hs3⟩;refine Gd.eN (CN ha (by omega) hs1) (λu0 hu0=>Gd.eN (CN hb (by omega) hs1) (λv0 hv0=>?_))
   obtain ⟨p1,p2,p3,p4⟩:=hu0;obtain ⟨q1,q2,q3,t,q4,q5⟩:=hv0;refine Gd.nd (by omega) (Gd.nd (by omega) ?_)
   have hS:0<(2:Nat) ^ s:=WG (by decide)
   have hWS:WB=2 ^ s*2 ^ (32-s):=by rw [<- Wz,show s+(32-s)=32 by omega]
   have hbs:nv b=nv (b.take (I+1))+WB ^ (I+1)*x.n.toNat:=by
    have:=rF hx;rw [Ri (by omega)] at this; exact this
   have hbt:nv (b.take (I+1))<WB ^ (I+1):=by
    have:=s8 (hb.take (I+1)); rw [RC,Sd (by omega)] at this; exact this
   have hb2:nv b<(x.n.toNat+1)*WB ^ (I+1):=by rw [Ru,Ww x.n.toNat]; omega
   have hvlt:nv v0<WB ^ (I+2):=by
    rw [q3,WH,Ww _ WB];exact Ll hWS hs3 hb2
   have hvs:nv (v0.take b.length)=nv v0/\Wf (v0.take b.length)/\(v0.take b.length).length=b.length:=by
    refine ⟨?_,q1.take _,by rw [RC]; omega⟩
    have e:=CA v0 (m:=b.length) (by omega)
    have hz:nv (v0.drop b.length)=0:=Bm e (by rw [J]; exact hvlt)
    rw [hz,Wy,SH] at e;exact e.symm
   have hsl:sJ v0 0 (((b.length:Int):Int).toNat)=v0.take b.length:=by
    rw [Q5]; rfl
   generalize v0.take b.length=vs at hvs hsl;obtain ⟨v1,v2,v3⟩:=hvs;obtain ⟨y1,hy1⟩:∃ t,vs[I+1]? = some t:=⟨_,Q4 (by omega)⟩
   obtain ⟨y2,hy2⟩:∃ t,vs[I]? = some t:=⟨_,Q4 (by omega)⟩
   have hy1w:=v2 y1 (Rg hy1);have hVS:nv vs=nv b*2 ^ s:=by rw [v1,q3]
   have hnorm:2147483648<=y1.n:=by
    have e1:nv vs=nv (vs.take (I+1))+WB ^ (I+1)*y1.n.toNat:=by
     have:=rF hy1;rw [Ri (by omega)] at this; exact this
    have e2:nv (vs.take (I+1))<WB ^ (I+1):=by
     have:=s8 (v2.take (I+1)); rw [RC,Sd (by omega)] at this; exact this
    have e3:WB ^ (I+1)*x.n.toNat*2 ^ s<=nv b*2 ^ s:=Rl _ (by omega)
    rw [Wv] at e3;have e4:WB ^ (I+1)*(x.n.toNat*2 ^ s)<WB ^ (I+1)*(y1.n.toNat+1):=by rw [Wt (WB ^ (I+1)) y1.n.toNat 1]; omega
    have e5:=Wr e4;omega
   have hst:nv (u0.drop (a.length-b.length+1))<nv vs:=by
    have e:=CA u0 (m:=a.length-b.length+1) (by omega)
    have Y:WB ^ (I+1)<=nv b:=by have:=FA hb O hne; rw [J] at this; exact this
    have h2:nv a<WB ^ a.length:=s8 ha;have h3:nv u0<WB ^ a.length*2 ^ s:=by rw [p3]; exact (Nat.mul_lt_mul_right hS).2 h2
    have h4:WB ^ a.length*2 ^ s=WB ^ (a.length-b.length+1)*(WB ^ (I+1)*2 ^ s):=by
     rw [<- Wv,<- Wz]; congr 2; omega
    have h5:nv (u0.drop (a.length-b.length+1))<WB ^ (I+1)*2 ^ s:=by
     rw [h4] at h3;exact Wr (a:=WB ^ (a.length-b.length+1)) (by omega)
    have h6:WB ^ (I+1)*2 ^ s<=nv b*2 ^ s:=Rl _ Y;omega
   have Z:((a.length-b.length:Nat):Int)=((List.replicate (a.length-b.length+1) (⟨0⟩:bT)).length:Int)-1:=by
    rw [So]; omega
   rw [Q5,Z];refine IE (N:=a.length+1) (U0:=nv a*2 ^ s) J hsl v3 v2 (by omega) y1 y2 hy1 hy2 hnorm _ u0 (by rw [So]; omega) (λy hy=>by rw [Wg] at hy; rw [hy.2]; simp) p2 p1 (by rw [So]; exact hst) p3 ?_
   intro qs u f1 f2 f3 f4 f5 f6;obtain ⟨g1,g2,g3⟩:=N1 hS hVS f5 f6;obtain ⟨g4,g5⟩:=O0 g2 g3;refine Gd.nd (by omega) ?_
   rw [Q5];refine G3 hs1 f4 (by omega) (by omega) ?_ (λr r1 r2 r3=>⟨f2,r1,?_,?_,g4,?_⟩)
   ·rw [g1]; have:=s8 hb; omega
   ·simp only; rw [f1,So]; omega
   ·simp only; omega
   ·simp only; rw [r3,g1,g5]
theorem xp {w:List bT} (J:Wf w) (ht:wh w):nv w=0↔w=[]:=by
 constructor
 ·intro h
  rcases V5 w with I | ⟨a,y,I⟩
  ·exact I
  ·have:=FA J ht (by rw [I]; simp)
   have O:0<WB ^ (w.length-1):=WG (by decide)
   omega
 ·intro h; rw [h]; rfl
theorem KR {a b:List bT} (J:Wf a) (O:Wf b) (Y:wh a) (Z:wh b) (h:nv a=nv b):a=b:=by
 rcases Uc a.length b.length with I | I | I
 ·have:=vB J O Z I; omega
 ·exact KQ J O I h
 ·have:=vB O J Y I; omega
theorem th.ext' {a b:LI} (I:th a) (J:th b) (h:fV a=fV b):a=b:=by
 obtain ⟨O,Y⟩:=a; obtain ⟨Z,bw⟩:=b
 have za:=xp I.wf I.tp; have zb:=xp J.wf J.tp
 have sa:=I.sign; have sb:=J.sign
 simp only [fV] at h za zb sa sb;have key:O=Z->Y=bw->(aD.mk O Y)=aD.mk Z bw:=by rintro rfl rfl; rfl
 cases O <;> cases Z <;> simp at h sa sb
 ·exact key rfl (KR I.wf J.wf I.tp J.tp (by omega))
 ·have:nv bw=0:=by omega
  exact absurd (zb.1 this) sb
 ·have:nv Y=0:=by omega
  exact absurd (za.1 this) sa
 ·exact key rfl (KR I.wf J.wf I.tp J.tp (by omega))
def OH (A B:Nat):Nat:=if B=0 then 0 else 2*Nat.log2 (A*B)+2+(if A<B then 1 else 0)
theorem N3 {A B:Nat} (hB:B≠0):OH B (A%B)<OH A B:=by
 unfold OH;rw [Ra hB]
 by_cases hR:A%B=0
 ·rw [Rb hR]; omega
 ·rw [Ra hR]
  have hlt:A%B<B:=T4 _ (by omega)
  rw [Ra (by omega:¬ B<A%B)]
  by_cases I:A<B
  ·rw [Rb I,SX I,Ww B A]; omega
  ·rw [Ra I]
   have hle:2*(B*(A%B))<=A*B:=by
    have h1:A%B+B*(A / B)=A:=Ws A B;have O:1<=A / B:=(Wq (by omega)).2 (by omega)
    have h3:B*1<=B*(A / B):=Wx _ O;have Y:B*(2*(A%B))<=B*A:=Wx _ (by omega)
    rw [Ww A B,<- Wv,Ww 2 B,Wv]; exact Y
   have J:0<B*(A%B):=Nat.mul_pos (by omega) (by omega)
   have h5:Nat.log2 (B*(A%B))<Nat.log2 (A*B):=by
    have h6:2 ^ Nat.log2 (B*(A%B))<=B*(A%B):=Nat.log2_self_le (by omega)
    have Z:2 ^ (Nat.log2 (B*(A%B))+1)<=A*B:=by rw [WH]; omega
    exact (Nat.le_log2 (by omega)).2 Z
   omega
theorem BB (n:Nat):WB ^ n=2 ^ (32*n):=by rw [WE]
theorem N2 {a b:List bT} (O:Wf a) (Y:Wf b) (Z:a.length<=900000) (hzb:b.length<=900000):OH (nv a) (nv b)<=200000000:=by
 unfold OH
 split
 ·omega
 ·rename_i h
  have h1:Nat.log2 (nv a*nv b)<=64000000:=by
   by_cases I:nv a*nv b=0
   ·rw [I]; decide
   ·have J:nv a*nv b<2 ^ (32*(a.length+b.length)):=by
     rw [<- BB,Wz];exact Nat.mul_lt_mul_of_lt_of_le (s8 O) (Nat.le_of_lt (s8 Y)) (WG (by decide))
    have:=(Nat.log2_lt I).2 J;omega
  split <;> omega
theorem sign_zero {a:LI} (h:th a):eV a=0↔nv a.words=0:=by
 unfold eV;rw [xp h.wf h.tp]
 by_cases I:a.words=[]
 ·simp [I]
 ·have:a.words.length≠0:=λh=>I (RA h)
  rw [Ra (by simp; exact I)]
  constructor
  ·intro h; split at h <;> omega
  ·intro h; exact absurd h I
theorem th.pos {w:List bT} (I:Wf w) (ht:wh w):th (aD.mk false w):=⟨I,ht,λh=>by simp at h⟩
theorem Kn {a b:LI} (ha:th a) (hb:th b) {L:Nat} (hL:L<=900000) (hza:a.words.length<=L) (hzb:b.words.length<=L):
  Gd (pI a b) (λr=>th r/\r.minus=false/\r.words.length<=L/\nv r.words=Nat.gcd (nv a.words) (nv b.words)):=by
 unfold pI;refine Gd.fX (λ(z:Bool×List bT×Bool×List bT)=>z.1=false/\z.2.2.1=false/\Wf z.2.1/\wh z.2.1/\Wf z.2.2.2/\wh z.2.2.2/\z.2.1.length<=L/\z.2.2.2.length<=L/\Nat.gcd (nv z.2.2.2) (nv z.2.1)=Nat.gcd (nv a.words) (nv b.words)) (λz=>OH (nv z.2.2.2) (nv z.2.1)) ?_ eY _ ⟨rfl,rfl,hb.wf,hb.tp,ha.wf,ha.tp,hzb,hza,rfl⟩ ?_
 ·rintro ⟨c1,l1,c2,l2⟩ nx ⟨h1,h2,J,O,h5,h6,h7,h8,Y⟩ I
  simp only at h1 h2 J O h5 h6 h7 h8 Y I ⊢;subst h1 h2;unfold vh sT;have hs:=sign_zero (th.pos J O);simp only at hs;refine Gd.ite (λh=>?_) (λh=>?_)
  ·have Z:nv l1≠0:=by
    intro e;rw [hs.2 e] at h; simp at h
   refine Gd.eN (J_ h5 J h6 O (λe=>Z (by rw [e]; rfl)) (by omega) (by omega)) (λr hr=>?_)
   obtain ⟨r1,r2,r3,r4,r5,r6⟩:=hr;refine Gd.nd (by omega) (Gd.eN (tT false r.2 r2 (by omega)) (λs hs'=>?_))
   obtain ⟨s1,s2,s3,s4⟩:=hs';have hm:s.minus=false:=by
    rcases VQ s.minus with h | h
    ·have:=s4.1 h; simp at this
    ·exact h
   refine I _ ⟨hm,rfl,s1.wf,s1.tp,J,O,by simp only; omega,h7,?_⟩ ?_
   ·simp only
    rw [s3,r6,<- Y,<- Nat.gcd_comm (nv l1) (nv l2),Nat.gcd_rec (nv l1) (nv l2),Nat.gcd_comm]
   ·simp only
    rw [s3,r6];exact N3 Z
  ·have Z:nv l1=0:=by
    apply hs.1;simpa using h
   rw [Z,Nat.gcd_zero_right] at Y;exact Gd.ret ⟨th.pos h5 h6,rfl,h8,Y⟩
 ·simp only [eY]
  have:=N2 ha.wf hb.wf (by omega) (by omega)
  omega
theorem Ny {a b:LI} (Y:th a) (Z:th b) (hm:a.minus=false) (h0:nv b.words≠0) (J:a.words.length<=900000) (O:b.words.length<=900000):
  Gd (cP a b) (λr=>th r.1/\r.1.minus=false/\r.1.words.length<=a.words.length/\nv r.1.words=nv a.words / nv b.words):=by
 unfold cP lR;refine Gd.eN (J_ Y.wf Z.wf Y.tp Z.tp (λe=>h0 (by rw [e]; rfl)) J O) (λr hr=>?_)
 obtain ⟨r1,r2,r3,r4,r5,r6⟩:=hr;refine Gd.nd (by omega) (Gd.eN (tT _ _ r1 (by omega)) (λs hs=>Gd.nd (by omega) (Gd.eN (tT _ _ r2 (by omega)) (λt ht=>?_))))
 obtain ⟨s1,s2,s3,s4⟩:=hs;obtain ⟨t1,t2,t3,t4⟩:=ht;rw [hm] at s4 t4;have I:s.minus=false:=by
  rcases VQ s.minus with h | h
  ·have:=s4.1 h; simp at this
  ·exact h
 refine Gd.ite (λh=>?_) (λh=>Gd.ret ⟨s1,I,by simp only; omega,by simp only; rw [s3,r5]⟩)
 have:=t4.1 h; simp at this
abbrev LR:=aA
structure o9 (r:LR):Prop where
 n:th r.N
 d:th r.D
 pos:r.D.minus=false
 nz:nv r.D.words≠0
 PZ:Nat.Coprime (nv r.N.words) (nv r.D.words)
def rv (r:LR):Rat:=Rat.divInt (fV r.N) (fV r.D)
theorem qy {a:LI} (h:a.minus=false):fV a=(nv a.words:Nat):=by unfold fV; rw [h]; rfl
theorem kH (a:LI):(fV a).natAbs=nv a.words:=by
 unfold fV
 split <;> omega
theorem o9.eq {r:LR} (h:o9 r):rv r=Rat.mk' (fV r.N) (nv r.D.words) h.nz (by rw [kH]; exact h.PZ):=by
 unfold rv;rw [qy h.pos];exact (Rat.num_divInt_den (Rat.mk' (fV r.N) (nv r.D.words) h.nz (by rw [kH]; exact h.PZ)))
theorem o9.num {r:LR} (h:o9 r):(rv r).num=fV r.N:=by rw [h.eq]
theorem o9.den {r:LR} (h:o9 r):(rv r).den=nv r.D.words:=by rw [h.eq]
theorem o9.ext' {r s:LR} (h:o9 r) (k:o9 s) (e:rv r=rv s):r=s:=by
 have J:fV r.N=fV s.N:=by rw [<- h.num,<- k.num,e]
 have e2:nv r.D.words=nv s.D.words:=by rw [<- h.den,<- k.den,e]
 have e3:=h.n.ext' k.n J;have I:=h.d.ext' k.d (by rw [qy h.pos,qy k.pos,e2])
 obtain ⟨a,b⟩:=r; obtain ⟨c,d⟩:=s
 simp only at e3 I; rw [e3,I]
def RL (r:LR) (L:Nat):Prop:=r.N.words.length<=L/\r.D.words.length<=L
theorem RL.mono {r:LR}{L M:Nat} (h:RL r L) (I:L<=M):RL r M:=⟨Sb h.1 I,Sb h.2 I⟩
theorem yS {g a b:Int} (J:g≠0) (I:b≠0):Rat.divInt (g*a) (g*b)=Rat.divInt a b:=by
 rw [Rat.divInt_eq_divInt_iff (Int.mul_ne_zero J I) I];rw [Int.mul_comm g a,VV]
theorem Pf {n d g:LI} (hn:th n) (hd:th d) (hg:th g) (hdm:d.minus=false) (hd0:nv d.words≠0) (Y:nv g.words=Nat.gcd (nv n.words) (nv d.words))
  (hzn:n.words.length<=900000) (hzd:d.words.length<=900000) (hzg:g.words.length<=900000):
  Gd ((cP (aD.mk false n.words) g).bind λJ=>(cP (aD.mk d.minus d.words) g).bind λZ=>if n.minus then (some (aA.mk (aD.mk (decide (0<(J.1.words.length:Int))) J.1.words) Z.1)) else (some (aA.mk (aD.mk false J.1.words) Z.1)))
   (λr=>o9 r/\r.N.words.length<=n.words.length/\r.D.words.length<=d.words.length/\rv r=Rat.divInt (fV n) (fV d)):=by
 have hg0:nv g.words≠0:=by
  rw [Y];exact Nat.ne_of_gt (Nat.gcd_pos_of_pos_right _ (by omega))
 have gN:nv g.words ∣ nv n.words:=by rw [Y]; exact Nat.gcd_dvd_left _ _
 have gD:nv g.words ∣ nv d.words:=by rw [Y]; exact Nat.gcd_dvd_right _ _
 have O:Nat.Coprime (nv n.words / nv g.words) (nv d.words / nv g.words):=by
  rw [Y]; exact Nat.coprime_div_gcd_div_gcd (Nat.gcd_pos_of_pos_right _ (by omega))
 obtain ⟨n',hn'⟩:=gN;obtain ⟨d',I⟩:=gD;have en:nv n.words / nv g.words=n':=by rw [hn',Nat.mul_div_cancel_left _ (by omega)]
 have ed:nv d.words / nv g.words=d':=by rw [I,Nat.mul_div_cancel_left _ (by omega)]
 have hd0':d'≠0:=by intro h; rw [h] at I; simp at I; exact hd0 I
 refine Gd.eN (Ny (a:=aD.mk false n.words) (th.pos hn.wf hn.tp) hg rfl hg0 hzn hzg) (λr hr=>Gd.eN (Ny (a:=aD.mk d.minus d.words) hd hg hdm hg0 hzd hzg) (λt ht=>?_));obtain ⟨r1,r2,r3,r4⟩:=hr;obtain ⟨t1,t2,t3,t4⟩:=ht;simp only at r3 r4 t3 t4;rw [en] at r4 O;rw [ed] at t4 O;have hd2:fV d=(nv g.words:Int)*(d':Int):=by rw [qy hdm,I,R2]
 have ht2:fV t.1=(d':Int):=by rw [qy t2,t4]
 refine Gd.ite (λh=>Gd.ret ?_) (λh=>Gd.ret ?_)
 ·have hN:th (aD.mk (decide (0<(r.1.words.length:Int))) r.1.words):=⟨r1.wf,r1.tp,λh e=>by simp only at h e; rw [e] at h; simp at h⟩
  refine ⟨⟨hN,t1,t2,by simp only; omega,by simp only; rw [r4,t4]; exact O⟩,r3,t3,?_⟩
  have hi:fV (aD.mk (decide (0<(r.1.words.length:Int))) r.1.words) = -(n':Int):=by
   unfold fV;simp only;rw [r4]
   by_cases hl:r.1.words=[]
   ·rw [hl] at r4 ⊢
    have:n'=0:=r4.symm;rw [this]; simp
   ·have:=Wd.2 hl
    rw [Rb (by simp; omega)]
  have uX:fV n=(nv g.words:Int)*(-(n':Int)):=by
   unfold fV; rw [Rb h,hn',R2,Int.mul_neg]
  unfold rv;simp only;rw [hi,ht2,uX,hd2,yS (by omega) (by omega)]
 ·refine ⟨⟨th.pos r1.wf r1.tp,t1,t2,by simp only; omega,by simp only; rw [r4,t4]; exact O⟩,r3,t3,?_⟩
  have hi:fV (aD.mk false r.1.words)=(n':Int):=by
   rw [qy rfl]; simp only; rw [r4]
  have uX:fV n=(nv g.words:Int)*(n':Int):=by
   rw [qy h,hn',R2]
  unfold rv;simp only;rw [hi,ht2,uX,hd2,yS (by omega) (by omega)]
theorem FB {w:List bT} (h:decide ((w.length:Int)=1)=true):∃ x,w=[x]:=by
 have:=Q_ h;exact Wa.1 (by omega)
theorem HK {x:bT} (I:0<=x.n):nv [x]=1↔x.n=1:=by rw [Cy]; omega
theorem K4 {n d:LI} (hn:th n) (hd:th d) (hdm:d.minus=false) (hd0:nv d.words≠0) (hzn:n.words.length<=900000) (hzd:d.words.length<=900000):
  Gd (nG d.minus d.words n.minus n.words) (λr=>o9 r/\r.N.words.length<=n.words.length/\r.D.words.length<=d.words.length/\rv r=Rat.divInt (fV n) (fV d)):=by
 have self:Nat.gcd (nv n.words) (nv d.words)=1->Gd (some (aA.mk (aD.mk n.minus n.words) (aD.mk d.minus d.words))) (λr=>o9 r/\r.N.words.length<=n.words.length/\r.D.words.length<=d.words.length/\rv r=Rat.divInt (fV n) (fV d)):=λhg=>
  Gd.ret ⟨⟨hn,hd,hdm,hd0,hg⟩,Rq _,Rq _,rfl⟩
 have part:Gd ((pI (aD.mk n.minus n.words) (aD.mk d.minus d.words)).bind λI=>if decide ((I.words.length:Int)=1) then (idx I.words 0 λy160=>if decide (y160.n=1) then (some (aA.mk (aD.mk n.minus n.words) (aD.mk d.minus d.words))) else ((cP (aD.mk false n.words) I).bind λO=>(cP (aD.mk d.minus d.words) I).bind λZ=>if n.minus then (some (aA.mk (aD.mk (decide (0<(O.1.words.length:Int))) O.1.words) Z.1)) else (some (aA.mk (aD.mk false O.1.words) Z.1)))) else ((cP (aD.mk false n.words) I).bind λJ=>(cP (aD.mk d.minus d.words) I).bind λY=>if n.minus then (some (aA.mk (aD.mk (decide (0<(J.1.words.length:Int))) J.1.words) Y.1)) else (some (aA.mk (aD.mk false J.1.words) Y.1))))
   (λr=>o9 r/\r.N.words.length<=n.words.length/\r.D.words.length<=d.words.length/\rv r=Rat.divInt (fV n) (fV d)):=by
  refine Gd.eN (Kn (L:=900000) hn hd (by omega) hzn hzd) (λg hg=>?_)
  obtain ⟨g1,g2,g3,g4⟩:=hg;refine Gd.ite (λh=>?_) (λh=>Pf hn hd g1 hdm hd0 g4 hzn hzd g3);obtain ⟨x,hx⟩:=FB h;have hxw:=g1.wf x (by rw [hx]; simp)
  refine Gd.ix (y:=x) (by omega) (by rw [hx]; rfl) (Gd.ite (λh2=>self ?_) (λh2=>Pf hn hd g1 hdm hd0 g4 hzn hzd g3))
  rw [<- g4,hx,HK hxw.1]; exact Q_ h2
 unfold nG;refine Gd.ite (λh=>?_) (λh=>part);obtain ⟨x,hx⟩:=FB h;have hxw:=hd.wf x (by rw [hx]; simp)
 refine Gd.ix (y:=x) (by omega) (by rw [hx]; rfl) (Gd.ite (λh2=>self ?_) (λh2=>part))
 have:=(HK hxw.1).2 (Q_ h2);rw [hx,this,Nat.gcd_one_right]
theorem yo {n d:LI} (hn:th n) (hd:th d) (J:nv d.words≠0) (hzn:n.words.length<=900000) (hzd:d.words.length<=900000):
  Gd (nC n d) (λr=>o9 r/\r.N.words.length<=n.words.length/\r.D.words.length<=d.words.length/\rv r=Rat.divInt (fV n) (fV d)):=by
 unfold nC;refine Gd.ite (λh=>?_) (λh=>K4 hn hd h J hzn hzd);refine Gd.eN (Eg hn (by omega)) (λn' O=>Gd.eN (Eg hd (by omega)) (λY I=>?_))
 have e:nv Y.words=nv d.words:=by rw [<- kH,I.2.2,Int.natAbs_neg,kH]
 have hm:Y.minus=false:=by
  have Z:=I.2.2;unfold fV at Z;rw [Rb h] at Z;rcases VQ Y.minus with h2 | h2
  ·rw [Rb h2] at Z; omega
  ·exact h2
 refine (K4 O.1 I.1 hm (by rw [e]; exact J) (by omega) (by omega)).mono (λr hr=>⟨hr.1,by omega,by omega,?_⟩)
 rw [hr.2.2.2,O.2.2,I.2.2];rw [Rat.neg_divInt_neg]
theorem NJ {r:LR} (h:o9 r):fV r.D≠0:=by rw [qy h.pos]; have:=h.nz; omega
theorem GH {a b c:LI} (h:fV c=fV a*fV b) (I:nv a.words≠0) (J:nv b.words≠0):nv c.words≠0:=by
 rw [<- kH,h,Int.natAbs_mul,kH,kH];exact Nat.mul_ne_zero I J
theorem xv {a b:LR} (J:o9 a) (O:o9 b) {A B:Nat} (la:RL a A) (lb:RL b B) (hz:A+B<=800000):
  Gd (gW a b) (λr=>o9 r/\RL r (A+B+1)/\rv r=rv a+rv b):=by
 have:=la.1; have:=la.2; have:=lb.1; have:=lb.2
 unfold gW;refine Gd.eN (wz J.n O.d (by omega)) (λx Z=>Gd.eN (wz O.n J.d (by omega)) (λy hy=>Gd.eN (D7 Z.1 hy.1 (by omega) (by omega)) (λs hs=>Gd.eN (wz J.d O.d (by omega)) (λz I=>?_))))
 refine Gd.eN (yo hs.1 I.1 (GH I.2.2 J.nz O.nz) (by omega) (by omega)) (λr Y=>Gd.ret ⟨Y.1,⟨by omega,by omega⟩,?_⟩)
 rw [Y.2.2.2,hs.2.2,Z.2.2,hy.2.2,I.2.2];unfold rv;rw [Rat.divInt_add_divInt _ _ (NJ J) (NJ O)]
theorem HS {a:LR} (I:o9 a) {A:Nat} (la:RL a A) (O:A<=800000):
  Gd (oy a) (λr=>o9 r/\RL r A/\rv r = -rv a):=by
 have:=la.1; have:=la.2
 unfold oy;refine Gd.eN (Eg I.n (by omega)) (λx J=>Gd.ret ⟨⟨J.1,I.d,I.pos,I.nz,?_⟩,⟨by simp only; omega,la.2⟩,?_⟩)
 ·have e:nv x.words=nv a.N.words:=by rw [<- kH,J.2.2,Int.natAbs_neg,kH]
  simp only; rw [e]; exact I.PZ
 ·unfold rv
  simp only;rw [J.2.2,Rat.neg_divInt]
theorem yC {a b:LR} (O:o9 a) (Y:o9 b) {A B:Nat} (la:RL a A) (lb:RL b B) (Z:A+B<=800000):
  Gd (jK a b) (λr=>o9 r/\RL r (A+B+1)/\rv r=rv a-rv b):=by
 unfold jK;refine Gd.eN (HS Y lb (by omega)) (λc I=>Gd.eN (xv O I.1 la I.2.1 Z) (λr J=>Gd.ret ⟨J.1,J.2.1,?_⟩))
 rw [J.2.2,I.2.2,Rat.sub_eq_add_neg]
theorem Ac {a b:LR} (J:o9 a) (O:o9 b) {A B:Nat} (la:RL a A) (lb:RL b B) (hz:A+B<=800000):
  Gd (lJ a b) (λr=>o9 r/\RL r (A+B)/\rv r=rv a*rv b):=by
 have:=la.1; have:=la.2; have:=lb.1; have:=lb.2
 unfold lJ;refine Gd.eN (wz J.n O.n (by omega)) (λx Z=>Gd.eN (wz J.d O.d (by omega)) (λz I=>?_))
 refine Gd.eN (yo Z.1 I.1 (GH I.2.2 J.nz O.nz) (by omega) (by omega)) (λr Y=>Gd.ret ⟨Y.1,⟨by omega,by omega⟩,?_⟩)
 rw [Y.2.2.2,Z.2.2,I.2.2];unfold rv;rw [Rat.divInt_mul_divInt]
theorem HU {r:LR} (h:o9 r):rv r=0↔nv r.N.words=0:=by
 have hn:=h.num;rw [<- kH,Int.natAbs_eq_zero,<- hn,Rat.num_eq_zero]
theorem vE {n:Int} (h:-9223372036854775808<=n/\n<=9223372036854775807):Gd (jZ n) (λr=>o9 r/\RL r 2/\rv r=(n:Rat)):=by
 unfold jZ;refine Gd.eN (CB h) (λx O=>Gd.eN (CB (n:=1) (by omega)) (λy I=>Gd.ret ?_))
 have hm:y.minus=false:=by
  have Y:=I.2.2;unfold fV at Y;rcases VQ y.minus with J | J
  ·rw [Rb J] at Y; omega
  ·exact J
 have Z:nv y.words=1:=by rw [<- kH,I.2.2]; rfl
 refine ⟨⟨O.1,I.1,hm,by simp only; omega,by simp only; rw [Z]; exact Nat.coprime_one_right _⟩,⟨O.2.1,I.2.1⟩,?_⟩
 unfold rv;simp only;rw [O.2.2,I.2.2,Rat.divInt_eq_div,Rat.intCast_one]; grind
theorem Hs {n d:Int} (h:-9223372036854775808<=n/\n<=9223372036854775807) (k:-9223372036854775808<=d/\d<=9223372036854775807) (Z:d≠0):
  Gd (rB n d) (λr=>o9 r/\RL r 2/\rv r=(n:Rat) / (d:Rat)):=by
 unfold rB;refine Gd.eN (CB h) (λx O=>Gd.eN (CB k) (λy I=>?_));have Y:nv y.words≠0:=by rw [<- kH,I.2.2]; omega
 refine Gd.eN (yo O.1 I.1 Y (by omega) (by omega)) (λr J=>Gd.ret ⟨J.1,⟨by omega,by omega⟩,?_⟩)
 rw [J.2.2.2,O.2.2,I.2.2,Rat.divInt_eq_div]
abbrev bl (s:Q1):List UInt8:=s.data.toList
def ba (l:List UInt8):Q1:=⟨l.toArray⟩
@[simp] theorem ub (l:List UInt8):bl (ba l)=l:=rfl
@[simp] theorem E3 (s:Q1):ba (bl s)=s:=by
 show (⟨s.data.toList.toArray⟩:Q1)=s;rw [Array.toArray_toList]
theorem xa {a b:Q1} (h:bl a=bl b):a=b:=by rw [<- E3 a,h,E3]
theorem xb (s:Q1):(bl s).length=s.size:=by show s.data.toList.length=s.data.size; exact Array.length_toList
theorem eA (l:List UInt8):(ba l).size=l.length:=(xb (ba l)).symm
theorem Ap (a b:Q1):bl (a++b)=bl a++bl b:=by show (a++b).data.toList=_; simp
theorem BM (a b:List UInt8):ba a++ba b=ba (a++b):=xa (Ap _ _)
theorem yb {a b:List UInt8} (h:ba a=ba b):a=b:=by have:=Rn bl h; simpa using this
theorem u_ (s:Q1) (i j:Nat):bl (s.extract i j)=((bl s).take j).drop i:=by
 show (s.extract i j).data.toList=(s.data.toList.take j).drop i;simp [ByteArray.data_extract,Array.toList_extract,Ty]
theorem sn (l:List UInt8) (i j:Nat):(ba l).extract i j=ba ((l.take j).drop i):=xa (by rw [u_,ub,ub])
theorem uk (a b:Q1):(a++b).size=a.size+b.size:=by rw [<- xb,Ap,Ro,xb,xb]
theorem qx (c:UInt8):∀ (l:List UInt8),(c ∉ l/\Lib.indexByte l c = -1)\/∃ a b,l=a++c::b/\c ∉ a/\Lib.indexByte l c=a.length
 | []=>.inl ⟨by simp,rfl⟩
 | x::l=>by
  by_cases e:x=c
  ·subst e
   exact .inr ⟨[],l,rfl,by simp,by simp [Lib.indexByte]⟩
  ·have J:(x == c)=false:=by simpa using e
   rcases qx c l with ⟨O,I⟩ | ⟨a,b,rfl,I,Y⟩
   ·refine .inl ⟨by simp [O]; exact λh=>e h.symm,?_⟩
    simp [Lib.indexByte,J,I]
   ·refine .inr ⟨x::a,b,rfl,by simp [I]; exact λh=>e h.symm,?_⟩
    simp only [Lib.indexByte,J,Y];rw [Ra (by simp),Ra (by simp)]
    simp only [Rd]; omega
theorem BQ (c:UInt8):iY (ba [c])=[⟨c.toNat⟩]:=by simp [iY,ba]
theorem B6 (s:Q1) (c:UInt8):fD s (ba [c])=some (Lib.indexByte (bl s) c):=by
 unfold fD fH
 by_cases e:ba [c]=s
 ·subst e
  rw [Rb (by simp)]
  simp [Lib.indexByte]
 ·rw [Ra (by simp [eA,e]),Rb (by simp [eA]),BQ]
  simp [idx,N5]
theorem Iq (l:List UInt8):iY (ba l)=l.map λb=>(⟨b.toNat⟩:U8):=rfl
theorem E4 (l:List UInt8):zC (l.map λb=>(⟨b.toNat⟩:U8))=ba l:=by
 refine xa ?_;show (List.map _ (List.map _ l)).toArray.toList=l;rw [List.map_map,TH]
 conv=>rhs; rw [<- List.map_id l]
 refine List.map_congr_left λb _=>?_;simp
def Dd (c:UInt8):Prop:=48<=c.toNat/\c.toNat<=57
instance (c:UInt8):Decidable (Dd c):=by unfold Dd; infer_instance
def Kc (acc:Nat):List UInt8->Nat
 | []=>acc
 | c::r=>Kc (acc*10+(c.toNat-48)) r
def dv (l:List UInt8):Nat:=Kc 0 l
theorem DY:∀ (l:List UInt8) (acc:Nat),Kc acc l=acc*10 ^ l.length+dv l
 | [],acc=>by
  rw [Wc,WI,TK]; rfl
 | c::r,acc=>by
  have I:=DY r (0*10+(c.toNat-48));unfold dv Kc;rw [DY r,I,Rd,WH];have:(acc*10+(c.toNat-48))*10 ^ r.length=acc*(10 ^ r.length*10)+(0*10+(c.toNat-48))*10 ^ r.length:=by
   rw [Ru,SI,Rv,Wv,Ww 10]
  rw [this,Tv]
theorem BY (a b:List UInt8):dv (a++b)=dv a*10 ^ b.length+dv b:=by
 have key:∀ (a:List UInt8) (acc:Nat),Kc acc (a++b)=Kc (Kc acc a) b:=by
  intro a
  induction a with
  | nil=>intro acc; rfl
  | cons c r ih=>intro acc; exact ih _
 unfold dv;rw [key,DY]; rfl
theorem Gl (c:UInt8):dv [c]=c.toNat-48:=by
 show 0*10+(c.toNat-48)=_;omega
theorem zG (c:UInt8) (r:List UInt8):dv (c::r)=(c.toNat-48)*10 ^ r.length+dv r:=by
 have:=BY [c] r;rw [Gl] at this; simpa using this
theorem Ke (n:Nat):dv (List.replicate n (48:UInt8))=0:=by
 induction n with
 | zero=>rfl
 | succ n ih=>rw [Ta,zG,ih]; simp
theorem AU:∀ {l:List UInt8},(∀ c ∈ l,Dd c)->dv l<10 ^ l.length
 | [],_=>by
  show 0<10 ^ 0
  decide
 | c::r,h=>by
  have J:=AU (l:=r) (λz I=>h z (Rc _ I));have O:=(h c (Q9 ..)).2;rw [zG,Rd,WH,Ww (10 ^ r.length) 10];have:(c.toNat-48)*10 ^ r.length<=9*10 ^ r.length:=Rl _ (by omega)
  generalize 10 ^ r.length=P at *
  omega
theorem Kd {c:UInt8}{r:List UInt8} (J:Dd c) (I:c≠48):10 ^ r.length<=dv (c::r):=by
 have:1<=c.toNat-48:=by
  have:=J.1;have O:c.toNat≠48:=λe=>I (UInt8.toNat_inj.1 (by rw [e]; rfl))
  omega
 rw [zG];have:1*10 ^ r.length<=(c.toNat-48)*10 ^ r.length:=Rl _ this;generalize 10 ^ r.length=P at *
 omega
structure FY (l:List UInt8):Prop where
 EH:∀ c ∈ l,Dd c
 ne:l≠[]
 lead:l.head? = some 48->l=[48]
theorem B5 {a b:List UInt8} (h:a≠[]):(a++b).head? = a.head? := by
 cases a with
 | nil=>exact absurd rfl h
 | cons x r=>rfl
theorem J7 {u:Nat} (h:u<10):(UInt8.ofNat (48+u)).toNat=48+u:=by rw [UInt8.toNat_ofNat']; omega
theorem lO (u:Nat):FY (Lib.decDigits u)/\dv (Lib.decDigits u)=u:=by
 induction u using Nat.strongRecOn with
 | _ u ih=>
  by_cases h:u<10
  ·rw [V0 h]
   have Y:=J7 h;refine ⟨⟨λc I=>?_,by simp,λJ=>?_⟩,by rw [Gl,Y]; omega⟩
   ·rw [Rz] at I; subst I; unfold Dd; omega
   ·simp only [V_,Rp] at J
    rw [J]
  ·obtain ⟨O,Z⟩:=ih (u / 10) (by omega)
   have e:Lib.decDigits u=Lib.decDigits (u / 10)++[UInt8.ofNat (48+u%10)]:=by rw [Lib.decDigits,dif_neg h]
   have Y:=J7 (u:=u%10) (by omega)
   rw [e];refine ⟨⟨λc I=>?_,by simp,λJ=>?_⟩,?_⟩
   ·rcases Rh.1 I with I | I
    ·exact O.EH c I
    ·rw [Rz] at I; subst I; unfold Dd; omega
   ·rw [B5 O.ne] at J
    have:=O.lead J;rw [this] at Z;have:dv [48]=0:=rfl;omega
   ·rw [BY,Z,Gl,Y]
    simp only [Sa,Nat.pow_one]; omega
theorem HG:∀ {a b:List UInt8},FY a->FY b->dv a=dv b->a=b:=by
 have zero:∀ {a:List UInt8},FY a->dv a=0->a=[48]:=by
  intro a I h0;cases a with
  | nil=>exact absurd rfl I.ne
  | cons c r=>
   by_cases hc:c=48
   ·exact I.lead (by rw [hc]; rfl)
   ·have:=Kd (r:=r) (I.EH c (Q9 ..)) hc
    have:0<10 ^ r.length:=WG (by decide)
    omega
 have Y:∀ (a b:List UInt8),a.length=b.length->(∀ c ∈ a,Dd c)->(∀ c ∈ b,Dd c)->dv a=dv b->a=b:=by
  intro a
  induction a with
  | nil=>intro b hl _ _ _; cases b with | nil=>rfl | cons _ _=>simp at hl
  | cons c r ih=>
   intro b hl I O h;cases b with
   | nil=>simp at hl
   | cons d s=>
    have Z:r.length=s.length:=by simpa using hl
    have h1:=AU (l:=r) (λz J=>I z (Rc _ J));have h2:=AU (l:=s) (λz J=>O z (Rc _ J));have hc:=I c (Q9 ..);have hd:=O d (Q9 ..);rw [zG,zG,<- Z] at h;rw [<- Z] at h2;have hP:0<10 ^ r.length:=WG (by decide)
    have e1:c.toNat-48=d.toNat-48:=by
     have q1:((c.toNat-48)*10 ^ r.length+dv r) / 10 ^ r.length=c.toNat-48:=by
      rw [TJ,Nat.add_mul_div_right _ _ hP,Wn h1,Rv]
     have q2:((d.toNat-48)*10 ^ r.length+dv s) / 10 ^ r.length=d.toNat-48:=by
      rw [TJ,Nat.add_mul_div_right _ _ hP,Wn h2,Rv]
     rw [<- q1,h,q2]
    have e2:c=d:=UInt8.toNat_inj.1 (by have:=hc.1; have:=hd.1; omega)
    rw [e1] at h;rw [e2,ih s Z (λz J=>I z (Rc _ J)) (λz J=>O z (Rc _ J)) (by omega)]
 intro a b I O h
 by_cases h0:dv a=0
 ·rw [zero I h0,zero O (by omega)]
 ·have big:∀ {l:List UInt8},FY l->dv l≠0->∃ c r,l=c::r/\10 ^ r.length<=dv l:=by
   intro l hl J;cases l with
   | nil=>exact absurd rfl hl.ne
   | cons c r=>
    refine ⟨c,r,rfl,Kd (hl.EH c (Q9 ..)) (λhc=>J ?_)⟩;rw [hl.lead (by rw [hc]; rfl)]; rfl
  obtain ⟨c,r,rfl,h1⟩:=big I h0;obtain ⟨d,s,rfl,h2⟩:=big O (by omega)
  have h3:=AU I.EH;have h4:=AU O.EH;refine Y _ _ ?_ I.EH O.EH h;rw [h] at h1 h3;have l1:r.length<(d::s).length:=(WD (by decide)).1 (T6 h1 h4)
  have l2:s.length<(c::r).length:=(WD (by decide)).1 (T6 h2 h3)
  simp only [Rd] at l1 l2 ⊢; omega
theorem xe {l:List UInt8} (h:FY l):Lib.decDigits (dv l)=l:=HG (lO _).1 h (lO _).2
theorem Dq {u k:Nat} (Y:1<=k) (h:u<10 ^ k):(Lib.decDigits u).length<=k:=by
 obtain ⟨I,J⟩:=lO u;cases hl:Lib.decDigits u with
 | nil=>simp
 | cons c r=>
  rw [hl] at I J
  by_cases O:c=48
  ·rw [I.lead (by rw [O]; rfl)]; simpa using Y
  ·have:=Kd (r:=r) (I.EH c (Q9 ..)) O
   rw [J] at this;have:r.length<k:=(WD (by decide)).1 (T6 this h)
   rw [Rd]; exact this
theorem Cg {u k:Nat} (h:(Lib.decDigits u).length<=k):u<10 ^ k:=by
 obtain ⟨I,J⟩:=lO u;have:=AU I.EH;rw [J] at this;exact TR this (WC (by decide) h)
def pad (k:Nat) (r:Nat):List UInt8:=List.replicate (k-(Lib.decDigits r).length) 48++Lib.decDigits r
theorem Mu {k r:Nat} (I:1<=k) (h:r<10 ^ k):(pad k r).length=k:=by
 have:=Dq I h;unfold pad;rw [Ro,So]; omega
theorem Ms (k r:Nat):∀ c ∈ pad k r,Dd c:=by
 intro c I;rcases Rh.1 I with I | I
 ·rw [(Wg.1 I).2]; exact ⟨by decide,by decide⟩
 ·exact (lO r).1.EH c I
theorem N0 (k r:Nat):dv (pad k r)=r:=by
 unfold pad;rw [BY,Ke,(lO r).2]; omega
theorem LW {k q r:Nat} (Z:1<=k) (hq:0<q) (hr:r<10 ^ k):Lib.decDigits (q*10 ^ k+r)=Lib.decDigits q++pad k r:=by
 obtain ⟨J,O⟩:=lO q;refine HG (lO _).1 ⟨λc I=>?_,by simp [J.ne],λY=>?_⟩ ?_
 ·rcases Rh.1 I with I | I
  ·exact J.EH c I
  ·exact Ms _ _ c I
 ·rw [B5 J.ne] at Y
  rw [J.lead Y] at O;have:dv [48]=0:=rfl;omega
 ·rw [(lO _).2,BY,O,Mu Z hr,N0]
theorem KV {M:Nat} (J:M<1844674407370955162):∀ (l:List UInt8) (acc:Nat),(∀ c ∈ l,Dd c)->Kc acc l<=M->acc<=M->Lib.parseUintM M acc l=.ok (Kc acc l)
 | [],acc,_,_,_=>rfl
 | c::r,acc,h,hl,ha=>by
  have O:=h c (Q9 ..);have I:acc*10+(c.toNat-48)<=M:=by
   have:=DY r (acc*10+(c.toNat-48));have Z:Kc acc (c::r)=Kc (acc*10+(c.toNat-48)) r:=rfl;have hP:1<=10 ^ r.length:=WG (by decide)
   have:(acc*10+(c.toNat-48))*1<=(acc*10+(c.toNat-48))*10 ^ r.length:=Wx _ hP;generalize 10 ^ r.length=P at *
   omega
  rw [Lib.parseUintM,Rb (show 48<=c.toNat/\c.toNat<=57 from O),Ra (by omega),Ra (by omega)]
  exact KV J r _ (λz Y=>h z (Rc _ Y)) hl I
theorem Mz {l:List UInt8} (h:∀ c ∈ l,Dd c) (hl:l.length<=9):My (ba l)=((dv l:Int),false):=by
 unfold My;have I:=AU h;have J:10 ^ l.length<=10 ^ 9:=WC (by decide) hl
 have e:=KV (M:=4294967295) (by decide) l 0 h (by show dv l<=_; omega) (by omega)
 show (match Lib.parseUintM 4294967295 0 l with | .ok v=>((v:Int),false) | .range=>(4294967295,true) | _=>(0,true))=_
 rw [e]; rfl
theorem Du (l:List UInt8):eJ (ba l) (⟨#[45]⟩)=some (decide (l.head? = some 45)):=by
 have I:(⟨#[45]⟩:Q1).size=1:=rfl;unfold eJ;rw [I,eA];cases l with
 | nil=>rfl
 | cons c r=>
  rw [Rb (by simp; omega)]
  unfold cK;rw [Rb (by simp only [Rd]; omega),show ((1:Nat):Int).toNat=1 from rfl,sn]
  congr 1
  have e:(ba (((c::r).take 1).drop 0)=(⟨#[45]⟩:Q1))↔((c::r).head? = some 45):=by
   rw [show (⟨#[45]⟩:Q1)=ba [45] from rfl];constructor
   ·intro h
    have:=yb h;simp at this;simp [this]
   ·intro h
    simp only [V_,Rp] at h;rw [h]; rfl
  exact WX.2 e
theorem IM (l:List UInt8):nk (ba l) (⟨#[45]⟩)=some (decide (l.head? = some 45)):=by
 unfold nk;rw [Du l]; rfl
theorem zr (l:List UInt8):kQ (ba l) (⟨#[45]⟩)=some (ba (if l.head? = some 45 then l.tail else l)):=by
 have I:(⟨#[45]⟩:Q1).size=1:=rfl;unfold kQ g_;rw [Du l];simp only [S8]
 by_cases h:l.head? = some 45
 ·rw [Rb (by simp [h]),Rb h,I,eA]
  cases l with
  | nil=>cases h
  | cons c r=>
   unfold cK;rw [Rb (by simp only [Rd]; omega),show ((1:Nat):Int).toNat=1 from rfl,sn]
   simp
 ·rw [Ra (by simp [h]),Ra h]; rfl
theorem th.plus {a:LI} (h:th a) (J:0<=fV a):a.minus=false:=by
 cases hm:a.minus with
 | false=>rfl
 | true=>
  have I:=h.sign hm;have:nv a.words≠0:=λe=>I ((xp h.wf h.tp).1 e);unfold fV at J;rw [Rb hm] at J; omega
theorem LP {n:Nat} (h:0<n) (I:n<=100000):i64.wrap ((Int.tmod (i64.wrap ((n:Int)-1)) 9)+1)=(((n-1)%9+1:Nat):Int):=by
 rw [bJ (n:=(n:Int)-1) ⟨by omega,by omega⟩]
 have:Int.tmod ((n:Int)-1) 9=(((n-1)%9:Nat):Int):=by
  rw [show (n:Int)-1=((n-1:Nat):Int) by omega]
  rw [Int.tmod_eq_emod_of_nonneg (by omega)]; rfl
 rw [this,bJ ⟨by omega,by omega⟩]; omega
theorem I4 {D n c v P:Nat} (h:D=0\/n=9) (hP:P=10 ^ n):D*10 ^ 9+c=D*P+c:=by
 rcases h with h | h
 ·rw [h,SI,SI]
 ·rw [hP,h]
theorem HR {J:List UInt8} (h:∀ c ∈ J,Dd c) (hl:J.length<=2000) (neg:Bool):
  Gd (k_ (ba (if neg=true then 45::J else J))) (λa=>th a/\a.words.length<=10000/\fV a=if neg=true then -(dv J:Int) else dv J):=by
 unfold k_;have hll:(if neg=true then 45::J else J).length<=1000000:=by
  split
  ·simp only [Rd]; omega
  ·omega
 have hhd:(if neg=true then 45::J else J).head? = some 45↔neg=true:=by
  cases neg with
  | true=>simp
  | false=>
   simp only [SO,Tn,iff_false];intro hh;cases J with
   | nil=>cases hh
   | cons c r=>
    simp only [V_,Rp] at hh;have:=(h c (Q9 ..)).1;rw [hh] at this; exact absurd this (by decide)
 have htr:(if (if neg=true then 45::J else J).head? = some 45 then (if neg=true then 45::J else J).tail else (if neg=true then 45::J else J))=J:=by
  cases neg with
  | true=>simp
  | false=>rw [Ra (by rw [hhd]; simp)]; simp
 refine Gd.bind_eq (IM _) (Gd.bind_eq (zr _) ?_);rw [htr];have hdec:decide ((if neg=true then 45::J else J).head? = some 45)=neg:=by
  cases neg with
  | true=>simp
  | false=>rw [WY (by rw [hhd]; simp)]
 rw [hdec];refine Gd.fX (λ(z:Q1×Bool×List bT)=>∃ pre I:List UInt8,J=pre++I/\z.1=ba I/\z.2.1=false/\th ⟨false,z.2.2⟩/\(nv z.2.2=dv pre)/\z.2.2.length<=5*pre.length/\(pre=[]\/I.length%9=0))
  (λz=>z.1.size) ?_ eY _ ⟨[],J,rfl,rfl,rfl,⟨Wf.nil,λy hy=>by simp at hy,λhh=>by simp at hh⟩,rfl,by simp,.inl rfl⟩ (by rw [eA]; simp only [eY]; omega)
 rintro ⟨s,c,w⟩ nx ⟨pre,I,e1,e2,e3,e4,e5,e6,e7⟩ hnx;simp only at e2 e3 e4 e5 e6 e7 hnx ⊢;subst e2 e3;have hlen:pre.length+I.length<=2000:=by rw [<- Ro,<- e1]; exact hl
 unfold uv;rw [eA];refine Gd.ite (λh0=>?_) (λh0=>?_)
 ·have h0:0<I.length:=by have:=Q_ h0; omega
  rw [LP h0 (by omega)]
  generalize hn:(I.length-1)%9+1=n;have hn9:n<=9:=by omega
  have hns:n<=I.length:=by have:=Nat.mod_le (I.length-1) 9; omega
  rw [Q5,sn,sn,Su,Ri (Rq _),eA];have Y:(I.take n).length=n:=by rw [RC]; omega
  have hdg:∀ x ∈ I.take n,Dd x:=λx hx=>h x (by rw [e1]; exact Sc _ (TU hx))
  have hpu:=Mz hdg (by rw [Y]; exact hn9)
  have hdl:dv (I.take n)<10 ^ 9:=TR (AU hdg) (WC (by decide) (by omega))
  rw [hpu,Y];refine Gd.nd ⟨by omega,by omega⟩ (Gd.nd ⟨by omega,by omega,rfl⟩ ?_)
  rw [bJ (n:=(dv (I.take n):Int)) ⟨by omega,by omega⟩]
  refine Gd.eN (CB (n:=1000000000) (by omega)) (λt ht=>Gd.eN (wz e4 ht.1 (by simp only; omega)) (λm hm=>Gd.eN (CB (n:=(dv (I.take n):Int)) (by omega)) (λu hu=>Gd.eN (D7 hm.1 hu.1 (by simp only at hm; omega) (by omega)) (λr hr=>Gd.nd ⟨by omega,by omega⟩ ?_))))
  have hiv:fV (⟨false,w⟩:LI)=(dv pre:Int):=by unfold fV; simp only [SO,Tn]; rw [e5]
  have Z:fV r=((dv (pre++I.take n):Nat):Int):=by
   rw [hr.2.2,hm.2.2,ht.2.2,hu.2.2,hiv,BY,Y];have:=I4 (D:=dv pre) (n:=n) (c:=dv (I.take n)) (v:=0) (P:=10 ^ n) (by
    rcases e7 with e7 | e7
    ·left; rw [e7]; rfl
    ·right; omega) rfl
   rw [<- this];have e9:(10 ^ 9:Nat)=1000000000:=rfl;rw [e9];generalize dv pre=A;generalize dv (I.take n)=C;omega
  have hrm:r.minus=false:=hr.1.plus (by rw [Z]; omega)
  refine hnx _ ⟨pre++I.take n,I.drop n,by rw [RG,SA]; exact e1,rfl,hrm,?_,?_,?_,?_⟩ ?_
  ·rw [<- hrm]; exact hr.1
  ·have:=Z
   unfold fV at this;rw [Ra (by rw [hrm]; simp)] at this
   simp only; omega
  ·simp only at hm ⊢
   rw [Ro,Y]; omega
  ·right; rw [SL]; omega
  ·simp only [eA,SL]; omega
 ·have h0:¬ 0<I.length:=by have:=Rf h0; omega
  have hs0:I=[]:=RA (by omega)
  subst hs0;rw [RR] at e1;subst e1;unfold sh;have e4w:Wf w:=e4.wf;have e4t:wh w:=e4.top;refine Gd.ite (λO=>Gd.ret ⟨⟨e4.wf,e4.top,λhm hw=>?_⟩,by simp only; omega,?_⟩) (λO=>Gd.ret ⟨e4,by simp only; omega,?_⟩)
  ·have hw:w=[]:=hw
   subst hw;simp at hm
  ·rw [Rb O]
   unfold fV;simp only [RS]
   split
   ·rw [e5]
   ·rename_i hh
    have:w=[]:=RA (by omega)
    rw [this] at e5 ⊢;rw [<- e5]; rfl
  ·rw [Ra (by rw [O]; simp)]
   unfold fV;simp only [SO,Tn];rw [e5]
def pv:List bT->Nat
 | []=>0
 | y::l=>y.n.toNat+1000000000*pv l
theorem HO:∀ (a:List bT) (y:bT),pv (a++[y])=pv a+1000000000 ^ a.length*y.n.toNat
 | [],y=>by
  show y.n.toNat+1000000000*0=0+1000000000 ^ 0*y.n.toNat;rw [WI]; omega
 | x::a,y=>by
  rw [S5,pv,HO a y,pv,Rd,WH];rw [Wt,<- Wv,Ww (1000000000 ^ a.length) 1000000000,Tv]
theorem MB {l:List bT}{k:Nat}{y:bT} (h:l[k]? = some y):pv (l.drop k)=pv (l.drop (k+1))*1000000000+y.n.toNat:=by
 rw [rr h,pv]; omega
theorem JR:(⟨#[48,48,48,48,48,48,48,48,48]⟩:Q1)=ba (List.replicate 9 48):=rfl
theorem tz (n:Nat):gV (n:Int)=ba (Lib.decDigits n):=by unfold gV; rw [Lib.itoa_nonneg]; rfl
theorem IT {n:Nat} (h:0<n):gV (-(n:Int))=ba (45::Lib.decDigits n):=by
 unfold gV Lib.itoa;rw [Rb (by omega),show (-(n:Int)).natAbs=n by omega]; rfl
def Jm (D:List UInt8):List U8:=D.map λb=>⟨b.toNat⟩
theorem yx (D:List UInt8):iY (ba D)=Jm D:=Iq D
theorem Ls (a b:List UInt8):Jm a++Jm b=Jm (a++b):=by unfold Jm; rw [Ss]
theorem DS (D:List UInt8):zC (Jm D)=ba D:=E4 D
theorem EF (D:List UInt8):(Jm D).length=D.length:=S2 _
theorem Oj (N:Nat) {Q:List bT} (I:∀ z ∈ Q,0<=z.n/\z.n<1000000000) (hl:Q.length<=N):pv Q<10 ^ (9*N):=by
 have key:∀ (Q:List bT),(∀ z ∈ Q,0<=z.n/\z.n<1000000000)->pv Q<1000000000 ^ Q.length:=by
  intro Q
  induction Q with
  | nil=>intro _; show 0<1000000000 ^ 0; decide
  | cons z Q ih=>
   intro I;have Y:=ih (λx O=>I x (Rc _ O));have J:=I z (Q9 ..);rw [pv,Rd,WH,Ww];generalize 1000000000 ^ Q.length=X at *
   omega
 have J:(1000000000:Nat) ^ Q.length<=1000000000 ^ N:=WC (by decide) hl
 rw [WE];exact TR (key Q I) J
theorem M8 (n a b:Nat) (J:a<=3*n) (O:10*n<=32*b):10 ^ a<=WB ^ b:=by
 have I:(10:Nat) ^ a<=10 ^ (3*n):=WC (by decide) J
 have e2:((10:Nat) ^ 3) ^ n<=(2 ^ 10) ^ n:=WA (by decide) n
 have e3:(2:Nat) ^ (10*n)<=2 ^ (32*b):=WC (by decide) O
 rw [<- WE,<- WE] at e2;rw [BB b];exact Sb I (Sb e2 e3)
theorem HC (n a b:Nat) (O:a<=3*n) (Y:10*n<=32*b) {w:List bT} (hw:Wf w) (ht:wh w) (hl:b<w.length):¬ nv w<10 ^ a:=by
 have J:w≠[]:=λe=>by rw [e] at hl; simp at hl
 have I:=FA hw ht J;have Z:WB ^ b<=WB ^ (w.length-1):=WC (by decide) (by omega)
 exact Nat.not_lt.2 (Sb (M8 n a b O Y) (Sb Z I))
theorem K9 (N K:Nat) {w:List bT} (Z:Wf w) (hl:w.length<=N) (Y:32*N<=K):nv w<2 ^ K:=by
 have J:=s8 Z;have I:WB ^ w.length<=WB ^ N:=WC (by decide) hl
 rw [BB N] at I;have O:(2:Nat) ^ (32*N)<=2 ^ K:=WC (by decide) Y
 exact TR J (Sb I O)
theorem Fx {m:Nat} (h:m<=9):(⟨#[48,48,48,48,48,48,48,48,48]⟩:Q1).extract m ((⟨#[48,48,48,48,48,48,48,48,48]⟩:Q1).size)=ba (List.replicate (9-m) 48):=by
 rw [JR,eA,sn,Ri (Rq _),List.drop_replicate]
theorem L8 {a:LI}{P:List bT}{V:Nat} (hP:∀ y ∈ P,0<=y.n/\y.n<1000000000) (hV:pv P=V) (hne:P≠[]) (htop:∀ y,P.getLast? = some y->y.n≠0) (hl:P.length<=1000) (ha:a.minus=true->V≠0):
  Gd (fX (λZ n=>pn a P Z.1 Z.2 n) eY (i64.wrap ((P.length:Int)-1),([]:List U8)))
   (λr=>r.2=decide ((Lib.decDigits V).length<=2000)/\r.1=gV (if a.minus=true then -(V:Int) else V)/\r.1.size<=10000):=by
 have hpos:0<P.length:=Wd.2 hne;have wl:i64.wrap ((P.length:Int)-1)=(P.length:Int)-1:=bJ ⟨by omega,by omega⟩
 rw [wl];refine Gd.fX (λ(z:Int×List U8)=>-1<=z.1/\z.1<P.length/\(z.1=(P.length:Int)-1/\z.2=[]\/z.1<(P.length:Int)-1/\0<pv (P.drop (z.1+1).toNat)/\z.2=Jm (Lib.decDigits (pv (P.drop (z.1+1).toNat)))/\z.2.length<=9*1000))
  (λz=>(z.1+1).toNat) ?_ eY _ ⟨by simp only; omega,by simp only; omega,.inl ⟨rfl,rfl⟩⟩ (by simp only [eY]; omega)
 rintro ⟨n,l⟩ nx ⟨h1,h2,I⟩ hnx;simp only at h1 h2 I hnx ⊢;unfold pn;refine Gd.ite (λhn=>?_) (λhn=>?_)
 ·have hn:0<=n:=Q_ hn
  obtain ⟨k,rfl⟩:∃ k:Nat,n=k:=⟨n.toNat,by omega⟩
  obtain ⟨y,hy⟩:∃ y,P[k]? = some y:=⟨_,Q4 (by omega)⟩
  have hyw:=hP y (Rg hy);obtain ⟨u,hu⟩:∃ u:Nat,y.n=u:=⟨y.n.toNat,by omega⟩
  have hu9:u<10 ^ 9:=by
   have:(10:Nat) ^ 9=1000000000:=rfl;omega
  have hkn:((k:Int)+1).toNat=k+1:=by omega
  have O:((k:Int)-1+1).toNat=k:=by omega
  refine Gd.ix (by omega) (by rw [Q5]; exact hy) ?_
  rw [hu,gH (n:=(u:Int)) (by omega),tz]
  refine Gd.nd ⟨by omega,by omega⟩ ?_
  rw [wl];have hlen:(Lib.decDigits u).length<=9:=Dq (by decide) hu9
  have Y:=MB hy;have hun:y.n.toNat=u:=by omega
  rw [hun] at Y;have hwk:i64.wrap ((k:Int)-1)=(k:Int)-1:=bJ ⟨by omega,by omega⟩
  refine Gd.ite (λJ=>?_) (λJ=>?_)
  ·have J:(k:Int)<(P.length:Int)-1:=Q_ J
   rcases I with ⟨I,_⟩ | ⟨_,I,h4,h5⟩
   ·omega
   rw [hkn] at I h4;rw [eA,Q5,Fx hlen,yx];have hsz:(ba (List.replicate (9-(Lib.decDigits u).length) (48:UInt8))).size=9-(Lib.decDigits u).length:=by rw [eA,So]
   rw [hsz];refine Gd.nd ⟨by omega,by show ((Lib.decDigits u).length:Int)<=((9:Nat):Int); omega⟩ (Gd.nd (by omega) ?_)
   unfold lz;rw [hu,gH (n:=(u:Int)) (by omega),tz,hwk,yx,eA]
   rw [Ro,EF,So];refine Gd.nd (by omega) ?_
   have hfin:l++Jm (List.replicate (9-(Lib.decDigits u).length) (48:UInt8))++Jm (Lib.decDigits u)=Jm (Lib.decDigits (pv (P.drop k))):=by
    have hdp:=LW (k:=9) (by decide) I hu9
    rw [show (10:Nat) ^ 9=1000000000 from rfl,<- Y] at hdp;rw [h4,RG,Ls,Ls,hdp]
    rfl
   rw [hfin];have hdl:=Cg (u:=pv (P.drop k)) (k:=(Lib.decDigits (pv (P.drop k))).length) (Rq _);refine hnx _ ⟨by simp only; omega,by simp only; omega,.inr ⟨by simp only; omega,by simp only; rw [O,Y]; omega,by simp only; rw [O],?_⟩⟩ (by simp only; omega)
   simp only;rw [EF];have hb:=Oj 1000 (λz hz=>hP z (List.mem_of_mem_drop hz)) (show (P.drop k).length<=1000 by rw [SL]; omega)
   exact Dq (k:=9*1000) (by decide) hb
  ·have J:¬ (k:Int)<(P.length:Int)-1:=Rf J
   rcases I with ⟨I,h4⟩ | ⟨I,_⟩
   ·unfold lz
    rw [hu,gH (n:=(u:Int)) (by omega),tz,hwk,yx,eA,h4]
    refine Gd.nd (by simp only [Wc]; omega) ?_
    have hlast:P.drop (k+1)=[]:=V4 (by omega)
    rw [hlast] at Y;have Y:pv (P.drop k)=u:=by rw [Y]; show 0*1000000000+u=u; omega
    have hu0:u≠0:=by
     have:=htop y (by rw [V9,show P.length-1=k by omega]; exact hy)
     omega
    rw [SJ];refine hnx _ ⟨by simp only; omega,by simp only; omega,.inr ⟨by simp only; omega,by simp only; rw [O,Y]; omega,by simp only; rw [O,Y],?_⟩⟩ (by simp only; omega)
    simp only;rw [EF]; omega
   ·omega
 ·have hn:¬ 0<=n:=Rf hn
  rcases I with ⟨I,_⟩ | ⟨_,I,h4,h5⟩
  ·omega
  have hz:(n+1).toNat=0:=by omega
  rw [hz,Su,hV] at I h4;subst h4;rw [EF] at h5 ⊢;have hne':(Lib.decDigits V)≠[]:=(lO V).1.ne;have hp:0<(Lib.decDigits V).length:=Wd.2 hne';have hsz:((ba (Lib.decDigits V)).size:Int)=((Lib.decDigits V).length:Int):=by rw [eA]
  have hdd:decide (((ba (Lib.decDigits V)).size:Int)<=2000)=decide ((Lib.decDigits V).length<=2000):=by
   rw [hsz]; exact WX.2 (by omega)
  refine Gd.nd hp (Gd.ite (λhm=>Gd.nd ?_ ?_) (λhm=>?_))
  ·rw [DS,eA,show (⟨#[45]⟩:Q1).size=1 from rfl]
   unfold maxLen; omega
  ·unfold lA
   rw [DS];have hx:(⟨#[45]⟩:Q1)++ba (Lib.decDigits V)=ba (45::Lib.decDigits V):=by
    rw [show (⟨#[45]⟩:Q1)=ba [45] from rfl,BM]; rfl
   refine Gd.ret ⟨hdd,?_,?_⟩
   ·rw [Rb hm,IT (by have:=ha hm; omega)]; exact hx
   ·simp only
    rw [hx,eA,Rd]; omega
  ·unfold lA
   rw [DS];refine Gd.ret ⟨hdd,?_,?_⟩
   ·rw [Ra (by rw [hm]; simp),tz]
   ·simp only
    rw [eA]; omega
theorem GO (K N:Nat) {p n W:Nat} (h:1000000000 ^ p*n<=W) (hn:1<=n) (hW:W<2 ^ K) (hK:K<=29*N):p<N:=by
 rcases S3 p N with I | I
 ·exact I
 ·exfalso
  have J:((2:Nat) ^ 29) ^ N<=(1000000000:Nat) ^ N:=WA (by decide) N
  have Y:(1000000000:Nat) ^ N<=1000000000 ^ p:=WC (by decide) I
  have O:(1000000000:Nat) ^ p*1<=1000000000 ^ p*n:=Wx _ hn;have Z:(2:Nat) ^ K<=2 ^ (29*N):=WC (by decide) hK
  rw [<- WE] at J;rw [TK] at O;exact absurd hW (Nat.not_lt.2 (Sb Z (Sb J (Sb Y (Sb O h)))))
theorem I1 {V A B n:Nat} (h:V=A+B*n):V=(A+B*(n%1000000000))+B*1000000000*(n / 1000000000):=by
 rw [Wv,Tv,<- Wt,Ws]; exact h
theorem B8 {a:LI} (h:th a):Gd (kL a) (λr=>r.2=decide ((Lib.decDigits (nv a.words)).length<=2000)/\(r.2=true->r.1=gV (fV a))/\r.1.size<=10000):=by
 unfold kL;refine Gd.ite (λJ=>?_) (λJ=>?_)
 ·have J:a.words=[]:=RA (by have:=Q_ J; omega)
  have hm:a.minus=false:=by
   cases hm:a.minus with
   | false=>rfl
   | true=>exact absurd J (h.sign hm)
  refine Gd.ret ⟨?_,λ_=>?_,by decide⟩
  ·rw [J]
   have hx:(Lib.decDigits (nv [])).length<=2000:=by
    show (Lib.decDigits 0).length<=2000;rw [V0 (by omega)]; simp
   rw [W0 hx]
  ·unfold fV
   rw [Ra (by rw [hm]; simp),J]
   show (⟨#[48]⟩:Q1)=gV ((0:Nat):Int);rw [tz,V0 (by omega)]; rfl
 ·have J:a.words.length≠0:=by have:=Rf J; omega
  have hne:a.words≠[]:=λe=>J (by rw [e]; rfl)
  refine Gd.ite (λY=>?_) (λY=>?_)
  ·have Y:210<a.words.length:=by have:=Q_ Y; omega
   refine Gd.ret ⟨?_,λhh=>absurd hh (by simp),by decide⟩
   symm
   refine WY λhle=>?_;exact HC 667 2000 210 (by decide) (by decide) h.wf h.tp Y (Cg (k:=2000) hle)
  ·have Y:a.words.length<=210:=by have:=Rf Y; omega
   have hW:=K9 210 6720 h.wf Y (by decide)
   have hnz:nv a.words≠0:=λe=>hne ((xp h.wf h.tp).1 e);refine Gd.fX (λ(z:List bT×List bT)=>(∀ y ∈ z.1,0<=y.n/\y.n<1000000000)/\Wf z.2/\wh z.2/\z.2.length<=210/\nv a.words=pv z.1+1000000000 ^ z.1.length*nv z.2/\z.1.length<=300/\(nv z.2=0->z.1≠[]/\∀ y,z.1.getLast? = some y->y.n≠0))
    (λz=>301-z.1.length) ?_ eY _ ⟨by simp,h.wf,h.tp,Y,?_,by simp,λe=>absurd e hnz⟩ (by simp only [eY,Wc]; omega)
   ·rintro ⟨P,w⟩ nx ⟨i1,i2,i3,i4,i5,i6,i7⟩ hnx
    simp only at i1 i2 i3 i4 i5 i6 i7 hnx ⊢;unfold rL;refine Gd.ite (λZ=>?_) (λZ=>?_)
    ·have Z:0<w.length:=by have:=Q_ Z; omega
     have hwn:w≠[]:=λe=>by rw [e] at Z; simp at Z
     have hwz:nv w≠0:=λe=>hwn ((xp i2 i3).1 e);have hpl:=GO 6720 300 (p:=P.length) (n:=nv w) (W:=nv a.words) (by rw [i5]; exact Nat.le_add_left _ _) (by omega) hW (by decide)
     refine Gd.eN (FL i2 (by omega) (d:=1000000000) (by omega)) (λr O=>?_)
     have hdn:(1000000000:Int).toNat=1000000000:=rfl;rw [hdn] at O;refine Gd.nd (by simp only [Sa]; omega) (Gd.eN (tT false r.1 O.1 (by omega)) (λq hq=>?_))
     have hrn:0<=r.2/\r.2<1000000000/\r.2.toNat=nv w%1000000000:=by
      have:=T4 (nv w) (show 1000000000 > 0 by omega)
      rw [O.2.2.2]; omega
     refine hnx _ ⟨?_,hq.1.wf,hq.1.tp,by simp only; omega,?_,by simp only [Ro,Sa]; omega,λhz=>⟨by simp,λy I=>?_⟩⟩ (by simp only [Ro,Sa]; omega)
     ·intro y I
      rcases Rh.1 I with I | I
      ·exact i1 y I
      ·rw [Rz] at I; subst I; simp only; omega
     ·simp only
      rw [HO,Ro,Sa,WH,hq.2.2.1,O.2.2.1];simp only;rw [hrn.2.2];exact I1 i5
     ·simp only at hz I
      rw [List.getLast?_append,List.getLast?_singleton] at I;simp only [Option.some_or,Rp] at I;subst I;simp only;rw [hq.2.2.1,O.2.2.1] at hz;have:nv w / 1000000000=0:=hz;omega
    ·have Z:w=[]:=RA (by have:=Rf Z; omega)
     subst Z;obtain ⟨j1,j2⟩:=i7 rfl;have hVV:pv P=nv a.words:=by
      rw [i5];show pv P=pv P+1000000000 ^ P.length*0;rw [Wy]; rfl
     refine (L8 (a:=a) i1 hVV j1 j2 (by omega) (λ_=>hnz)).mono (λr O=>⟨O.1,λ_=>?_,O.2.2⟩)
     rw [O.2.1]; rfl
   ·show nv a.words=0+1000000000 ^ 0*nv a.words
    rw [WI]; omega
def DT (q:Rat):List UInt8:=Lib.itoa q.num++(if q.den=1 then [] else 47::Lib.decDigits q.den)
def ctext (q:Rat):Q1:=ba (DT q)
def fits (q:Rat):Prop:=(Lib.decDigits q.num.natAbs).length<=2000/\(Lib.decDigits q.den).length<=2000
instance (q:Rat):Decidable (fits q):=by unfold fits; infer_instance
theorem Cw {l:List UInt8} (h:∀ c ∈ l,Dd c):(47:UInt8) ∉ l:=λhm=>absurd (h 47 hm) (by unfold Dd; decide)
theorem uP (n:Int):Lib.itoa n=if n<0 then 45::Lib.decDigits n.natAbs else Lib.decDigits n.natAbs:=by
 unfold Lib.itoa
 split
 ·rfl
 ·rw [show n.toNat=n.natAbs by omega]
theorem Kr (u:Nat):(Lib.decDigits u).head? ≠ some 45:=by
 obtain ⟨h,_⟩:=lO u;cases hl:Lib.decDigits u with
 | nil=>simp
 | cons c r=>
  rw [hl] at h;have:=h.EH c (Q9 ..);simp only [V_,ne_eq,Rp];rintro rfl;exact absurd this (by unfold Dd; decide)
theorem Hm (q:Rat):(DT q).head? = some 45↔q.num<0:=by
 unfold DT;rw [uP]
 by_cases h:q.num<0
 ·rw [Rb h]; simp [h]
 ·rw [Ra h,B5 (lO _).1.ne]
  simp only [h,iff_false];exact Kr _
theorem LQ (q:Rat):(if (DT q).head? = some 45 then (DT q).tail else DT q)=Lib.decDigits q.num.natAbs++(if q.den=1 then [] else 47::Lib.decDigits q.den):=by
 by_cases h:q.num<0
 ·rw [Rb ((Hm q).2 h)]
  unfold DT;rw [uP,Rb h]; rfl
 ·rw [Ra (λe=>h ((Hm q).1 e))]
  unfold DT;rw [uP,Ra h]
theorem Gx {c:UInt8}{l:List UInt8} (h:c ∉ l):Lib.indexByte l c = -1:=by
 rcases qx c l with ⟨_,I⟩ | ⟨a,b,rfl,_⟩
 ·exact I
 ·exact absurd (by simp) h
theorem Fj {c:UInt8}{b:List UInt8}:∀ {a:List UInt8},c ∉ a->Lib.indexByte (a++c::b) c=a.length
 | [],_=>by simp [Lib.indexByte]
 | x::a,h=>by
  have I:(x == c)=false:=by simp only [RU,not_or] at h; simpa using λe=>h.1 e.symm
  have ih:=Fj (b:=b) (a:=a) (λhm=>h (Rc _ hm));rw [S5];simp only [Lib.indexByte,I,ih];rw [Ra (by simp),Ra (by simp)]
  simp only [Rd]; omega
theorem BS {l:List UInt8} (h:(47:UInt8) ∉ l):nE (ba l) (⟨#[47]⟩)=some (ba l,⟨#[]⟩,false):=by
 unfold nE jD;rw [show (⟨#[47]⟩:Q1)=ba [47] from rfl,B6,ub,Gx h]
 rfl
theorem BU {a b:List UInt8} (h:(47:UInt8) ∉ a) (hs:a.length+1+b.length<=maxLen):nE (ba (a++47::b)) (⟨#[47]⟩)=some (ba a,ba b,true):=by
 have I:(ba (a++47::b)).size=a.length+1+b.length:=by rw [eA]; simp; omega
 unfold maxLen at hs;unfold nE jD;rw [show (⟨#[47]⟩:Q1)=ba [47] from rfl,B6,ub,Fj h];simp only [S8];rw [Rb (by simp),I,show (ba [47]).size=1 from rfl,bJ ⟨by omega,by omega⟩]
 unfold cK;rw [Rb ⟨by omega,by omega⟩,Rb ⟨by omega,by omega⟩,Q5,show ((a.length:Int)+((1:Nat):Int)).toNat=a.length+1 by omega,sn,sn]
 simp only [S8,Su];rw [Ui,Ri (by simp; omega),show a++47::b=(a++[47])++b by simp,List.drop_left' (by simp)]
theorem tN (l:List UInt8) (hs:l.length<=maxLen):Gd (pJ (ba l)) (λc=>c=0↔FY l/\l.length<=2000):=by
 unfold pJ;refine Gd.nd (by rw [eA]; exact hs) ?_
 rw [yx];refine Gd.seen (λpre _=>∀ y ∈ pre,48<=y.n/\y.n<=57) ?_ ?_ () (λy hy=>by cases hy)
 ·rintro i y _ nx pre ⟨post,hl⟩ hI hnx
  have hy:y ∈ Jm l:=by rw [hl]; simp
  obtain ⟨c,hc,rfl⟩:=RY.1 hy;unfold vr;refine Gd.ite (λhb=>Gd.ret ?_) (λhb=>hnx () (λz hz=>?_))
  ·simp only [SP,RS] at hb
   constructor
   ·intro h; simp at h
   ·rintro ⟨h,_⟩
    have:=h.EH c hc;unfold Dd at this; omega
  ·simp only [VS,WZ] at hb
   rcases Rh.1 hz with hz | hz
   ·exact hI z hz
   ·rw [Rz] at hz; subst hz; simp only; omega
 ·intro _ hI
  have hd:∀ c ∈ l,Dd c:=λc hc=>by
   have:=hI ⟨c.toNat⟩ (RY.2 ⟨c,hc,rfl⟩);unfold Dd; simp only at this; omega
  refine Gd.ite (λh=>Gd.ret ?_) (λh=>?_)
  ·have h:l=[]:=yb ((Q_ h).trans rfl)
   constructor
   ·intro h; simp at h
   ·rintro ⟨hn,_⟩; exact absurd h hn.ne
  ·have Z:l≠[]:=λe=>absurd (Rf h) (by rw [e]; simp [ba])
   have O:(l.head? = some 48->l=[48])->Gd (if decide (2000<((ba l).size:Int))=true then some (2:Int) else some 0) (λc=>c=0↔FY l/\l.length<=2000):=λY=>by
    rw [eA];refine Gd.ite (λI=>Gd.ret ?_) (λI=>Gd.ret ?_)
    ·have:=Q_ I
     constructor
     ·intro h; simp at h
     ·rintro ⟨_,h⟩; omega
    ·have:=Rf I
     exact ⟨λ_=>⟨⟨hd,Z,Y⟩,by omega⟩,λ_=>rfl⟩
   refine Gd.ite (λJ=>?_) (λJ=>O (λhh=>?_))
   ·rw [eA] at J
    have J:=Q_ J;cases l with
    | nil=>exact absurd rfl Z
    | cons c r=>
     refine Gd.ix (y:=⟨c.toNat⟩) (by omega) rfl (Gd.ite (λI=>Gd.ret ?_) (λI=>O (λhh=>?_)))
     ·have I:=Q_ I
      simp only at I;constructor
      ·intro h; simp at h
      ·rintro ⟨hn,_⟩
       have hc:c=48:=UInt8.toNat_inj.1 (by show c.toNat=48; omega)
       have:=hn.lead (by rw [hc]; rfl)
       rw [this] at J; simp at J
     ·have I:=Rf I
      simp only [V_,Rp] at hh;subst hh;exact absurd rfl I
   ·rw [eA] at J
    have J:=Rf J;cases l with
    | nil=>exact absurd rfl Z
    | cons c r=>
     have:r=[]:=RA (by simp only [Rd] at J; omega)
     subst this;simp only [V_,Rp] at hh;rw [hh]
theorem CH {n:List UInt8} (hn:FY n) (l1:n.length<=2000):Gd (k_ (ba n)) (λa=>th a/\a.words.length<=10000/\fV a=dv n):=by
 have:=HR hn.EH l1 false;simpa using this
theorem Mq {n d:List UInt8} (hn:FY n) (O:FY d) (l1:n.length<=2000) (l2:d.length<=2000):
  Gd (wP (ba n) (ba d)) (λr=>r.2.2=0/\(th r.1/\r.1.words.length<=10000/\fV r.1=dv n)/\(th r.2.1/\r.2.1.words.length<=10000/\fV r.2.1=dv d)):=by
 unfold wP;have OW:∀ {l:List UInt8},FY l->l.length<=2000->Gd (pJ (ba l)) (λc=>c=0):=λh hl=>(tN _ (by unfold maxLen; omega)).mono (λc I=>I.2 ⟨h,hl⟩)
 refine Gd.jW (λm i _=>m+i=2) (λm i _ nx hI J=>?_) (λi _ _=>?_) _ 0 () rfl
 ·unfold xj
  have hi:i=0\/i=1:=by omega
  have hy:∃ l:List UInt8,([ba n,ba d]:List Q1)[i]? = some (ba l)/\FY l/\l.length<=2000:=by
   rcases hi with rfl | rfl
   ·exact ⟨n,rfl,hn,l1⟩
   ·exact ⟨d,rfl,O,l2⟩
  obtain ⟨l,hl,Y,Z⟩:=hy;refine Gd.ix (by omega) (by rw [Q5]; exact hl) (Gd.eN (OW Y Z) (λc I=>?_))
  subst I;exact J () (by omega)
 ·exact Gd.eN (CH hn l1) (λa ha=>Gd.eN (CH O l2) (λb hb=>Gd.ret ⟨rfl,ha,hb⟩))
theorem vL:Lib.decDigits 1=[49]:=V0 (by omega)
theorem zE:Lib.decDigits 0=[48]:=V0 (by omega)
theorem zD {a b:Nat} (h:Lib.decDigits a=Lib.decDigits b):a=b:=by
 have I:=(lO a).2;rw [h,(lO b).2] at I; exact I.symm
theorem HF {n d:List UInt8} (hn:FY n) (hd:FY d) (l1:n.length<=2000) (l2:d.length<=2000):
  Gd (wO (ba n) (ba d)) (λr=>r.1=(⟨#[49]⟩:Q1)↔Nat.gcd (dv n) (dv d)=1):=by
 unfold wO;refine Gd.eN (Mq hn hd l1 l2) (λr hr=>?_);obtain ⟨h0,Y,Z⟩:=hr;rw [h0];refine Gd.eN (Kn Y.1 Z.1 (L:=10000) (by omega) Y.2.1 Z.2.1) (λg O=>?_)
 have e1:nv r.1.words=dv n:=by rw [<- kH,Y.2.2]; rfl
 have e2:nv r.2.1.words=dv d:=by rw [<- kH,Z.2.2]; rfl
 rw [e1,e2] at O;unfold xi;have hb:Gd ((kL g).bind λI=>if (!I.2)=true then some ((⟨#[]⟩:Q1),(2:Int)) else some (I.1,0)) (λt=>t.1=(⟨#[49]⟩:Q1)↔Nat.gcd (dv n) (dv d)=1):=by
  refine Gd.eN (B8 O.1) (λt ht=>Gd.ite (λJ=>Gd.ret ?_) (λJ=>Gd.ret ?_))
  ·have J:t.2=false:=by simpa using J
   rw [J,O.2.2.2] at ht;constructor
   ·intro h; exact absurd h (by decide)
   ·intro h
    have:=ht.1;rw [h,vL] at this; simp at this
  ·have J:t.2=true:=by simpa using J
   have e3:=ht.2.1 J;simp only;rw [e3,qy O.2.1,tz,O.2.2.2,show (⟨#[49]⟩:Q1)=ba [49] from rfl];constructor
   ·intro h
    exact zD ((yb h).trans vL.symm)
   ·intro h; rw [h,vL]
 exact Gd.eN hb (λt ht=>Gd.ret ht)
theorem GR {q:Rat} (h:fits q):pK (ctext q)=some 0:=by
 refine Gd.eq.1 ?_;have Y:=(lO q.num.natAbs).1;have hE:=(lO q.den).1;unfold pK ctext;refine Gd.bind_eq (zr _) ?_;rw [LQ];have hz:q.num<0->Lib.decDigits q.num.natAbs≠[48]:=λhn e=>by
  rw [<- zE] at e;have:=zD e; omega
 by_cases hd:q.den=1
 ·rw [Rb hd,RR]
  refine Gd.bind_eq (BS (Cw Y.EH)) ?_;refine Gd.eN (tN _ (by have:=h.1; unfold maxLen; omega)) (λc Z=>?_)
  have J:=Z.2 ⟨Y,h.1⟩;subst J;refine Gd.ite (λI=>by simp at I) (λ_=>?_)
  unfold mr;refine Gd.ite (λI=>?_) (λ_=>Gd.ret rfl);exfalso;simp only [show decide ((0:Int)=5)=false from rfl,Bool.or_self,Bool.false_or,SK,RS] at I;have h1:Lib.decDigits q.num.natAbs=[48]:=yb (I.1.trans rfl);have O:=I.2;rw [eA,eA] at O;unfold DT at O;rw [Rb hd,RR,uP] at O
  split at O
  ·rename_i hn; exact hz hn h1
  ·omega
 ·rw [Ra hd]
  refine Gd.bind_eq (BU (Cw Y.EH) (by have:=h.1; have:=h.2; unfold maxLen; omega)) ?_
  refine Gd.eN (tN _ (by have:=h.1; unfold maxLen; omega)) (λc Z=>?_)
  have J:=Z.2 ⟨Y,h.1⟩;subst J;refine Gd.ite (λ_=>?_) (λI=>by simp at I)
  refine Gd.eN (tN _ (by have:=h.2; unfold maxLen; omega)) (λc Z=>?_)
  have J:=Z.2 ⟨hE,h.2⟩;subst J;unfold mr;refine Gd.ite (λI=>?_) (λ_=>Gd.ite (λI=>by simp at I) (λ_=>Gd.ite (λ_=>?_) (λI=>by simp at I)))
  ·exfalso
   simp only [show decide ((0:Int)=5)=false from rfl,Bool.or_self,Bool.false_or,SK,RS] at I;have h1:Lib.decDigits q.num.natAbs=[48]:=yb (I.1.trans rfl);have O:=I.2;rw [eA,eA] at O;unfold DT at O;rw [Ra hd,uP] at O
   split at O
   ·rename_i hn; exact hz hn h1
   ·omega
  ·refine Gd.eN (HF Y hE h.1 h.2) (λr hr=>?_)
   rw [(lO q.num.natAbs).2,(lO q.den).2] at hr;have hr1:=hr.2 q.reduced;refine Gd.ite (λI=>?_) (λ_=>Gd.ret rfl);exfalso;simp only [hr1,decide_true,Bool.not_true,Bool.or_false,SP,RS] at I;rcases I with I | I
   ·have:=zD ((yb (I.trans rfl):Lib.decDigits q.den=[48]).trans zE.symm)
    exact q.den_nz this
   ·have:=zD ((yb (I.trans rfl):Lib.decDigits q.den=[49]).trans vL.symm)
    exact hd this
theorem Nx {neg:Bool}{n:List UInt8}{m:Int} (hn:FY n) (I:¬ (n=[48]/\neg=true)) (hm:m=if neg=true then -(dv n:Int) else dv n):
  Lib.itoa m=(if neg=true then 45::n else n)/\m.natAbs=dv n:=by
 have O:dv n=0->n=[48]:=λh=>by
  have e:=xe hn;rw [h,zE] at e; exact e.symm
 rw [uP];cases neg with
 | false=>
  simp only [SO,Tn] at hm ⊢;rw [Ra (by omega),show m.natAbs=dv n by omega]
  exact ⟨xe hn,rfl⟩
 | true=>
  simp only [UM] at hm ⊢;have J:dv n≠0:=λh=>I ⟨O h,rfl⟩;rw [Rb (by omega),show m.natAbs=dv n by omega]
  exact ⟨by rw [xe hn],rfl⟩
theorem I3 (s:Q1) (hs:s.size<=maxLen):Gd (pK s) (λc=>c=0↔∃ q,fits q/\s=ctext q):=by
 have Y:Gd (pK s) (λc=>c=0->∃ q,fits q/\s=ctext q):=by
  obtain ⟨l,rfl⟩:∃ l,s=ba l:=⟨bl s,(E3 s).symm⟩;rw [eA] at hs;unfold pK;refine Gd.bind_eq (zr l) ?_;obtain ⟨neg,I⟩:∃ neg:Bool,neg=decide (l.head? = some 45):=⟨_,rfl⟩;generalize ht:(if l.head? = some 45 then l.tail else l)=t
  have hl:l=if neg=true then 45::t else t:=by
   by_cases h:l.head? = some 45
   ·rw [Rb h] at ht
    rw [I,W0 h,Rb rfl,<- ht];cases l with
    | nil=>cases h
    | cons c r=>simp only [V_,Rp] at h; rw [h]; rfl
   ·rw [Ra h] at ht
    rw [I,WY h,Ra (by simp)]; exact ht
  have htl:t.length<=l.length:=by
   rw [hl]; split
   ·simp
   ·omega
  have hsz:neg=true->(ba t).size<(ba l).size:=λh=>by
   rw [eA,eA,hl,Rb h]; simp
  by_cases hsl:(47:UInt8) ∈ t
  ·obtain ⟨a,b,e,ha,_⟩:∃ a b,t=a++47::b/\(47:UInt8) ∉ a/\True:=by
    rcases qx 47 t with ⟨h1,_⟩ | ⟨a,b,e,h2,_⟩
    ·exact absurd hsl h1
    ·exact ⟨a,b,e,h2,Q3⟩
   have hab:a.length+1+b.length=t.length:=by rw [e]; simp; omega
   rw [e];refine Gd.bind_eq (BU ha (by omega)) ?_
   refine Gd.eN (tN a (by omega)) (λc1 J=>Gd.ite (λ_=>?_) (λO=>by simp at O))
   refine Gd.eN (tN b (by omega)) (λc2 hc2=>?_)
   unfold mr;refine Gd.ite (λ_=>Gd.ret (λh=>by simp at h)) (λhA=>Gd.ite (λ_=>Gd.ret (λh=>by simp at h)) (λZ=>Gd.ite (λ_=>?_) (λO=>by simp at O)))
   simp only [VS,VR,RS] at Z;obtain ⟨n1,n2⟩:=J.1 Z.1;obtain ⟨d1,d2⟩:=hc2.1 Z.2;have h0:¬ (a=[48]/\neg=true):=by
    rintro ⟨ea,en⟩;simp only [VS,Bool.and_eq_false_iff,WZ] at hA;rcases hA.2 with h | h
    ·exact h (by rw [ea]; rfl)
    ·have:=hsz en; rw [e] at this; omega
   refine Gd.eN (HF n1 d1 n2 d2) (λr hr=>Gd.ite (λ_=>Gd.ret (λh=>by simp at h)) (λhC=>Gd.ret (λ_=>?_)))
   simp only [VS,VR,RS,WZ] at hC;have hg:=hr.1 hC.2;have hnz:dv b≠0:=λh=>hC.1.1 (by
    have:=xe d1;rw [h,zE] at this; rw [<- this]; rfl)
   have hn1:dv b≠1:=λh=>hC.1.2 (by
    have:=xe d1;rw [h,vL] at this; rw [<- this]; rfl)
   obtain ⟨e1,e2⟩:=Nx (neg:=neg) n1 h0 rfl;refine ⟨Rat.mk' (if neg=true then -(dv a:Int) else dv a) (dv b) hnz (by rw [e2]; exact hg),⟨?_,?_⟩,?_⟩
   ·simp only; rw [e2,xe n1]; exact n2
   ·simp only; rw [xe d1]; exact d2
   ·unfold ctext DT
    simp only;rw [e1,Ra hn1,xe d1,hl,e]
    split <;> rfl
  ·refine Gd.bind_eq (BS hsl) ?_
   refine Gd.eN (tN t (by omega)) (λc1 J=>Gd.ite (λO=>by simp at O) (λ_=>?_))
   unfold mr;refine Gd.ite (λ_=>Gd.ret (λh=>by simp at h)) (λhA=>Gd.ite (λ_=>Gd.ret (λh=>by simp at h)) (λZ=>Gd.ite (λO=>by simp at O) (λ_=>Gd.ret (λ_=>?_))))
   simp only [VS,VR,RS] at Z;obtain ⟨n1,n2⟩:=J.1 Z.1;have h0:¬ (t=[48]/\neg=true):=by
    rintro ⟨ea,en⟩;simp only [VS,Bool.and_eq_false_iff,WZ] at hA;rcases hA.2 with h | h
    ·exact h (by rw [ea]; rfl)
    ·have:=hsz en; omega
   obtain ⟨e1,e2⟩:=Nx (neg:=neg) n1 h0 rfl;refine ⟨Rat.mk' (if neg=true then -(dv t:Int) else dv t) 1 (by decide) (by rw [e2]; exact Nat.coprime_one_right _),⟨?_,?_⟩,?_⟩
   ·simp only; rw [e2,xe n1]; exact n2
   ·simp only; rw [vL]; decide
   ·unfold ctext DT
    simp only;rw [e1,Rb Q3,RR,<- hl]
 obtain ⟨c,e,h⟩:=Y;refine ⟨c,e,h,?_⟩;rintro ⟨q,hq,rfl⟩;rw [GR hq] at e;exact (Q8 e).symm
theorem Ho {u k:Nat}{l:List bT} (J:Wf l) (ht:wh l) (I:(Lib.decDigits (nv l)).length<=2000):l.length<=300:=by
 rcases S3 300 l.length with h | h
 ·exact absurd (Cg (k:=2000) I) (HC 667 2000 300 (by decide) (by decide) J ht h)
 ·exact h
theorem o9.small {a:LR} (h:o9 a) (O:fits (rv a)):RL a 300:=by
 obtain ⟨I,J⟩:=O;rw [h.num,kH] at I;rw [h.den] at J;exact ⟨Ho (u:=0) (k:=0) h.n.wf h.n.tp I,Ho (u:=0) (k:=0) h.d.wf h.d.tp J⟩
theorem K8 {a:LR} (h:o9 a):Gd (py a) (λr=>(r.2=true↔fits (rv a))/\(r.2=true->r.1=ctext (rv a))):=by
 have e1:(rv a).num.natAbs=nv a.N.words:=by rw [h.num,kH]
 have e2:(rv a).den=nv a.D.words:=h.den;unfold py;refine Gd.eN (B8 h.n) (λt ht=>Gd.ite (λO=>Gd.ret ?_) (λO=>?_))
 ·have O:t.2=false:=by simpa using O
  refine ⟨⟨λJ=>by simp at J,λJ=>?_⟩,λJ=>by simp at J⟩
  have I:=ht.1;rw [O] at I;have:=J.1;rw [e1] at this;exact absurd this (Rf I.symm)
 ·have O:t.2=true:=by simpa using O
  have hN:=ht.1;rw [O] at hN;have hN:=Q_ hN.symm;have hNt:=ht.2.1 O;refine Gd.eN (B8 h.d) (λu hu=>?_);have hval:fV a.D=((nv a.D.words:Nat):Int):=qy h.pos;have Y:(u.2=true↔fits (rv a)):=by
   unfold fits;rw [e1,e2,hu.1,RS];exact ⟨λx=>⟨hN,x⟩,λx=>x.2⟩
  have hut:u.2=true->u.1=ba (Lib.decDigits (rv a).den):=λx=>by rw [hu.2.1 x,hval,tz,e2]
  have Z:t.1=ba (Lib.itoa (rv a).num):=by rw [hNt,h.num]; rfl
  refine Gd.ite (λI=>Gd.ret ⟨Y,λJ=>?_⟩) (λI=>Gd.nd ?_ (Gd.nd ?_ (Gd.ret ⟨Y,λJ=>?_⟩)))
  ·have I:u.1=(⟨#[49]⟩:Q1):=Q_ I
   have:=hut J;rw [I] at this;have hd:(rv a).den=1:=zD ((yb (show ba [49]=_ from this)).symm.trans vL.symm);unfold ctext DT;rw [Rb hd,RR]; exact Z
  ·have:=ht.2.2
   show t.1.size+1<=maxLen;unfold maxLen; omega
  ·have:=ht.2.2
   have:=hu.2.2;rw [uk];show t.1.size+1+u.1.size<=maxLen;unfold maxLen; omega
  ·have I:u.1≠(⟨#[49]⟩:Q1):=Rf I
   have h2:=hut J;have hd:(rv a).den≠1:=λe=>I (by rw [h2,e,vL]; rfl)
   unfold ctext DT;rw [Ra hd];simp only;rw [Z,h2,show (⟨#[47]⟩:Q1)=ba [47] from rfl,BM,BM,RG]; rfl
def tx (q:Rat):Q1×Int:=if fits q then (ctext q,0) else (⟨#[]⟩,2)
theorem MC {p q:Rat} (I:p.num=q.num) (J:p.den=q.den):p=q:=Rat.ext I J
theorem AJ {n:Int} (h:(Lib.decDigits n.natAbs).length<=2000):Gd (k_ (ba (Lib.itoa n))) (λa=>th a/\a.words.length<=10000/\fV a=n):=by
 have J:=lO n.natAbs;have:=HR J.1.EH h (decide (n<0));rw [uP];simp only [RS] at this;refine this.mono (λa I=>⟨I.1,I.2.1,?_⟩);rw [I.2.2,J.2]
 split <;> omega
theorem Cb (n:Int):(47:UInt8) ∉ Lib.itoa n:=by
 rw [uP];have:=Cw (lO n.natAbs).1.EH
 split
 ·simp only [RU,not_or]; exact ⟨by decide,this⟩
 ·exact this
theorem Hw {n:Int} (h:(Lib.decDigits n.natAbs).length<=2000):(Lib.itoa n).length<=2001:=by
 rw [uP]
 split
 ·simp only [Rd]; omega
 ·omega
theorem L1 {q:Rat}{k:Nat} (hn:q.num.natAbs<10 ^ k) (O:q.den<10 ^ k) (J:1<=k) (I:k<=2000):fits q:=
 ⟨Sb (Dq J hn) I,Sb (Dq J O) I⟩
theorem Gg {q:Rat} (h:fits q):(ctext q).size<=10000:=by
 unfold ctext DT;rw [eA,Ro];have:=Hw h.1;have:=h.2
 split
 ·simp; omega
 ·simp only [Rd]; omega
theorem E6 {l:List Q1} (hs:∀ s ∈ l,s.size<=maxLen):Gd (rl l) (λc=>c=0↔∀ s ∈ l,∃ q,fits q/\s=ctext q):=by
 unfold rl;refine Gd.seen (λpre _=>∀ s ∈ pre,∃ q,fits q/\s=ctext q) ?_ (λ_ J=>Gd.ret ⟨λ_=>J,λ_=>rfl⟩) () (λs hs=>by cases hs)
 rintro i y _ nx pre ⟨post,hl⟩ J O;have Z:y ∈ l:=by rw [hl]; simp
 unfold sW;refine Gd.eN (I3 y (hs y Z)) (λc Y=>Gd.ite (λh=>Gd.ret ?_) (λh=>O () (λz I=>?_)))
 ·have h:c≠0:=by simpa using h
  exact ⟨λe=>absurd e h,λe=>absurd (Y.2 (e y Z)) h⟩
 ·have h:c=0:=by simpa using h
  rcases Rh.1 I with I | I
  ·exact J z I
  ·rw [Rz] at I; subst I; exact Y.1 h
def RB (q:Rat) (L:Nat):Prop:=∃ r:LR,o9 r/\RL r L/\rv r=q
theorem o9.rb {r:LR} (h:o9 r) {L:Nat} (Y:RB (rv r) L):RL r L:=by
 obtain ⟨s,I,J,O⟩:=Y;rw [h.ext' I O.symm]; exact J
theorem RB.mono {q:Rat}{L M:Nat} (h:RB q L) (Y:L<=M):RB q M:=by
 obtain ⟨s,I,J,O⟩:=h;exact ⟨s,I,J.mono Y,O⟩
theorem RB.add {p q:Rat}{A B:Nat} (h:RB p A) (k:RB q B) (Y:A+B<=800000):RB (p+q) (A+B+1):=by
 obtain ⟨a,I,J,O⟩:=h; obtain ⟨b,Z,k2,k3⟩:=k
 obtain ⟨r,_,r1,r2,r3⟩:=xv I Z J k2 Y;exact ⟨r,r1,r2,by rw [r3,O,k3]⟩
theorem RB.sub {p q:Rat}{A B:Nat} (h:RB p A) (k:RB q B) (Y:A+B<=800000):RB (p-q) (A+B+1):=by
 obtain ⟨a,I,J,O⟩:=h; obtain ⟨b,Z,k2,k3⟩:=k
 obtain ⟨r,_,r1,r2,r3⟩:=yC I Z J k2 Y;exact ⟨r,r1,r2,by rw [r3,O,k3]⟩
theorem RB.mul {p q:Rat}{A B:Nat} (h:RB p A) (k:RB q B) (Y:A+B<=800000):RB (p*q) (A+B):=by
 obtain ⟨a,I,J,O⟩:=h; obtain ⟨b,Z,k2,k3⟩:=k
 obtain ⟨r,_,r1,r2,r3⟩:=Ac I Z J k2 Y;exact ⟨r,r1,r2,by rw [r3,O,k3]⟩
theorem Ob {w:List bT} (Y:Wf w) (ht:wh w) {k:Nat} (h:nv w<WB ^ k):w.length<=k:=by
 rcases S3 k w.length with hl | hl
 ·exfalso
  have I:w≠[]:=λe=>by rw [e] at hl; simp at hl
  have J:=FA Y ht I;have O:WB ^ k<=WB ^ (w.length-1):=WC (by decide) (by omega)
  exact absurd h (Nat.not_lt.2 (Sb O J))
 ·exact hl
theorem Jj (k m:Nat) (h:32*k<=3*m):WB ^ k<=10 ^ m:=by
 have J:(2:Nat) ^ (32*k)<=2 ^ (3*m):=WC (by decide) h
 have I:((2:Nat) ^ 3) ^ m<=10 ^ m:=WA (by decide) m
 rw [<- WE] at I;rw [BB k];exact Sb J I
theorem Lt {k:Nat} (I:k<=187):WB ^ k<=10 ^ 2000:=Jj k 2000 (by omega)
theorem RB.fits {q:Rat}{L:Nat} (h:RB q L) (hL:L<=187):fits q:=by
 obtain ⟨r,I,J,rfl⟩:=h;have e:=Lt hL;have key:∀ {w:List bT},Wf w->w.length<=L->nv w<10 ^ 2000:=λO hl=>
  TR (s8 O) (Sb (WC (by decide) hl) e)
 refine L1 (k:=2000) ?_ ?_ (by decide) (Rq _)
 ·rw [I.num,kH]; exact key I.n.wf J.1
 ·rw [I.den]; exact key I.d.wf J.2
theorem NC {m:Int}{k:Nat} (h:m.natAbs<WB ^ k) (O:k<=187):∃ a:LI,th a/\a.words.length<=k/\fV a=m:=by
 obtain ⟨a,_,I,Y,J⟩:=AJ (n:=m) (Dq (by decide) (TR h (Lt O)))
 exact ⟨a,I,Ob I.wf I.tp (by rw [<- kH,J]; exact h),J⟩
theorem RB.ratio {m d:Int}{k:Nat} (h:m.natAbs<WB ^ k) (O:d.natAbs<WB ^ k) (h0:d≠0) (J:k<=187):RB ((m:Rat) / (d:Rat)) k:=by
 obtain ⟨a,a1,a2,a3⟩:=NC h J;obtain ⟨b,b1,b2,I⟩:=NC O J;obtain ⟨r,_,Y,r2,r3,Z⟩:=yo a1 b1 (by rw [<- kH,I]; omega) (by omega) (by omega)
 exact ⟨r,Y,⟨by omega,by omega⟩,by rw [Z,a3,I,Rat.divInt_eq_div]⟩
theorem RB.int {m:Int}{k:Nat} (h:m.natAbs<WB ^ k) (I:1<=k) (J:k<=187):RB (m:Rat) k:=by
 have:=RB.ratio (m:=m) (d:=1) h (by
  have:WB ^ 1<=WB ^ k:=WC (by decide) I
  have:WB ^ 1=4294967296:=by decide
  show 1<WB ^ k;omega) (by decide) J
 have e:(m:Rat) / ((1:Int):Rat)=(m:Rat):=by rw [Rat.intCast_one]; grind
 rwa [e] at this
theorem RB.small {m:Int} (h:m.natAbs<4294967296):RB (m:Rat) 1:=RB.int (k:=1) (by show m.natAbs<4294967296 ^ 1; omega) (by decide) (by decide)
theorem RB.P1 {m d:Int} (h:m.natAbs<4294967296) (J:d.natAbs<4294967296) (I:d≠0):RB ((m:Rat) / (d:Rat)) 1:=
 RB.ratio (k:=1) (by show m.natAbs<4294967296 ^ 1; omega) (by show d.natAbs<4294967296 ^ 1; omega) I (by decide)
theorem FC {q:Rat} (h:fits q):Gd (qG (ctext q)) (λa=>o9 a/\RL a 300/\rv a=q):=by
 have O:∀ a:LR,th a.N->th a.D->fV a.N=q.num->fV a.D=(q.den:Int)->o9 a/\RL a 300/\rv a=q:=λa h1 h2 h3 h4=>by
  have hp:a.D.minus=false:=h2.plus (by omega)
  have J:nv a.D.words=q.den:=by
   have:=qy hp;omega
  have I:o9 a:=⟨h1,h2,hp,by rw [J]; exact q.den_nz,by rw [J,<- kH,h3]; exact q.reduced⟩
  have hv:rv a=q:=MC (by rw [I.num,h3]) (by rw [I.den,J])
  exact ⟨I,I.small (by rw [hv]; exact h),hv⟩
 have hl:=Hw h.1;unfold qG ctext DT
 by_cases J:q.den=1
 ·rw [Rb J,RR]
  refine Gd.bind_eq (BS (Cb _)) (Gd.ite (λ_=>?_) (λhx=>by simp at hx))
  refine Gd.eN (AJ h.1) (λa Y=>Gd.eN (CB (n:=1) (by omega)) (λb Z=>Gd.ret ?_))
  exact O _ Y.1 Z.1 Y.2.2 (by rw [Z.2.2,J]; rfl)
 ·rw [Ra J]
  refine Gd.bind_eq (BU (Cb _) (by have:=h.2; unfold maxLen; omega)) (Gd.ite (λhx=>by simp at hx) (λ_=>?_))
  refine Gd.eN (AJ h.1) (λa Y=>Gd.eN (CH (lO q.den).1 h.2) (λb Z=>Gd.ret ?_));exact O _ Y.1 Z.1 Y.2.2 (by rw [Z.2.2,(lO q.den).2])
end Go.Sim
namespace Go.Sim
open _root_.Go.IntKind (i64 u64 u32 u8)
def sm:Nat->(Nat->Rat)->Rat
 | 0,_=>0
 | n+1,f=>sm n f+f n
def pr:Nat->(Nat->Rat)->Rat
 | 0,_=>1
 | n+1,f=>pr n f*f n
theorem oX {f g:Nat->Rat}:∀ {n:Nat},(∀ i,i<n->f i=g i)->sm n f=sm n g
 | 0,_=>rfl
 | n+1,h=>by
  unfold sm;rw [oX (λi hi=>h i (by omega)),h n (by omega)]
theorem wV {f g:Nat->Rat}:∀ {n:Nat},(∀ i,i<n->f i=g i)->pr n f=pr n g
 | 0,_=>rfl
 | n+1,h=>by
  unfold pr;rw [wV (λi hi=>h i (by omega)),h n (by omega)]
theorem wb {f:Nat->Rat}:∀ {n:Nat},(∀ i,i<n->f i=0)->sm n f=0
 | 0,_=>rfl
 | n+1,h=>by
  unfold sm;rw [wb (λi hi=>h i (by omega)),h n (by omega)]; grind
theorem xy (f g:Nat->Rat):∀ n:Nat,sm n (λi=>f i+g i)=sm n f+sm n g
 | 0=>by unfold sm; grind
 | n+1=>by unfold sm; rw [xy f g n]; grind
theorem rU (a:Rat) (f:Nat->Rat):∀ n:Nat,sm n (λi=>a*f i)=a*sm n f
 | 0=>by unfold sm; grind
 | n+1=>by unfold sm; rw [rU a f n]; grind
theorem CO {f:Nat->Rat}{p:Nat}:∀ {n:Nat},p<n->(∀ i,i<n->i≠p->f i=0)->sm n f=f p
 | 0,h,_=>by omega
 | n+1,h,hz=>by
  unfold sm
  by_cases e:p=n
  ·subst e
   rw [wb (λi hi=>hz i (by omega) (by omega))]; grind
  ·rw [CO (by omega) (λi hi I=>hz i (by omega) I),hz n (by omega) (λh=>e h.symm)]; grind
theorem Lc {f:Nat->Rat}{p:Nat}:∀ {n:Nat},p+1<n->(∀ i,i<n->i≠p->i≠p+1->f i=0)->sm n f=f p+f (p+1)
 | 0,h,_=>by omega
 | n+1,h,hz=>by
  unfold sm
  by_cases e:p+1=n
  ·subst e
   rw [CO (p:=p) (by omega) (λi hi I=>hz i (by omega) I (by omega))]
  ·rw [Lc (by omega) (λi hi J O=>hz i (by omega) J O),hz n (by omega) (by omega) (λh=>e h.symm)]; grind
theorem tO {f:Nat->Rat}:∀ {n:Nat},(∀ i,i<n->0<=f i)->0<=sm n f
 | 0,_=>WS
 | n+1,h=>by
  unfold sm;have I:=tO (n:=n) (λi hi=>h i (by omega))
  have J:=h n (by omega)
  grind
theorem Lb {f g:Nat->Rat}:∀ {n:Nat},(∀ i,i<n->f i<=g i)->sm n f<=sm n g
 | 0,_=>WS
 | n+1,h=>by
  unfold sm;have I:=Lb (n:=n) (λi hi=>h i (by omega))
  have J:=h n (by omega)
  grind
theorem mL {f:Nat->Rat}:∀ {n:Nat},(∀ i,i<n->0<=f i)->0<=pr n f
 | 0,_=>by unfold pr; decide
 | n+1,h=>by
  unfold pr;exact WW (mL (n:=n) (λi hi=>h i (by omega))) (h n (by omega))
theorem qL {a b c d:Rat} (J:a<=b) (O:c<=d) (a0:0<=a) (I:0<=c):a*c<=b*d:=by
 have Y:a*c<=b*c:=Rat.mul_le_mul_of_nonneg_right J I;have Z:b*c<=b*d:=Rat.mul_le_mul_of_nonneg_left O (by grind)
 exact WT Y Z
theorem HL {f g:Nat->Rat}:∀ {n:Nat},(∀ i,i<n->0<=f i)->(∀ i,i<n->f i<=g i)->pr n f<=pr n g
 | 0,_,_=>WS
 | n+1,h0,h=>by
  unfold pr;exact qL (HL (λi hi=>h0 i (by omega)) (λi hi=>h i (by omega))) (h n (by omega)) (mL (λi hi=>h0 i (by omega))) (h0 n (by omega))
theorem Eo (f g:Nat->Rat):∀ n:Nat,pr n (λi=>f i*g i)=pr n f*pr n g
 | 0=>by unfold pr; grind
 | n+1=>by unfold pr; rw [Eo f g n]; grind
abbrev Mt:=Nat->Nat->Rat
def skip (p i:Nat):Nat:=if i<p then i else i+1
def minor (M:Mt) (p:Nat):Mt:=λr c=>M (skip p r) (c+1)
def sg (i:Nat):Rat:=if i%2=0 then 1 else -1
def q7:Nat->Mt->Rat
 | 0,_=>1
 | n+1,M=>sm (n+1) (λi=>sg i*M i 0*q7 n (minor M i))
def row (M:Mt) (p:Nat) (x:Nat->Rat):Mt:=λr=>if r=p then x else M r
theorem yy:∀ {n:Nat}{M M':Mt},(∀ r c,r<n->c<n->M r c=M' r c)->q7 n M=q7 n M'
 | 0,_,_,_=>rfl
 | n+1,M,M',h=>by
  unfold q7;refine oX (λi hi=>?_);rw [h i 0 hi (by omega),yy (λr c J I=>?_)]
  unfold minor;exact h _ _ (by unfold skip; split <;> omega) (by omega)
theorem vA (M:Mt) (p:Nat) (x:Nat->Rat):minor (row M p x) p=minor M p:=by
 funext r c
 unfold minor row;rw [Ra (by unfold skip; split <;> omega)]
theorem xo (M:Mt) {p i:Nat} (h:p<i) (x:Nat->Rat):minor (row M p x) i=row (minor M i) p (λc=>x (c+1)):=by
 funext r c
 unfold minor row
 by_cases e:r=p
 ·subst e
  rw [Rb (by unfold skip; rw [Rb h]),Rb rfl]
 ·rw [Ra (by unfold skip; split <;> omega),Ra e]
theorem xn (M:Mt) {p i:Nat} (h:i<p) (x:Nat->Rat):minor (row M p x) i=row (minor M i) (p-1) (λc=>x (c+1)):=by
 funext r c
 unfold minor row
 by_cases e:r=p-1
 ·subst e
  rw [Rb (by unfold skip; split <;> omega),Rb rfl]
 ·rw [Ra (by unfold skip; split <;> omega),Ra e]
theorem zF:∀ {n:Nat} (M:Mt) {p:Nat} (I:p<n) (a b:Rat) (x y:Nat->Rat),q7 n (row M p (λc=>a*x c+b*y c))=a*q7 n (row M p x)+b*q7 n (row M p y)
 | 0,_,_,h,_,_,_,_=>by omega
 | n+1,M,p,I,a,b,x,y=>by
  unfold q7;rw [<- rU,<- rU,<- xy];refine oX (λi hi=>?_);rcases Uc i p with h | h | h
  ·rw [xn M h,xn M h,xn M h,zF (minor M i) (by omega) a b (λc=>x (c+1)) (λc=>y (c+1))]
   unfold row;rw [Ra (by omega),Ra (by omega),Ra (by omega)]
   grind
  ·subst h
   rw [vA,vA,vA];unfold row;rw [Rb rfl,Rb rfl,Rb rfl]
   grind
  ·rw [xo M h,xo M h,xo M h,zF (minor M i) (by omega) a b (λc=>x (c+1)) (λc=>y (c+1))]
   unfold row;rw [Ra (by omega),Ra (by omega),Ra (by omega)]
   grind
theorem MJ (i:Nat):sg (i+1) = - sg i:=by
 unfold sg
 by_cases h:i%2=0
 ·rw [Rb h,Ra (by omega)]
 ·rw [if_neg h,if_pos (by omega)]; grind
theorem Bg:∀ {n:Nat}{M:Mt}{p:Nat},p+1<n->(∀ c,c<n->M p c=M (p+1) c)->q7 n M=0
 | 0,_,_,h,_=>by omega
 | n+1,M,p,hp,he=>by
  unfold q7;rw [Lc (p:=p) hp (λi hi J O=>?_)]
  ·have:q7 n (minor M p)=q7 n (minor M (p+1)):=yy (λr c Y I=>by
    unfold minor skip
    by_cases e:r=p
    ·subst e
     rw [Ra (by omega),Rb (by omega)]
     exact (he (c+1) (by omega)).symm
    ·by_cases e2:r<p
     ·rw [Rb e2,Rb (by omega)]
     ·rw [Ra e2,Ra (by omega)])
   rw [this,MJ,he 0 (by omega)]
   grind
  ·have:q7 n (minor M i)=0:=by
    rcases Uc i p with h | h | h
    ·refine Bg (p:=p-1) (by omega) (λc I=>?_)
     unfold minor skip;rw [Ra (by omega),Ra (by omega),show p-1+1=p by omega]
     exact he (c+1) (by omega)
    ·exact absurd h J
    ·refine Bg (p:=p) (by omega) (λc I=>?_)
     unfold minor skip;rw [Rb (by omega),Rb (by omega)]
     exact he (c+1) (by omega)
   rw [this]; grind
theorem CL (M:Mt) (p:Nat):row M p (M p)=M:=by
 funext r
 unfold row
 by_cases e:r=p
 ·subst e; rw [Rb rfl]
 ·rw [Ra e]
theorem wW (M:Mt) {p q:Nat} (h:p≠q) (x y:Nat->Rat):row (row M p x) q y=row (row M q y) p x:=by
 funext r
 unfold row
 by_cases e:r=q
 ·subst e; rw [Rb rfl,Ra (λe=>h e.symm),Rb rfl]
 ·rw [Ra e]
  by_cases e2:r=p
  ·rw [Rb e2,Rb e2]
  ·rw [Ra e2,Ra e2,Ra e]
theorem BW {n:Nat} (M:Mt) {p:Nat} (I:p<n) (x y:Nat->Rat):q7 n (row M p (λc=>x c+y c))=q7 n (row M p x)+q7 n (row M p y):=by
 have:=zF M I 1 1 x y;simp only [Rat.one_mul] at this;exact this
theorem J6 {n:Nat} (M:Mt) {p:Nat} (J:p+1<n) (x y:Nat->Rat):q7 n (row (row M p x) (p+1) y) = - q7 n (row (row M p y) (p+1) x):=by
 have two:∀ u:Nat->Rat,q7 n (row (row M p u) (p+1) u)=0:=λu=>Bg J (λc O=>by
  unfold row;rw [Ra (by omega),Rb rfl,Rb rfl])
 have h:=two (λc=>x c+y c);have I:p≠p+1:=by omega
 rw [BW _ J,wW M I,wW M I,BW _ (by omega),BW _ (by omega),<- wW M I,<- wW M I,<- wW M I,<- wW M I,two x,two y] at h
 grind
theorem DV:∀ (k:Nat) {n:Nat}{M:Mt}{p q:Nat},q=p+1+k->q<n->(∀ c,M p c=M q c)->q7 n M=0
 | 0,n,M,p,q,hq,hn,he=>by
  subst hq;exact Bg (by omega) (λc _=>he c)
 | k+1,n,M,p,q,hq,hn,he=>by
  have I:q7 n M=q7 n (row (row M (q-1) (M (q-1))) (q-1+1) (M (q-1+1))):=by
   rw [CL,CL]
  rw [I,J6 M (by omega)]
  have:q7 n (row (row M (q-1) (M (q-1+1))) (q-1+1) (M (q-1)))=0:=by
   refine DV k (p:=p) (q:=q-1) (by omega) (by omega) (λc=>?_)
   unfold row;rw [Ra (by omega),Ra (by omega),Ra (by omega),Rb rfl,show q-1+1=q by omega]
   exact he c
  rw [this]; grind
theorem J4 {n:Nat}{M:Mt}{p q:Nat} (J:p<n) (O:q<n) (I:p≠q) (he:∀ c,M p c=M q c):q7 n M=0:=by
 rcases S3 p q with h | h
 ·exact DV (q-p-1) (p:=p) (q:=q) (by omega) O he
 ·exact DV (p-q-1) (p:=q) (q:=p) (by omega) J (λc=>(he c).symm)
theorem DX {n:Nat} (M:Mt) {p:Nat} (I:p<n):q7 n (row M p (λ_=>0))=0:=by
 have:=zF M I 0 0 (λ_=>0) (λ_=>0);have e:(λc:Nat=>(0:Rat)*(λ_:Nat=>(0:Rat)) c+0*(λ_:Nat=>(0:Rat)) c)=λ_=>0:=by funext c; grind
 rw [e] at this;rw [this]; grind
theorem BX {n:Nat} (M:Mt) {p:Nat} (I:p<n) (x:Nat->Rat) (Y:Mt):∀ k:Nat,q7 n (row M p (λc=>sm k (λj=>x j*Y j c)))=sm k (λj=>x j*q7 n (row M p (Y j)))
 | 0=>DX M I
 | k+1=>by
  have e:(λc=>sm (k+1) (λj=>x j*Y j c))=λc=>1*sm k (λj=>x j*Y j c)+x k*Y k c:=by
   funext c
   show sm k (λj=>x j*Y j c)+x k*Y k c=_;rw [Rat.one_mul]
  rw [e,zF M I 1 (x k) (λc=>sm k (λj=>x j*Y j c)) (Y k),BX M I x Y k];show _=sm k _+_
  grind
theorem E9 {n:Nat} (M:Mt) {p:Nat} (J:p<n) (x:Nat->Rat):q7 n (row M p (λc=>sm n (λj=>x j*M j c)))=x p*q7 n M:=by
 rw [BX M J,CO J (λj O I=>?_),CL];have:q7 n (row M p (M j))=0:=J4 J O (λe=>I e.symm) (λc=>by
  unfold row;rw [Rb rfl,Ra I])
 rw [this]; grind
theorem J0 {n:Nat}{M:Mt}{x b:Nat->Rat} (h:∀ c,c<n->sm n (λj=>x j*M j c)=b c) {p:Nat} (J:p<n):q7 n (row M p b)=x p*q7 n M:=by
 rw [<- E9 M J];refine yy (λr c O I=>?_);unfold row
 by_cases e:r=p
 ·rw [Rb e,Rb e]; exact (h c I).symm
 ·rw [Ra e,Ra e]
theorem E_:∀ {n:Nat}{M:Mt},(∀ c,c<n->M n c=0)->q7 (n+1) M=M n n*q7 n M
 | 0,M,_=>by
  show (0:Rat)+sg 0*M 0 0*1=M 0 0*1;have:sg 0=1:=rfl;rw [this]; grind
 | n+1,M,h=>by
  have I:q7 (n+1+1) M=sm (n+1) (λi=>sg i*M i 0*q7 (n+1) (minor M i))+sg (n+1)*M (n+1) 0*q7 (n+1) (minor M (n+1)):=rfl;have e2:q7 (n+1) M=sm (n+1) (λi=>sg i*M i 0*q7 n (minor M i)):=rfl;rw [I,e2,h 0 (by omega),<- rU]
  have:sm (n+1) (λi=>sg i*M i 0*q7 (n+1) (minor M i))=sm (n+1) (λi=>M (n+1) (n+1)*(sg i*M i 0*q7 n (minor M i))):=by
   refine oX (λi hi=>?_);have hs:skip i n=n+1:=by unfold skip; rw [Ra (by omega)]
   have hl:q7 (n+1) (minor M i)=minor M i n n*q7 n (minor M i):=E_ (λc J=>by
    unfold minor;rw [hs];exact h (c+1) (by omega))
   have hm:minor M i n n=M (n+1) (n+1):=by unfold minor; rw [hs]
   rw [hl,hm]; grind
  rw [this]; grind
def uO (q:Rat):Prop:=∃ z:Int,q=(z:Rat)
theorem zJ {a b:Rat} (h:uO a) (k:uO b):uO (a+b):=by
 obtain ⟨x,rfl⟩:=h; obtain ⟨y,rfl⟩:=k
 exact ⟨x+y,(Rat.intCast_add x y).symm⟩
theorem sN {a b:Rat} (h:uO a) (k:uO b):uO (a*b):=by
 obtain ⟨x,rfl⟩:=h; obtain ⟨y,rfl⟩:=k
 exact ⟨x*y,(WQ x y).symm⟩
theorem N6 (i:Nat):uO (sg i):=by
 unfold sg
 split
 ·exact ⟨1,rfl⟩
 ·exact ⟨-1,rfl⟩
theorem Gz {f:Nat->Rat}:∀ {n:Nat},(∀ i,i<n->uO (f i))->uO (sm n f)
 | 0,_=>⟨0,rfl⟩
 | n+1,h=>by unfold sm; exact zJ (Gz (λi hi=>h i (by omega))) (h n (by omega))
theorem DW:∀ {n:Nat}{M:Mt},(∀ r c,r<n->c<n->uO (M r c))->uO (q7 n M)
 | 0,_,_=>⟨1,rfl⟩
 | n+1,M,h=>by
  unfold q7;exact Gz (λi hi=>sN (sN (N6 i) (h i 0 hi (by omega))) (DW (λr c J I=>h _ _ (by unfold skip; split <;> omega) (by omega))))
theorem HN (v w:Nat->Rat) (I:∀ i,0<=v i) (J:∀ i,0<=w i):∀ n:Nat,sm (n+1) (λi=>v i*pr n (λr=>w (skip i r)))+pr (n+1) w<=pr (n+1) (λr=>v r+w r)
 | 0=>by
  show 0+v 0*1+1*w 0<=1*(v 0+w 0)
  grind
 | n+1=>by
  have ih:=HN v w I J n;have O:sm (n+1+1) (λi=>v i*pr (n+1) (λr=>w (skip i r)))=sm (n+1) (λi=>v i*pr (n+1) (λr=>w (skip i r)))+v (n+1)*pr (n+1) (λr=>w (skip (n+1) r)):=rfl;have e2:sm (n+1) (λi=>v i*pr (n+1) (λr=>w (skip i r)))=w (n+1)*sm (n+1) (λi=>v i*pr n (λr=>w (skip i r))):=by
   rw [<- rU];refine oX (λi hi=>?_);have:pr (n+1) (λr=>w (skip i r))=pr n (λr=>w (skip i r))*w (n+1):=by
    show pr n _*w (skip i n)=_;rw [show skip i n=n+1 by unfold skip; rw [Ra (by omega)]]
   rw [this]; grind
  have e3:pr (n+1) (λr=>w (skip (n+1) r))=pr (n+1) w:=wV (λr hr=>by unfold skip; rw [Rb hr])
  have Y:pr (n+1+1) w=pr (n+1) w*w (n+1):=rfl;have Z:pr (n+1+1) (λr=>v r+w r)=pr (n+1) (λr=>v r+w r)*(v (n+1)+w (n+1)):=rfl;rw [O,e2,e3,Y,Z];have s0:0<=sm (n+1) (λi=>v i*pr n (λr=>w (skip i r))):=tO (λi _=>Rat.mul_nonneg (I i) (mL (λr _=>J _)));have m1:=Rat.mul_le_mul_of_nonneg_right ih (show (0:Rat)<=v (n+1)+w (n+1) by have:=I (n+1); have:=J (n+1); grind)
  have m2:=WW s0 (I (n+1))
  grind
theorem Gi:∀ {n:Nat}{M A:Mt},(∀ r c,0<=A r c)->(∀ r c,r<n->c<n->-A r c<=M r c/\M r c<=A r c)->-pr n (λr=>sm n (A r))<=q7 n M/\q7 n M<=pr n (λr=>sm n (A r))
 | 0,_,_,_,_=>by unfold q7 pr; exact ⟨by decide,by decide⟩
 | n+1,M,A,h0,h=>by
  have I:∀ r,sm (n+1) (A r)=A r 0+sm n (λc=>A r (c+1)):=λr=>by
   have:∀ k,sm (k+1) (A r)=A r 0+sm k (λc=>A r (c+1)):=λk=>by
    induction k with
    | zero=>show 0+A r 0=A r 0+0; grind
    | succ k ih=>
     have Y:sm (k+1+1) (A r)=sm (k+1) (A r)+A r (k+1):=rfl;have e2:sm (k+1) (λc=>A r (c+1))=sm k (λc=>A r (c+1))+A r (k+1):=rfl;rw [Y,e2,ih]; grind
   exact this n
  have O:∀ r,0<=sm n (λc=>A r (c+1)):=λr=>tO (λc _=>h0 r (c+1));have hp:=HN (λr=>A r 0) (λr=>sm n (λc=>A r (c+1))) (λr=>h0 r 0) O n;have hP:pr (n+1) (λr=>sm (n+1) (A r))=pr (n+1) (λr=>A r 0+sm n (λc=>A r (c+1))):=wV (λr _=>I r);have hw1:=mL (n:=n+1) (f:=λr=>sm n (λc=>A r (c+1))) (λr _=>O r);have J:∀ i,i<n+1->-(A i 0*pr n (λr=>sm n (λc=>A (skip i r) (c+1))))<=sg i*M i 0*q7 n (minor M i)/\sg i*M i 0*q7 n (minor M i)<=A i 0*pr n (λr=>sm n (λc=>A (skip i r) (c+1))):=λi hi=>by
   obtain ⟨d1,d2⟩:=Gi (n:=n) (M:=minor M i) (A:=λr c=>A (skip i r) (c+1)) (λr c=>h0 _ _) (λr c hr hc=>h _ _ (by unfold skip; split <;> omega) (by omega))
   obtain ⟨m1,m2⟩:=h i 0 hi (by omega)
   have key:∀ a b x y:Rat,-a<=x->x<=a->-b<=y->y<=b->-(a*b)<=x*y/\x*y<=a*b:=λa b x y h1 h2 h3 h4=>by
    have t1:=Rat.mul_nonneg (show (0:Rat)<=a-x by grind) (show (0:Rat)<=b-y by grind)
    have t2:=Rat.mul_nonneg (show (0:Rat)<=a+x by grind) (show (0:Rat)<=b+y by grind)
    have t3:=Rat.mul_nonneg (show (0:Rat)<=a-x by grind) (show (0:Rat)<=b+y by grind)
    have t4:=Rat.mul_nonneg (show (0:Rat)<=a+x by grind) (show (0:Rat)<=b-y by grind)
    constructor <;> grind
   obtain ⟨k1,k2⟩:=key _ _ _ _ m1 m2 d1 d2;unfold sg
   split
   ·constructor <;> grind
   ·constructor <;> grind
  rw [hP];have Z:sm (n+1) (λi=>A i 0*pr n (λr=>sm n (λc=>A (skip i r) (c+1))))<=pr (n+1) (λr=>A r 0+sm n (λc=>A r (c+1))):=by grind
  have up:q7 (n+1) M<=sm (n+1) (λi=>A i 0*pr n (λr=>sm n (λc=>A (skip i r) (c+1)))):=Lb (λi hi=>(J i hi).2);have lo:sm (n+1) (λi=>(-1)*(A i 0*pr n (λr=>sm n (λc=>A (skip i r) (c+1)))))<=q7 (n+1) M:=Lb (λi hi=>by have:=(J i hi).1; grind)
  rw [rU] at lo;constructor <;> grind
theorem J5 {k:Nat}{M:Mt}{x:Nat->Rat} (hx:x k=1) (O:∀ c,c<k->sm (k+1) (λj=>x j*M j c)=0):q7 (k+1) M=sm (k+1) (λj=>x j*M j k)*q7 k M:=by
 have I:=E9 M (S7 k) x;rw [hx,Rat.one_mul] at I;rw [<- I];have Y:q7 (k+1) (row M k (λc=>sm (k+1) (λj=>x j*M j c)))=(row M k (λc=>sm (k+1) (λj=>x j*M j c))) k k*q7 k (row M k (λc=>sm (k+1) (λj=>x j*M j c))):=E_ (λc J=>by
  unfold row;rw [Rb rfl];exact O c J)
 rw [Y];have Z:q7 k (row M k (λc=>sm (k+1) (λj=>x j*M j c)))=q7 k M:=yy (λr c hr J=>by
  unfold row;rw [Ra (by omega)])
 rw [Z];unfold row;rw [Rb rfl]
theorem Gf {k:Nat}{M:Mt}{x b:Nat->Rat} (J:∀ r c,r<k->c<k->uO (M r c)) (O:∀ c,c<k->uO (b c)) (h:∀ c,c<k->sm k (λj=>x j*M j c)=b c) {p:Nat} (Y:p<k):uO (x p*q7 k M):=by
 rw [<- J0 h Y];refine DW (λr c Z I=>?_);unfold row
 by_cases e:r=p
 ·rw [Rb e]; exact O c I
 ·rw [Ra e]; exact J r c Z I
theorem Er {f:Nat->Rat}:∀ {n:Nat},(∀ i,i<n->1<=f i)->1<=pr n f
 | 0,_=>by unfold pr; decide
 | n+1,h=>by
  unfold pr;have I:=Er (n:=n) (λi hi=>h i (by omega))
  have J:=h n (by omega)
  have:=qL I J (by decide) (by decide)
  grind
theorem KY {f:Nat->Rat}{s:Rat} (hs:0<=s) {p:Nat}:∀ {n:Nat},p<n->(∀ i,i<n->1<=f i)->pr n (λr=>if r=p then s else f r)<=pr n f*s
 | 0,h,_=>by omega
 | n+1,h,h1=>by
  have Y:∀ i,i<n+1->0<=f i:=λi hi=>by have:=h1 i hi; grind
  have I:=mL (n:=n) (f:=f) (λi hi=>Y i (by omega))
  by_cases e:p=n
  ·subst e
   show pr p (λr=>if r=p then s else f r)*(if p=p then s else f p)<=pr p f*f p*s
   rw [Rb rfl];have e2:pr p (λr=>if r=p then s else f r)=pr p f:=wV (λi hi=>Ra (by omega))
   rw [e2];have O:=WW I hs;have:=qL (WS (a:=pr p f*s)) (h1 p (by omega)) O (by decide)
   grind
  ·show pr n (λr=>if r=p then s else f r)*(if n=p then s else f n)<=pr n f*f n*s
   rw [Ra (λe2:n=p=>e e2.symm)];have J:p<n:=by omega
   have ih:=KY (f:=f) hs J (λi hi=>h1 i (Nat.lt_succ_of_lt hi));have:=Rat.mul_le_mul_of_nonneg_right ih (Y n (by omega))
   grind
theorem IC {k:Nat}{M A:Mt}{x b a:Nat->Rat}{S:Rat} (J:∀ r c,0<=A r c) (I:∀ c,0<=a c) (hM:∀ r c,r<k->c<k->-A r c<=M r c/\M r c<=A r c) (hb:∀ c,c<k->-a c<=b c/\b c<=a c)
  (Z:∀ r,r<k->1<=sm k (A r)) (hS:sm k a<=S) (h:∀ c,c<k->sm k (λj=>x j*M j c)=b c) {p:Nat} (hp:p<k):-(pr k (λr=>sm k (A r))*S)<=x p*q7 k M/\x p*q7 k M<=pr k (λr=>sm k (A r))*S:=by
 rw [<- J0 h hp];obtain ⟨d1,d2⟩:=Gi (n:=k) (M:=row M p b) (A:=row A p a) (λr c=>by
  unfold row
  by_cases e:r=p
  ·rw [Rb e]; exact I c
  ·rw [Ra e]; exact J r c) (λr c O hc=>by
  unfold row
  by_cases e:r=p
  ·rw [Rb e,Rb e]; exact hb c hc
  ·rw [Ra e,Ra e]; exact hM r c O hc)
 have Y:0<=sm k a:=tO (λc _=>I c);have e1:pr k (λr=>sm k (row A p a r))=pr k (λr=>if r=p then sm k a else sm k (A r)):=wV (λr _=>by
  unfold row
  by_cases e:r=p
  ·rw [Rb e,Rb e]
  ·rw [Ra e,Ra e])
 rw [e1] at d1 d2;have h2:=KY Y (p:=p) (n:=k) (f:=λr=>sm k (A r)) hp Z;have h3:=Rat.mul_le_mul_of_nonneg_left hS (mL (n:=k) (f:=λr=>sm k (A r)) (λr O=>by have:=Z r O; grind))
 have h4:=Rat.le_trans h2 h3;constructor <;> grind
def dl (i j:Nat):Rat:=if i=j then 1 else 0
theorem rq (i:Nat):dl i i=1:=Rb rfl
theorem qw {i j:Nat} (h:i≠j):dl i j=0:=Ra h
structure Gj (n:Nat) (A:Mt) (k:Nat) (m:Mt):Prop where
 comb:∀ i c,i<n->c<n->m i c=sm n (λj=>m i (n+j)*A j c)
 right:∀ i j,i<n->j<n->k<=j->m i (n+j)=dl i j
 left:∀ i c,i<n->c<n->c<k->m i c=dl i c
def vd (k:Nat) (m:Mt):Mt:=λi c=>if i=k then m k c / m k k else m i c-m i k*(m k c / m k k)
theorem Gj.step {n:Nat}{A m:Mt}{k:Nat} (h:Gj n A k m) (hk:k<n) (hd:m k k≠0):Gj n A (k+1) (vd k m):=by
 have O:∀ c,c<k->m k c=0:=λc J=>by rw [h.left k c hk (by omega) J,qw (by omega)]
 have hkr:∀ j,j<n->k+1<=j->m k (n+j)=0:=λj hj Y=>by rw [h.right k j hk hj (by omega),qw (by omega)]
 have I:m k k / m k k=1:=by rw [WN]; exact WV _ hd
 refine ⟨λi c hi J=>?_,λi j hi hj Y=>?_,λi c hi J hck=>?_⟩
 ·have Z:=h.comb i c hi J
  have e2:=h.comb k c hk J;unfold vd
  by_cases e:i=k
  ·subst e
   simp only [if_true];have:(λj=>m i (n+j) / m i i*A j c)=λj=>(m i i)⁻¹*(m i (n+j)*A j c):=by funext j; rw [Rat.div_def]; grind
   rw [this,rU,<- e2,Rat.div_def]; grind
  ·simp only [Ra e]
   have:(λj=>(m i (n+j)-m i k*(m k (n+j) / m k k))*A j c)=λj=>m i (n+j)*A j c+(-(m i k*(m k k)⁻¹))*(m k (n+j)*A j c):=by funext j; rw [Rat.div_def]; grind
   rw [this,xy,rU,<- Z,<- e2,Rat.div_def]; grind
 ·unfold vd
  have Z:=hkr j hj Y
  by_cases e:i=k
  ·subst e
   rw [if_pos rfl,Z,qw (by omega),Rat.div_def]; grind
  ·rw [if_neg e,Z,h.right i j hi hj (by omega),Rat.div_def]; grind
 ·unfold vd
  by_cases e:i=k
  ·subst e
   rw [Rb rfl]
   by_cases e2:c=i
   ·subst e2; rw [I,rq]
   ·rw [O c (by omega),qw (λe3=>e2 e3.symm),Rat.div_def]; grind
  ·rw [Ra e]
   by_cases e2:c=k
   ·subst e2; rw [I,qw e]; grind
   ·rw [O c (by omega),h.left i c hi J (by omega),Rat.div_def]; grind
def Pd (n:Nat) (A:Mt):Prop:=∀ x:Nat->Rat,sm n (λc=>x c*sm n (λj=>x j*A j c))=0->∀ i,i<n->x i=0
theorem Gj.NG {n:Nat}{A m:Mt}{k:Nat} (h:Gj n A k m) (hp:Pd n A) (J:k<n):m k k≠0:=by
 intro h0;have h1:=hp (λj=>m k (n+j)) (wb (λc O=>by
  have Z:=(h.comb k c J O).symm;show m k (n+c)*sm n (λj=>m k (n+j)*A j c)=0;rw [Z];rcases Uc c k with I | I | I
  ·rw [h.left k c J O I,qw (by omega)]; grind
  ·subst I; rw [h0]; grind
  ·rw [h.right k c J O (by omega),qw (by omega)]; grind)) k J
 have h2:=h.right k k J J (Rq k);have Y:m k (n+k)=0:=h1;rw [h2,rq] at Y;exact absurd Y (by decide)
theorem Gj.NX {n:Nat}{A m:Mt}{k:Nat} (h:Gj n A k m) (O:k<=n) {i:Nat} (hi:i<n) {c:Nat} (J:c<n):m i c=sm k (λj=>m i (n+j)*A j c)+(if k<=i then A i c else 0):=by
 have key:∀ q,k<=q->q<=n->sm q (λj=>m i (n+j)*A j c)=sm k (λj=>m i (n+j)*A j c)+(if k<=i/\i<q then A i c else 0):=by
  intro q Z
  induction q with
  | zero=>
   intro _;obtain rfl:k=0:=by omega
   rw [if_neg (by omega)]; grind
  | succ q ih=>
   intro Y
   by_cases e:k=q+1
   ·rw [<- e,if_neg (by omega)]; grind
   ·have I:sm (q+1) (λj=>m i (n+j)*A j c)=sm q (λj=>m i (n+j)*A j c)+m i (n+q)*A q c:=rfl
    rw [I,ih (by omega) (by omega),h.right i q hi (by omega) (by omega)]
    by_cases e2:i=q
    ·subst e2
     rw [rq,if_neg (by omega),if_pos ⟨by omega,by omega⟩]; grind
    ·rw [qw e2]
     by_cases e3:k<=i/\i<q
     ·rw [if_pos e3,if_pos ⟨e3.1,by omega⟩]; grind
     ·rw [if_neg e3,if_neg (by omega)]; grind
 rw [h.comb i c hi J,key n O (Rq n)]
 by_cases e:k<=i
 ·rw [Rb ⟨e,hi⟩,Rb e]
 ·rw [Ra (λe2=>e e2.1),Ra e]
theorem Gj.q7 {n:Nat}{A m:Mt}{k:Nat} (h:Gj n A k m) (I:k<n) {L:Nat->Rat} (hL:∀ i,i<n->L i≠0):Sim.q7 (k+1) (λr c=>L r*A r c)=L k*m k k*Sim.q7 k (λr c=>L r*A r c):=by
 have J:∀ c,c<n->sm (k+1) (λj=>(L k*m k (n+j) / L j)*(L j*A j c))=L k*m k c:=λc J=>by
  have Y:=h.NX (Nat.le_of_lt I) I J;rw [Rb (Rq k)] at Y;have e2:sm (k+1) (λj=>(L k*m k (n+j) / L j)*(L j*A j c))=sm (k+1) (λj=>L k*(m k (n+j)*A j c)):=oX (λj hj=>by
   have:=WV (L j) (hL j (by omega))
   rw [Rat.div_def]; grind)
  rw [e2,rU];have e3:sm (k+1) (λj=>m k (n+j)*A j c)=sm k (λj=>m k (n+j)*A j c)+m k (n+k)*A k c:=rfl;rw [e3,h.right k k I I (Nat.le_refl k),rq,Y]; grind
 have Z:=J5 (k:=k) (M:=λr c=>L r*A r c) (x:=λj=>L k*m k (n+j) / L j) (by
  rw [h.right k k I I (Rq k),rq,Rat.mul_one,WN];exact WV _ (hL k I)) (λc O=>by
  rw [J c (by omega),h.left k c I (by omega) O,qw (by omega)]; grind)
 rw [Z,J k I]
structure Jx (n:Nat) (A:Mt) (L:Nat->Rat) (B:Mt) (R:Nat->Rat):Prop where
 li:∀ i,i<n->uO (L i)
 l1:∀ i,i<n->1<=L i
 ai:∀ i c,i<n->c<n->uO (L i*A i c)
 b0:∀ i c,0<=B i c
 b1:∀ i,i<n->1<=B i i
 ab:∀ i c,i<n->c<n->-B i c<=L i*A i c/\L i*A i c<=B i c
 rs:∀ i,i<n->sm n (B i)<=R i
theorem Bk {f:Nat->Rat} (h:∀ i,0<=f i) {k:Nat}:∀ {n:Nat},k<=n->sm k f<=sm n f
 | 0,hk=>by
  obtain rfl:k=0:=by omega
  exact WS
 | n+1,hk=>by
  by_cases e:k=n+1
  ·subst e; exact WS
  ·have J:=Bk h (k:=k) (n:=n) (by omega)
   have O:=h n;have I:sm (n+1) f=sm n f+f n:=rfl;rw [I]
   grind
theorem NM {f:Nat->Rat} (h:∀ i,0<=f i) {k p:Nat} (Y:p<k):f p<=sm k f:=by
 have I:=Bk h (k:=p+1) (n:=k) (by omega)
 have J:=tO (n:=p) (f:=f) (λi _=>h i);have O:sm (p+1) f=sm p f+f p:=rfl
 grind
theorem Jx.Om {n:Nat}{A B:Mt}{L R:Nat->Rat} (h:Jx n A L B R) {k r:Nat} (I:r<k) (Y:k<=n):1<=sm k (B r):=by
 have J:=NM (h.b0 r) I;have O:=h.b1 r (by omega)
 grind
theorem Jx.R1 {n:Nat}{A B:Mt}{L R:Nat->Rat} (h:Jx n A L B R) {r:Nat} (I:r<n):1<=R r:=by
 have J:=h.Om I (Rq n);have O:=h.rs r I
 grind
theorem HM {f:Nat->Rat}{k:Nat}:∀ {n:Nat},k<=n->(∀ i,i<n->1<=f i)->pr k f<=pr n f
 | 0,hk,_=>by
  obtain rfl:k=0:=by omega
  exact WS
 | n+1,hk,h=>by
  by_cases e:k=n+1
  ·subst e; exact WS
  ·have J:=HM (k:=k) (n:=n) (by omega) (λi hi=>h i (by omega))
   have O:=qL (Rat.le_refl (a:=pr n f)) (h n (by omega)) (mL (λi hi=>by have:=h i (by omega); grind)) (by decide)
   have I:pr (n+1) f=pr n f*f n:=rfl;rw [I]
   grind
theorem Jx.prod {n:Nat}{A B:Mt}{L R:Nat->Rat} (h:Jx n A L B R) {k:Nat} (I:k<=n):pr k (λr=>sm k (B r))<=pr n R:=by
 have O:pr k (λr=>sm k (B r))<=pr k R:=HL (λr J=>by have:=h.Om J I; grind) (λr J=>Rat.le_trans (Bk (h.b0 r) I) (h.rs r (by omega)))
 exact WT O (HM I (λi hi=>h.R1 hi))
theorem Jx.q7 {n:Nat}{A B:Mt}{L R:Nat->Rat} (h:Jx n A L B R) {k:Nat} (J:k<=n):uO (Sim.q7 k (λr c=>L r*A r c))/\-pr n R<=Sim.q7 k (λr c=>L r*A r c)/\Sim.q7 k (λr c=>L r*A r c)<=pr n R:=by
 refine ⟨DW (λr c O I=>h.ai r c (by omega) (by omega)),?_⟩
 obtain ⟨d1,d2⟩:=Gi (n:=k) (M:=λr c=>L r*A r c) (A:=B) h.b0 (λr c O I=>h.ab r c (by omega) (by omega))
 have:=h.prod J;constructor <;> grind
theorem Gj.num {n:Nat}{A B m:Mt}{L R:Nat->Rat}{k:Nat} (h:Gj n A k m) (s:Jx n A L B R) (J:k<=n) {i p:Nat} (hi:i<n) (hp:p<k):
  ∃ N:Rat,uO N/\-(pr n R*R i)<=N/\N<=pr n R*R i/\(if k<=i then L i else 1)*m i (n+p)*Sim.q7 k (λr c=>L r*A r c)=N*L p:=by
 have hL:∀ j,j<n->L j≠0:=λj Z e=>by have:=s.l1 j Z; rw [e] at this; exact absurd this (by decide)
 have hx:∀ c,c<k->sm k (λj=>((if k<=i then L i else 1)*m i (n+j) / L j)*((λr c=>L r*A r c) j c))=if k<=i then -(L i*A i c) else dl i c:=λc I=>by
  have Y:=h.NX J hi (c:=c) (by omega)
  have e2:sm k (λj=>((if k<=i then L i else 1)*m i (n+j) / L j)*((λr c=>L r*A r c) j c))=sm k (λj=>(if k<=i then L i else 1)*(m i (n+j)*A j c)):=oX (λj Z=>by
   have:=WV (L j) (hL j (by omega))
   simp only [WN]
   grind)
  rw [e2,rU];have e3:=h.left i c hi (by omega) I
  by_cases e:k<=i
  ·rw [Rb e,Rb e]
   rw [Rb e,e3,qw (by omega)] at Y
   grind
  ·rw [Ra e,Ra e]
   rw [Ra e,e3] at Y
   grind
 have hb:∀ c,c<k->uO (if k<=i then -(L i*A i c) else dl i c):=λc I=>by
  by_cases e:k<=i
  ·rw [Rb e]
   obtain ⟨z,hz⟩:=s.ai i c hi (by omega)
   exact ⟨-z,by rw [hz,WR]⟩
  ·rw [Ra e]
   unfold dl
   split
   ·exact ⟨1,rfl⟩
   ·exact ⟨0,rfl⟩
 have hB:∀ c,c<k->-(B i c)<=(if k<=i then -(L i*A i c) else dl i c)/\(if k<=i then -(L i*A i c) else dl i c)<=B i c:=λc I=>by
  have h1:=s.ab i c hi (by omega)
  have h2:=s.b0 i c
  by_cases e:k<=i
  ·rw [Rb e]
   constructor <;> grind
  ·rw [Ra e]
   unfold dl
   split
   ·rename_i e2
    subst e2;have:=s.b1 i hi;constructor <;> grind
   ·constructor <;> grind
 have c1:=Gf (k:=k) (M:=λr c=>L r*A r c) (λr c O I=>s.ai r c (by omega) (by omega)) hb hx hp
 obtain ⟨c2,c3⟩:=IC (k:=k) (M:=λr c=>L r*A r c) (A:=B) (a:=B i) (S:=R i) s.b0 (s.b0 i) (λr c O I=>s.ab r c (by omega) (by omega)) hB (λr O=>s.Om O J) (WT (Bk (s.b0 i) J) (s.rs i hi)) hx hp
 have hP:=Rat.mul_le_mul_of_nonneg_right (s.prod J) (show (0:Rat)<=R i by have:=s.R1 hi; grind)
 refine ⟨_,c1,by grind,by grind,?_⟩
 have:=WV (L p) (hL p (by omega))
 rw [WN]
 grind
def qf (n:Nat) (x:Nat->Rat) (A:Mt):Rat:=sm n (λc=>x c*sm n (λj=>x j*A j c))
theorem K2 (n:Nat) (x:Nat->Rat) (A I:Mt):qf n x (λj c=>A j c+I j c)=qf n x A+qf n x I:=by
 unfold qf;rw [<- xy];refine oX (λc _=>?_);have:sm n (λj=>x j*(A j c+I j c))=sm n (λj=>x j*A j c)+sm n (λj=>x j*I j c):=by
  rw [<- xy];exact oX (λj _=>by grind)
 rw [this]; grind
theorem K3 (n:Nat) (x e:Nat->Rat) (b:Rat):qf n x (λj c=>b*e j*e c)=b*(sm n (λj=>x j*e j)*sm n (λj=>x j*e j)):=by
 unfold qf;have I:sm n (λc=>x c*sm n (λj=>x j*(b*e j*e c)))=sm n (λc=>(b*sm n (λj=>x j*e j))*(x c*e c)):=oX (λc _=>by
  have:sm n (λj=>x j*(b*e j*e c))=sm n (λj=>(b*e c)*(x j*e j)):=oX (λj _=>by grind)
  rw [this,rU]; grind)
 rw [I,rU]; grind
def gS:List (Rat×(Nat->Rat))->Mt
 | []=>λ_ _=>0
 | be::l=>λj c=>be.1*be.2 j*be.2 c+gS l j c
theorem sq_nonneg (a:Rat):0<=a*a:=by
 rcases (Rat.le_total:(0:Rat)<=a\/a<=0) with h | h
 ·exact WW h h
 ·have:=Rat.mul_nonneg (show (0:Rat)<=-a by grind) (show (0:Rat)<=-a by grind)
  grind
theorem Cd (n:Nat) (x:Nat->Rat):∀ (l:List (Rat×(Nat->Rat))),(∀ be ∈ l,0<be.1)->0<=qf n x (gS l)
 | [],_=>by
  have:qf n x (gS [])=0:=wb (λc _=>by
   rw [wb (λj _=>by show x j*0=0; grind)]; grind)
  rw [this]; exact WS
 | be::l,h=>by
  have O:=Cd n x l (λb J=>h b (Rc _ J));have I:=h be (Q9 ..);have e:qf n x (gS (be::l))=be.1*(sm n (λj=>x j*be.2 j)*sm n (λj=>x j*be.2 j))+qf n x (gS l):=by
   rw [<- K3,<- K2]; rfl
  rw [e];have Y:=WW (Rat.le_of_lt I) (sq_nonneg (sm n (λj=>x j*be.2 j)))
  grind
theorem Fl (n:Nat) (x:Nat->Rat):∀ (l:List (Rat×(Nat->Rat))),(∀ be ∈ l,0<be.1)->qf n x (gS l)=0->∀ be ∈ l,sm n (λj=>x j*be.2 j)=0
 | [],_,_,be,I=>by simp at I
 | be::l,h,h0,b,I=>by
  have h1:=Cd n x l (λb I=>h b (Rc _ I));have J:=h be (Q9 ..);have e:qf n x (gS (be::l))=be.1*(sm n (λj=>x j*be.2 j)*sm n (λj=>x j*be.2 j))+qf n x (gS l):=by
   rw [<- K3,<- K2]; rfl
  rw [e] at h0;have h3:=Rat.mul_nonneg (Rat.le_of_lt J) (sq_nonneg (sm n (λj=>x j*be.2 j)));have Z:qf n x (gS l)=0:=by grind
  have h5:be.1*(sm n (λj=>x j*be.2 j)*sm n (λj=>x j*be.2 j))=0:=by grind
  rcases RU.1 I with rfl | I
  ·rcases WU.1 h5 with O | O
   ·rw [O] at J; exact absurd J (Rat.lt_irrefl)
   ·rcases WU.1 O with Y | Y <;> exact Y
  ·exact Fl n x l (λb I=>h b (Rc _ I)) Z b I
inductive Lk (l:List (Rat×Nat×Nat)) (u:Nat):Nat->Prop
 | refl:Lk l u u
 | step {b:Rat}{v w:Nat}:Lk l u v->((b,v,w) ∈ l\/(b,w,v) ∈ l)->Lk l u w
def nq (F:Nat->Nat) (e:Rat×Nat×Nat):Rat×(Nat->Rat):=(e.1,λj=>dl (F j) e.2.1-dl (F j) e.2.2)
theorem Pe {n:Nat}{F:Nat->Nat}{l:List (Rat×Nat×Nat)} (hb:∀ e ∈ l,0<e.1) (hF:∀ i j,i<n->j<n->F i=F j->i=j)
  (hr:∀ i,i<n->∃ r,(∀ j,j<n->F j≠r)/\Lk l (F i) r):Pd n (gS (l.map (nq F))):=by
 intro x h0 i hi;have hz:=Fl n x (l.map (nq F)) (λbe J=>by
  obtain ⟨e,he,rfl⟩:=RY.1 J;exact hb e he) h0
 have hd:∀ p q:Nat,sm n (λj=>x j*(dl (F j) p-dl (F j) q))=sm n (λj=>x j*dl (F j) p)-sm n (λj=>x j*dl (F j) q):=λp q=>by
  have I:sm n (λj=>x j*(dl (F j) p-dl (F j) q))=sm n (λj=>x j*dl (F j) p+(-1)*(x j*dl (F j) q)):=oX (λj _=>by grind)
  rw [I,xy,rU]; grind
 have he:∀ (b:Rat) (p q:Nat),(b,p,q) ∈ l->sm n (λj=>x j*dl (F j) p)=sm n (λj=>x j*dl (F j) q):=λb p q h=>by
  have I:sm n (λj=>x j*(dl (F j) p-dl (F j) q))=0:=hz (nq F (b,p,q)) (RY.2 ⟨_,h,rfl⟩);have h2:=hd p q
  grind
 have hl:∀ u v,Lk l u v->sm n (λj=>x j*dl (F j) u)=sm n (λj=>x j*dl (F j) v):=λu v h=>by
  induction h with
  | refl=>rfl
  | step _ h ih=>
   rcases h with h | h
   ·rw [ih]; exact he _ _ _ h
   ·rw [ih]; exact (he _ _ _ h).symm
 obtain ⟨r,Z,hr2⟩:=hr i hi;have I:=hl _ _ hr2;have h2:sm n (λj=>x j*dl (F j) r)=0:=wb (λj O=>by rw [qw (Z j O)]; grind)
 have h3:sm n (λj=>x j*dl (F j) (F i))=x i*dl (F i) (F i):=CO hi (λj O Y=>by rw [qw (λe=>Y (hF j i O hi e))]; grind)
 rw [h2,h3,rq] at I
 grind
def uH (u:Nat):List (Rat×Nat×Nat)->Rat
 | []=>1
 | e::l=>(if e.2.1=u\/e.2.2=u then e.1 else 1)*uH u l
def wE:List (Rat×Nat×Nat)->Rat
 | []=>1
 | e::l=>e.1*wE l
theorem Bi {u:Nat}:∀ {l:List (Rat×Nat×Nat)},(∀ e ∈ l,uO e.1)->uO (uH u l)
 | [],_=>⟨1,rfl⟩
 | e::l,h=>by
  unfold uH;refine sN ?_ (Bi (λe he=>h e (Rc _ he)))
  split
  ·exact h e (Q9 ..)
  ·exact ⟨1,rfl⟩
theorem Af {u:Nat}:∀ {l:List (Rat×Nat×Nat)},(∀ e ∈ l,1<=e.1)->1<=uH u l
 | [],_=>WS
 | e::l,h=>by
  unfold uH;have I:=Af (u:=u) (l:=l) (λe he=>h e (Rc _ he));have J:=h e (Q9 ..)
  split
  ·have:=qL J I (by decide) (by decide)
   grind
  ·grind
theorem BK:∀ {l:List (Rat×Nat×Nat)},(∀ e ∈ l,1<=e.1)->1<=wE l
 | [],_=>WS
 | e::l,h=>by
  unfold wE;have I:=BK (l:=l) (λe he=>h e (Rc _ he));have J:=h e (Q9 ..);have:=qL J I (by decide) (by decide)
  grind
theorem Ey {u:Nat}:∀ {l:List (Rat×Nat×Nat)},(∀ e ∈ l,uO e.1/\1<=e.1)->∀ e ∈ l,(e.2.1=u\/e.2.2=u)->∀ t:Rat,uO t->uO (uH u l*(t / e.1))
 | [],_,e,he,_,_,_=>by simp at he
 | d::l,h,e,he,hu,t,ht=>by
  have hl:∀ e ∈ l,uO e.1/\1<=e.1:=λe he=>h e (Rc _ he);unfold uH;rcases RU.1 he with rfl | he
  ·rw [Rb hu]
   have J:e.1≠0:=λO=>by have:=(h e (Q9 ..)).2; rw [O] at this; exact absurd this (by decide)
   have:=Rat.mul_inv_cancel e.1 J;have I:e.1*uH u l*(t / e.1)=uH u l*t:=by rw [Rat.div_def]; grind
   rw [I];exact sN (Bi (λe he=>(hl e he).1)) ht
  ·have I:=Ey hl e he hu t ht
   have Y:(if d.2.1=u\/d.2.2=u then d.1 else 1)*uH u l*(t / e.1)=(if d.2.1=u\/d.2.2=u then d.1 else 1)*(uH u l*(t / e.1)):=Rat.mul_assoc ..
   rw [Y];refine sN ?_ I
   split
   ·exact (h d (Q9 ..)).1
   ·exact ⟨1,rfl⟩
theorem AI {F:Nat->Nat}{q:Rat} (I:1<=q) {p:Nat}:∀ {n:Nat},(∀ i j,i<n->j<n->F i=F j->i=j)->pr n (λi=>if F i=p then q else 1)<=q
 | 0,_=>I
 | n+1,h=>by
  have ih:=AI I (p:=p) (n:=n) (λi j hi O e=>h i j (by omega) (by omega) e)
  show pr n (λi=>if F i=p then q else 1)*(if F n=p then q else 1)<=q
  by_cases e:F n=p
  ·rw [Rb e]
   have:pr n (λi=>if F i=p then q else 1)=pr n (λ_=>1):=wV (λi hi=>Ra (λe2=>by
    have:=h i n (by omega) (by omega) (e2.trans e.symm)
    omega))
   rw [this];have J:∀ k,pr k (λ_=>(1:Rat))=1:=λk=>by
    induction k with
    | zero=>rfl
    | succ k ih=>show pr k (λ_=>(1:Rat))*1=1; rw [ih]; grind
   rw [J]; grind
  ·rw [if_neg e]; grind
theorem FJ {n:Nat}{F:Nat->Nat} (J:∀ i j,i<n->j<n->F i=F j->i=j):∀ {l:List (Rat×Nat×Nat)},(∀ e ∈ l,1<=e.1)->pr n (λi=>uH (F i) l)<=wE l*wE l
 | [],_=>by
  have Y:∀ k,pr k (λ_=>(1:Rat))=1:=λk=>by
   induction k with
   | zero=>rfl
   | succ k ih=>show pr k (λ_=>(1:Rat))*1=1; rw [ih]; grind
  show pr n (λ_=>(1:Rat))<=1*1;rw [Y,Rat.one_mul]; exact WS
 | e::l,h=>by
  have hl:∀ e ∈ l,1<=e.1:=λe he=>h e (Rc _ he);have I:=h e (Q9 ..);have ih:=FJ J hl;have O:pr n (λi=>uH (F i) (e::l))=pr n (λi=>if e.2.1=F i\/e.2.2=F i then e.1 else 1)*pr n (λi=>uH (F i) l):=by rw [<- Eo]; rfl
  have e2:pr n (λi=>if e.2.1=F i\/e.2.2=F i then e.1 else 1)<=pr n (λi=>(if F i=e.2.1 then e.1 else 1)*(if F i=e.2.2 then e.1 else 1)):=HL (λi _=>by split <;> grind) (λi _=>by
   have:=qL I I (by decide) (by decide)
   by_cases a:F i=e.2.1
   ·by_cases b:F i=e.2.2
    ·rw [Rb (.inl a.symm),Rb a,Rb b]
     have:=Rat.mul_le_mul_of_nonneg_left I (show (0:Rat)<=e.1 by grind)
     grind
    ·rw [if_pos (.inl a.symm),if_pos a,if_neg b]; grind
   ·by_cases b:F i=e.2.2
    ·rw [if_pos (.inr b.symm),if_neg a,if_pos b]; grind
    ·rw [if_neg (λh=>h.elim (λh=>a h.symm) (λh=>b h.symm)),if_neg a,if_neg b]; grind)
  rw [Eo] at e2;have s1:=AI (F:=F) I (p:=e.2.1) J;have s2:=AI (F:=F) I (p:=e.2.2) J;have n1:0<=pr n (λi=>if F i=e.2.1 then e.1 else 1):=mL (λi _=>by split <;> grind)
  have n2:0<=pr n (λi=>if F i=e.2.2 then e.1 else 1):=mL (λi _=>by split <;> grind)
  have Z:=qL s1 s2 n1 n2;have n3:0<=pr n (λi=>if e.2.1=F i\/e.2.2=F i then e.1 else 1):=mL (λi _=>by split <;> grind)
  have n4:0<=pr n (λi=>uH (F i) l):=mL (λi _=>by have:=Af (u:=F i) hl; grind)
  have m2:=qL (WT e2 Z) ih n3 n4;rw [O];have e3:wE (e::l)=e.1*wE l:=rfl;rw [e3]
  grind
def yP (t:Rat) (e:Rat×Nat×Nat):Rat×Nat×Nat:=(t / e.1,e.2)
def pj (F:Nat->Nat) (e:Rat×Nat×Nat):Rat×(Nat->Rat):=(e.1,λj=>dl (F j) e.2.1+dl (F j) e.2.2)
theorem xC (i j:Nat):dl i j=0\/dl i j=1:=by
 unfold dl
 split
 ·exact .inr rfl
 ·exact .inl rfl
theorem Hy (F:Nat->Nat) (i c:Nat):∀ {l:List (Rat×Nat×Nat)},(∀ e ∈ l,0<e.1)->-gS (l.map (pj F)) i c<=gS (l.map (nq F)) i c/\gS (l.map (nq F)) i c<=gS (l.map (pj F)) i c
 | [],_=>by
  show -(0:Rat)<=0/\(0:Rat)<=0;constructor <;> decide
 | e::l,h=>by
  obtain ⟨J,O⟩:=Hy F i c (l:=l) (λe he=>h e (List.mem_cons_of_mem _ he));have Y:=h e (List.mem_cons_self ..);have I:gS ((e::l).map (nq F)) i c=e.1*(dl (F i) e.2.1-dl (F i) e.2.2)*(dl (F c) e.2.1-dl (F c) e.2.2)+gS (l.map (nq F)) i c:=rfl;have e2:gS ((e::l).map (pj F)) i c=e.1*(dl (F i) e.2.1+dl (F i) e.2.2)*(dl (F c) e.2.1+dl (F c) e.2.2)+gS (l.map (pj F)) i c:=rfl;rw [I,e2];rcases xC (F i) e.2.1 with a | a <;> rcases xC (F i) e.2.2 with b | b <;> rcases xC (F c) e.2.1 with u | u <;> rcases xC (F c) e.2.2 with v | v <;> rw [a,b,u,v] <;> constructor <;> grind
theorem xZ (F:Nat->Nat) (i c:Nat):∀ {l:List (Rat×Nat×Nat)},(∀ e ∈ l,0<e.1)->0<=gS (l.map (pj F)) i c
 | [],_=>WS
 | e::l,h=>by
  have I:=xZ F i c (l:=l) (λe he=>h e (List.mem_cons_of_mem _ he));have J:=h e (List.mem_cons_self ..);have e2:gS ((e::l).map (pj F)) i c=e.1*(dl (F i) e.2.1+dl (F i) e.2.2)*(dl (F c) e.2.1+dl (F c) e.2.2)+gS (l.map (pj F)) i c:=rfl;rw [e2];rcases xC (F i) e.2.1 with a | a <;> rcases xC (F i) e.2.2 with b | b <;> rcases xC (F c) e.2.1 with u | u <;> rcases xC (F c) e.2.2 with v | v <;> rw [a,b,u,v] <;> grind
theorem Hz {F:Nat->Nat}{t:Rat} (ht:uO t) {l:List (Rat×Nat×Nat)} (Z:∀ e ∈ l,uO e.1/\1<=e.1) (i c:Nat):∀ {l':List (Rat×Nat×Nat)},(∀ e ∈ l',e ∈ l)->uO (uH (F i) l*gS ((l'.map (yP t)).map (nq F)) i c)
 | [],_=>by
  have:uH (F i) l*gS ((([]:List (Rat×Nat×Nat)).map (yP t)).map (nq F)) i c=0:=by show uH (F i) l*0=0; grind
  rw [this]; exact ⟨0,rfl⟩
 | e::l',h=>by
  have h1:=Hz (F:=F) ht Z i c (l':=l') (λe he=>h e (Rc _ he));have h2:=h e (Q9 ..);have e1:gS (((e::l').map (yP t)).map (nq F)) i c=(t / e.1)*(dl (F i) e.2.1-dl (F i) e.2.2)*(dl (F c) e.2.1-dl (F c) e.2.2)+gS ((l'.map (yP t)).map (nq F)) i c:=rfl;have I:∀ p q:Nat,uO (dl p q):=λp q=>by
   rcases xC p q with a | a <;> rw [a]
   ·exact ⟨0,rfl⟩
   ·exact ⟨1,rfl⟩
  have Y:∀ {a b:Rat},uO a->uO b->uO (a-b):=λ{a b} ⟨x,hx⟩ ⟨y,hy⟩=>⟨x-y,by rw [hx,hy,Rat.intCast_sub]⟩
  have e2:uH (F i) l*((t / e.1)*(dl (F i) e.2.1-dl (F i) e.2.2)*(dl (F c) e.2.1-dl (F c) e.2.2)+gS ((l'.map (yP t)).map (nq F)) i c)=(uH (F i) l*(t / e.1))*(dl (F i) e.2.1-dl (F i) e.2.2)*(dl (F c) e.2.1-dl (F c) e.2.2)+uH (F i) l*gS ((l'.map (yP t)).map (nq F)) i c:=by grind
  rw [e1,e2];refine zJ ?_ h1
  by_cases O:e.2.1=F i\/e.2.2=F i
  ·exact sN (sN (Ey Z e h2 O t ht) (Y (I _ _) (I _ _))) (Y (I _ _) (I _ _))
  ·have a:dl (F i) e.2.1=0:=qw (λJ=>O (.inl J.symm))
   have b:dl (F i) e.2.2=0:=qw (λJ=>O (.inr J.symm));rw [a,b];have:uH (F i) l*(t / e.1)*(0-0)*(dl (F c) e.2.1-dl (F c) e.2.2)=0:=by grind
   rw [this]; exact ⟨0,rfl⟩
def CT:List (Rat×Nat×Nat)->Rat
 | []=>0
 | e::l=>e.1+CT l
theorem uW (i j:Nat):0<=dl i j:=by rcases xC i j with h | h <;> rw [h] <;> decide
theorem Ka (i j:Nat):dl i j<=1:=by rcases xC i j with h | h <;> rw [h] <;> decide
theorem HW {F:Nat->Nat}{p:Nat}:∀ {n:Nat},(∀ i j,i<n->j<n->F i=F j->i=j)->sm n (λc=>dl (F c) p)<=1
 | 0,_=>by unfold sm; decide
 | n+1,h=>by
  have ih:=HW (F:=F) (p:=p) (n:=n) (λi j hi I e=>h i j (by omega) (by omega) e)
  show sm n (λc=>dl (F c) p)+dl (F n) p<=1
  by_cases e:F n=p
  ·have:sm n (λc=>dl (F c) p)=0:=wb (λi hi=>qw (λe2=>by
    have:=h i n (by omega) (by omega) (e2.trans e.symm)
    omega))
   rw [this];have:=Ka (F n) p
   grind
  ·rw [qw e]; grind
theorem Hf {n:Nat}{F:Nat->Nat} (I:∀ i j,i<n->j<n->F i=F j->i=j) (i:Nat):∀ {l:List (Rat×Nat×Nat)},(∀ e ∈ l,0<e.1)->sm n (gS (l.map (pj F)) i)<=4*CT l
 | [],_=>by
  have:sm n (gS (([]:List (Rat×Nat×Nat)).map (pj F)) i)=0:=wb (λ_ _=>rfl);rw [this];show (0:Rat)<=4*0
  grind
 | e::l,h=>by
  have ih:=Hf I i (l:=l) (λe he=>h e (Rc _ he));have J:=h e (Q9 ..);have O:sm n (gS ((e::l).map (pj F)) i)=(e.1*(dl (F i) e.2.1+dl (F i) e.2.2))*(sm n (λc=>dl (F c) e.2.1)+sm n (λc=>dl (F c) e.2.2))+sm n (gS (l.map (pj F)) i):=by
   rw [<- xy,<- rU,<- xy]; rfl
  have e2:CT (e::l)=e.1+CT l:=rfl;rw [O,e2];have s1:=HW (F:=F) (p:=e.2.1) I;have s2:=HW (F:=F) (p:=e.2.2) I;have n1:=tO (n:=n) (f:=λc=>dl (F c) e.2.1) (λc _=>uW _ _);have n2:=tO (n:=n) (f:=λc=>dl (F c) e.2.2) (λc _=>uW _ _);have d1:=Ka (F i) e.2.1;have d2:=Ka (F i) e.2.2;have d3:=uW (F i) e.2.1;have d4:=uW (F i) e.2.2;have Y:e.1*(dl (F i) e.2.1+dl (F i) e.2.2)<=e.1*2:=Rat.mul_le_mul_of_nonneg_left (by grind) (Rat.le_of_lt J)
  have Z:0<=e.1*(dl (F i) e.2.1+dl (F i) e.2.2):=Rat.mul_nonneg (Rat.le_of_lt J) (by grind)
  have m2:=qL Y (show sm n (λc=>dl (F c) e.2.1)+sm n (λc=>dl (F c) e.2.2)<=2 by grind) Z (by grind)
  grind
theorem Mp {n:Nat}{F:Nat->Nat}{l:List (Rat×Nat×Nat)}{t:Rat} (hF:∀ i j,i<n->j<n->F i=F j->i=j) (ht:uO t) (t0:0<t) (Z:∀ e ∈ l,uO e.1/\1<=e.1):
  Jx n (gS ((l.map (yP t)).map (nq F))) (λi=>uH (F i) l) (λi c=>uH (F i) l*gS ((l.map (yP t)).map (pj F)) i c+dl i c) (λi=>uH (F i) l*(4*CT (l.map (yP t)))+1):=by
 have hw:∀ e ∈ l.map (yP t),0<e.1:=λe he=>by
  obtain ⟨d,hd,rfl⟩:=List.mem_map.1 he;have O:=(Z d hd).2;show 0<t / d.1;rw [Rat.div_def];exact Rat.mul_pos t0 (Rat.inv_pos.2 (by grind))
 have I:∀ i,1<=uH (F i) l:=λi=>Af (λe he=>(Z e he).2);have J:∀ i c,0<=uH (F i) l*gS ((l.map (yP t)).map (pj F)) i c:=λi c=>Rat.mul_nonneg (by have:=I i; grind) (xZ F i c hw)
 refine ⟨λi _=>Bi (λe he=>(Z e he).1),λi _=>I i,λi c _ _=>Hz ht Z i c (λe he=>he),λi c=>?_,λi _=>?_,λi c _ _=>?_,λi hi=>?_⟩
 ·have:=J i c
  have:=uW i c
  grind
 ·have:=J i i
  rw [rq]; grind
 ·obtain ⟨O,h2⟩:=Hy F i c hw
  have Y:0<=uH (F i) l:=by have:=I i; grind
  have m1:=Rat.mul_le_mul_of_nonneg_left O Y;have m2:=Rat.mul_le_mul_of_nonneg_left h2 Y;have:=uW i c;constructor <;> grind
 ·rw [xy,rU]
  have O:=Hf hF i hw;have Y:0<=uH (F i) l:=by have:=I i; grind
  have m1:=Rat.mul_le_mul_of_nonneg_left O Y;have h2:sm n (λc=>dl i c)<=1:=by
   have e:sm n (λc=>dl i c)=sm n (λc=>dl ((λx:Nat=>x) c) i):=oX (λc _=>by
    unfold dl
    by_cases a:i=c
    ·subst a; rfl
    ·rw [Ra a,Ra (λb=>a b.symm)])
   rw [e];exact HW (λi j _ _ e=>e)
  have e2:sm n (λc=>gS ((l.map (yP t)).map (pj F)) i c)=sm n (gS ((l.map (yP t)).map (pj F)) i):=rfl;rw [e2]
  grind
theorem Hh {q:Rat}:∀ {l:List (Rat×Nat×Nat)},(∀ e ∈ l,1<=e.1/\e.1<=q)->wE l<=pr l.length (λ_=>q)
 | [],_=>WS
 | e::l,h=>by
  have J:=Hh (q:=q) (l:=l) (λe he=>h e (List.mem_cons_of_mem _ he));have O:=h e (List.mem_cons_self ..);have Y:=BK (l:=l) (λe he=>(h e (List.mem_cons_of_mem _ he)).1);have Z:=qL J O.2 (by grind) (by grind)
  have I:wE (e::l)=e.1*wE l:=rfl;have e2:pr (e::l).length (λ_=>q)=pr l.length (λ_=>q)*q:=rfl;rw [I,e2]; grind
theorem Pa {n:Nat}{F:Nat->Nat}{l:List (Rat×Nat×Nat)}{s w:Rat} (O:∀ i j,i<n->j<n->F i=F j->i=j) (J:∀ e ∈ l,1<=e.1) (s0:0<=s) (hs:s<=w):
  pr n (λi=>uH (F i) l*s+1)<=wE l*wE l*pr n (λ_=>w+1):=by
 have I:∀ i,1<=uH (F i) l:=λi=>Af J;have p1:pr n (λi=>uH (F i) l*s+1)<=pr n (λi=>uH (F i) l*(w+1)):=HL (λi _=>by
  have:=Rat.mul_nonneg (show (0:Rat)<=uH (F i) l by have:=I i; grind) s0
  grind) (λi _=>by
  have:=Rat.mul_le_mul_of_nonneg_left hs (show (0:Rat)<=uH (F i) l by have:=I i; grind)
  have:=I i
  grind)
 rw [Eo] at p1;have p2:=FJ O J;have Y:0<=pr n (λi=>uH (F i) l):=mL (λi _=>by have:=I i; grind)
 have Z:0<=pr n (λ_:Nat=>w+1):=mL (λi _=>by grind)
 exact WT p1 (qL p2 WS Y Z)
def yV (n:Nat):List Nat:=(List.range n).map (·+1)
theorem xx (n:Nat):(yV n).length=n:=by simp [yV]
theorem Ez {n i:Nat} (hi:i<n):(yV n)[i]? = some (i+1):=by simp [yV,hi]
theorem CM {α:Type}{l:List α}{i:Nat}{a:α} (h:l[i]? = some a):l.set i a=l:=by
 apply SM;intro j
 by_cases e:i=j
 ·subst e
  rw [RF (Q7.1 h).1,h]
 ·rw [Ry e]
theorem Bj {n i:Nat} (hi:i<n):(yV n).set i (i+1)=yV n:=CM (Ez hi)
theorem FK {n i:Nat} (hi:i<n):((yV n).set ((i:Int)).toNat (i+1)).set ((i:Int)).toNat (i+1)=yV n:=by
 rw [Q5,Bj hi,Bj hi]
structure uT (rows:List (List LR)) (n w W:Nat) (m:Mt):Prop where
 len:rows.length=n
 row:∀ i,i<n->∃ l,rows[i]? = some l/\l.length=w/\∀ c,c<w->∃ y,l[c]? = some y/\o9 y/\RL y W/\rv y=m i c
theorem uT.congr {rows:List (List LR)}{n w W:Nat}{m J:Mt} (h:uT rows n w W m) (e:∀ i c,i<n->c<w->m i c=J i c):uT rows n w W J:=by
 refine ⟨h.len,λi hi=>?_⟩;obtain ⟨l,O,Y,Z⟩:=h.row i hi;refine ⟨l,O,Y,λc I=>?_⟩;obtain ⟨y,y1,y2,y3,y4⟩:=Z c I;exact ⟨y,y1,y2,y3,by rw [y4,e i c hi I]⟩
theorem uT.mono {rows:List (List LR)}{n w W I:Nat}{m:Mt} (h:uT rows n w W m) (e:W<=I):uT rows n w I m:=by
 refine ⟨h.len,λi hi=>?_⟩;obtain ⟨l,J,O,Y⟩:=h.row i hi;refine ⟨l,J,O,λc Z=>?_⟩;obtain ⟨y,y1,y2,y3,y4⟩:=Y c Z;exact ⟨y,y1,y2,y3.mono e,y4⟩
theorem uT.set {rows:List (List LR)}{n w W:Nat}{m:Mt} (h:uT rows n w W m) {i c:Nat} (hi:i<n) (hc:c<w) {e:LR} (he:o9 e) (hW:RL e W):
  uT (rows.set i (((rows[i]?).getD []).set c e)) n w W (λi' I=>if i'=i/\I=c then rv e else m i' I):=by
 refine ⟨by rw [Sr]; exact h.len,λi' Z=>?_⟩
 obtain ⟨l,h1,h2,h3⟩:=h.row i' Z
 by_cases O:i=i'
 ·subst O
  refine ⟨l.set c e,by rw [h1,RF (by rw [h.len]; exact hi)]; rfl,by rw [Sr]; exact h2,λI J=>?_⟩
  by_cases e2:c=I
  ·subst e2
   exact ⟨e,by rw [RF (by omega)],he,hW,by rw [Rb ⟨rfl,rfl⟩]⟩
  ·obtain ⟨y,y1,y2,y3,y4⟩:=h3 I J
   exact ⟨y,by rw [Ry e2]; exact y1,y2,y3,by rw [Ra (λY=>e2 Y.2.symm)]; exact y4⟩
 ·refine ⟨l,by rw [Ry O]; exact h1,h2,λI J=>?_⟩
  obtain ⟨y,y1,y2,y3,y4⟩:=h3 I J;exact ⟨y,y1,y2,y3,by rw [Ra (λY=>O Y.1.symm)]; exact y4⟩
theorem HD (rows:List (List LR)) (i:Nat):((([]::rows:List (List LR))[i+1]?).getD [])=(rows[i]?).getD []:=rfl
theorem Oe (rows:List (List LR)) (i:Nat) (l:List LR):([]::rows:List (List LR)).set (i+1) l=[]::rows.set i l:=rfl
theorem uT.K7 {rows:List (List LR)}{n w W:Nat}{m:Mt} (h:uT rows n w W m) {i:Nat} (hi:i<n):((([]::rows:List (List LR))[i+1]?).getD []).length=w:=by
 obtain ⟨l,I,J,_⟩:=h.row i hi;rw [HD,I]; exact J
theorem pH {R:Type}{Q:R->Prop}{n i:Nat} (hi:i<n) {f:Nat->Option R} (h:Gd (f (i+1)) Q):Gd (idx (yV n) (i:Int) f) Q:=
 Gd.ix (by omega) (by rw [Q5]; exact Ez hi) h
theorem tk {R:Type}{Q:R->Prop}{rows:List (List LR)}{n w W:Nat}{m:Mt} (h:uT rows n w W m) {i c:Nat} (hi:i<n) (O:c<w) {f:LR->Option R}
  (Y:∀ y,o9 y->RL y W->rv y=m i c->Gd (f y) Q):Gd (idx ((([]::rows:List (List LR))[i+1]?).getD []) (c:Int) f) Q:=by
 obtain ⟨l,I,h2,J⟩:=h.row i hi;obtain ⟨y,Z,y2,y3,y4⟩:=J c O;refine Gd.ix (y:=y) (by omega) ?_ (Y y y2 y3 y4)
 rw [HD,I,Q5]; exact Z
theorem yu {r:LR} (h:o9 r):decide (cX r=0)=decide (rv r=0):=by
 unfold cX;rw [WX,sign_zero h.n,HU h]
theorem MF {a b:LR} (J:o9 a) (O:o9 b) (h0:rv b≠0) {A B:Nat} (la:RL a A) (lb:RL b B) (hz:A+B<=800000):
  Gd (qB a b) (λr=>o9 r/\RL r (A+B)/\rv r=rv a / rv b):=by
 have:=la.1; have:=la.2; have:=lb.1; have:=lb.2
 have Y:nv b.N.words≠0:=λe=>h0 ((HU O).2 e);unfold qB;refine Gd.eN (wz J.n O.d (by omega)) (λx hx=>Gd.eN (wz J.d O.n (by omega)) (λz I=>?_))
 refine Gd.eN (yo hx.1 I.1 (GH I.2.2 J.nz Y) (by omega) (by omega)) (λr Z=>Gd.ret ⟨Z.1,⟨by omega,by omega⟩,?_⟩)
 rw [Z.2.2.2,hx.2.2,I.2.2];unfold rv;rw [WN,Rat.inv_divInt,Rat.divInt_mul_divInt]
end Go.Sim
namespace Go.Sim
open Go
open _root_.Go.IntKind (i64 u64 u32 u8)
theorem FM {a:LI} (h:th a):(0<eV a↔0<fV a)/\(eV a<0↔fV a<0):=by
 have J:=xp h.wf h.tp;unfold eV fV
 by_cases I:a.words=[]
 ·have O:nv a.words=0:=J.2 I
  have hm:a.minus=false:=by
   cases hm:a.minus
   ·rfl
   ·exact absurd I (h.sign hm)
  simp [I,hm,nv]
 ·have O:nv a.words≠0:=λe=>I (J.1 e)
  have hl:a.words.length≠0:=λe=>I (RA e);rw [Ra (by simp; exact I)]
  cases hm:a.minus
  ·simp; omega
  ·simp; omega
theorem Di {a b c d:Int} (I:0<b) (J:0<d):Rat.divInt a b<Rat.divInt c d↔a*d<c*b:=by
 rw [<- Rat.not_le,<- Int.not_le];refine not_congr ?_;have e:=Rat.divInt_sub_divInt a c (d₁:=b) (d₂:=d) (by omega) (by omega)
 have k:=WM (a:=a*d-c*b) (b:=b*d) (Int.mul_pos I J);rw [<- e] at k;constructor
 ·intro h
  have:0<=Rat.divInt a b-Rat.divInt c d:=by grind
  have:=k.1 this;omega
 ·intro h
  have:0<=Rat.divInt a b-Rat.divInt c d:=k.2 (by omega)
  grind
theorem o9.Kb {a:LR} (h:o9 a):0<fV a.D:=by
 rw [qy h.pos];have:=h.nz;omega
theorem Et {a b:LR} (J:o9 a) (O:o9 b) {A B:Nat} (la:RL a A) (lb:RL b B) (hz:A+B<=800000):
  Gd (mR a b) (λr=>(0<r↔rv b<rv a)/\(r<0↔rv a<rv b)):=by
 have:=la.1; have:=la.2; have:=lb.1; have:=lb.2
 unfold mR se;refine Gd.eN (wz J.n O.d (by omega)) (λx Y=>Gd.eN (wz O.n J.d (by omega)) (λy Z=>?_))
 refine Gd.eN (P:=λr=>(0<r↔rv b<rv a)/\(r<0↔rv a<rv b)) (Gd.eN (L7 Y.1 Z.1 (by omega) (by omega)) (λz I=>Gd.ret ?_)) (λr hr=>Gd.ret hr)
 have s:=FM I.1;rw [I.2.2,Y.2.2,Z.2.2] at s;unfold rv;rw [Di O.Kb J.Kb,Di J.Kb O.Kb];exact ⟨s.1.trans ⟨λh=>by omega,λh=>by omega⟩,s.2.trans ⟨λh=>by omega,λh=>by omega⟩⟩
theorem Dx {a:LR} (h:o9 a):cX a<0↔rv a<0:=by
 have k:=WM (a:=fV a.N) (b:=fV a.D) h.Kb;unfold cX rv;rw [(FM h.n).2,<- Rat.not_le,k];omega
def Ol (q:Rat):Rat:=if q<0 then -q else q
theorem HQ {a:LR} (I:o9 a) {A:Nat} (la:RL a A) (O:A<=800000):Gd (ox a) (λr=>o9 r/\RL r A/\rv r=Ol (rv a)):=by
 unfold ox Ol;refine Gd.ite (λh=>?_) (λh=>?_)
 ·have h:rv a<0:=(Dx I).1 (Q_ h)
  refine Gd.eN (HS I la O) (λr J=>Gd.ret ?_);rw [Rb h]; exact J
 ·have h:¬ rv a<0:=λe=>Rf h ((Dx I).2 e)
  rw [Ra h];exact Gd.ret ⟨I,la,rfl⟩
abbrev EO:=(List Nat×List (List LR))×List Int
theorem yE {j w:Nat} (I:j<=w) (J:w<=1000):i64.wrap ((j:Int)+1)=((j+1:Nat):Int):=by
 rw [bJ ⟨by omega,by omega⟩]; omega
theorem Qa {n w W k i:Nat}{l:List Int}{sg:List Nat}{p:Int}{k1 k2:Nat}{Z:List (List LR)->Option EO}{f:LR}{rows:List (List LR)}{m:Mt}{F:Rat}{Q:EO->Prop}
  (hSG:(sg.set ((l.length:Int):Int).toNat k1).set (p:Int).toNat k2=yV n) (hl:l.length=k) (hk:k<n) (hi:i<n) (hw:w<=1000) (hkw:k<=w) (hW:W<=100000) (hik:i≠k)
  (hf:o9 f) (hfl:RL f W) (fv:rv f=F) (hM:uT rows n w W m) (hb:∀ c,k<=c->c<w->RB (m i c-F*m k c) W)
  (hnx:∀ I,uT I n w W (λi' c=>if i'=i/\k<=c then m i c-F*m k c else m i' c)->Gd (Z ([]::I)) Q):
  Gd (fX (λs n'=>oP l sg p k1 k2 Z i f s.1 s.2 n') eY ((k:Int),[]::rows)) Q:=by
 refine Gd.fX (λs=>∃ (j:Nat) (I:List (List LR)),s=((j:Int),[]::I)/\k<=j/\j<=w/\uT I n w W (λi' c=>if i'=i/\k<=c/\c<j then m i c-F*m k c else m i' c)) (λs=>((w:Int)-s.1).toNat) ?_ eY _
  ⟨k,rows,rfl,Rq _,hkw,hM.congr (λi' c _ _=>by rw [Ra (by omega)])⟩ (by simp only [eY]; omega)
 rintro _ nx ⟨j,I,rfl,hkj,hjw,J⟩ O;show Gd (oP l sg p k1 k2 Z i f (j:Int) ([]::I) nx) Q;unfold oP;simp only [hSG];refine pH hi ?_;rw [J.K7 hi]
 by_cases hj:j<w
 ·refine Gd.ite (λ_=>?_) (λh=>absurd (WZ.1 h) (by simp; omega))
  rw [hl];refine pH hk (tk J hk hj (λy hy hyl hyv=>?_));rw [Ra (by omega)] at hyv
  refine Gd.ite (λhs=>?_) (λhs=>?_)
  ·refine pH hi (pH hi (tk J hi hj (λyi gi gil giv=>pH hk (tk J hk hj (λyr gr grl grv=>?_)))))
   rw [Ra (by omega)] at giv grv
   refine Gd.eN (Ac hf gr hfl grl (by omega)) (λmm Y=>Gd.eN (yC gi Y.1 gil Y.2.1 (by omega)) (λr hr=>tk J hi hj (λ_ _ _ _=>?_)))
   have hv:rv r=m i j-F*m k j:=by rw [hr.2.2,Y.2.2,giv,grv,fv]
   have hrl:RL r W:=hr.1.rb (by rw [hv]; exact hb j hkj hj)
   unfold mI;rw [yE hjw hw];have h2:=J.set hi hj hr.1 hrl;refine O _ ⟨j+1,_,rfl,by omega,by omega,h2.congr (λi' c _ _=>?_)⟩ (by simp only; omega)
   by_cases e:i'=i/\c=j
   ·obtain ⟨rfl,rfl⟩:=e
    rw [Rb ⟨rfl,rfl⟩,Rb (by omega),hv]
   ·rw [Ra e]
    by_cases e2:i'=i/\k<=c/\c<j
    ·rw [Rb e2,Rb (by omega)]
    ·rw [Ra e2,Ra (by omega)]
  ·have h0:m k j=0:=by
    have:=yu hy;rw [hyv] at this;have hs2:decide (cX y=0)=true:=by simpa using hs
    rw [this] at hs2;exact Q_ hs2
   unfold mI;rw [yE hjw hw];refine O _ ⟨j+1,I,rfl,by omega,by omega,J.congr (λi' c _ _=>?_)⟩ (by simp only; omega)
   by_cases e:i'=i/\c=j
   ·obtain ⟨rfl,rfl⟩:=e
    rw [if_neg (by omega),if_pos (by omega),h0]; grind
   ·by_cases e2:i'=i/\k<=c/\c<j
    ·rw [Rb e2,Rb (by omega)]
    ·rw [Ra e2,Ra (by omega)]
 ·refine Gd.ite (λh=>absurd (Q_ h) (by omega)) (λ_=>?_)
  unfold jV;refine hnx I (J.congr (λi' c _ hc=>?_))
  by_cases e:i'=i/\k<=c
  ·rw [Rb e,Rb (by omega)]
  ·rw [Ra e,Ra (by omega)]
theorem P_ {n w W k:Nat}{l:List Int}{sg:List Nat}{p:Int}{k1 k2:Nat}{K:List (List LR)->Option EO}{rows:List (List LR)}{m:Mt}{Q:EO->Prop}
  (hSG:(sg.set ((l.length:Int):Int).toNat k1).set (p:Int).toNat k2=yV n) (hl:l.length=k) (hk:k<n) (hw:w<=1000) (hkw:k<w) (hW:W<=100000)
  (hM:uT rows n w W m) (hz:∀ c,c<k->m k c=0) (hb:∀ i c,i<n->i≠k->k<=c->c<w->RB (m i c-m i k*m k c) W)
  (hK:∀ I,uT I n w W (λi c=>if i=k then m k c else m i c-m i k*m k c)->Gd (K ([]::I)) Q):
  Gd (jW (λkk s n'=>qU l (k:Int) sg p k1 k2 kk s n') K n 0 ([]::rows)) Q:=by
 refine Gd.jW (λM i s=>i+M=n/\∃ I:List (List LR),s=[]::I/\uT I n w W (λi' c=>if i'<i/\i'≠k then m i' c-m i' k*m k c else m i' c)) ?_ ?_ n 0 _
  ⟨by omega,rows,rfl,hM.congr (λi' c _ _=>by rw [Ra (by omega)])⟩
 ·rintro M i _ nx ⟨hiM,I,rfl,J⟩ Z
  have hi:i<n:=by omega
  unfold qU;simp only [hSG];rw [hl];refine Gd.ite (λh=>?_) (λh=>?_)
  ·have e:i=k:=by have:=Q_ h; omega
   subst e;unfold jV;refine Z _ ⟨by omega,I,rfl,J.congr (λi' c _ _=>?_)⟩
   by_cases e:i'<i/\i'≠i
   ·rw [Rb e,Rb (by omega)]
   ·rw [Ra e,Ra (by omega)]
  ·have O:i≠k:=λe=>by rw [e] at h; simp at h
   refine pH hi (tk J hi hkw (λy hy hyl hyv=>?_));rw [Ra (by omega)] at hyv
   refine Gd.ite (λhs=>?_) (λhs=>?_)
   ·have h0:m i k=0:=by
     have:=yu hy;rw [hyv] at this;rw [this] at hs;exact Q_ hs
    unfold jV;refine Z _ ⟨by omega,I,rfl,J.congr (λi' c _ _=>?_)⟩
    by_cases e:i'=i
    ·subst e
     rw [if_neg (by omega),if_pos ⟨by omega,O⟩,h0]; grind
    ·by_cases e2:i'<i/\i'≠k
     ·rw [Rb e2,Rb (by omega)]
     ·rw [Ra e2,Ra (by omega)]
   ·refine pH hi (tk J hi hkw (λf hf hfl hfv=>?_))
    rw [Ra (by omega)] at hfv
    refine Qa (m:=λi' c=>if i'<i/\i'≠k then m i' c-m i' k*m k c else m i' c) hSG hl hk hi hw (by omega) hW O hf hfl hfv J (λc h1 h2=>?_) (λY hM''=>?_)
    ·rw [Ra (by omega),Ra (by omega)]
     exact hb i c hi O h1 h2
    ·refine Z _ ⟨by omega,Y,rfl,hM''.congr (λi' c _ _=>?_)⟩
     by_cases e:i'=i
     ·subst e
      rw [Rb (show i'<i'+1/\i'≠k from ⟨by omega,O⟩),Ra (show ¬ (i'<i'/\i'≠k) by omega),Ra (show ¬ (k<i'/\k≠k) by omega)]
      by_cases e3:k<=c
      ·rw [Rb ⟨rfl,e3⟩]
      ·rw [if_neg (by omega),hz c (by omega)]; grind
     ·rw [Ra (show ¬ (i'=i/\k<=c) from λhh=>e hh.1)]
      by_cases e2:i'<i/\i'≠k
      ·rw [Rb e2,Rb (by omega)]
      ·rw [Ra e2,Ra (by omega)]
 ·rintro i _ ⟨hi,I,rfl,J⟩
  refine hK I (J.congr (λi' c hi' _=>?_))
  by_cases e:i'=k
  ·subst e; rw [Ra (by omega),Rb rfl]
  ·rw [Rb ⟨by omega,e⟩,Ra e]
def Kf (k:Nat) (m:Mt):Mt:=λi c=>if i=k/\k<=c then m k c / m k k else m i c
theorem DZ {k i:Nat} (h:i≠k) (m:Mt) (c:Nat):Kf k m i c=m i c:=Ra (λI=>h I.1)
theorem Gm {k c:Nat} (h:k<=c) (m:Mt):Kf k m k c=m k c / m k k:=Rb ⟨rfl,h⟩
theorem Gn {k c:Nat} (h:c<k) (m:Mt):Kf k m k c=m k c:=Ra (λI=>by omega)
theorem P9 {n w W k:Nat}{l:List Int}{sg:List Nat}{p:Int}{k1 k2:Nat}{nx:(List Int×Int×List Nat×List (List LR))->Option EO}{d:LR}{rows:List (List LR)}{m:Mt}{Q:EO->Prop}
  (hSG:(sg.set ((l.length:Int):Int).toNat k1).set (p:Int).toNat k2=yV n) (hl:l.length=k) (O:k<n) (hn:n<=1000) (hw:w<=1000) (hkw:k<w) (hW:W<=100000)
  (hd:o9 d) (hdl:RL d W) (hdv:rv d=m k k) (hd0:m k k≠0) (hM:uT rows n w W m) (hz:∀ c,c<k->m k c=0) (hb:∀ i c,i<n->c<w->RB (vd k m i c) W)
  (hnx:∀ I,uT I n w W (vd k m)->Gd (nx (l++[(k:Int)],((k+1:Nat):Int),yV n,[]::I)) Q):
  Gd (fX (λs n'=>oO l (k:Int) sg nx p k1 k2 d s.1 s.2 n') eY ((k:Int),[]::rows)) Q:=by
 refine Gd.fX (λs=>∃ (j:Nat) (I:List (List LR)),s=((j:Int),[]::I)/\k<=j/\j<=w/\uT I n w W (λi' c=>if i'=k/\k<=c/\c<j then m k c / m k k else m i' c)) (λs=>((w:Int)-s.1).toNat) ?_ eY _
  ⟨k,rows,rfl,Rq _,by omega,hM.congr (λi' c _ _=>by rw [Ra (by omega)])⟩ (by simp only [eY]; omega)
 rintro _ nxL ⟨j,I,rfl,hkj,hjw,J⟩ hnext;show Gd (oO l (k:Int) sg nx p k1 k2 d (j:Int) ([]::I) nxL) Q;have hdiv:m k k / m k k=1:=by rw [WN]; exact WV _ hd0
 unfold oO;simp only [hSG];rw [hl];refine pH O ?_;rw [J.K7 O]
 by_cases hj:j<w
 ·refine Gd.ite (λ_=>?_) (λh=>absurd (WZ.1 h) (by simp; omega))
  refine pH O (pH O (tk J O hj (λy hy hyl hyv=>?_)));rw [Ra (by omega)] at hyv
  refine Gd.eN (MF hy hd (by rw [hdv]; exact hd0) hyl hdl (by omega)) (λr hr=>tk J O hj (λ_ _ _ _=>?_))
  have hv:rv r=m k j / m k k:=by rw [hr.2.2,hyv,hdv]
  have hrl:RL r W:=hr.1.rb (by
   rw [hv];have:=hb k j O hj;unfold vd at this;rw [Rb rfl] at this;exact this)
  rw [yE hjw hw];refine hnext _ ⟨j+1,_,rfl,by omega,by omega,(J.set O hj hr.1 hrl).congr (λi' c _ _=>?_)⟩ (by simp only; omega)
  by_cases e:i'=k/\c=j
  ·obtain ⟨rfl,rfl⟩:=e
   rw [Rb ⟨rfl,rfl⟩,Rb (by omega),hv]
  ·rw [Ra e]
   by_cases e2:i'=k/\k<=c/\c<j
   ·rw [Rb e2,Rb (by omega)]
   ·rw [Ra e2,Ra (by omega)]
 ·refine Gd.ite (λh=>absurd (Q_ h) (by omega)) (λ_=>?_)
  rw [xx,Q5];refine Gd.nd (by omega) ?_
  refine P_ (m:=Kf k m) hSG hl O hw hkw hW (J.congr (λi' c _ hc=>?_)) (λc hc=>(Gn hc m).trans (hz c hc)) (λi c hi Z h1 h2=>?_) (λY hM''=>?_)
  ·unfold Kf
   by_cases e:i'=k/\k<=c
   ·rw [Rb e,Rb (by omega)]
   ·rw [Ra e,Ra (by omega)]
  ·rw [DZ Z,DZ Z,Gm h1]
   have:=hb i c hi h2;unfold vd at this;rw [Ra Z] at this;exact this
  ·refine Gd.nd (by rw [show ([(k:Int)]:List Int).length=1 from rfl]; omega) ?_
   unfold oN;rw [yE (show k<=w by omega) hw]
   refine hnx Y (hM''.congr (λi c _ _=>?_));unfold vd
   by_cases e:i=k
   ·subst e
    rw [Rb rfl,Rb rfl]
    by_cases e2:i<=c
    ·rw [Gm e2]
    ·rw [Gn (by omega),hz c (by omega),Rat.div_def]; grind
   ·rw [Ra e,Ra e,DZ e,DZ e]
    by_cases e2:k<=c
    ·rw [Gm e2]
    ·rw [Gn (by omega),hz c (by omega),Rat.div_def]; grind
theorem I5 {n w W k:Nat}{O:Int}{l:List Int}{nx:(List Int×Int×List Nat×List (List LR))->Option EO}{rows:List (List LR)}{m:Mt}{Q:EO->Prop}
  (hl:l.length=k) (I:k<n) (hc:(k:Int)<O) (hn:n<=1000) (hw:w<=1000) (Y:k<w) (hW:W<=100000)
  (Z:m k k≠0) (hM:uT rows n w W m) (hz:∀ c,c<k->m k c=0) (hb:∀ i c,i<n->c<w->RB (vd k m i c) W)
  (hnx:∀ J,uT J n w W (vd k m)->Gd (nx (l++[(k:Int)],((k+1:Nat):Int),yV n,[]::J)) Q):
  Gd (mH O l (k:Int) (yV n) ([]::rows) nx) Q:=by
 unfold mH;rw [hl,xx];refine Gd.ite (λ_=>?_) (λh=>absurd h (by simp; omega))
 refine Gd.fX (λs=>s=(k:Int)) (λ_=>0) ?_ eY _ rfl (by simp only [eY]; omega)
 rintro _ nx2 rfl _;unfold sV;rw [xx];refine Gd.ite (λ_=>?_) (λh=>absurd (WZ.1 h) (by simp; omega))
 refine pH I (tk hM I Y (λy hy hyl hyv=>?_));rw [yu hy,hyv];refine Gd.ite (λh=>absurd (Q_ h) Z) (λ_=>?_);unfold oQ;rw [xx,hl];refine Gd.ite (λh=>absurd (Q_ h) (by omega)) (λ_=>?_)
 refine pH I (pH I (pH I ?_));rw [FK I,Q5,Bj I];refine pH I (pH I (tk hM I Y (λd hd hdl hdv=>?_)));exact P9 (by rw [hl]; exact FK I) hl I hn hw Y hW hd hdl hdv Z hM hz hb hnx
end Go.Sim
