/-
  The proof, part F1.
-/
import Derived.Lib.ItoaNum
import Derived.Lib.ParseIntB
import Derived.KernelRfl
import Derived.Test.YtkpbgofhndmbnaaGreatDoorSqA2
set_option linter.unusedVariables false
set_option linter.unusedSimpArgs false
set_option linter.unusedSectionVars false
set_option linter.unnecessarySimpa false
namespace Go.Sim
abbrev Vy := @BitVec.ofInt_natCast
abbrev Vz := @BitVec.toNat_ofNat
abbrev VA := @Bool.eq_false_or_eq_true
abbrev VB := @Bool.not_eq_false'
abbrev VC := @Bool.or_eq_false_iff
abbrev VF := @Int.mul_add
abbrev VG := @Int.mul_assoc
abbrev VH := @Int.mul_sub
abbrev VI := @Int.natCast_add
abbrev VL := @Go.Lib.decDigits_one
abbrev VP := @List.drop_of_length_le
abbrev VQ := @List.eq_nil_or_concat
abbrev VU := @List.getLast?_eq_getElem?
abbrev VV := @List.head?_cons
abbrev VW := @List.length_eq_one_iff
abbrev VY := @List.length_nil
abbrev VZ := @List.length_pos_iff
abbrev V0 := @List.mem_or_eq_of_mem_set
abbrev V1 := @List.mem_replicate
abbrev V3 := @List.take_add_one
abbrev V5 := @Nat.and_two_pow_sub_one_eq_mod
abbrev V6 := @Nat.div_eq_of_lt
abbrev V7 := @Nat.div_lt_iff_lt_mul
abbrev V8 := @Nat.le_div_iff_mul_le
abbrev V9 := @Nat.lt_of_mul_lt_mul_left
abbrev V_ := @Nat.mod_add_div
abbrev Wa := @Nat.mul_add
abbrev Wb := @Nat.mul_assoc
abbrev Wc := @Nat.mul_comm
abbrev Wd := @Nat.mul_le_mul_left
abbrev We := @Nat.mul_zero
abbrev Wg := @Nat.pow_add
abbrev Wh := @Nat.pow_le_pow_left
abbrev Wj := @Nat.pow_le_pow_right
abbrev Wl := @Nat.pow_lt_pow_iff_right
abbrev Wm := @Nat.pow_mul
abbrev Wn := @Nat.pow_pos
abbrev Wo := @Nat.pow_succ
abbrev Wq := @Nat.pow_zero
abbrev W0 := @Rat.divInt_nonneg_iff_of_pos_right
abbrev W1 := @Rat.div_def
abbrev W3 := @Rat.intCast_mul
abbrev W4 := @Rat.intCast_neg
abbrev W5 := @Rat.le_refl
abbrev W6 := @Rat.le_trans
abbrev W7 := @Rat.mul_eq_zero
abbrev W8 := @Rat.mul_inv_cancel
abbrev W9 := @Rat.mul_nonneg
abbrev Xa := @decide_eq_decide
abbrev Xb := @decide_eq_false
abbrev Xc := @decide_eq_false_iff_not
abbrev Xd := @decide_eq_true
end Go.Sim
namespace Go.Sim
open Go
open _root_.Go.IntKind (i64 u64 u32 u8)
abbrev WB:Nat:=4294967296
def nv:List bU->Nat
 | []=>0
 | y::l=>y.n.toNat+WB*nv l
def Wf (l:List bU):Prop:=∀ y ∈ l,0<=y.n/\y.n<4294967296
theorem Wf.nil:Wf []:=λy h=>by cases h
theorem Wf.app {a b:List bU} (ha:Wf a) (hb:Wf b):Wf (a++b):=λy h=>by
 rcases QC.1 h with h | h
 ·exact ha y h
 ·exact hb y h
theorem Wf.one {v:Int} (h:0<=v/\v<4294967296):Wf [⟨v⟩]:=λy hy=>by
 rw [QZ] at hy; subst hy; exact h
theorem Wf.take {l:List bU} (h:Wf l) (k:Nat):Wf (l.take k):=λy hy=>h y (SX hy)
theorem D6:∀ (a b:List bU),nv (a++b)=nv a+WB ^ a.length*nv b
 | [],b=>by simp [nv]
 | y::a,b=>by
  rw [SL,nv,D6 a b,nv,Qy,Wo];rw [Wa,<- Wb,Wc (WB ^ a.length) WB,SS]
theorem Cf (y:bU):nv [y]=y.n.toNat:=by simp [nv]
theorem uE (a:List bU) (y:bU):nv (a++[y])=nv a+WB ^ a.length*y.n.toNat:=by rw [D6,Cf]
theorem sU:∀ {l:List bU},Wf l->nv l<WB ^ l.length
 | [],_=>by simp [nv]
 | y::l,h=>by
  have h1:=sU (l:=l) (λz hz=>h z (Qw _ hz));have h2:=h y (by simp)
  rw [nv,Qy,Wo];have:WB*nv l+WB<=WB ^ l.length*WB:=by
   rw [Wc (WB ^ l.length) WB,<- Nat.mul_succ];exact Wd _ h1
  have:y.n.toNat<WB:=by show y.n.toNat<4294967296; omega
  omega
theorem ry {l:List bU}{k:Nat}{y:bU} (h:l[k]? = some y):nv (l.take (k+1))=nv (l.take k)+WB ^ k*y.n.toNat:=by
 have hk:=(Qo.1 h).1;rw [V3,h];show nv (l.take k++[y])=_;rw [uE,QN,Rq (by omega)]
theorem Kt (n:Nat):nv (List.replicate n (⟨0⟩:bU))=0:=by
 induction n with
 | zero=>rfl
 | succ n ih=>rw [S4,nv,ih]; rfl
theorem wE {l:List bU}{k:Nat}{v:bU} (h:k<l.length):(l.set k v).take (k+1)=l.take k++[v]:=by
 rw [V3,QQ h,Tn (QI _)]; rfl
theorem xo (n:Int):u32.wrap n=n%4294967296:=by simp [IntKind.wrap,IntKind.bits,IntKind.signed]
theorem El (n:Int):u64.wrap n=n%18446744073709551616:=by simp [IntKind.wrap,IntKind.bits,IntKind.signed]
theorem gX {n:Int} (h:0<=n/\n<18446744073709551616):u64.wrap n=n:=by rw [El]; omega
theorem Dm (n:Int):oF .u64 n 32=n / 4294967296:=by
 unfold oF;rw [show (min (32:Int).toNat u64.bits)=32 by decide,Ta _ (by decide)]
 rfl
theorem KJ (n:Int):oF .i64 n 32=n / 4294967296:=by
 unfold oF;rw [show (min (32:Int).toNat i64.bits)=32 by decide,Ta _ (by decide)]
 rfl
abbrev LI:=aC
structure sZ (a:LI):Prop where
 wf:Wf a.words
 top:∀ y,a.words.getLast? = some y->y.n≠0
 sign:a.minus=true->a.words≠[]
def gP (a:LI):Int:=if a.minus=true then -(nv a.words:Int) else (nv a.words:Int)
theorem tJ (minus:Bool):∀ (w:List bU),Wf w->w.length<=1000000->Gd (jH minus w) (λr=>sZ r/\r.words.length<=w.length/\nv r.words=nv w/\(r.minus=true↔minus=true/\nv w≠0)):=by
 intro w hw hl;unfold jH;refine Gd.iN (λ(l:List bU)=>Wf l/\l.length<=w.length/\nv l=nv w) (λl=>l.length) ?_ fY w ⟨hw,QI _,rfl⟩ (by simp only [fY]; omega)
 rintro l nx ⟨h1,h2,h3⟩ hnx;have fin:(∀ y,l.getLast? = some y->y.n≠0)->Gd (oJ minus l) (λr=>sZ r/\r.words.length<=w.length/\nv r.words=nv w/\(r.minus=true↔minus=true/\nv w≠0)):=λht=>by
  have hz:nv l=0->l=[]:=λh0=>by
   rcases VQ l with h | ⟨a,y,h⟩
   ·exact h
   ·exfalso
    have h:l=a++[y]:=by simpa using h
    have hy:=ht y (by rw [h]; simp)
    have hyw:=h1 y (by rw [h]; simp)
    rw [h,uE] at h0;have hp:0<WB ^ a.length:=Wn (by decide)
    have:0<WB ^ a.length*y.n.toNat:=Nat.mul_pos hp (by omega)
    omega
  unfold oJ;refine Gd.ite (λhm=>Gd.ret ⟨⟨h1,ht,?_⟩,h2,h3,?_⟩) (λhm=>Gd.ret ⟨⟨h1,ht,λh=>by cases h⟩,h2,h3,?_⟩)
  ·intro h e
   have h:decide (0<(l.length:Int))=true:=h;have e:l=[]:=e;rw [e] at h; simp at h
  ·constructor
   ·intro h
    have h:0<(l.length:Int):=Qr h;refine ⟨hm,λh0=>?_⟩;rw [<- h3] at h0;have:=hz h0;rw [this] at h; simp at h
   ·intro h
    show decide (0<(l.length:Int))=true;rw [Q9];cases l with
    | nil=>exact absurd (h3.symm.trans rfl) h.2
    | cons a b=>simp
  ·rw [hm]
   constructor
   ·intro h; cases h
   ·intro h; cases h.1
 unfold uc;refine Gd.ite (λh=>?_) (λh=>fin (λy hy=>?_))
 ·have hpos:0<l.length:=by have:=Qr h; omega
  have hw1:i64.wrap ((l.length:Int)-1)=((l.length-1:Nat):Int):=by rw [bV ⟨by omega,by omega⟩]; omega
  rw [hw1];refine Gd.iH (by omega) (Gd.ite (λh0=>?_) (λh0=>fin (λy hy=>?_)))
  ·have h0:(l[l.length-1]).n=0:=Qr h0
   refine Gd.nd ⟨by omega,by omega⟩ ?_
   have hs:r8 l 0 (((l.length-1:Nat):Int).toNat)=l.take (l.length-1):=by simp [r8]
   rw [hs];refine hnx _ ⟨h1.take _,by rw [QN]; omega,?_⟩ (by rw [QN]; omega)
   have:=ry (l:=l) (k:=l.length-1) (Ql (by omega))
   rw [show l.length-1+1=l.length by omega,Sc,h0] at this
   rw [<- h3,this]; simp
  ·have h0:(l[l.length-1]).n≠0:=QB h0
   rw [VU,Ql (by omega)] at hy
   rw [<- Qp hy]; exact h0
 ·have h:¬ 0<(l.length:Int):=QB h
  have:l=[]:=QU (by omega)
  rw [this] at hy; cases hy
theorem EL {a b:List bU} (ha:Wf a) (hb:Wf b) (hl:b.length<=a.length) (hz:a.length<=1000000):
  Gd (lR a b) (λr=>Wf r/\r.length=a.length+1/\nv r=nv a+nv b):=by
 have w1:i64.wrap ((a.length:Int)+1)=((a.length+1:Nat):Int):=by rw [bV ⟨by omega,by omega⟩]; omega
 unfold lR;rw [w1];refine Gd.nd ⟨by omega,by omega⟩ ?_
 refine Gd.kL (λm k (z:List bU×Int)=>k+m=a.length/\z.1.length=a.length+1/\Wf z.1/\0<=z.2/\z.2<=1/\nv (z.1.take k)+WB ^ k*z.2.toNat=nv (a.take k)+nv (b.take k)) ?_ ?_ _ 0 _ ⟨by simp,by simp,λy hy=>?_,S6 _,by show (0:Int)<=1; omega,by simp [nv]⟩
 ·rintro m k ⟨l,c⟩ nx ⟨h0,h1,h2,h3,h4,h5⟩ hnx
  simp only at h1 h2 h3 h4 h5 hnx ⊢;have hka:k<a.length:=by omega
  have hkn:((k:Int)).toNat=k:=by omega
  obtain ⟨y,hy⟩:∃ y,a[k]? = some y:=⟨_,Ql hka⟩;have hyw:=ha y (Qz hy);have fin:∀ (n:Int) (x:Nat),n=c+y.n+x->x<WB->nv (b.take (k+1))=nv (b.take k)+WB ^ k*x->Gd (lQ l nx k n) _:=λn x hn hx hb1=>by
   unfold lQ;rw [Dm,hkn,xo];have hx:x<4294967296:=hx;refine Gd.iH (by omega) (hnx _ ⟨by omega,by simp [h1],?_,by simp only; omega,by simp only; omega,?_⟩)
   ·intro z hz
    rcases V0 hz with hz | hz
    ·exact h2 z hz
    ·rw [hz]; simp only; omega
   ·simp only
    rw [wE (by omega),uE,QN,Rq (by omega),ry hy,hb1]
    simp only;have e1:(n%4294967296).toNat+WB*(n / 4294967296).toNat=c.toNat+y.n.toNat+x:=by
     show (n%4294967296).toNat+4294967296*(n / 4294967296).toNat=_;omega
    have e2:WB ^ k*(n%4294967296).toNat+WB ^ (k+1)*(n / 4294967296).toNat=WB ^ k*c.toNat+WB ^ k*y.n.toNat+WB ^ k*x:=by
     rw [Wo,Wb,<- Wa,e1,Wa,Wa]
    omega
  unfold rF;refine Gd.ix (by omega) (by rw [hkn]; exact hy) (Gd.ite (λh=>?_) (λh=>?_))
  ·have hkb:k<b.length:=by have:=Qr h; omega
   obtain ⟨x,hx⟩:∃ x,b[k]? = some x:=⟨_,Ql hkb⟩;have hxw:=hb x (Qz hx);refine Gd.ix (by omega) (by rw [hkn]; exact hx) (fin _ x.n.toNat ?_ (by show x.n.toNat<4294967296; omega) (ry hx))
   rw [gX (n:=y.n) (by omega),gX (n:=c+y.n) (by omega),gX (n:=x.n) (by omega),gX (by omega)]
   omega
  ·have hkb:b.length<=k:=by have:=QB h; omega
   refine fin _ 0 ?_ (by decide) ?_
   ·rw [gX (n:=y.n) (by omega),gX (by omega)]; simp
   ·rw [QD (by omega),QD (by omega)]; simp
 ·rintro k ⟨l,c⟩ ⟨h0,h1,h2,h3,h4,h5⟩
  simp only at h1 h2 h3 h4 h5 ⊢;have hk:k=a.length:=by omega
  subst hk;have hln:((a.length:Int)).toNat=a.length:=by omega
  rw [hln,xo];refine Gd.iH (by omega) (Gd.ret ⟨?_,by simp [h1],?_⟩)
  ·intro z hz
   rcases V0 hz with hz | hz
   ·exact h2 z hz
   ·rw [hz]; simp only; omega
  ·have e:=wE (l:=l) (k:=a.length) (v:=⟨c%4294967296⟩) (by omega)
   rw [QD (by simp; omega)] at e
   rw [e,uE,QN,Rq (by omega)]
   simp only;rw [Sc,QD hl] at h5;rw [show (c%4294967296).toNat=c.toNat by omega]
   exact h5
 ·rw [V1] at hy
  rw [hy.2]; simp
theorem MZ {a b:List bU} (ha:Wf a) (hb:Wf b) (hza:a.length<=1000000) (hzb:b.length<=1000000):
  Gd (pM a b) (λr=>Wf r/\r.length=max a.length b.length+1/\nv r=nv a+nv b):=by
 unfold pM;refine Gd.ite (λh=>(EL hb ha (by have:=Qr h; omega) hzb).mono ?_) (λh=>(EL ha hb (by have:=QB h; omega) hza).mono ?_)
 ·rintro r ⟨h1,h2,h3⟩
  have:=Qr h;exact ⟨h1,by omega,by omega⟩
 ·rintro r ⟨h1,h2,h3⟩
  have:=QB h;exact ⟨h1,by omega,by omega⟩
def vJ (l:List bU):Prop:=∀ y,l.getLast? = some y->y.n≠0
theorem Fj {l:List bU} (hw:Wf l) (ht:vJ l) (hne:l≠[]):WB ^ (l.length-1)<=nv l:=by
 rcases VQ l with h | ⟨a,y,h⟩
 ·exact absurd h hne
 ·have h:l=a++[y]:=by simpa using h
  have hy:=ht y (by rw [h]; simp)
  have hyw:=hw y (by rw [h]; simp)
  rw [h,uE,QE,Rk,Nat.add_sub_cancel];have:WB ^ a.length*1<=WB ^ a.length*y.n.toNat:=Wd _ (by omega)
  omega
theorem vh {a b:List bU} (ha:Wf a) (hb:Wf b) (htb:vJ b) (h:a.length<b.length):nv a<nv b:=by
 have h1:=sU ha;have h2:=Fj hb htb (by intro e; rw [e] at h; simp at h)
 have h3:WB ^ a.length<=WB ^ (b.length-1):=Wj (by decide) (by omega)
 omega
theorem Kq {a b:List bU} (ha:Wf a) (hb:Wf b):a.length=b.length->nv a=nv b->a=b:=by
 induction a generalizing b with
 | nil=>intro h _; exact (QU h.symm).symm
 | cons x a ih=>
  intro h e;cases b with
  | nil=>simp at h
  | cons y b=>
   have hx:=ha x (by simp); have hy:=hb y (by simp)
   rw [nv,nv] at e;have e1:x.n.toNat=y.n.toNat:=by
    have:=Q6 (·%WB) e;simp only [Nat.add_mul_mod_self_left] at this;rw [Se (by show x.n.toNat<4294967296; omega),Se (by show y.n.toNat<4294967296; omega)] at this
    exact this
   have e2:nv a=nv b:=by
    rw [e1] at e;exact Nat.eq_of_mul_eq_mul_left (by decide) (Nat.add_left_cancel e)
   have:=ih (λz hz=>ha z (Qw _ hz)) (λz hz=>hb z (Qw _ hz)) (by simpa using h) e2
   cases x; cases y
   simp only at e1 hx hy;rw [this]
   congr 2; omega
theorem rj {l:List bU}{k:Nat}{x:bU} (h:l[k]? = some x):l.drop k=x::l.drop (k+1):=by
 obtain ⟨hk,hx⟩:=Qo.1 h;rw [QV hk,hx]
theorem wA {l:List bU}{k:Nat}{x:bU} (h:l[k]? = some x):nv l=nv (l.take k)+WB ^ k*(x.n.toNat+WB*nv (l.drop (k+1))):=by
 have hk:=(Qo.1 h).1;have e:nv l=nv (l.take k++l.drop k):=by rw [RP]
 rw [e,D6,rj h,QN,Rq (by omega)]
 rfl
def O5 (r:Int) (x y:Nat):Prop:=(r<0↔x<y)/\(r=0↔x=y)
theorem JD {a b : List bU} (ha : Wf a) (hb : Wf b) (hta : vJ a) (htb : vJ b) (hza : a.length ≤ 1000000) (hzb : b.length ≤ 1000000) : Gd (nQ a b) (fun r => O5 r (nv a) (nv b)) := by
  unfold nQ;refine Gd.ite (fun h => Gd.ret ?_) (fun h => ?_)
  · have h : ¬ (a.length : Int) = b.length := by simpa using h
    rw [bV ⟨by omega, by omega⟩]
    rcases Nat.lt_or_gt_of_ne (show a.length ≠ b.length by omega) with hl | hl
    · have := vh ha hb htb hl
      exact ⟨⟨fun _ => this, fun _ => by omega⟩, ⟨fun h => by omega, fun h => by omega⟩⟩
    · have := vh hb ha hta hl
      exact ⟨⟨fun h => by omega, fun h => by omega⟩, ⟨fun h => by omega, fun h => by omega⟩⟩
  · have hl : a.length = b.length := by have : (a.length : Int) = b.length := by simpa using h
                                        omega
    rw [bV ⟨by omega, by omega⟩]
    refine Gd.iN (fun (i : Int) => -1 ≤ i ∧ i < a.length ∧ a.drop (i + 1).toNat = b.drop (i + 1).toNat) (fun i => (i + 1).toNat) ?_ fY _ ⟨by omega, by omega, ?_⟩ (by simp only [fY]; omega)
    · rintro i nx ⟨h1, h2, h3⟩ hnx
      unfold rG;refine Gd.ite (fun hi => ?_) (fun hi => Gd.ret ?_)
      · have hi : 0 ≤ i := Qr hi
        obtain ⟨k, rfl⟩ : ∃ k : Nat, i = k := ⟨i.toNat, by omega⟩
        obtain ⟨x, hx⟩ : ∃ x, a[k]? = some x := ⟨_, Ql (by omega)⟩
        obtain ⟨y, hy⟩ : ∃ y, b[k]? = some y := ⟨_, Ql (by omega)⟩
        have hxw := ha x (Qz hx); have hyw := hb y (Qz hy)
        have hkn : ((k : Int)).toNat = k := by omega
        rw [show ((k : Int) + 1).toNat = k + 1 by omega] at h3
        have sa := wA hx;have sb := wA hy;rw [← h3] at sb;have la := sU (ha.take k); have lb := sU (hb.take k)
        rw [QN, Rq (by omega)] at la lb
        generalize nv (a.drop (k + 1)) = T at sa sb;generalize nv (a.take k) = ta at sa la;generalize nv (b.take k) = tb at sb lb;generalize WB ^ k = P at sa sb la lb;have lt_of_lt : ∀ (u v tu tv : Nat), u < v → tu < P → tu + P * (u + WB * T) < tv + P * (v + WB * T) := fun u v tu tv huv hu => by
          have : P * (u + 1) ≤ P * v := Wd _ huv;rw [Wa] at this;rw [Wa, Wa];omega
        refine Gd.ix (by omega) (by rw [hkn]; exact hx) (Gd.ix (by omega) (by rw [hkn]; exact hy) (Gd.ite (fun hne => ?_) (fun he => ?_)))
        · have hne : ¬ x.n = y.n := by simpa using hne
          refine Gd.ix (by omega) (by rw [hkn]; exact hx) (Gd.ix (by omega) (by rw [hkn]; exact hy) (Gd.ite (fun hlt => Gd.ret ?_) (fun hlt => Gd.ret ?_)))
          · have hlt : x.n < y.n := Qr hlt
            have := lt_of_lt x.n.toNat y.n.toNat ta tb (by omega) la
            rw [← sa, ← sb] at this;exact ⟨⟨fun _ => this, fun _ => by omega⟩, ⟨fun h => by omega, fun h => by omega⟩⟩
          · have hlt : ¬ x.n < y.n := QB hlt
            have := lt_of_lt y.n.toNat x.n.toNat tb ta (by omega) lb
            rw [← sa, ← sb] at this;exact ⟨⟨fun h => by omega, fun h => by omega⟩, ⟨fun h => by omega, fun h => by omega⟩⟩
        · have he : x.n = y.n := by simpa using he
          rw [bV ⟨by omega, by omega⟩]
          refine hnx _ ⟨by omega, by omega, ?_⟩ (by omega)
          rw [show ((k : Int) - 1 + 1).toNat = k by omega, rj hx, rj hy, h3]
          have : x = y := by cases x; cases y; simp only at he; rw [he]
          rw [this]
      · have hi : ¬ 0 ≤ i := QB hi
        have : (i + 1).toNat = 0 := by omega
        rw [this, RI, RI] at h3;rw [h3];exact ⟨⟨fun h => by omega, fun h => by omega⟩, ⟨fun _ => rfl, fun _ => rfl⟩⟩
    · rw [show ((a.length : Int) - 1 + 1).toNat = a.length by omega, Tp, VP (by omega)]
theorem KR {a b:List bU} (ha:Wf a) (hb:Wf b) (hle:nv b<=nv a) (hl:b.length<=a.length) (hz:a.length<=1000000):
  Gd (nT a b) (λr=>Wf r/\r.length=a.length/\nv r=nv a-nv b):=by
 unfold nT;refine Gd.nd ⟨by omega,by omega⟩ ?_
 refine Gd.kL (λm k (z:List bU×Int)=>k+m=a.length/\z.1.length=a.length/\Wf z.1/\-1<=z.2/\z.2<=0/\(nv (z.1.take k):Int)+(WB ^ k:Nat)*z.2=nv (a.take k)-nv (b.take k)) ?_ ?_ _ 0 _ ⟨by simp,by simp,λy hy=>?_,by show (-1:Int)<=0; omega,S6 _,by simp [nv]⟩
 ·rintro m k ⟨l,c⟩ nx ⟨h0,h1,h2,h3,h4,h5⟩ hnx
  simp only at h1 h2 h3 h4 h5 hnx ⊢;have hka:k<a.length:=by omega
  have hkn:((k:Int)).toNat=k:=by omega
  obtain ⟨y,hy⟩:∃ y,a[k]? = some y:=⟨_,Ql hka⟩;have hyw:=ha y (Qz hy);have fin:∀ (n:Int) (x:Nat),n=c+y.n-x->x<WB->nv (b.take (k+1))=nv (b.take k)+WB ^ k*x->Gd (lS l nx k n) _:=λn x hn hx hb1=>by
   unfold lS;rw [KJ,hkn,xo];have hx:x<4294967296:=hx;refine Gd.iH (by omega) (hnx _ ⟨by omega,by simp [h1],?_,by simp only; omega,by simp only; omega,?_⟩)
   ·intro z hz
    rcases V0 hz with hz | hz
    ·exact h2 z hz
    ·rw [hz]; simp only; omega
   ·simp only
    rw [wE (by omega),uE,QN,Rq (by omega),ry hy,hb1]
    simp only;have e1:((n%4294967296).toNat:Int)+4294967296*(n / 4294967296)=c+y.n.toNat-x:=by omega
    have e2:((WB ^ k:Nat):Int)*((n%4294967296).toNat:Int)+((WB ^ (k+1):Nat):Int)*(n / 4294967296)=((WB ^ k:Nat):Int)*c+((WB ^ k:Nat):Int)*(y.n.toNat:Int)-((WB ^ k:Nat):Int)*(x:Int):=by
     rw [Wo,Rd,VG,<- VF,show ((WB:Nat):Int)=4294967296 from rfl,e1,VH,VF]
    simp only [VI,Rd] at *
    omega
  unfold rI;refine Gd.ix (by omega) (by rw [hkn]; exact hy) (Gd.ite (λh=>?_) (λh=>?_))
  ·have hkb:k<b.length:=by have:=Qr h; omega
   obtain ⟨x,hx⟩:∃ x,b[k]? = some x:=⟨_,Ql hkb⟩;have hxw:=hb x (Qz hx);refine Gd.ix (by omega) (by rw [hkn]; exact hx) (fin _ x.n.toNat ?_ (by show x.n.toNat<4294967296; omega) (ry hx))
   rw [bV (n:=y.n) (by omega),bV (n:=c+y.n) (by omega),bV (n:=x.n) (by omega),bV (by omega)]
   omega
  ·have hkb:b.length<=k:=by have:=QB h; omega
   refine fin _ 0 ?_ (by decide) ?_
   ·rw [bV (n:=y.n) (by omega),bV (by omega)]; simp
   ·rw [QD (by omega),QD (by omega)]; simp
 ·rintro k ⟨l,c⟩ ⟨h0,h1,h2,h3,h4,h5⟩
  simp only at h1 h2 h3 h4 h5 ⊢;have hk:k=a.length:=by omega
  subst hk;rw [Sc,QD hl,QD (by omega)] at h5
  have hlt:=sU h2;rw [h1] at hlt;have hc:c=0:=by
   rcases (show c = -1\/c=0 by omega) with h | h
   ·exfalso; rw [h] at h5; omega
   ·exact h
  rw [hc] at h5;exact Gd.ret ⟨h2,h1,by omega⟩
 ·rw [V1] at hy
  rw [hy.2]; simp
theorem sZ.tp {a:LI} (h:sZ a):vJ a.words:=h.top
theorem xZ {r:LI}{m:Bool}{n:Nat} (h1:nv r.words=n) (h2:r.minus=true↔m=true/\n≠0):gP r=if m=true then -(n:Int) else n:=by
 unfold gP;rw [h1]
 by_cases hr:r.minus=true
 ·rw [Qu hr,Qu (h2.1 hr).1]
 ·rw [Qs hr]
  by_cases hm:m=true
  ·have:n=0:=by
    by_cases hn:n=0
    ·exact hn
    ·exact absurd (h2.2 ⟨hm,hn⟩) hr
   rw [Qu hm,this]; rfl
  ·rw [Qs hm]
theorem D4 {a:LI} (h:sZ a) (hz:a.words.length<=1000000):Gd (lW a) (λr=>sZ r/\r.words.length<=a.words.length/\gP r = -gP a):=by
 unfold lW;refine Gd.eQ (tJ (!a.minus) a.words h.wf hz) (λr hr=>Gd.ret ⟨hr.1,hr.2.1,?_⟩);rw [xZ hr.2.2.1 hr.2.2.2];unfold gP;cases a.minus <;> simp
theorem DU {a b:LI} (ha:sZ a) (hb:sZ b) (hza:a.words.length<=900000) (hzb:b.words.length<=900000):
  Gd (lV a b) (λr=>sZ r/\r.words.length<=max a.words.length b.words.length+1/\gP r=gP a+gP b):=by
 unfold lV;refine Gd.ite (λh=>?_) (λh=>?_)
 ·have h:a.minus=b.minus:=Qr h
  refine Gd.eQ (MZ ha.wf hb.wf (by omega) (by omega)) (λw hw=>Gd.eQ (tJ a.minus w hw.1 (by omega)) (λr hr=>Gd.ret ⟨hr.1,by omega,?_⟩))
  rw [xZ hr.2.2.1 hr.2.2.2,hw.2.2];unfold gP;rw [<- h];cases a.minus <;> simp <;> omega
 ·have h:a.minus≠b.minus:=QB h
  refine Gd.eQ (JD ha.wf hb.wf ha.tp hb.tp (by omega) (by omega)) (λc hc=>Gd.ite (λh0=>?_) (λh0=>?_))
  ·have h0:0<=c:=Qr h0
   have hle:nv b.words<=nv a.words:=by
    have:=hc.1; omega
   have hlen:b.words.length<=a.words.length:=by
    rcases Sm a.words.length b.words.length with hlt | hge
    ·have:=vh ha.wf hb.wf hb.tp hlt; omega
    ·exact hge
   refine Gd.eQ (KR ha.wf hb.wf hle hlen (by omega)) (λw hw=>Gd.eQ (tJ a.minus w hw.1 (by omega)) (λr hr=>Gd.ret ⟨hr.1,by omega,?_⟩))
   rw [xZ hr.2.2.1 hr.2.2.2,hw.2.2];unfold gP;cases ea:a.minus <;> cases eb:b.minus <;> first | (rw [ea,eb] at h; exact absurd rfl h) | (simp; omega)
  ·have h0:¬ 0<=c:=QB h0
   have hlt:nv a.words<nv b.words:=hc.1.1 (by omega)
   have hlen:a.words.length<=b.words.length:=by
    rcases Sm b.words.length a.words.length with hl | hge
    ·have:=vh hb.wf ha.wf ha.tp hl; omega
    ·exact hge
   refine Gd.eQ (KR hb.wf ha.wf (by omega) hlen (by omega)) (λw hw=>Gd.eQ (tJ b.minus w hw.1 (by omega)) (λr hr=>Gd.ret ⟨hr.1,by omega,?_⟩))
   rw [xZ hr.2.2.1 hr.2.2.2,hw.2.2];unfold gP;cases ea:a.minus <;> cases eb:b.minus <;> first | (rw [ea,eb] at h; exact absurd rfl h) | (simp; omega)
theorem Lw {a b:LI} (ha:sZ a) (hb:sZ b) (hza:a.words.length<=900000) (hzb:b.words.length<=900000):
  Gd (oG a b) (λr=>sZ r/\r.words.length<=max a.words.length b.words.length+1/\gP r=gP a-gP b):=by
 unfold oG;refine Gd.eQ (D4 hb (by omega)) (λc hc=>Gd.eQ (DU ha hc.1 hza (by omega)) (λr hr=>Gd.ret ⟨hr.1,by omega,by rw [hr.2.2,hc.2.2]; omega⟩))
theorem Cg {l:List bU}{k:Nat}{x v:bU} (h:l[k]? = some x):nv (l.set k v)+WB ^ k*x.n.toNat=nv l+WB ^ k*v.n.toNat:=by
 have hk:=(Qo.1 h).1;have h1:=wA h;have h2:nv (l.set k v)=nv (l.take k)+WB ^ k*(v.n.toNat+WB*nv (l.drop (k+1))):=by
  have:=wA (l:=l.set k v) (k:=k) (x:=v) (QQ hk);rw [Tn (QI _),S3 (by omega)] at this
  exact this
 rw [Wa] at h1 h2;omega
theorem Wf.set {l:List bU} (h:Wf l) {k:Nat}{v:Int} (hv:0<=v/\v<4294967296):Wf (l.set k ⟨v⟩):=λz hz=>by
 rcases V0 hz with hz | hz
 ·exact h z hz
 ·rw [hz]; exact hv
theorem Kl {nz nz' nz0 P W c vi x y s B T:Nat} (h1:nz'+P*vi=nz+P*(s%W)) (hs:s=c+vi+x*y) (h2:nz+P*c=nz0+x*T*B):nz'+P*W*(s / W)=nz0+x*T*B+P*x*y:=by
 have hd:s%W+W*(s / W)=s:=V_ s W;have e:P*(s%W)+P*(W*(s / W))=P*s:=by rw [<- Wa,hd]
 have e2:P*s=P*c+P*vi+P*(x*y):=by rw [hs,Wa,Wa]
 rw [Wb P W,Wb P x];omega
theorem vR {a b:LI} (ha:sZ a) (hb:sZ b) (hz:a.words.length+b.words.length<=900000):
  Gd (fF a b) (λr=>sZ r/\r.words.length<=a.words.length+b.words.length/\gP r=gP a*gP b):=by
 have wN:i64.wrap ((a.words.length:Int)+(b.words.length:Int))=((a.words.length+b.words.length:Nat):Int):=by rw [bV ⟨by omega,by omega⟩]; omega
 unfold fF;rw [wN];refine Gd.nd ⟨by omega,by omega⟩ ?_
 refine Gd.dI (λi ys (z:List bU)=>ys=a.words.drop i/\i<=a.words.length/\z.length=a.words.length+b.words.length/\Wf z/\nv z=nv (a.words.take i)*nv b.words/\∀ q,i+b.words.length<=q->∀ y,z[q]? = some y->y.n=0) ?_ ?_ _ 0 _ ⟨by simp,by omega,by simp; omega,λy hy=>?_,by rw [Kt]; simp [nv],λq _ y hy=>?_⟩
 ·rintro i x ys z0 nx ⟨e0,e1,e2,e3,e4,e5⟩ hnx
  have hi:i<a.words.length:=by
   have:=Q6 List.length e0;simp at this; omega
  have hx:a.words[i]? = some x:=by
   have:=Q6 (·[0]?) e0;simpa [Q7] using this.symm
  have hys:ys=a.words.drop (i+1):=by
   have:=Q6 (List.drop 1) e0;simpa using this
  have hxw:=ha.wf x (Qz hx);unfold si;refine Gd.dI (λk bs (z:List bU×Int)=>bs=b.words.drop k/\k<=b.words.length/\z.1.length=a.words.length+b.words.length/\Wf z.1/\0<=z.2/\z.2<4294967296/\nv z.1+WB ^ (i+k)*z.2.toNat=nv z0+x.n.toNat*nv (b.words.take k)*WB ^ i/\∀ q,i+k<=q->z.1[q]? = z0[q]?) ?_ ?_ _ 0 _ ⟨by simp,by omega,e2,e3,S6 _,by show (0:Int)<4294967296; omega,by simp [nv],λq _=>rfl⟩
  ·rintro k y bs ⟨l,c⟩ nx2 ⟨f0,f1,f2,f3,f4,f5,f6,f7⟩ hnx2
   simp only at f2 f3 f4 f5 f6 f7 hnx2 ⊢;have hk:k<b.words.length:=by
    have:=Q6 List.length f0;simp at this; omega
   have hy:b.words[k]? = some y:=by
    have:=Q6 (·[0]?) f0;simpa [Q7] using this.symm
   have hbs:bs=b.words.drop (k+1):=by
    have:=Q6 (List.drop 1) f0;simpa using this
   have hyw:=hb.wf y (Qz hy);obtain ⟨o,ho⟩:∃ o,l[i+k]? = some o:=⟨_,Ql (by omega)⟩
   have how:=f3 o (Qz ho);have wj:i64.wrap ((i:Int)+(k:Int))=((i+k:Nat):Int):=by rw [bV ⟨by omega,by omega⟩]; omega
   have hkn:(((i+k:Nat):Int)).toNat=i+k:=by omega
   have hxy0:0<=x.n*y.n:=Int.mul_nonneg hxw.1 hyw.1;have hxy:x.n*y.n<=4294967295*4294967295:=Int.mul_le_mul (by omega) (by omega) hyw.1 (by omega)
   have hs:u64.wrap (c+(u64.wrap ((u64.wrap (o.n))+(u64.wrap ((u64.wrap (x.n))*(u64.wrap (y.n)))))))=c+o.n+x.n*y.n:=by
    rw [gX (n:=o.n) (by omega),gX (n:=x.n) (by omega),gX (n:=y.n) (by omega),gX (n:=x.n*y.n) (by omega),gX (n:=o.n+x.n*y.n) (by omega),gX (by omega)]
    omega
   unfold sj;rw [wj];refine Gd.ix (by omega) (by rw [hkn]; exact ho) (Gd.ix (by omega) (by rw [hkn]; exact ho) ?_)
   rw [hs,hkn,Dm,xo];have hxyn:x.n*y.n=((x.n.toNat*y.n.toNat:Nat):Int):=by
    rw [Rd,TL hxw.1,TL hyw.1]
   have hsn:c+o.n+x.n*y.n=((c.toNat+o.n.toNat+x.n.toNat*y.n.toNat:Nat):Int):=by rw [hxyn]; omega
   refine hnx2 _ ⟨hbs,by omega,by simp [f2],f3.set (by omega),by simp only; omega,by simp only; omega,?_,λq hq=>?_⟩
   ·simp only
    have g:=Cg (l:=l) (k:=i+k) (x:=o) (v:=⟨(c+o.n+x.n*y.n)%4294967296⟩) ho;simp only at g;have g1:((c+o.n+x.n*y.n)%4294967296).toNat=(c.toNat+o.n.toNat+x.n.toNat*y.n.toNat)%WB:=by rw [hsn]; show _=_%4294967296; omega
    have g2:((c+o.n+x.n*y.n) / 4294967296).toNat=(c.toNat+o.n.toNat+x.n.toNat*y.n.toNat) / WB:=by rw [hsn]; show _=_ / 4294967296; omega
    rw [g1] at g;have:=Kl g rfl f6;rw [g2,show i+(k+1)=(i+k)+1 by omega,Wo,this,ry hy,Wg]
    rw [Wa,QK,SS]
    congr 2
    rw [Wc (WB ^ i) (WB ^ k),Wc (WB ^ k*WB ^ i) x.n.toNat,Wb,Wb,Wb,Wb,Wc y.n.toNat,Wc (WB ^ i) y.n.toNat]
   ·simp only
    rw [QM (by omega)]
    exact f7 q (by omega)
  ·rintro k ⟨l,c⟩ ⟨f0,f1,f2,f3,f4,f5,f6,f7⟩
   simp only at f2 f3 f4 f5 f6 f7 ⊢;have hk:k=b.words.length:=by
    have:=Q6 List.length f0;simp at this; omega
   subst hk;have wj:i64.wrap ((i:Int)+(b.words.length:Int))=((i+b.words.length:Nat):Int):=by rw [bV ⟨by omega,by omega⟩]; omega
   have hkn:(((i+b.words.length:Nat):Int)).toNat=i+b.words.length:=by omega
   obtain ⟨o,ho⟩:∃ o,l[i+b.words.length]? = some o:=⟨_,Ql (by omega)⟩
   have ho0:o.n=0:=e5 _ (QI _) o (by rw [<- f7 _ (QI _)]; exact ho)
   rw [wj];refine Gd.ix (by omega) (by rw [hkn]; exact ho) ?_
   rw [hkn,xo,show c%4294967296=c by omega]
   refine hnx _ ⟨hys,by omega,by simp [f2],f3.set (by omega),?_,λq hq y hy=>?_⟩
   ·have g:=Cg (l:=l) (k:=i+b.words.length) (x:=o) (v:=⟨c⟩) ho
    simp only [ho0] at g;rw [Sc] at f6;rw [ry hx,QK,<- e4];have e:WB ^ i*x.n.toNat*nv b.words=x.n.toNat*nv b.words*WB ^ i:=by rw [Wc (WB ^ i),Wb,Wc (WB ^ i),<- Wb]
    rw [e];simp at g;omega
   ·rw [QM (by omega),f7 _ (by omega)] at hy
    exact e5 _ (by omega) y hy
 ·rintro i z ⟨e0,e1,e2,e3,e4,e5⟩
  have hi:i=a.words.length:=by
   have:=Q6 List.length e0;simp at this; omega
  subst hi;rw [Sc] at e4;refine Gd.eQ (tJ _ z e3 (by omega)) (λr hr=>Gd.ret ⟨hr.1,by omega,?_⟩)
  rw [xZ hr.2.2.1 hr.2.2.2,e4];unfold gP;cases a.minus <;> cases b.minus <;> simp [Int.mul_neg,Int.neg_mul]
 ·rw [V1] at hy
  rw [hy.2]; simp
 ·have:=Qz hy
  rw [V1] at this;rw [this.2]
theorem zr {r y:Int} (hr:0<=r/\r<4294967296) (hy:0<=y/\y<4294967296):
  u64.wrap ((BitVec.ofInt (u64).bits (tW .u64 r 32) ||| BitVec.ofInt (u64).bits (u64.wrap y)).toNat)=r*4294967296+y:=by
 obtain ⟨n,rfl⟩:∃ n:Nat,r=n:=⟨r.toNat,by omega⟩
 obtain ⟨m,rfl⟩:∃ m:Nat,y=m:=⟨y.toNat,by omega⟩
 have e1:tW .u64 (n:Int) 32=((n*4294967296:Nat):Int):=by
  unfold tW;rw [show (min (32:Int).toNat u64.bits)=32 by decide,El]
  show (n:Int)*4294967296%18446744073709551616=_;omega
 rw [e1,gX (n:=(m:Int)) (by omega)]
 show u64.wrap (((BitVec.ofInt 64 ((n*4294967296:Nat):Int) ||| BitVec.ofInt 64 ((m:Nat):Int)).toNat:Nat):Int)=_;rw [Vy,Vy,BitVec.toNat_or,Vz,Vz,Se (by omega),Se (by omega)]
 have e2:n*4294967296 ||| m=n*4294967296+m:=by
  have:=Nat.shiftLeft_add_eq_or_of_lt (i:=32) (b:=m) (by omega) n
  rw [Nat.shiftLeft_eq] at this;exact this.symm
 rw [e2,gX (by omega)]
 omega
theorem IL {r y d:Int} (hr:0<=r/\r<d) (hy:0<=y/\y<4294967296) (hd:0<d/\d<4294967296):
  ∃ q m:Nat,Int.tdiv (r*4294967296+y) d=q/\Int.tmod (r*4294967296+y) d=m/\q<4294967296/\(m:Int)<d/\m+d.toNat*q=WB*r.toNat+y.toNat:=by
 obtain ⟨dn,rfl⟩:∃ dn:Nat,d=dn:=⟨d.toNat,by omega⟩
 obtain ⟨rn,rfl⟩:∃ rn:Nat,r=rn:=⟨r.toNat,by omega⟩
 obtain ⟨Y,rfl⟩:∃ Y:Nat,y=Y:=⟨y.toNat,by omega⟩
 have hdn:0<dn:=by omega
 have e:∀ W:Nat,Y<W->∃ q m:Nat,Int.tdiv ((rn:Int)*W+Y) dn=q/\Int.tmod ((rn:Int)*W+Y) dn=m/\q<W/\m<dn/\m+dn*q=W*rn+Y:=λW hW=>by
  have hN:rn*W+Y<dn*W:=by
   have:(rn+1)*W<=dn*W:=QF _ (by omega)
   rw [QK] at this;omega
  have hc:(rn:Int)*W+Y=((rn*W+Y:Nat):Int):=by rw [VI,Rd]
  rw [hc];refine ⟨(rn*W+Y) / dn,(rn*W+Y)%dn,rfl,rfl,?_,Ts _ hdn,?_⟩
  ·rw [V7 hdn,Wc W dn]; exact hN
  ·rw [V_,Wc rn W]
 obtain ⟨q,m,h1,h2,h3,h4,h5⟩:=e WB (by show Y<4294967296; omega)
 refine ⟨q,m,h1,h2,h3,by omega,?_⟩
 simp only [Qn];exact h5
theorem IM {q dn B m Y rn:Nat} (h1:m+dn*q=WB*rn+Y):(q+WB*B)*dn+m=Y+WB*(B*dn+rn):=by
 rw [QK,Wa,Wb WB,Wc q dn];generalize dn*q=Z at h1;generalize WB*rn=X at h1 ⊢;generalize WB*(B*dn)=T;omega
theorem Fy {a:List bU} (ha:Wf a) (hz:a.length<=1000000) {d:Int} (hd:0<d/\d<4294967296):
  Gd (nS a d) (λr=>Wf r.1/\r.1.length=a.length/\nv r.1=nv a / d.toNat/\r.2=(nv a%d.toNat:Nat)):=by
 unfold nS;refine Gd.nd ⟨by omega,by omega⟩ ?_
 rw [bV ⟨by omega,by omega⟩]
 refine Gd.iN (λ(z:List bU×Int×Int)=>-1<=z.2.2/\z.2.2<a.length/\z.1.length=a.length/\Wf z.1/\0<=z.2.1/\z.2.1<d/\nv (z.1.drop (z.2.2+1).toNat)*d.toNat+z.2.1.toNat=nv (a.drop (z.2.2+1).toNat)) (λz=>(z.2.2+1).toNat) ?_ fY _ ⟨by simp only; omega,by simp only; omega,by simp,λy hy=>?_,S6 _,by simp only; omega,?_⟩ (by simp only [fY]; omega)
 ·rintro ⟨l,r,i⟩ nx ⟨h1,h2,h3,h4,h5,h6,h7⟩ hnx
  simp only at h1 h2 h3 h4 h5 h6 h7 hnx ⊢;unfold rH;refine Gd.ite (λhi=>?_) (λhi=>Gd.ret ?_)
  ·have hi:0<=i:=Qr hi
   obtain ⟨k,rfl⟩:∃ k:Nat,i=k:=⟨i.toNat,by omega⟩
   obtain ⟨y,hy⟩:∃ y,a[k]? = some y:=⟨_,Ql (by omega)⟩
   have hyw:=ha y (Qz hy);have hkn:((k:Int)).toNat=k:=by omega
   rw [gX (n:=d) (by omega)]
   refine Gd.ix (by omega) (by rw [hkn]; exact hy) (Gd.nd (by omega) (Gd.iH (show k<l.length by omega) (Gd.nd (by omega) ?_)))
   rw [zr ⟨h5,by omega⟩ hyw]
   rw [show ((k:Int)+1).toNat=k+1 by omega] at h7
   obtain ⟨q,m,e1,e2,hqlt,hmlt,hdm⟩:=IL ⟨h5,h6⟩ hyw hd;rw [e1,e2,hkn,gX (n:=(q:Int)) (by omega),xo,bV ⟨by omega,by omega⟩,show (q:Int)%4294967296=(q:Int) by omega]
   refine hnx _ ⟨by simp only; omega,by simp only; omega,by simp [h3],h4.set (by omega),by simp only; omega,by simp only; omega,?_⟩ (by simp only; omega)
   simp only;rw [show ((k:Int)-1+1).toNat=k by omega,rj hy,rj (l:=l.set k _) (QQ (by omega)),S3 (by omega),nv,nv,<- h7]
   simp only [Qn];exact IM hdm
  ·have hi:¬ 0<=i:=QB hi
   rw [show (i+1).toNat=0 by omega,RI,RI] at h7
   have hdn:0<d.toNat:=by omega
   refine ⟨h4,h3,?_,?_⟩
   ·simp only
    rw [<- h7,Wc,Nat.mul_add_div hdn,V6 (by omega)]; rfl
   ·simp only
    rw [xo,<- h7,Wc,Nat.mul_add_mod,Se (by omega)]
    omega
 ·rw [V1] at hy
  rw [hy.2]; simp
 ·simp only
  rw [show ((a.length:Int)-1+1).toNat=a.length by omega,Tp,VP (by simp)]
  simp [nv]
theorem Ci {n:Int} (h:-9223372036854775808<=n/\n<=9223372036854775807):Gd (mY n) (λr=>sZ r/\r.words.length<=2/\gP r=n):=by
 have core:∀ m:Int,0<=m->m<18446744073709551616->(m=n/\0<=n\/m = -n/\n<0)->Gd (qE n m) (λr=>sZ r/\r.words.length<=2/\gP r=n):=λm h0 h1 h2=>by
  unfold qE;rw [Dm,xo,xo];have hw:Wf [⟨m%4294967296⟩,⟨m / 4294967296%4294967296⟩]:=λy hy=>by
   rcases Q8.1 hy with rfl | hy
   ·simp only; omega
   ·rw [QZ] at hy; subst hy; simp only; omega
  have hv:nv [⟨m%4294967296⟩,⟨m / 4294967296%4294967296⟩]=m.toNat:=by
   simp only [nv];show (m%4294967296).toNat+4294967296*((m / 4294967296%4294967296).toNat+4294967296*0)=_;omega
  refine Gd.eQ (tJ _ _ hw (by simp)) (λr hr=>Gd.ret ⟨hr.1,hr.2.1,?_⟩)
  rw [xZ hr.2.2.1 hr.2.2.2,hv];rcases h2 with ⟨rfl,h2⟩ | ⟨rfl,h2⟩
  ·rw [Qs (by simp; omega)]; omega
  ·rw [Qu (by simp; omega)]; omega
 unfold mY;refine Gd.ite (λh0=>core _ ?_ ?_ (.inr ⟨?_,?_⟩)) (λh0=>core _ ?_ ?_ (.inl ⟨?_,?_⟩))
 ·rw [El]; omega
 ·rw [El]; omega
 ·have:=Qr h0
  rw [El,El]; omega
 ·exact Qr h0
 ·rw [El]; omega
 ·rw [El]; omega
 ·have:=QB h0
  rw [El]; omega
 ·have:=QB h0; omega
theorem NC {c x s:Nat} (hs:s<=31) (hc:c<2 ^ s) (hx:x<4294967296):
  u64.wrap ((BitVec.ofInt (u64).bits (c:Int) ||| BitVec.ofInt (u64).bits (tW .u64 (u64.wrap (x:Int)) (s:Int))).toNat)=((c+x*2 ^ s:Nat):Int):=by
 have hp:(2:Nat) ^ s<=2147483648:=Wj (by decide) hs
 have hx2:x*2 ^ s<=4294967295*2147483648:=Nat.mul_le_mul (by omega) hp
 rw [gX (n:=(x:Int)) (by omega)]
 have e1:tW .u64 (x:Int) (s:Int)=((x*2 ^ s:Nat):Int):=by
  unfold tW;rw [show (min ((s:Int)).toNat u64.bits)=s by show min ((s:Int)).toNat 64=s; omega]
  rw [show (x:Int)*2 ^ s=((x*2 ^ s:Nat):Int) by rw [Rd,Int.natCast_pow]; rfl]
  rw [gX (by omega)]
 rw [e1];show u64.wrap (((BitVec.ofInt 64 ((c:Nat):Int) ||| BitVec.ofInt 64 ((x*2 ^ s:Nat):Int)).toNat:Nat):Int)=_;rw [Vy,Vy,BitVec.toNat_or,Vz,Vz,Se (by omega),Se (by omega)]
 have e2:c ||| x*2 ^ s=c+x*2 ^ s:=by
  have:=Nat.shiftLeft_add_eq_or_of_lt (i:=s) (b:=c) hc x;rw [Nat.shiftLeft_eq] at this;rw [Nat.or_comm,<- this,S8]
 rw [e2,gX (by omega)]
theorem GI {A P c x S W out o c':Nat} (h:out+P*c=A*S) (hd:o+W*c'=c+x*S):(out+P*o)+P*W*c'=(A+P*x)*S:=by
 have e:P*o+P*(W*c')=P*c+P*(x*S):=by rw [<- Wa,hd,Wa]
 rw [Wb P W,QK,Wb P x];omega
theorem Cy {a:List bU} (ha:Wf a) (hz:a.length<=1000000) {s:Nat} (hs:s<=31):
  Gd (oK a (s:Int)) (λr=>Wf r/\r.length=a.length+1/\nv r=nv a*2 ^ s/\∃ t,r[a.length]? = some t/\t.n.toNat<2 ^ s):=by
 have w1:i64.wrap ((a.length:Int)+1)=((a.length+1:Nat):Int):=by rw [bV ⟨by omega,by omega⟩]; omega
 have hp:(2:Nat) ^ s<=2147483648:=Wj (by decide) hs
 have hp0:0<(2:Nat) ^ s:=Wn (by decide)
 unfold oK;rw [w1];refine Gd.nd ⟨by omega,by omega⟩ ?_
 refine Gd.dI (λk ys (z:List bU×Int)=>ys=a.drop k/\k<=a.length/\z.1.length=a.length+1/\Wf z.1/\0<=z.2/\z.2.toNat<2 ^ s/\nv (z.1.take k)+WB ^ k*z.2.toNat=nv (a.take k)*2 ^ s) ?_ ?_ _ 0 _ ⟨by simp,by omega,by simp,λy hy=>?_,S6 _,by simpa using hp0,by simp [nv]⟩
 ·rintro k x ys ⟨l,c⟩ nx ⟨h0,h1,h2,h3,h4,h5,h6⟩ hnx
  simp only at h2 h3 h4 h5 h6 hnx ⊢;have hk:k<a.length:=by
   have:=Q6 List.length h0;simp at this; omega
  have hx:a[k]? = some x:=by
   have:=Q6 (·[0]?) h0;simpa [Q7] using this.symm
  have hys:ys=a.drop (k+1):=by
   have:=Q6 (List.drop 1) h0;simpa using this
  have hxw:=ha x (Qz hx);obtain ⟨cn,rfl⟩:∃ cn:Nat,c=cn:=⟨c.toNat,by omega⟩
  obtain ⟨X,hX⟩:∃ X:Nat,x.n=X:=⟨x.n.toNat,by omega⟩
  have hkn:((k:Int)).toNat=k:=by omega
  unfold so;rw [hX];simp only [Qn] at h5 h6;rw [NC hs h5 (by omega)]
  refine Gd.nd (by omega) (Gd.iH (show k<l.length by omega) ?_)
  rw [hkn,xo,Dm];have hb:cn+X*2 ^ s<4294967296*2 ^ s:=by
   have:(X+1)*2 ^ s<=4294967296*2 ^ s:=QF _ (by omega)
   rw [QK] at this;omega
  have hdm:=V_ (cn+X*2 ^ s) WB;have hq:(cn+X*2 ^ s) / WB<2 ^ s:=by
   rw [V7 (by decide),Wc (2 ^ s)]; exact hb
  have e1:((cn+X*2 ^ s:Nat):Int)%4294967296=(((cn+X*2 ^ s)%WB:Nat):Int):=rfl;have e2:((cn+X*2 ^ s:Nat):Int) / 4294967296=(((cn+X*2 ^ s) / WB:Nat):Int):=rfl;have hm:(cn+X*2 ^ s)%WB<WB:=Ts _ (by decide)
  rw [e1,e2];generalize (cn+X*2 ^ s)%WB=o at hdm hm;generalize (cn+X*2 ^ s) / WB=c' at hdm hq;refine hnx _ ⟨hys,by omega,by simp [h2],h3.set ⟨by omega,by have:o<4294967296:=hm; omega⟩,by simp only; omega,by simp only [Qn]; exact hq,?_⟩
  simp only;rw [wE (by omega),uE,QN,Rq (by omega),ry hx,hX,Wo]
  simp only [Qn];exact GI h6 hdm
 ·rintro k ⟨l,c⟩ ⟨h0,h1,h2,h3,h4,h5,h6⟩
  simp only at h2 h3 h4 h5 h6 ⊢;have hk:k=a.length:=by
   have:=Q6 List.length h0;simp at this; omega
  subst hk;have hkn:((a.length:Int)).toNat=a.length:=by omega
  rw [hkn,xo,show c%4294967296=c by omega]
  refine Gd.iH (by omega) (Gd.ret ⟨h3.set (by omega),by simp [h2],?_,⟨⟨c⟩,QQ (by omega),h5⟩⟩)
  have e:=wE (l:=l) (k:=a.length) (v:=⟨c⟩) (by omega)
  rw [QD (by simp; omega)] at e
  rw [e,uE,QN,Rq (by omega)]
  rw [Sc] at h6;exact h6
 ·rw [V1] at hy
  rw [hy.2]; simp
section
variable {W R v1 v2 vl u2 ul top q V U:Nat}
structure GU (W R v1 v2 vl u2 ul top V U:Nat):Prop where
 V:V=(v1*W+v2)*R+vl
 U:U=(top*W+u2)*R+ul
 vl:vl<R
 ul:ul<R
 u2:u2<W
 v2:v2<W
theorem GU.NI (h:GU W R v1 v2 vl u2 ul top V U) (hq:q*V<=U):q*v1<=top:=by
 rcases Sm top (q*v1) with hlt | hge
 ·exfalso
  have h1:(top+1)*(W*R)<=q*v1*(W*R):=QF _ hlt;have h2:v1*(W*R)<=V:=by
   rw [h.V,QK,Wb v1]; omega
  have h3:q*(v1*(W*R))<=q*V:=Wd _ h2;have h4:U<(top+1)*(W*R):=by
   have e1:(u2+1)*R<=W*R:=QF _ h.u2;rw [QK] at e1;have hul:=h.ul;rw [h.U,QK,Wb top,QK top];omega
  rw [Wb q] at h1;omega
 ·exact hge
theorem GU.DY (h:GU W R v1 v2 vl u2 ul top V U) (hq:q*V<=U):q*(v1*W+v2)<=top*W+u2:=by
 rcases Sm (top*W+u2) (q*(v1*W+v2)) with hlt | hge
 ·exfalso
  have h1:(top*W+u2+1)*R<=q*(v1*W+v2)*R:=QF _ hlt;have h2:(v1*W+v2)*R<=V:=by rw [h.V]; omega
  have h3:q*((v1*W+v2)*R)<=q*V:=Wd _ h2;have hul:=h.ul;have hU:=h.U;rw [QK _ 1] at h1;rw [Wb q] at h1;omega
 ·exact hge
theorem GU.Pm (h:GU W R v1 v2 vl u2 ul top V U) {g:Nat} (hg:g<=W) (hv:1<=v1) (hl:g*(v1*W+v2)<=top*W+u2):g*V<U+V:=by
 have h1:g*(v1*W+v2)*R<=(top*W+u2)*R:=QF _ hl;have h2:g*vl<=W*vl:=QF _ hg;have h3:W*(vl+1)<=W*R:=Wd _ h.vl;have h4:1*(W*R)<=v1*(W*R):=QF _ hv;have e1:g*V=g*(v1*W+v2)*R+g*vl:=by rw [h.V,Wa,Wb]
 have e2:V=v1*(W*R)+v2*R+vl:=by rw [h.V,QK,Wb]
 have hU:=h.U;have hR:0<R:=by have:=h.vl; omega
 have hW:0<W:=by have:=h.u2; omega
 rw [Wa,S9] at h3;omega
structure Gs (W R v1 v2 vl u2 ul top V U q g rest:Nat):Prop where
 ge:q<=g
 eq:g*v1+rest=top
 rest:rest<W
 le:g<=W+1
structure N7 (W V U q g:Nat):Prop where
 ge:q<=g
 le:g<=q+1
 w:g<=W
theorem GU.out (h:GU W R v1 v2 vl u2 ul top V U) {g:Nat} (hq:U<(q+1)*V) (hge:q<=g) (hg:g<=W) (hv:1<=v1) (hl:g*(v1*W+v2)<=top*W+u2):N7 W V U q g:=by
 refine ⟨hge,?_,hg⟩;have h1:=h.Pm hg hv hl;rcases Sm (q+1) g with hlt | hge'
 ·exfalso
  have h2:(q+2)*V<=g*V:=QF _ hlt;rw [QK] at h2 hq;omega
 ·exact hge'
theorem Gs.stop (h:GU W R v1 v2 vl u2 ul top V U) {g rest:Nat} (hs:Gs W R v1 v2 vl u2 ul top V U q g rest) (hq:U<(q+1)*V) (hv:1<=v1) (hg:g<W) (ht:g*v2<=rest*W+u2):N7 W V U q g:=by
 refine h.out hq hs.ge (by omega) hv ?_
 rw [<- hs.eq,Wa,QK,Wb];omega
theorem Gs.less (h:GU W R v1 v2 vl u2 ul top V U) {g rest:Nat} (hs:Gs W R v1 v2 vl u2 ul top V U q g rest) (hq:q*V<=U) (hqW:q<W) (ht:W<=g\/rest*W+u2<g*v2):q<g:=by
 rcases ht with ht | ht
 ·omega
 ·have h1:=h.DY hq
  rw [<- hs.eq] at h1;rcases Sm q g with hlt | hge
  ·exact hlt
  ·exfalso
   have h2:g*(v1*W+v2)<=q*(v1*W+v2):=QF _ hge;rw [Wa g] at h2;rw [QK (g*v1),Wb] at h1;omega
theorem Gs.next {g rest:Nat} (hs:Gs W R v1 v2 vl u2 ul top V U q g rest) (hl:q<g) (hr:rest+v1<W):Gs W R v1 v2 vl u2 ul top V U q (g-1) (rest+v1):=by
 have h:=hs.eq; have hle:=hs.le
 obtain ⟨k,rfl⟩:∃ k,g=k+1:=⟨g-1,by omega⟩
 rw [QK] at h;exact ⟨by omega,by rw [Nat.add_sub_cancel]; omega,hr,by omega⟩
theorem Gs.over (h:GU W R v1 v2 vl u2 ul top V U) {g rest:Nat} (hs:Gs W R v1 v2 vl u2 ul top V U q g rest) (hq:U<(q+1)*V) (hv:1<=v1) (hl:q<g) (hr:W<=rest+v1):N7 W V U q (g-1):=by
 have he:=hs.eq; have hle:=hs.le; have hv2:=h.v2
 obtain ⟨k,rfl⟩:∃ k,g=k+1:=⟨g-1,by omega⟩
 rw [Nat.add_sub_cancel];rw [QK] at he;refine h.out hq (by omega) (by omega) hv ?_
 have h1:k*v2<=W*v2:=QF _ (by omega)
 have h2:W*(v2+1)<=W*W:=Wd _ hv2;have h3:W*W<=(rest+v1)*W:=QF _ hr;have e:top=k*v1+(rest+v1):=by omega
 rw [e,Wa k,QK (k*v1),Wb];rw [Wa] at h2;omega
end
def Hh:List U8:=kB (⟨#[0,1,2,2,3,3,3,3,4,4,4,4,4,4,4,4,5,5,5,5,5,5,5,5,5,5,5,5,5,5,5,5,6,6,6,6,6,6,6,6,6,6,6,6,6,6,6,6,6,6,6,6,6,6,6,6,6,6,6,6,6,6,6,6,7,7,7,7,7,7,7,7,7,7,7,7,7,7,7,7,7,7,7,7,7,7,7,7,7,7,7,7,7,7,7,7,7,7,7,7,7,7,7,7,7,7,7,7,7,7,7,7,7,7,7,7,7,7,7,7,7,7,7,7,7,7,7,7,8,8,8,8,8,8,8,8,8,8,8,8,8,8,8,8,8,8,8,8,8,8,8,8,8,8,8,8,8,8,8,8,8,8,8,8,8,8,8,8,8,8,8,8,8,8,8,8,8,8,8,8,8,8,8,8,8,8,8,8,8,8,8,8,8,8,8,8,8,8,8,8,8,8,8,8,8,8,8,8,8,8,8,8,8,8,8,8,8,8,8,8,8,8,8,8,8,8,8,8,8,8,8,8,8,8,8,8,8,8,8,8,8,8,8,8,8,8,8,8,8,8,8,8,8,8,8,8]⟩)
def Kg (i:Nat) (y:U8):Bool:=decide (1<=y.n) && (decide (y.n<=8) && (decide (2 ^ (y.n.toNat-1)<=i) && decide (i<2 ^ y.n.toNat)))
theorem LF:∀ i:Nat,1<=i->i<256->∃ y,Hh[i]? = some y/\Kg i y=true:=by
 have h:(List.range 256).all (λi=>decide (i=0) || (match Hh[i]? with | some y=>Kg i y | none=>false))=true:=by decide +kernel
 intro i h1 h2;have:=Rz.1 h i (by simpa using h2)
 rw [Xb (by omega),Bool.false_or] at this
 cases hy:Hh[i]? with
 | none=>rw [hy] at this; cases this
 | some y=>rw [hy] at this; exact ⟨y,rfl,this⟩
theorem DZ {n m:Int} (h1:1<=n) (h2:n<256) (hm:0<=m/\m<=24):Gd (lq n m) (λr=>∃ L:Nat,r=m+L/\1<=L/\L<=8/\2 ^ (L-1)<=n.toNat/\n.toNat<2 ^ L):=by
 obtain ⟨y,hy,hb⟩:=LF n.toNat (by omega) (by omega)
 simp only [Kg,R6,Q9] at hb;obtain ⟨b1,b2,b3,b4⟩:=hb;have hw:u8.wrap n=n:=by
  rw [show u8.wrap n=n%256 by simp [IntKind.wrap,IntKind.bits,IntKind.signed]]; omega
 unfold lq;rw [hw];refine Gd.ix (l:=Hh) (by omega) hy (Gd.ret ⟨y.n.toNat,?_,by omega,by omega,b3,b4⟩)
 rw [bV (n:=y.n) (by omega),bV (by omega)]
 omega
theorem GJ {n:Int}{k:Nat} (hk:k<=32):oF .u32 n (k:Int)=n / (2 ^ k:Nat):=by
 unfold oF;rw [show (min ((k:Int)).toNat u32.bits)=k by show min ((k:Int)).toNat 32=k; omega,Ta _ (Int.le_of_lt (Int.pow_pos (by decide)))]
 rw [Int.natCast_pow]; rfl
theorem Ow {x:Int} (h1:1<=x) (h2:x<4294967296):Gd (jT x) (λr=>∃ s:Nat,r=s/\s<=31/\2147483648<=x.toNat*2 ^ s/\x.toNat*2 ^ s<4294967296):=by
 have fin:∀ (o:Option Int),Gd o (λr=>∃ l:Nat,r=l/\1<=l/\l<=32/\2 ^ (l-1)<=x.toNat/\x.toNat<2 ^ l)->Gd (o.bind λr101=>some (i64.wrap (32-r101))) (λr=>∃ s:Nat,r=s/\s<=31/\2147483648<=x.toNat*2 ^ s/\x.toNat*2 ^ s<4294967296):=λo ho=>by
  refine Gd.eQ ho (λr hr=>Gd.ret ?_);obtain ⟨l,rfl,l1,l2,l3,l4⟩:=hr;refine ⟨32-l,by rw [bV (by omega)]; omega,by omega,?_,?_⟩
  ·have:2 ^ (l-1)*2 ^ (32-l)<=x.toNat*2 ^ (32-l):=QF _ l3
   rw [<- Wg,show l-1+(32-l)=31 by omega] at this
   exact this
  ·have:x.toNat*2 ^ (32-l)<2 ^ l*2 ^ (32-l):=Nat.mul_lt_mul_of_pos_right l4 (Wn (by decide))
   rw [<- Wg,show l+(32-l)=32 by omega] at this
   exact this
 have part:∀ (n:Int) (base:Nat),n=x / (2 ^ base:Nat)->base<=24->∀ L:Nat,1<=L->2 ^ (L-1)<=n.toNat->n.toNat<2 ^ L->2 ^ (base+L-1)<=x.toNat/\x.toNat<2 ^ (base+L):=λn base hn hb L l1 l2 l3=>by
  have e:n.toNat=x.toNat / 2 ^ base:=by
   rw [hn];obtain ⟨X,rfl⟩:∃ X:Nat,x=X:=⟨x.toNat,by omega⟩
   rfl
  have hp:0<2 ^ base:=Wn (by decide)
  rw [e] at l2 l3;rw [V8 hp,<- Wg] at l2;rw [V7 hp,<- Wg] at l3;rw [show base+L-1=L-1+base by omega,S8 base L]
  exact ⟨l2,l3⟩
 unfold jT;refine fin _ ?_;unfold qV;refine Gd.ite (λh=>?_) (λh=>?_)
 ·have h:=Qr h
  rw [show oF .u32 x 16=x / 65536 from GJ (k:=16) (by omega)]
  unfold lu;refine Gd.ite (λh3=>?_) (λh3=>?_)
  ·have h3:=Qr h3
   rw [show oF .u32 (x / 65536) 8=x / 65536 / 256 from GJ (k:=8) (by omega),show i64.wrap (16+8)=24 by decide]
   refine (DZ (by omega) (by omega) (by omega)).mono ?_
   rintro r ⟨L,rfl,l1,l2,l3,l4⟩;obtain ⟨p1,p2⟩:=part (x / 65536 / 256) 24 (by show _=x / 16777216; omega) (by omega) L l1 l3 l4
   exact ⟨24+L,by omega,by omega,by omega,p1,p2⟩
  ·have h3:=QB h3
   refine (DZ (by omega) (by omega) (by omega)).mono ?_
   rintro r ⟨L,rfl,l1,l2,l3,l4⟩;obtain ⟨p1,p2⟩:=part (x / 65536) 16 (by show _=x / 65536; omega) (by omega) L l1 l3 l4
   exact ⟨16+L,by omega,by omega,by omega,p1,p2⟩
 ·have h:=QB h
  unfold lu;refine Gd.ite (λh3=>?_) (λh3=>?_)
  ·have h3:=Qr h3
   rw [show oF .u32 x 8=x / 256 from GJ (k:=8) (by omega),show i64.wrap (0+8)=8 by decide]
   refine (DZ (by omega) (by omega) (by omega)).mono ?_
   rintro r ⟨L,rfl,l1,l2,l3,l4⟩;obtain ⟨p1,p2⟩:=part (x / 256) 8 (by show _=x / 256; omega) (by omega) L l1 l3 l4
   exact ⟨8+L,by omega,by omega,by omega,p1,p2⟩
  ·have h3:=QB h3
   refine (DZ (by omega) (by omega) (by omega)).mono ?_
   rintro r ⟨L,rfl,l1,l2,l3,l4⟩;obtain ⟨p1,p2⟩:=part x 0 (by show _=x / 1; omega) (by omega) L l1 l3 l4
   exact ⟨0+L,by omega,by omega,by omega,p1,p2⟩
theorem Lf {t:Nat} (h:t<18446744073709551616):u64.wrap ((BitVec.ofInt (u64).bits (t:Int) &&& BitVec.ofInt (u64).bits 4294967295).toNat)=((t%WB:Nat):Int):=by
 have e:(BitVec.ofInt (u64).bits 4294967295).toNat=4294967295:=by decide
 have e2:(BitVec.ofInt (u64).bits (t:Int)).toNat=t:=by
  show (BitVec.ofInt 64 (t:Int)).toNat=t;rw [Vy,Vz,Se h]
 rw [BitVec.toNat_and,e,e2];have:=V5 t 32;rw [show (2:Nat) ^ 32-1=4294967295 from rfl] at this;rw [this,show (2:Nat) ^ 32=WB from rfl];have hm:t%WB<WB:=Ts _ (by decide)
 rw [gX ⟨by omega,by have:t%WB<4294967296:=hm; omega⟩]
theorem Ho {l:List bU}{k:Nat}{x v:bU} (h:l[k]? = some x) (hx:0<=x.n) (hv:0<=v.n):(nv (l.set k v):Int)+((WB ^ k:Nat):Int)*x.n=nv l+((WB ^ k:Nat):Int)*v.n:=by
 have:=Q6 (λn:Nat=>(n:Int)) (Cg (v:=v) h);simp only [VI,Rd] at this;rw [TL hx,TL hv] at this;exact this
theorem LL {nl nl' o nw P W bo ca low ca' bo' Z gy:Int} (hA:nl'+P*o=nl+P*nw) (hB:nw+W*bo'=bo+o-low) (hC:low+W*ca'=ca+gy) (hI:nl+P*(bo-ca)=Z):
  nl'+P*W*(bo'-ca')=Z-P*gy:=by
 have e:W*(bo'-ca')=bo+o-nw-ca-gy:=by rw [VH]; omega
 rw [VG,e,<- hI,VH,VH,VH,VF,VH];omega
theorem Hr {l l0:List bU}{m:Nat} (h:∀ p,m<=p->l[p]? = l0[p]?) (hm:m<=l.length):nv l=nv (l.take m)+WB ^ m*nv (l0.drop m):=by
 have e:l.drop m=l0.drop m:=by
  apply R8;intro i;rw [Q7,Q7];exact h _ (by omega)
 have:nv l=nv (l.take m++l.drop m):=by rw [RP]
 rw [this,D6,e,QN,Rq hm]
theorem Ch (l:List bU) {m:Nat} (hm:m<=l.length):nv l=nv (l.take m)+WB ^ m*nv (l.drop m):=Hr (λ_ _=>rfl) hm
theorem Ox {b r134 vs:List bU}{j g:Nat}{l0:List bU}{fin:List bU×Int×Int->Option (List bU×List bU)}{Q:List bU×List bU->Prop}
  (hvs:r8 r134 0 (((b.length:Int):Int).toNat)=vs) (hvl:vs.length=b.length) (hvw:Wf vs) (hl:Wf l0) (hjn:j+b.length<l0.length) (hN:l0.length<=1000001) (hg:g<=WB)
  (hk:∀ l bo ca,l.length=l0.length->Wf l->-1<=bo->bo<=0->0<=ca->ca<4294967296->(nv l:Int)+((WB ^ (j+b.length):Nat):Int)*(bo-ca)=nv l0-((WB ^ j:Nat):Int)*((g:Int)*(nv vs:Int)) ->
   (∀ p,j+b.length<=p->l[p]? = l0[p]?)->(∀ p,p<j->l[p]? = l0[p]?)->Gd (fin (l,bo,ca)) Q):
  Gd (kL (λk s1409 n=>oS b r134 (j:Int) (g:Int) k s1409.1 s1409.2.1 s1409.2.2 n) fin b.length 0 (l0,0,0)) Q:=by
 have hg:g<=4294967296:=hg;refine Gd.kL (λm k (z:List bU×Int×Int)=>k+m=b.length/\z.1.length=l0.length/\Wf z.1/\-1<=z.2.1/\z.2.1<=0/\0<=z.2.2/\z.2.2<4294967296/\(nv z.1:Int)+((WB ^ (j+k):Nat):Int)*(z.2.1-z.2.2)=nv l0-((WB ^ j:Nat):Int)*((g:Int)*(nv (vs.take k):Int))/\(∀ p,j+k<=p->z.1[p]? = l0[p]?)/\(∀ p,p<j->z.1[p]? = l0[p]?)) ?_ ?_ _ 0 _ ⟨by omega,rfl,hl,by show (-1:Int)<=0; omega,S6 _,S6 _,by show (0:Int)<4294967296; omega,by simp [nv],λp _=>rfl,λp _=>rfl⟩
 ·rintro m k ⟨l,bo,ca⟩ nx ⟨h0,h1,h2,h3,h4,h5,h6,h7,h8,h9⟩ hnx
  simp only at h1 h2 h3 h4 h5 h6 h7 h8 h9 hnx ⊢;have hkb:k<b.length:=by omega
  obtain ⟨y,hy⟩:∃ y,vs[k]? = some y:=⟨_,Ql (by omega)⟩
  have hyw:=hvw y (Qz hy);obtain ⟨o,ho⟩:∃ o,l[j+k]? = some o:=⟨_,Ql (by omega)⟩
  have how:=h2 o (Qz ho);have wj:i64.wrap ((k:Int)+(j:Int))=((j+k:Nat):Int):=by rw [bV ⟨by omega,by omega⟩]; omega
  have hjk:(((j+k:Nat):Int)).toNat=j+k:=by omega
  unfold oS;rw [hvs,wj];refine Gd.ix (by omega) (by rw [Qn]; exact hy) (Gd.ix (by omega) (by rw [hjk]; exact ho) (Gd.ix (by omega) (by rw [hjk]; exact ho) ?_))
  obtain ⟨Y,hY⟩:∃ Y:Nat,y.n=Y:=⟨y.n.toNat,by omega⟩
  obtain ⟨cn,rfl⟩:∃ cn:Nat,ca=cn:=⟨ca.toNat,by omega⟩
  have hgy:g*Y<=4294967296*4294967295:=Nat.mul_le_mul hg (by omega)
  have ht:u64.wrap ((cn:Int)+(u64.wrap ((g:Int)*(u64.wrap (y.n)))))=((cn+g*Y:Nat):Int):=by
   rw [hY,gX (n:=(Y:Int)) (by omega),show (g:Int)*(Y:Int)=((g*Y:Nat):Int) by rw [Rd],gX (n:=((g*Y:Nat):Int)) (by omega),gX (by omega)]
   omega
  rw [ht,Lf (by omega),Dm]
  have hdm:=V_ (cn+g*Y) WB;have hlow:(cn+g*Y)%WB<WB:=Ts _ (by decide)
  have hcl:(cn+g*Y) / WB<4294967296:=by
   rw [V7 (by decide)]
   show cn+g*Y<4294967296*4294967296;omega
  have e2:((cn+g*Y:Nat):Int) / 4294967296=(((cn+g*Y) / WB:Nat):Int):=rfl;rw [e2];have hC:(((cn+g*Y)%WB:Nat):Int)+4294967296*(((cn+g*Y) / WB:Nat):Int)=(cn:Int)+((g*Y:Nat):Int):=by
   have:(cn+g*Y)%WB+4294967296*((cn+g*Y) / WB)=cn+g*Y:=hdm;omega
  generalize (cn+g*Y)%WB=low at hlow hC;generalize (cn+g*Y) / WB=c2 at hcl hC;have hlow:low<4294967296:=hlow;have hnb:i64.wrap (bo+(i64.wrap ((i64.wrap (o.n))-(i64.wrap ((low:Nat):Int)))))=bo+o.n-low:=by
   rw [bV (n:=o.n) (by omega),bV (n:=(low:Int)) (by omega),bV (n:=o.n-low) (by omega),bV (by omega)]
   omega
  rw [hnb,hjk,xo,KJ];refine hnx _ ⟨by omega,by simp [h1],h2.set (by omega),by simp only; omega,by simp only; omega,by simp only; omega,by simp only; omega,?_,λp hp=>?_,λp hp=>?_⟩
  ·simp only
   have hA:=Ho (l:=l) (k:=j+k) (x:=o) (v:=⟨(bo+o.n-low)%4294967296⟩) ho how.1 (by simp only; omega)
   simp only at hA;have hB:(bo+o.n-low)%4294967296+4294967296*((bo+o.n-low) / 4294967296)=bo+o.n-low:=by omega
   have:=LL hA hB hC h7;rw [show j+(k+1)=(j+k)+1 by omega,Wo,Rd,show ((WB:Nat):Int)=4294967296 from rfl,this,ry hy,hY,Wg]
   simp only [Qn,VI,Rd];rw [VF (g:Int),VF ((WB ^ j:Nat):Int),VG ((WB ^ j:Nat):Int) ((WB ^ k:Nat):Int)];have e:(g:Int)*(((WB ^ k:Nat):Int)*(Y:Int))=((WB ^ k:Nat):Int)*((g:Int)*(Y:Int)):=by
    rw [<- VG,Int.mul_comm (g:Int),VG]
   rw [e];omega
  ·simp only
   rw [QM (by omega)]
   exact h8 p (by omega)
  ·simp only
   rw [QM (by omega)]
   exact h9 p hp
 ·rintro k ⟨l,bo,ca⟩ ⟨h0,h1,h2,h3,h4,h5,h6,h7,h8,h9⟩
  simp only at h1 h2 h3 h4 h5 h6 h7 h8 h9;have hk':k=b.length:=by omega
  subst hk';rw [<- hvl,Sc] at h7;rw [hvl] at h7;exact hk l bo ca h1 h2 h3 h4 h5 h6 h7 h8 h9
theorem Le {nl nl' o s P W c Y T T' B X:Nat} (h1:nl'+P*o=nl+P*(s%W)) (hs:s=c+o+Y) (h2:nl+P*c=X+B*T) (hP:P*Y=B*(T'-T)) (hT:T<=T'):nl'+P*W*(s / W)=X+B*T':=by
 have hd:s%W+W*(s / W)=s:=V_ s W;have e:P*(s%W)+P*(W*(s / W))=P*s:=by rw [<- Wa,hd]
 have e2:P*s=P*c+P*o+P*Y:=by rw [hs,Wa,Wa]
 have e3:B*T'=B*T+B*(T'-T):=by rw [<- Wa]; congr 1; omega
 rw [Wb P W];omega
theorem Oe {b r134 vs:List bU}{j:Nat}{l1:List bU}{fin:List bU×Int->Option (List bU×List bU)}{Q:List bU×List bU->Prop}
  (hvs:r8 r134 0 (((b.length:Int):Int).toNat)=vs) (hvl:vs.length=b.length) (hvw:Wf vs) (hl:Wf l1) (hjn:j+b.length<l1.length) (hN:l1.length<=1000001)
  (hk:∀ l c,l.length=l1.length->Wf l->0<=c->c<=1->nv l+WB ^ (j+b.length)*c.toNat=nv l1+WB ^ j*nv vs->(∀ p,j+b.length<=p->l[p]? = l1[p]?)->(∀ p,p<j->l[p]? = l1[p]?)->Gd (fin (l,c)) Q):
  Gd (kL (λk s1621 n=>oT b r134 (j:Int) k s1621.1 s1621.2 n) fin b.length 0 (l1,0)) Q:=by
 refine Gd.kL (λm k (z:List bU×Int)=>k+m=b.length/\z.1.length=l1.length/\Wf z.1/\0<=z.2/\z.2<=1/\nv z.1+WB ^ (j+k)*z.2.toNat=nv l1+WB ^ j*nv (vs.take k)/\(∀ p,j+k<=p->z.1[p]? = l1[p]?)/\(∀ p,p<j->z.1[p]? = l1[p]?)) ?_ ?_ _ 0 _ ⟨by omega,rfl,hl,S6 _,by show (0:Int)<=1; omega,by simp [nv],λp _=>rfl,λp _=>rfl⟩
 ·rintro m k ⟨l,c⟩ nx ⟨h0,h1,h2,h3,h4,h7,h8,h9⟩ hnx
  simp only at h1 h2 h3 h4 h7 h8 h9 hnx ⊢;obtain ⟨y,hy⟩:∃ y,vs[k]? = some y:=⟨_,Ql (by omega)⟩
  have hyw:=hvw y (Qz hy);obtain ⟨o,ho⟩:∃ o,l[j+k]? = some o:=⟨_,Ql (by omega)⟩
  have how:=h2 o (Qz ho);have wj:i64.wrap ((k:Int)+(j:Int))=((j+k:Nat):Int):=by rw [bV ⟨by omega,by omega⟩]; omega
  have hjk:(((j+k:Nat):Int)).toNat=j+k:=by omega
  unfold oT;rw [hvs,wj];refine Gd.ix (by omega) (by rw [hjk]; exact ho) (Gd.ix (by omega) (by rw [Qn]; exact hy) (Gd.ix (by omega) (by rw [hjk]; exact ho) ?_))
  have hs:u64.wrap (c+(u64.wrap ((u64.wrap (o.n))+(u64.wrap (y.n)))))=c+o.n+y.n:=by
   rw [gX (n:=o.n) (by omega),gX (n:=y.n) (by omega),gX (n:=o.n+y.n) (by omega),gX (by omega)]
   omega
  rw [hs,hjk,Dm,xo];have hsn:c+o.n+y.n=((c.toNat+o.n.toNat+y.n.toNat:Nat):Int):=by omega
  refine hnx _ ⟨by omega,by simp [h1],h2.set (by omega),by simp only; omega,by simp only; omega,?_,λp hp=>?_,λp hp=>?_⟩
  ·simp only
   have g:=Cg (l:=l) (k:=j+k) (x:=o) (v:=⟨(c+o.n+y.n)%4294967296⟩) ho;simp only at g;have g1:((c+o.n+y.n)%4294967296).toNat=(c.toNat+o.n.toNat+y.n.toNat)%WB:=by rw [hsn]; show _=_%4294967296; omega
   have g2:((c+o.n+y.n) / 4294967296).toNat=(c.toNat+o.n.toNat+y.n.toNat) / WB:=by rw [hsn]; show _=_ / 4294967296; omega
   rw [g1] at g;rw [g2,show j+(k+1)=(j+k)+1 by omega,Wo]
   refine Le g rfl h7 (T':=nv (vs.take (k+1))) ?_ ?_
   ·rw [ry hy,Sy,Wg,Wb]
   ·rw [ry hy]; omega
  ·simp only
   rw [QM (by omega)]
   exact h8 p (by omega)
  ·simp only
   rw [QM (by omega)]
   exact h9 p hp
 ·rintro k ⟨l,c⟩ ⟨h0,h1,h2,h3,h4,h7,h8,h9⟩
  simp only at h1 h2 h3 h4 h7 h8 h9;have hk':k=b.length:=by omega
  subst hk';rw [<- hvl,Sc] at h7;rw [hvl] at h7;exact hk l c h1 h2 h3 h4 h7 h8 h9
theorem Js {qs l':List bU}{j:Nat}{g:Int}{nx:List bU×List bU×Int->Option (List bU×List bU)}{Q:List bU×List bU->Prop} (hj:j<qs.length) (hN:qs.length<=1000001) (hg:0<=g/\g<4294967296)
  (hn:Gd (nx (qs.set j ⟨g⟩,l',(j:Int)-1)) Q):Gd (lj qs (j:Int) nx l' g) Q:=by
 unfold lj;refine Gd.iH hj ?_;rw [Qn,xo,bV (by omega),show g%4294967296=g by omega]
 exact hn
theorem M6 {W P B low U V n0:Nat} (h0:n0=low+P*U) (hlow:low<P) (hV:V<=B) (hU:U<W*V):n0<P*(W*B):=by
 have h1:U+1<=W*B:=Ro hU (Wd _ hV);have h2:P*(U+1)<=P*(W*B):=Wd _ h1;rw [Wa] at h2;omega
theorem Ba {n0 X M T:Nat} (h:n0=X+M*T) (hb:n0<M):T=0:=by
 rcases Nat.eq_zero_or_pos T with h' | h'
 ·exact h'
 ·have:M*1<=M*T:=Wd _ h'
  omega
theorem JO {b r134 vs:List bU}{j g q U:Nat}{l0 qs:List bU}{nx:List bU×List bU×Int->Option (List bU×List bU)}{Q:List bU×List bU->Prop}
  (hvs:r8 r134 0 (((b.length:Int):Int).toNat)=vs) (hvl:vs.length=b.length) (hvw:Wf vs) (hl:Wf l0) (hjn:j+b.length<l0.length) (hN:l0.length<=1000001) (hj:j<qs.length) (hqN:qs.length<=1000001)
  (hU:nv (l0.drop j)=U) (hV:nv vs<=WB ^ b.length) (hUW:U<WB*nv vs) (hq1:q*nv vs<=U) (hq2:U<(q+1)*nv vs) (hqW:q<WB) (hg:N7 WB (nv vs) U q g)
  (hn:∀ l',l'.length=l0.length->Wf l'->nv l'+WB ^ j*(q*nv vs)=nv l0->(∀ p,p<j->l'[p]? = l0[p]?)->Gd (nx (qs.set j ⟨(q:Int)⟩,l',(j:Int)-1)) Q):
  Gd (fW b r134 qs l0 (j:Int) nx (g:Int)) Q:=by
 have hqW':q<4294967296:=hqW;have wjn:i64.wrap ((j:Int)+(b.length:Int))=((j+b.length:Nat):Int):=by rw [bV ⟨by omega,by omega⟩]; omega
 have hjk:(((j+b.length:Nat):Int)).toNat=j+b.length:=by omega
 have h0:=Ch l0 (m:=j) (by omega)
 rw [hU] at h0;have hlow:=sU (hl.take j);rw [QN,Rq (by omega)] at hlow
 have hpow:WB ^ (j+b.length+1)=WB ^ j*(WB*WB ^ b.length):=by rw [Wo,Wg,Wc WB,Wb]
 have hbig:nv l0<WB ^ (j+b.length+1):=by rw [hpow]; exact M6 h0 hlow hV hUW
 have habove:nv (l0.drop (j+b.length+1))=0:=Ba (Ch l0 (m:=j+b.length+1) (by omega)) hbig
 have small:∀ l:List bU,l.length=l0.length->Wf l->(∀ p,j+b.length+1<=p->l[p]? = l0[p]?)->nv l<WB ^ (j+b.length+1):=λl h1 h2 h3=>by
  rw [Hr h3 (by omega),habove,We,RV]
  have:=sU (h2.take (j+b.length+1));rw [QN,Rq (by omega)] at this
  exact this
 unfold fW;rw [show ((b.length:Int):Int).toNat=b.length by omega] at hvs
 rw [show ((b.length:Int):Int).toNat=b.length by omega]
 refine Ox (by rw [show ((b.length:Int):Int).toNat=b.length by omega]; exact hvs) hvl hvw hl hjn hN hg.w (λl bo ca e1 e2 e3 e4 e5 e6 e7 e8 e9=>?_)
 obtain ⟨o,ho⟩:∃ o,l[j+b.length]? = some o:=⟨_,Ql (by omega)⟩
 have how:=e2 o (Qz ho);simp only;rw [wjn];refine Gd.ix (by omega) (by rw [hjk]; exact ho) (Gd.ix (by omega) (by rw [hjk]; exact ho) ?_)
 have hnb:i64.wrap (bo+(i64.wrap ((i64.wrap (o.n))-(i64.wrap ca))))=bo+o.n-ca:=by
  rw [bV (n:=o.n) (by omega),bV (n:=ca) (by omega),bV (n:=o.n-ca) (by omega),bV (by omega)]
  omega
 rw [hnb,hjk,xo];have hA:=Ho (l:=l) (k:=j+b.length) (x:=o) (v:=⟨(bo+o.n-ca)%4294967296⟩) ho how.1 (by simp only; omega)
 simp only at hA;have hW1:Wf (l.set (j+b.length) ⟨(bo+o.n-ca)%4294967296⟩):=e2.set (by omega)
 have hlen1:(l.set (j+b.length) (⟨(bo+o.n-ca)%4294967296⟩:bU)).length=l0.length:=by simp [e1]
 have hab1:∀ p,j+b.length+1<=p->(l.set (j+b.length) (⟨(bo+o.n-ca)%4294967296⟩:bU))[p]? = l0[p]? := λp hp=>by
  rw [QM (by omega)]; exact e8 p (by omega)
 have hbe1:∀ p,p<j->(l.set (j+b.length) (⟨(bo+o.n-ca)%4294967296⟩:bU))[p]? = l0[p]? := λp hp=>by
  rw [QM (by omega)]; exact e9 p hp
 have hsm1:=small _ hlen1 hW1 hab1;generalize l.set (j+b.length) (⟨(bo+o.n-ca)%4294967296⟩:bU)=l1 at hA hW1 hlen1 hab1 hbe1 hsm1;have hPW:((WB ^ (j+b.length+1):Nat):Int)=((WB ^ (j+b.length):Nat):Int)*4294967296:=by rw [Wo,Rd,show ((WB:Nat):Int)=4294967296 from rfl]
 have hZ:(nv l1:Int)+((WB ^ (j+b.length):Nat):Int)*(bo+o.n-ca-(bo+o.n-ca)%4294967296)=nv l0-((WB ^ j:Nat):Int)*((g:Int)*(nv vs:Int)):=by
  rw [<- e7,VH,VH,VF,VH];omega
 have hZU:(nv l0:Int)-((WB ^ j:Nat):Int)*((g:Int)*(nv vs:Int))=nv (l0.take j)+((WB ^ j:Nat):Int)*((U:Int)-(g:Int)*(nv vs:Int)):=by
  rw [h0,VI,Rd,VH]; omega
 have hge:=hg.ge; have hle:=hg.le
 refine Gd.ite (λhneg=>?_) (λhpos=>?_)
 ·have hneg:bo+o.n-ca<0:=Qr hneg
  have hdiv:bo+o.n-ca-(bo+o.n-ca)%4294967296 = -4294967296:=by omega
  rw [hdiv] at hZ;have hZ1:(nv l1:Int)-((WB ^ (j+b.length+1):Nat):Int)=nv l0-((WB ^ j:Nat):Int)*((g:Int)*(nv vs:Int)):=by
   rw [hPW,<- hZ,Int.mul_neg]; omega
  have hgq:g=q+1:=by
   rcases (show g=q\/g=q+1 by omega) with h | h
   ·exfalso
    rw [h] at hZ1 hZU;have h0':(0:Int)<=(U:Int)-(q:Int)*(nv vs:Int):=by
     have h1':((q*nv vs:Nat):Int)<=U:=by omega
     rw [Rd] at h1'; omega
    have:(0:Int)<=((WB ^ j:Nat):Int)*((U:Int)-(q:Int)*(nv vs:Int)):=Int.mul_nonneg (by omega) h0'
    omega
   ·exact h
  refine Oe (j:=j) (l1:=l1) (by rw [show ((b.length:Int):Int).toNat=b.length by omega]; exact hvs) hvl hvw hW1 (by omega) (by omega) (λl2 c f1 f2 f3 f4 f5 f6 f7=>?_)
  obtain ⟨o2,ho2⟩:∃ o2,l2[j+b.length]? = some o2:=⟨_,Ql (by omega)⟩
  have how2:=f2 o2 (Qz ho2);simp only;refine Gd.ix (by omega) (by rw [hjk]; exact ho2) (Gd.ix (by omega) (by rw [hjk]; exact ho2) ?_)
  rw [xo,xo,show c%4294967296=c by omega]
  have hg1:u64.wrap ((g:Int)-1)=(q:Int):=by rw [hgq,gX (by omega)]; omega
  rw [hg1];have hB:=Cg (l:=l2) (k:=j+b.length) (x:=o2) (v:=⟨(o2.n+c)%4294967296⟩) ho2;simp only at hB;have hW2:Wf (l2.set (j+b.length) ⟨(o2.n+c)%4294967296⟩):=f2.set (by omega)
  have hlen2:(l2.set (j+b.length) (⟨(o2.n+c)%4294967296⟩:bU)).length=l0.length:=by simp [f1,hlen1]
  have hab2:∀ p,j+b.length+1<=p->(l2.set (j+b.length) (⟨(o2.n+c)%4294967296⟩:bU))[p]? = l0[p]? := λp hp=>by
   rw [QM (by omega),f6 p (by omega)]; exact hab1 p hp
  have hbe2:∀ p,p<j->(l2.set (j+b.length) (⟨(o2.n+c)%4294967296⟩:bU))[p]? = l0[p]? := λp hp=>by
   rw [QM (by omega),f7 p hp]; exact hbe1 p hp
  have hsm2:=small _ hlen2 hW2 hab2;generalize l2.set (j+b.length) (⟨(o2.n+c)%4294967296⟩:bU)=l3 at hB hW2 hlen2 hab2 hbe2 hsm2;refine Js hj hqN (by omega) (hn l3 hlen2 hW2 ?_ hbe2)
  obtain ⟨κ,hκ⟩:∃ κ:Nat,o2.n.toNat+c.toNat=((o2.n+c)%4294967296).toNat+WB*κ:=by
   refine ⟨((o2.n+c) / 4294967296).toNat,?_⟩;have eW:WB=4294967296:=rfl;rw [eW]; omega
  have hsum:nv l3+WB ^ (j+b.length+1)*κ=nv l1+WB ^ j*nv vs:=by
   have e:WB ^ (j+b.length)*o2.n.toNat+WB ^ (j+b.length)*c.toNat=WB ^ (j+b.length)*((o2.n+c)%4294967296).toNat+WB ^ (j+b.length)*(WB*κ):=by
    rw [<- Wa,hκ,Wa]
   rw [Wo,Wb];omega
  have hVlt:WB ^ j*nv vs<WB ^ (j+b.length+1):=by
   have h1:WB ^ j*nv vs<=WB ^ j*WB ^ b.length:=Wd _ hV;have h2:WB ^ j*WB ^ b.length<WB ^ (j+b.length+1):=by
    rw [<- Wg]; exact Nat.pow_lt_pow_right (by decide) (by omega)
   omega
  have hZq:(nv l1:Int)+((WB ^ j*nv vs:Nat):Int)=nv (l0.take j)+((WB ^ j:Nat):Int)*((U:Int)-(q:Int)*(nv vs:Int))+((WB ^ (j+b.length+1):Nat):Int):=by
   rw [hgq] at hZ1 hZU;have e:((WB ^ j:Nat):Int)*((U:Int)-((q+1:Nat):Int)*(nv vs:Int))=((WB ^ j:Nat):Int)*((U:Int)-(q:Int)*(nv vs:Int))-((WB ^ j*nv vs:Nat):Int):=by
    rw [Rd,<- VH]
    congr 1
    rw [show ((q+1:Nat):Int)=(q:Int)+1 by omega,Int.add_mul]
    omega
   rw [e] at hZU;omega
  have hnn:(0:Int)<=((WB ^ j:Nat):Int)*((U:Int)-(q:Int)*(nv vs:Int)):=Int.mul_nonneg (by omega) (by
   have:((q*nv vs:Nat):Int)<=U:=by omega
   rw [Rd] at this; omega)
  have hκ1:κ=1:=by
   rcases Sm κ 1 with h | h
   ·exfalso
    have:κ=0:=by omega
    rw [this] at hsum; omega
   ·rcases Sm 1 κ with h2 | h2
    ·exfalso
     have:WB ^ (j+b.length+1)*2<=WB ^ (j+b.length+1)*κ:=Wd _ h2;omega
    ·omega
  rw [hκ1,S9] at hsum;have e:((WB ^ j:Nat):Int)*((U:Int)-(q:Int)*(nv vs:Int))=((WB ^ j*U:Nat):Int)-((WB ^ j*(q*nv vs):Nat):Int):=by
   rw [VH,Rd,Rd,Rd]
  rw [e] at hZq;omega
 ·have hpos:¬ bo+o.n-ca<0:=QB hpos
  have hdiv:bo+o.n-ca-(bo+o.n-ca)%4294967296=0:=by omega
  rw [hdiv,Int.mul_zero,Int.add_zero] at hZ;have hgq:g=q:=by
   rcases (show g=q\/g=q+1 by omega) with h | h
   ·exact h
   ·exfalso
    rw [h] at hZ hZU;have h1:(U:Int)-((q+1:Nat):Int)*(nv vs:Int)<=-1:=by
     have:(U:Int)<(((q+1)*nv vs:Nat):Int):=by omega
     rw [Rd] at this; omega
    have h2:((WB ^ j:Nat):Int)*((U:Int)-((q+1:Nat):Int)*(nv vs:Int))<=((WB ^ j:Nat):Int)*(-1):=Int.mul_le_mul_of_nonneg_left h1 (by omega)
    omega
  rw [hgq] at hZ ⊢;refine Js hj hqN (by omega) (hn l1 hlen1 hW1 ?_ hbe1)
  have e:((WB ^ j:Nat):Int)*((q:Int)*(nv vs:Int))=((WB ^ j*(q*nv vs):Nat):Int):=by rw [Rd,Rd]
  rw [e] at hZ;omega
theorem Hq {l:List bU}{m:Nat}{x y:bU} (h1:l[m+1]? = some x) (h2:l[m]? = some y) (h0:nv (l.drop (m+2))=0):nv l=(x.n.toNat*WB+y.n.toNat)*WB ^ m+nv (l.take m):=by
 have e:=wA h2;have e1:nv (l.drop (m+1))=x.n.toNat+WB*nv (l.drop (m+2)):=by rw [rj h1,nv]
 rw [e,e1,h0,We,RV,Wc (WB ^ m),S8 (nv (l.take m)),S8 y.n.toNat,Wc WB x.n.toNat]
theorem Ks {l:List bU}{m:Nat}{x y z:bU} (h1:l[m+2]? = some x) (h2:l[m+1]? = some y) (h3:l[m]? = some z) (h0:nv (l.drop (m+3))=0):nv l=((x.n.toNat*WB+y.n.toNat)*WB+z.n.toNat)*WB ^ m+nv (l.take m):=by
 have e:=wA h3;have e1:nv (l.drop (m+1))=y.n.toNat+WB*nv (l.drop (m+2)):=by rw [rj h2,nv]
 have e2:nv (l.drop (m+2))=x.n.toNat+WB*nv (l.drop (m+3)):=by rw [rj h1,nv]
 rw [e,e1,e2,h0,We,RV,Wc (WB ^ m),S8 (nv (l.take m)),S8 z.n.toNat,Wc WB (y.n.toNat+_),S8 y.n.toNat,Wc WB x.n.toNat]
theorem J4 {b r134 vs:List bU}{j n2 q U R v1 v2 vl u2 ul top:Nat}{l0 qs:List bU}{nx:List bU×List bU×Int->Option (List bU×List bU)}{Q:List bU×List bU->Prop}
  (hb:b.length=n2+2) (hvs:r8 r134 0 (((b.length:Int):Int).toNat)=vs) (hvl:vs.length=b.length) (hl0:j+b.length<l0.length) (hN:l0.length<=1000001)
  (y1 y2 z2:bU) (hy1:vs[n2+1]? = some y1) (hy2:vs[n2]? = some y2) (hz2:l0[j+n2]? = some z2) (e1:y1.n=v1) (e2:y2.n=v2) (e3:z2.n=u2) (w1:v1<4294967296) (hv1:1<=v1)
  (hS:GU WB R v1 v2 vl u2 ul top (nv vs) U) (hq1:q*nv vs<=U) (hq2:U<(q+1)*nv vs) (hqW:q<WB)
  (hk:∀ g,N7 WB (nv vs) U q g->Gd (fW b r134 qs l0 (j:Int) nx (g:Int)) Q)
  {g0 rest0:Nat} (h0:Gs WB R v1 v2 vl u2 ul top (nv vs) U q g0 rest0):
  Gd (iN (λs1721 n=>oU b r134 qs l0 (j:Int) nx s1721.1 s1721.2 n) fY ((g0:Int),(rest0:Int))) Q:=by
 have hu2:u2<4294967296:=hS.u2;have hv2:v2<4294967296:=hS.v2;have eW:WB=4294967296:=rfl;refine Gd.iN (λ(z:Int×Int)=>∃ g rest:Nat,z=((g:Int),(rest:Int))/\Gs WB R v1 v2 vl u2 ul top (nv vs) U q g rest) (λz=>z.1.toNat) ?_ fY _ ⟨g0,rest0,rfl,h0⟩ ?_
 ·rintro z nx2 ⟨g,rest,rfl,hG⟩ hnx
  simp only at hnx ⊢;have hrest:rest<4294967296:=hG.rest;have hgW:g<=4294967297:=hG.le;have wn1:i64.wrap ((b.length:Int)-1)=((n2+1:Nat):Int):=by rw [hb,bV (by omega)]; omega
  have wn2:i64.wrap ((b.length:Int)-2)=((n2:Nat):Int):=by rw [hb,bV (by omega)]; omega
  have wjn:i64.wrap ((i64.wrap ((j:Int)+(b.length:Int)))-2)=((j+n2:Nat):Int):=by rw [hb,bV (n:=(j:Int)+_) (by omega),bV (by omega)]; omega
  have dec:q<g->Gd (if decide (4294967296<=(u64.wrap ((rest:Int)+(u64.wrap (y1.n))))) then (fW b r134 qs l0 (j:Int) nx (u64.wrap ((g:Int)-1))) else (nx2 (u64.wrap ((g:Int)-1),u64.wrap ((rest:Int)+(u64.wrap (y1.n)))))) Q:=λhlt=>by
   have er:u64.wrap ((rest:Int)+(u64.wrap (y1.n)))=((rest+v1:Nat):Int):=by
    rw [e1,gX (n:=(v1:Int)) (by omega),gX (by omega)]; omega
   have eg:u64.wrap ((g:Int)-1)=((g-1:Nat):Int):=by rw [gX (by omega)]; omega
   rw [er,eg];refine Gd.ite (λh=>hk _ (hG.over hS hq2 hv1 hlt (by rw [eW]; have:=Qr h; omega))) (λh=>hnx _ ⟨g-1,rest+v1,rfl,hG.next hlt (by rw [eW]; have:=QB h; omega)⟩ ?_)
   simp only [Qn];omega
  unfold oU;rw [hvs,wn1,wn2,wjn];refine Gd.ite (λh=>?_) (λh=>?_)
  ·have h:=Qr h
   refine Gd.ix (by omega) (by rw [Qn]; exact hy1) (dec (hG.less hS hq1 hqW (.inl (by rw [eW]; omega))))
  ·have h:=QB h
   refine Gd.ix (by omega) (by rw [Qn]; exact hy2) (Gd.ix (by omega) (by rw [Qn]; exact hz2) ?_)
   have eor:u64.wrap ((BitVec.ofInt (u64).bits (tW .u64 (rest:Int) 32) ||| BitVec.ofInt (u64).bits (u64.wrap (z2.n))).toNat)=((rest*WB+u2:Nat):Int):=by
    rw [zr ⟨by omega,by omega⟩ (by rw [e3]; omega),e3,eW]; omega
   have egv:u64.wrap ((g:Int)*(u64.wrap (y2.n)))=((g*v2:Nat):Int):=by
    have hb2:g*v2<=4294967296*4294967295:=Nat.mul_le_mul (by omega) (by omega)
    rw [e2,gX (n:=(v2:Int)) (by omega),show (g:Int)*(v2:Int)=((g*v2:Nat):Int) by rw [Rd],gX (by omega)]
   rw [eor,egv];refine Gd.ite (λh2=>Gd.ix (by omega) (by rw [Qn]; exact hy1) (dec (hG.less hS hq1 hqW (.inr ?_)))) (λh2=>hk g (hG.stop hS hq2 hv1 (by rw [eW]; omega) ?_))
   ·exact Int.ofNat_lt.1 (Qr h2)
   ·have:=QB h2
    exact Int.ofNat_le.1 (Int.not_lt.1 this)
 ·simp only [fY,Qn]
  have:g0<=4294967297:=h0.le;omega
theorem J3 {W R v1 v2 vl u2 ul u0 u1 V U q:Nat} (h:GU W R v1 v2 vl u2 ul (u0*W+u1) V U) (hq:q*V<=U) (hv:1<=v1) (hv1:v1<W) (hW:W<=2*v1) (hu0:u0<=v1) (hu1:u1<W):
  Gs W R v1 v2 vl u2 ul (u0*W+u1) V U q ((u0*W+u1) / v1) ((u0*W+u1)%v1):=by
 have hm:(u0*W+u1)%v1<v1:=Ts _ hv;refine ⟨(V8 hv).2 (h.NI hq),?_,by omega,?_⟩
 ·rw [Wc,S8,V_]
 ·have h1:u0*W<=v1*W:=QF _ hu0
  have h2:u0*W+u1<(W+2)*v1:=by
   rw [QK,Wc W v1]; omega
  have:=(V7 hv).2 h2;omega
theorem DY {W R u0 u1 v1 v2 vl ul V X:Nat} (hX:X=(u0*W+u1)*R+ul) (hV:V=(v1*W+v2)*R+vl) (hlt:X<V) (hvl:vl<R) (hv2:v2<W):u0<=v1:=by
 rcases Sm v1 u0 with h | h
 ·exfalso
  have h1:(v1+1)*W*R<=u0*W*R:=QF _ (QF _ h);have h2:(v2+1)*R<=W*R:=QF _ hv2;have e1:(v1+1)*W*R=v1*W*R+W*R:=by rw [QK,QK,Ug]
  have e2:X=u0*W*R+u1*R+ul:=by rw [hX,QK]
  have e3:V=v1*W*R+v2*R+vl:=by rw [hV,QK]
  rw [QK] at h2;omega
 ·exact h
theorem J_ {q W D V P nl nu U0:Nat} (h1:nl+P*(q*V)=nu) (h2:D*V*(P*W)+nu=U0):(q+W*D)*V*P+nl=U0:=by
 have e1:(q+W*D)*V*P=P*(q*V)+D*V*(P*W):=by
  rw [QK,QK,Wc P (q*V)]
  congr 1
  rw [Wc W D,Wb D W V,Wc W V,<- Wb D V W,Wb (D*V) W P,Wc W P]
 omega
theorem LM {W x y V:Nat} (hx:x<W) (hy:y<V):x+W*y<W*V:=by
 have:W*(y+1)<=W*V:=Wd _ hy;rw [Wa] at this; omega
theorem KE {P a x q V U:Nat} (hP:0<P) (h1:a+P*x+P*(q*V)=a+P*U) (h2:U<(q+1)*V):x<V:=by
 have e:P*(x+q*V)=P*U:=by rw [Wa]; omega
 have:=Nat.eq_of_mul_eq_mul_left hP e;rw [QK] at h2;omega
theorem Ie {b r134 vs:List bU}{r127:Int}{n2 N U0:Nat}{Q:List bU×List bU->Prop}
  (hb:b.length=n2+2) (hvs:r8 r134 0 (((b.length:Int):Int).toNat)=vs) (hvl:vs.length=b.length) (hvw:Wf vs) (hN:N<=1000001)
  (y1 y2:bU) (hy1:vs[n2+1]? = some y1) (hy2:vs[n2]? = some y2) (hnorm:2147483648<=y1.n)
  (qs0 u0:List bU) (hq0:qs0.length+b.length=N) (hqw:Wf qs0) (hu0:u0.length=N) (huw:Wf u0) (hstart:nv (u0.drop qs0.length)<nv vs) (hval:nv u0=U0)
  (hk:∀ qs u,qs.length=qs0.length->Wf qs->u.length=N->Wf u->nv qs*nv vs+nv u=U0->nv u<nv vs ->
   Gd (cZ (0<=(b.length:Int)/\(b.length:Int)*4<=140737488355328) (kL (λk s1815 n=>mG r127 u k s1815 n) (λs1815=>some (qs,s1815)) ((b.length:Int):Int).toNat 0 (List.replicate ((b.length:Int):Int).toNat (⟨0⟩:bU)))) Q):
  Gd (iN (λs1227 n=>oR b r127 r134 s1227.1 s1227.2.1 s1227.2.2 n) fY (qs0,u0,(qs0.length:Int)-1)) Q:=by
 have hy1w:=hvw y1 (Qz hy1); have hy2w:=hvw y2 (Qz hy2)
 have hVB:nv vs<=WB ^ b.length:=by have:=sU hvw; rw [hvl] at this; omega
 refine Gd.iN (λ(z:List bU×List bU×Int)=>z.1.length=qs0.length/\Wf z.1/\z.2.1.length=N/\Wf z.2.1/\-1<=z.2.2/\z.2.2<qs0.length/\nv (z.1.drop (z.2.2+1).toNat)*nv vs*WB ^ (z.2.2+1).toNat+nv z.2.1=U0/\nv (z.2.1.drop (z.2.2+1).toNat)<nv vs) (λz=>(z.2.2+1).toNat) ?_ fY _ ⟨rfl,hqw,hu0,huw,by simp only; omega,by simp only; omega,?_,?_⟩ (by simp only [fY]; omega)
 ·rintro ⟨qs,u,j⟩ nx ⟨h1,h2,h3,h4,h5,h6,h7,h8⟩ hnx
  simp only at h1 h2 h3 h4 h5 h6 h7 h8 hnx ⊢;unfold oR;refine Gd.ite (λhj=>?_) (λhj=>?_)
  ·have hj:=Qr hj
   obtain ⟨k,rfl⟩:∃ k:Nat,j=k:=⟨j.toNat,by omega⟩
   rw [show ((k:Int)+1).toNat=k+1 by omega] at h7 h8
   obtain ⟨t0,ht0⟩:∃ t,u[k+n2+2]? = some t:=⟨_,Ql (by omega)⟩
   obtain ⟨t1,ht1⟩:∃ t,u[k+n2+1]? = some t:=⟨_,Ql (by omega)⟩
   obtain ⟨t2,ht2⟩:∃ t,u[k+n2]? = some t:=⟨_,Ql (by omega)⟩
   have w0:=h4 t0 (Qz ht0); have w1:=h4 t1 (Qz ht1); have w2:=h4 t2 (Qz ht2)
   have wjn:i64.wrap ((k:Int)+(b.length:Int))=((k+n2+2:Nat):Int):=by rw [hb,bV (by omega)]; omega
   have wjm:i64.wrap (((k+n2+2:Nat):Int)-1)=((k+n2+1:Nat):Int):=by rw [bV (by omega)]; omega
   have wn1:i64.wrap ((b.length:Int)-1)=((n2+1:Nat):Int):=by rw [hb,bV (by omega)]; omega
   rw [hvs,wjn,wjm,wn1];have ey1:u64.wrap y1.n=y1.n:=gX (by omega)
   refine Gd.ix (by omega) (by rw [Qn]; exact ht0) (Gd.ix (by omega) (by rw [Qn]; exact ht1) (Gd.ix (by omega) (by rw [Qn]; exact hy1) (Gd.nd (by rw [ey1]; omega) (Gd.ix (by omega) (by rw [Qn]; exact hy1) (Gd.nd (by rw [ey1]; omega) ?_)))))
   rw [gX (n:=t0.n) (by omega),zr w0 w1,ey1]
   obtain ⟨x,hx⟩:∃ x,u[k]? = some x:=⟨_,Ql (by omega)⟩
   have hxw:=h4 x (Qz hx);have hU1:nv (u.drop k)=x.n.toNat+WB*nv (u.drop (k+1)):=by rw [rj hx,nv]
   have hUlt:nv (u.drop k)<WB*nv vs:=by rw [hU1]; exact LM (by show x.n.toNat<4294967296; omega) h8
   have hVlt:nv vs<WB ^ (n2+2):=by have:=sU hvw; rw [hvl,hb] at this; exact this
   have hz:nv (u.drop (k+1+(n2+2)))=0:=by
    have e:=Ch (u.drop (k+1)) (m:=n2+2) (by rw [RX]; omega)
    rw [Sa] at e;exact Ba e (by omega)
   have hVe:=Hq hy1 hy2 (by rw [VP (by omega)]; rfl)
   have hXe:=Hq (l:=u.drop (k+1)) (m:=n2) (x:=t0) (y:=t1) (by rw [Q7,show k+1+(n2+1)=k+n2+2 by omega]; exact ht0) (by rw [Q7,show k+1+n2=k+n2+1 by omega]; exact ht1) (by rw [Sa]; exact hz)
   have hUe:=Ks (l:=u.drop k) (m:=n2) (x:=t0) (y:=t1) (z:=t2) (by rw [Q7,show k+(n2+2)=k+n2+2 by omega]; exact ht0) (by rw [Q7,show k+(n2+1)=k+n2+1 by omega]; exact ht1) (by rw [Q7]; exact ht2) (by rw [Sa,show k+(n2+3)=k+1+(n2+2) by omega]; exact hz)
   have hvl':nv (vs.take n2)<WB ^ n2:=by have:=sU (hvw.take n2); rw [QN,Rq (by omega)] at this; exact this
   have hul':nv ((u.drop k).take n2)<WB ^ n2:=by
    have:=sU (l:=(u.drop k).take n2) (λz hz=>h4 z (List.mem_of_mem_drop (SX hz)));rw [QN,RX,Rq (by omega)] at this; exact this
   have hS:GU WB (WB ^ n2) y1.n.toNat y2.n.toNat (nv (vs.take n2)) t2.n.toNat (nv ((u.drop k).take n2)) (t0.n.toNat*WB+t1.n.toNat) (nv vs) (nv (u.drop k)):=
    ⟨hVe,hUe,hvl',hul',by show t2.n.toNat<4294967296; omega,by show y2.n.toNat<4294967296; omega⟩
   have hle:t0.n.toNat<=y1.n.toNat:=DY hXe hVe h8 hvl' (by show y2.n.toNat<4294967296; omega)
   have hVpos:0<nv vs:=by omega
   obtain ⟨q,hq1,hq2,hqW⟩:∃ q,q*nv vs<=nv (u.drop k)/\nv (u.drop k)<(q+1)*nv vs/\q<WB:=by
    refine ⟨nv (u.drop k) / nv vs,Nat.div_mul_le_self _ _,?_,(V7 hVpos).2 hUlt⟩;have:=Sd (nv (u.drop k) / nv vs);exact (V7 hVpos).1 this
   have hG:=J3 hS hq1 (show 1<=y1.n.toNat by omega) (show y1.n.toNat<WB by show y1.n.toNat<4294967296; omega) (show WB<=2*y1.n.toNat by show 4294967296<=2*y1.n.toNat; omega) hle (show t1.n.toNat<WB by show t1.n.toNat<4294967296; omega)
   have hg0:=hG.le;have etop:t0.n*4294967296+t1.n=((t0.n.toNat*WB+t1.n.toNat:Nat):Int):=by
    show _=((t0.n.toNat*4294967296+t1.n.toNat:Nat):Int); omega
   have ey:y1.n=((y1.n.toNat:Nat):Int):=by omega
   have ed:Int.tdiv (t0.n*4294967296+t1.n) y1.n=(((t0.n.toNat*WB+t1.n.toNat) / y1.n.toNat:Nat):Int):=by
    rw [etop,ey]; rfl
   have em:Int.tmod (t0.n*4294967296+t1.n) y1.n=(((t0.n.toNat*WB+t1.n.toNat)%y1.n.toNat:Nat):Int):=by
    rw [etop,ey]; rfl
   rw [ed,em];generalize (t0.n.toNat*WB+t1.n.toNat) / y1.n.toNat=g0 at hG hg0 ⊢;generalize (t0.n.toNat*WB+t1.n.toNat)%y1.n.toNat=rest0 at hG ⊢;have eW:(WB:Nat)=4294967296:=rfl;rw [eW] at hg0;rw [gX (n:=(g0:Int)) (by omega)]
   refine J4 hb hvs hvl (by omega) (by omega) y1 y2 t2 hy1 hy2 ht2 (by omega) (by omega) (by omega) (by omega) (by omega) hS hq1 hq2 hqW (λg hg=>?_) hG
   refine JO hvs hvl hvw h4 (by omega) (by omega) (by omega) (by omega) rfl hVB hUlt hq1 hq2 hqW hg (λl' f1 f2 f3 f4=>?_)
   have ek:((k:Int)-1+1).toNat=k:=by omega
   refine hnx _ ⟨by rw [RH]; exact h1,h2.set (by rw [eW] at hqW; omega),by simp only; omega,f2,by simp only; omega,by simp only; omega,?_,?_⟩ (by simp only; omega)
   ·simp only
    rw [ek,rj (QQ (by omega)),nv,S3 (by omega)]
    rw [Qn];rw [Wo] at h7;exact J_ f3 h7
   ·simp only
    rw [ek];have e1:=Ch l' (m:=k) (by omega)
    have e2:=Ch u (m:=k) (by omega)
    have e3:l'.take k=u.take k:=by
     apply R8;intro i;rw [Rc,Rc]
     by_cases hi:i<k
     ·rw [Qu hi,Qu hi]; exact f4 i hi
     ·rw [Qs hi,Qs hi]
    rw [e3] at e1;refine KE (a:=nv (u.take k)) (P:=WB ^ k) (Wn (by decide)) ?_ hq2
    omega
  ·have hj:=QB hj
   rw [show (j+1).toNat=0 by omega,RI,Wq,S9] at h7
   rw [show (j+1).toNat=0 by omega,RI] at h8
   exact hk qs u h1 h2 h3 h4 h7 h8
 ·simp only
  rw [show ((qs0.length:Int)-1+1).toNat=qs0.length by omega,Tp]
  simp [nv,hval]
 ·simp only
  rw [show ((qs0.length:Int)-1+1).toNat=qs0.length by omega]
  exact hstart
theorem CS {W S M u0 u1 hi:Nat} (hW:W=S*M) (hS:0<S):
  (u0+W*(u1+W*hi)) / S%W=(u1*W+u0) / S%W:=by
 have e:u0+W*(u1+W*hi)=(u1*W+u0)+S*(M*(W*hi)):=by
  have e1:W*(W*hi)=S*(M*(W*hi)):=by rw [<- Wb S M,<- hW]
  rw [Wa,e1,Wc W u1]; omega
 rw [e,Nat.add_mul_div_left _ _ hS];have e2:M*(W*hi)=W*(M*hi):=by rw [<- Wb,Wc M W,Wb]
 rw [e2,Nat.add_mul_mod_self_left]
theorem Em {W S u0 T:Nat} (hu:u0<W):(u0+W*T) / S / W=T / S:=by
 rw [Nat.div_div_eq_div_mul,Wc S W,<- Nat.div_div_eq_div_mul,Nat.add_mul_div_left _ _ (by omega),V6 hu,QL]
theorem NH {n:Int}{k:Nat} (hk:k<=64):oF .u64 n (k:Int)=n / (2 ^ k:Nat):=by
 unfold oF;rw [show (min ((k:Int)).toNat u64.bits)=k by show min ((k:Int)).toNat 64=k; omega,Ta _ (Int.le_of_lt (Int.pow_pos (by decide)))]
 rw [Int.natCast_pow]; rfl
theorem FC {A P d W D D' Z:Nat} (h:A+P*D=Z) (hd:D%W=d) (hD:D / W=D'):(A+P*d)+P*W*D'=Z:=by
 have e:d+W*D'=D:=by rw [<- hd,<- hD,V_]
 rw [Wb P W,SS,<- Wa,e,h]
theorem GN {n s:Nat} (hs:s<=31) {u:List bU} (hu:Wf u) (hl:n<u.length) (hz:u.length<=1000001) {qs:List bU}{Q:List bU×List bU->Prop} (hlt:nv u / 2 ^ s<WB ^ n)
  (hk:∀ r,Wf r->r.length=n->nv r=nv u / 2 ^ s->Q (qs,r)):
  Gd (kL (λk s1815 n=>mG (s:Int) u k s1815 n) (λs1815=>some (qs,s1815)) n 0 (List.replicate n (⟨0⟩:bU))) Q:=by
 have hS:0<(2:Nat) ^ s:=Wn (by decide)
 have hWS:WB=2 ^ s*2 ^ (32-s):=by rw [<- Wg,show s+(32-s)=32 by omega]
 refine Gd.kL (λm k (z:List bU)=>k+m=n/\z.length=n/\Wf z/\nv (z.take k)+WB ^ k*(nv (u.drop k) / 2 ^ s)=nv u / 2 ^ s) ?_ ?_ _ 0 _ ⟨by omega,by simp,λy hy=>?_,by simp [nv]⟩
 ·rintro m k l nx ⟨h0,h1,h2,h3⟩ hnx
  obtain ⟨x0,hx0⟩:∃ t,u[k]? = some t:=⟨_,Ql (by omega)⟩
  obtain ⟨x1,hx1⟩:∃ t,u[k+1]? = some t:=⟨_,Ql (by omega)⟩
  have w0:=hu x0 (Qz hx0); have w1:=hu x1 (Qz hx1)
  have wk:i64.wrap ((k:Int)+1)=((k+1:Nat):Int):=by rw [bV (by omega)]; omega
  unfold mG;rw [wk];refine Gd.ix (by omega) (by rw [Qn]; exact hx1) (Gd.ix (by omega) (by rw [Qn]; exact hx0) (Gd.nd (by omega) (Gd.iH (by omega) ?_)))
  rw [gX (n:=x1.n) (by omega),zr w1 w0,NH (by omega),xo,Qn]
  have e1:x1.n*4294967296+x0.n=((x1.n.toNat*WB+x0.n.toNat:Nat):Int):=by
   show _=((x1.n.toNat*4294967296+x0.n.toNat:Nat):Int); omega
  have e2:(x1.n*4294967296+x0.n) / ((2 ^ s:Nat):Int)%4294967296=(((x1.n.toNat*WB+x0.n.toNat) / 2 ^ s%WB:Nat):Int):=by
   rw [e1]; rfl
  rw [e2];have hd:nv (u.drop k)=x0.n.toNat+WB*nv (u.drop (k+1)):=by rw [rj hx0,nv]
  have hd1:nv (u.drop (k+1))=x1.n.toNat+WB*nv (u.drop (k+2)):=by rw [rj hx1,nv]
  have hm:=CS (u0:=x0.n.toNat) (u1:=x1.n.toNat) (hi:=nv (u.drop (k+2))) hWS hS;rw [<- hd1,<- hd] at hm;have hn:=Em (W:=WB) (S:=2 ^ s) (u0:=x0.n.toNat) (T:=nv (u.drop (k+1))) (by show x0.n.toNat<4294967296; omega)
  rw [<- hd] at hn;have hlt':(x1.n.toNat*WB+x0.n.toNat) / 2 ^ s%WB<WB:=Ts _ (by decide)
  refine hnx _ ⟨by omega,by rw [RH]; exact h1,h2.set ⟨by omega,by have:(WB:Nat)=4294967296:=rfl; rw [this] at hlt'; omega⟩,?_⟩
  rw [wE (by omega),uE,QN,Rq (by omega),Wo,Qn]
  exact FC h3 hm hn
 ·rintro k l ⟨h0,h1,h2,h3⟩
  have hk':k=n:=by omega
  subst hk';rw [QD (by omega)] at h3
  have h0':=Ba h3.symm hlt;rw [h0',We,RV] at h3;exact Gd.ret (hk l h2 h1 h3)
 ·rw [V1] at hy
  rw [hy.2]; simp
theorem Nc {q V a b S u:Nat} (hS:0<S) (hV:V=b*S) (h:q*V+u=a*S) (hu:u<V):u / S=a-q*b/\a-q*b<b/\q*b<=a:=by
 have e:q*V=q*b*S:=by rw [hV,Wb]
 have hle:q*b<=a:=by
  have h1:q*b*S<=a*S:=by omega
  exact Nat.le_of_mul_le_mul_right h1 hS
 have e2:u=(a-q*b)*S:=by rw [Nat.mul_sub_right_distrib]; omega
 refine ⟨by rw [e2,Nat.mul_div_cancel _ hS],?_,hle⟩
 rw [e2,hV] at hu;exact Nat.lt_of_mul_lt_mul_right hu
theorem Oh {q a b:Nat} (h1:a-q*b<b) (h2:q*b<=a):q=a / b/\a-q*b=a%b:=by
 have:=(Nat.div_mod_unique (a:=a) (b:=b) (c:=a-q*b) (d:=q) (by omega)).2 ⟨by rw [Wc b q]; omega,h1⟩
 exact ⟨this.1.symm,this.2.symm⟩
theorem KU {W S M x B P:Nat} (hWS:W=S*M) (hx:x*S<W) (hB:B<(x+1)*P):B*S<W*P:=by
 have h1:x<M:=by rw [hWS,Wc] at hx; exact V9 hx
 have h2:(x+1)*S<=W:=by rw [hWS,Wc S M]; exact QF _ h1
 have hS:0<S:=by
  rcases Nat.eq_zero_or_pos S with h | h
  ·rw [h] at hWS; simp at hWS; rw [hWS] at hx; omega
  ·exact h
 have h3:B*S<(x+1)*P*S:=(Nat.mul_lt_mul_right hS).2 hB;have h4:(x+1)*P*S=(x+1)*S*P:=by rw [Wb,Wc P S,<- Wb]
 have h5:(x+1)*S*P<=W*P:=QF _ h2;omega
theorem JP {a b:List bU} (ha:Wf a) (hb:Wf b) (hta:vJ a) (htb:vJ b) (hne:b≠[]) (hza:a.length<=900000) (hzb:b.length<=900000):
  Gd (nR a b) (λr=>Wf r.1/\Wf r.2/\r.1.length<=a.length/\r.2.length<=a.length/\nv r.1=nv a / nv b/\nv r.2=nv a%nv b):=by
 unfold nR;refine Gd.eQ (JD ha hb hta htb (by omega) (by omega)) (λc hc=>Gd.ite (λh=>?_) (λh=>?_))
 ·have hlt:=hc.1.1 (Qr h)
  exact Gd.ret ⟨Wf.nil,ha,by simp,QI _,by rw [V6 hlt]; rfl,by rw [Se hlt]⟩
 ·have hge:nv b<=nv a:=by
   have h:=QB h;have:=mt hc.1.2 h;omega
  have hbl:0<b.length:=VZ.2 hne;have hle:b.length<=a.length:=by
   rcases Sm a.length b.length with h | h
   ·have:=vh ha hb htb h; omega
   ·exact h
  refine Gd.ite (λh1=>?_) (λh1=>?_)
  ·have h1:=Qr h1
   have h1:b.length=1:=by omega
   obtain ⟨x,rfl⟩:=VW.1 h1;have hx:=hb x (by simp)
   have hx0:x.n≠0:=htb x (by simp)
   refine Gd.ix (y:=x) (by omega) (by simp) (Gd.eQ (Fy ha (by omega) (d:=x.n) (by omega)) (λr hr=>Gd.ret ?_))
   obtain ⟨r1,r2,r3,r4⟩:=hr;have hm:nv a%x.n.toNat<x.n.toNat:=Ts _ (by omega)
   refine ⟨r1,?_,by simp only; omega,by simp at hle ⊢; omega,by rw [r3,Cf],?_⟩
   ·refine Wf.one ?_
    rw [r4]; omega
   ·simp only
    rw [Cf,Cf,r4,Qn]
  ·have h1:=QB h1
   obtain ⟨n2,hn2⟩:∃ n2,b.length=n2+2:=⟨b.length-2,by omega⟩
   have wn1:i64.wrap ((b.length:Int)-1)=((n2+1:Nat):Int):=by rw [hn2,bV (by omega)]; omega
   have wab:i64.wrap ((a.length:Int)-(b.length:Int))=((a.length-b.length:Nat):Int):=by rw [bV (by omega)]; omega
   have wab1:i64.wrap (((a.length-b.length:Nat):Int)+1)=((a.length-b.length+1:Nat):Int):=by rw [bV (by omega)]; omega
   rw [wn1,wab,wab1];obtain ⟨x,hx⟩:∃ t,b[n2+1]? = some t:=⟨_,Ql (by omega)⟩
   have hxw:=hb x (Qz hx);have hx0:x.n≠0:=htb x (by rw [VU,hn2]; exact hx)
   refine Gd.ix (by omega) (by rw [Qn]; exact hx) (Gd.eQ (Ow (x:=x.n) (by omega) hxw.2) ?_)
   rintro sv ⟨s,rfl,hs1,hs2,hs3⟩;refine Gd.eQ (Cy ha (by omega) hs1) (λu0 hu0=>Gd.eQ (Cy hb (by omega) hs1) (λv0 hv0=>?_))
   obtain ⟨p1,p2,p3,p4⟩:=hu0;obtain ⟨q1,q2,q3,t,q4,q5⟩:=hv0;refine Gd.nd (by omega) (Gd.nd (by omega) ?_)
   have hS:0<(2:Nat) ^ s:=Wn (by decide)
   have hWS:WB=2 ^ s*2 ^ (32-s):=by rw [<- Wg,show s+(32-s)=32 by omega]
   have hbs:nv b=nv (b.take (n2+1))+WB ^ (n2+1)*x.n.toNat:=by
    have:=ry hx;rw [QD (by omega)] at this; exact this
   have hbt:nv (b.take (n2+1))<WB ^ (n2+1):=by
    have:=sU (hb.take (n2+1)); rw [QN,Rq (by omega)] at this; exact this
   have hb2:nv b<(x.n.toNat+1)*WB ^ (n2+1):=by rw [QK,Wc x.n.toNat]; omega
   have hvlt:nv v0<WB ^ (n2+2):=by
    rw [q3,Wo,Wc _ WB];exact KU hWS hs3 hb2
   have hvs:nv (v0.take b.length)=nv v0/\Wf (v0.take b.length)/\(v0.take b.length).length=b.length:=by
    refine ⟨?_,q1.take _,by rw [QN]; omega⟩
    have e:=Ch v0 (m:=b.length) (by omega)
    have hz:nv (v0.drop b.length)=0:=Ba e (by rw [hn2]; exact hvlt)
    rw [hz,We,RV] at e;exact e.symm
   have hsl:r8 v0 0 (((b.length:Int):Int).toNat)=v0.take b.length:=by
    rw [Qn]; rfl
   generalize v0.take b.length=vs at hvs hsl;obtain ⟨v1,v2,v3⟩:=hvs;obtain ⟨y1,hy1⟩:∃ t,vs[n2+1]? = some t:=⟨_,Ql (by omega)⟩
   obtain ⟨y2,hy2⟩:∃ t,vs[n2]? = some t:=⟨_,Ql (by omega)⟩
   have hy1w:=v2 y1 (Qz hy1);have hVS:nv vs=nv b*2 ^ s:=by rw [v1,q3]
   have hnorm:2147483648<=y1.n:=by
    have e1:nv vs=nv (vs.take (n2+1))+WB ^ (n2+1)*y1.n.toNat:=by
     have:=ry hy1;rw [QD (by omega)] at this; exact this
    have e2:nv (vs.take (n2+1))<WB ^ (n2+1):=by
     have:=sU (v2.take (n2+1)); rw [QN,Rq (by omega)] at this; exact this
    have e3:WB ^ (n2+1)*x.n.toNat*2 ^ s<=nv b*2 ^ s:=QF _ (by omega)
    rw [Wb] at e3;have e4:WB ^ (n2+1)*(x.n.toNat*2 ^ s)<WB ^ (n2+1)*(y1.n.toNat+1):=by rw [Wa (WB ^ (n2+1)) y1.n.toNat 1]; omega
    have e5:=V9 e4;omega
   have hst:nv (u0.drop (a.length-b.length+1))<nv vs:=by
    have e:=Ch u0 (m:=a.length-b.length+1) (by omega)
    have h1:WB ^ (n2+1)<=nv b:=by have:=Fj hb htb hne; rw [hn2] at this; exact this
    have h2:nv a<WB ^ a.length:=sU ha;have h3:nv u0<WB ^ a.length*2 ^ s:=by rw [p3]; exact (Nat.mul_lt_mul_right hS).2 h2
    have h4:WB ^ a.length*2 ^ s=WB ^ (a.length-b.length+1)*(WB ^ (n2+1)*2 ^ s):=by
     rw [<- Wb,<- Wg]; congr 2; omega
    have h5:nv (u0.drop (a.length-b.length+1))<WB ^ (n2+1)*2 ^ s:=by
     rw [h4] at h3;exact V9 (a:=WB ^ (a.length-b.length+1)) (by omega)
    have h6:WB ^ (n2+1)*2 ^ s<=nv b*2 ^ s:=QF _ h1;omega
   have hstart:((a.length-b.length:Nat):Int)=((List.replicate (a.length-b.length+1) (⟨0⟩:bU)).length:Int)-1:=by
    rw [RE]; omega
   rw [Qn,hstart];refine Ie (N:=a.length+1) (U0:=nv a*2 ^ s) hn2 hsl v3 v2 (by omega) y1 y2 hy1 hy2 hnorm _ u0 (by rw [RE]; omega) (λy hy=>by rw [V1] at hy; rw [hy.2]; simp) p2 p1 (by rw [RE]; exact hst) p3 ?_
   intro qs u f1 f2 f3 f4 f5 f6;obtain ⟨g1,g2,g3⟩:=Nc hS hVS f5 f6;obtain ⟨g4,g5⟩:=Oh g2 g3;refine Gd.nd (by omega) ?_
   rw [Qn];refine GN hs1 f4 (by omega) (by omega) ?_ (λr r1 r2 r3=>⟨f2,r1,?_,?_,g4,?_⟩)
   ·rw [g1]; have:=sU hb; omega
   ·simp only; rw [f1,RE]; omega
   ·simp only; omega
   ·simp only; rw [r3,g1,g5]
theorem wW {w:List bU} (hw:Wf w) (ht:vJ w):nv w=0↔w=[]:=by
 constructor
 ·intro h
  rcases VQ w with h' | ⟨a,y,h'⟩
  ·exact h'
  ·have:=Fj hw ht (by rw [h']; simp)
   have hp:0<WB ^ (w.length-1):=Wn (by decide)
   omega
 ·intro h; rw [h]; rfl
theorem Kr {a b:List bU} (ha:Wf a) (hb:Wf b) (hta:vJ a) (htb:vJ b) (h:nv a=nv b):a=b:=by
 rcases TD a.length b.length with h1 | h1 | h1
 ·have:=vh ha hb htb h1; omega
 ·exact Kq ha hb h1 h
 ·have:=vh hb ha hta h1; omega
theorem sZ.ext' {a b:LI} (ha:sZ a) (hb:sZ b) (h:gP a=gP b):a=b:=by
 obtain ⟨am,aw⟩:=a; obtain ⟨bm,bw⟩:=b
 have za:=wW ha.wf ha.tp; have zb:=wW hb.wf hb.tp
 have sa:=ha.sign; have sb:=hb.sign
 simp only [gP] at h za zb sa sb;have key:am=bm->aw=bw->(aC.mk am aw)=aC.mk bm bw:=by rintro rfl rfl; rfl
 cases am <;> cases bm <;> simp at h sa sb
 ·exact key rfl (Kr ha.wf hb.wf ha.tp hb.tp (by omega))
 ·have:nv bw=0:=by omega
  exact absurd (zb.1 this) sb
 ·have:nv aw=0:=by omega
  exact absurd (za.1 this) sa
 ·exact key rfl (Kr ha.wf hb.wf ha.tp hb.tp (by omega))
def N2 (A B:Nat):Nat:=if B=0 then 0 else 2*Nat.log2 (A*B)+2+(if A<B then 1 else 0)
theorem Nh {A B:Nat} (hB:B≠0):N2 B (A%B)<N2 A B:=by
 unfold N2;rw [Qs hB]
 by_cases hR:A%B=0
 ·rw [Qu hR]; omega
 ·rw [Qs hR]
  have hlt:A%B<B:=Ts _ (by omega)
  rw [Qs (by omega:¬ B<A%B)]
  by_cases hAB:A<B
  ·rw [Qu hAB,Se hAB,Wc B A]; omega
  ·rw [Qs hAB]
   have hle:2*(B*(A%B))<=A*B:=by
    have h1:A%B+B*(A / B)=A:=V_ A B;have h2:1<=A / B:=(V8 (by omega)).2 (by omega)
    have h3:B*1<=B*(A / B):=Wd _ h2;have h4:B*(2*(A%B))<=B*A:=Wd _ (by omega)
    rw [Wc A B,<- Wb,Wc 2 B,Wb]; exact h4
   have hpos:0<B*(A%B):=Nat.mul_pos (by omega) (by omega)
   have h5:Nat.log2 (B*(A%B))<Nat.log2 (A*B):=by
    have h6:2 ^ Nat.log2 (B*(A%B))<=B*(A%B):=Nat.log2_self_le (by omega)
    have h7:2 ^ (Nat.log2 (B*(A%B))+1)<=A*B:=by rw [Wo]; omega
    exact (Nat.le_log2 (by omega)).2 h7
   omega
theorem Br (n:Nat):WB ^ n=2 ^ (32*n):=by rw [Wm]
theorem Ng {a b:List bU} (ha:Wf a) (hb:Wf b) (hza:a.length<=900000) (hzb:b.length<=900000):N2 (nv a) (nv b)<=200000000:=by
 unfold N2
 split
 ·omega
 ·rename_i h
  have h1:Nat.log2 (nv a*nv b)<=64000000:=by
   by_cases h0:nv a*nv b=0
   ·rw [h0]; decide
   ·have h2:nv a*nv b<2 ^ (32*(a.length+b.length)):=by
     rw [<- Br,Wg];exact Nat.mul_lt_mul_of_lt_of_le (sU ha) (Nat.le_of_lt (sU hb)) (Wn (by decide))
    have:=(Nat.log2_lt h0).2 h2;omega
  split <;> omega
theorem sign_zero {a:LI} (h:sZ a):fD a=0↔nv a.words=0:=by
 unfold fD;rw [wW h.wf h.tp]
 by_cases h1:a.words=[]
 ·simp [h1]
 ·have:a.words.length≠0:=λh=>h1 (QU h)
  rw [Qs (by simp; exact h1)]
  constructor
  ·intro h; split at h <;> omega
  ·intro h; exact absurd h h1
theorem sZ.pos {w:List bU} (hw:Wf w) (ht:vJ w):sZ (aC.mk false w):=⟨hw,ht,λh=>by simp at h⟩
theorem J2 {a b:LI} (ha:sZ a) (hb:sZ b) {L:Nat} (hL:L<=900000) (hza:a.words.length<=L) (hzb:b.words.length<=L):
  Gd (pR a b) (λr=>sZ r/\r.minus=false/\r.words.length<=L/\nv r.words=Nat.gcd (nv a.words) (nv b.words)):=by
 unfold pR;refine Gd.iN (λ(z:Bool×List bU×Bool×List bU)=>z.1=false/\z.2.2.1=false/\Wf z.2.1/\vJ z.2.1/\Wf z.2.2.2/\vJ z.2.2.2/\z.2.1.length<=L/\z.2.2.2.length<=L/\Nat.gcd (nv z.2.2.2) (nv z.2.1)=Nat.gcd (nv a.words) (nv b.words)) (λz=>N2 (nv z.2.2.2) (nv z.2.1)) ?_ fY _ ⟨rfl,rfl,hb.wf,hb.tp,ha.wf,ha.tp,hzb,hza,rfl⟩ ?_
 ·rintro ⟨c1,l1,c2,l2⟩ nx ⟨h1,h2,h3,h4,h5,h6,h7,h8,h9⟩ hnx
  simp only at h1 h2 h3 h4 h5 h6 h7 h8 h9 hnx ⊢;subst h1 h2;unfold uZ sI;have hs:=sign_zero (sZ.pos h3 h4);simp only at hs;refine Gd.ite (λh=>?_) (λh=>?_)
  ·have hB:nv l1≠0:=by
    intro e;rw [hs.2 e] at h; simp at h
   refine Gd.eQ (JP h5 h3 h6 h4 (λe=>hB (by rw [e]; rfl)) (by omega) (by omega)) (λr hr=>?_)
   obtain ⟨r1,r2,r3,r4,r5,r6⟩:=hr;refine Gd.nd (by omega) (Gd.eQ (tJ false r.2 r2 (by omega)) (λs hs'=>?_))
   obtain ⟨s1,s2,s3,s4⟩:=hs';have hm:s.minus=false:=by
    rcases VA s.minus with h | h
    ·have:=s4.1 h; simp at this
    ·exact h
   refine hnx _ ⟨hm,rfl,s1.wf,s1.tp,h3,h4,by simp only; omega,h7,?_⟩ ?_
   ·simp only
    rw [s3,r6,<- h9,<- Nat.gcd_comm (nv l1) (nv l2),Nat.gcd_rec (nv l1) (nv l2),Nat.gcd_comm]
   ·simp only
    rw [s3,r6];exact Nh hB
  ·have hB:nv l1=0:=by
    apply hs.1;simpa using h
   rw [hB,Nat.gcd_zero_right] at h9;exact Gd.ret ⟨sZ.pos h5 h6,rfl,h8,h9⟩
 ·simp only [fY]
  have:=Ng ha.wf hb.wf (by omega) (by omega)
  omega
theorem MH {a b:LI} (ha:sZ a) (hb:sZ b) (hm:a.minus=false) (h0:nv b.words≠0) (hza:a.words.length<=900000) (hzb:b.words.length<=900000):
  Gd (cR a b) (λr=>sZ r.1/\r.1.minus=false/\r.1.words.length<=a.words.length/\nv r.1.words=nv a.words / nv b.words):=by
 unfold cR me;refine Gd.eQ (JP ha.wf hb.wf ha.tp hb.tp (λe=>h0 (by rw [e]; rfl)) hza hzb) (λr hr=>?_)
 obtain ⟨r1,r2,r3,r4,r5,r6⟩:=hr;refine Gd.nd (by omega) (Gd.eQ (tJ _ _ r1 (by omega)) (λs hs=>Gd.nd (by omega) (Gd.eQ (tJ _ _ r2 (by omega)) (λt ht=>?_))))
 obtain ⟨s1,s2,s3,s4⟩:=hs;obtain ⟨t1,t2,t3,t4⟩:=ht;rw [hm] at s4 t4;have hsm:s.minus=false:=by
  rcases VA s.minus with h | h
  ·have:=s4.1 h; simp at this
  ·exact h
 refine Gd.ite (λh=>?_) (λh=>Gd.ret ⟨s1,hsm,by simp only; omega,by simp only; rw [s3,r5]⟩)
 have:=t4.1 h; simp at this
abbrev LR:=aA
structure pA (r:LR):Prop where
 n:sZ r.N
 d:sZ r.D
 pos:r.D.minus=false
 nz:nv r.D.words≠0
 Pc:Nat.Coprime (nv r.N.words) (nv r.D.words)
def rv (r:LR):Rat:=Rat.divInt (gP r.N) (gP r.D)
theorem qy {a:LI} (h:a.minus=false):gP a=(nv a.words:Nat):=by unfold gP; rw [h]; rfl
theorem kZ (a:LI):(gP a).natAbs=nv a.words:=by
 unfold gP
 split <;> omega
theorem pA.eq {r:LR} (h:pA r):rv r=Rat.mk' (gP r.N) (nv r.D.words) h.nz (by rw [kZ]; exact h.Pc):=by
 unfold rv;rw [qy h.pos];exact (Rat.num_divInt_den (Rat.mk' (gP r.N) (nv r.D.words) h.nz (by rw [kZ]; exact h.Pc)))
theorem pA.num {r:LR} (h:pA r):(rv r).num=gP r.N:=by rw [h.eq]
theorem pA.den {r:LR} (h:pA r):(rv r).den=nv r.D.words:=by rw [h.eq]
theorem pA.ext' {r s:LR} (h:pA r) (k:pA s) (e:rv r=rv s):r=s:=by
 have e1:gP r.N=gP s.N:=by rw [<- h.num,<- k.num,e]
 have e2:nv r.D.words=nv s.D.words:=by rw [<- h.den,<- k.den,e]
 have e3:=h.n.ext' k.n e1;have e4:=h.d.ext' k.d (by rw [qy h.pos,qy k.pos,e2])
 obtain ⟨a,b⟩:=r; obtain ⟨c,d⟩:=s
 simp only at e3 e4; rw [e3,e4]
def RL (r:LR) (L:Nat):Prop:=r.N.words.length<=L/\r.D.words.length<=L
theorem RL.mono {r:LR}{L M:Nat} (h:RL r L) (hM:L<=M):RL r M:=⟨Ro h.1 hM,Ro h.2 hM⟩
theorem yq {g a b:Int} (hg:g≠0) (hb:b≠0):Rat.divInt (g*a) (g*b)=Rat.divInt a b:=by
 rw [Rat.divInt_eq_divInt_iff (Int.mul_ne_zero hg hb) hb];rw [Int.mul_comm g a,VG]
theorem OA {n d g:LI} (hn:sZ n) (hd:sZ d) (hg:sZ g) (hdm:d.minus=false) (hd0:nv d.words≠0) (hgv:nv g.words=Nat.gcd (nv n.words) (nv d.words))
  (hzn:n.words.length<=900000) (hzd:d.words.length<=900000) (hzg:g.words.length<=900000):
  Gd ((cR (aC.mk false n.words) g).bind λr195=>(cR (aC.mk d.minus d.words) g).bind λr203=>if n.minus then (some (aA.mk (aC.mk (decide (0<(r195.1.words.length:Int))) r195.1.words) r203.1)) else (some (aA.mk (aC.mk false r195.1.words) r203.1)))
   (λr=>pA r/\r.N.words.length<=n.words.length/\r.D.words.length<=d.words.length/\rv r=Rat.divInt (gP n) (gP d)):=by
 have hg0:nv g.words≠0:=by
  rw [hgv];exact Nat.ne_of_gt (Nat.gcd_pos_of_pos_right _ (by omega))
 have gN:nv g.words ∣ nv n.words:=by rw [hgv]; exact Nat.gcd_dvd_left _ _
 have gD:nv g.words ∣ nv d.words:=by rw [hgv]; exact Nat.gcd_dvd_right _ _
 have hco:Nat.Coprime (nv n.words / nv g.words) (nv d.words / nv g.words):=by
  rw [hgv]; exact Nat.coprime_div_gcd_div_gcd (Nat.gcd_pos_of_pos_right _ (by omega))
 obtain ⟨n',hn'⟩:=gN;obtain ⟨d',hd'⟩:=gD;have en:nv n.words / nv g.words=n':=by rw [hn',Nat.mul_div_cancel_left _ (by omega)]
 have ed:nv d.words / nv g.words=d':=by rw [hd',Nat.mul_div_cancel_left _ (by omega)]
 have hd0':d'≠0:=by intro h; rw [h] at hd'; simp at hd'; exact hd0 hd'
 refine Gd.eQ (MH (a:=aC.mk false n.words) (sZ.pos hn.wf hn.tp) hg rfl hg0 hzn hzg) (λr hr=>Gd.eQ (MH (a:=aC.mk d.minus d.words) hd hg hdm hg0 hzd hzg) (λt ht=>?_));obtain ⟨r1,r2,r3,r4⟩:=hr;obtain ⟨t1,t2,t3,t4⟩:=ht;simp only at r3 r4 t3 t4;rw [en] at r4 hco;rw [ed] at t4 hco;have hd2:gP d=(nv g.words:Int)*(d':Int):=by rw [qy hdm,hd',Rd]
 have ht2:gP t.1=(d':Int):=by rw [qy t2,t4]
 refine Gd.ite (λh=>Gd.ret ?_) (λh=>Gd.ret ?_)
 ·have hN:sZ (aC.mk (decide (0<(r.1.words.length:Int))) r.1.words):=⟨r1.wf,r1.tp,λh e=>by simp only at h e; rw [e] at h; simp at h⟩
  refine ⟨⟨hN,t1,t2,by simp only; omega,by simp only; rw [r4,t4]; exact hco⟩,r3,t3,?_⟩
  have hi:gP (aC.mk (decide (0<(r.1.words.length:Int))) r.1.words) = -(n':Int):=by
   unfold gP;simp only;rw [r4]
   by_cases hl:r.1.words=[]
   ·rw [hl] at r4 ⊢
    have:n'=0:=r4.symm;rw [this]; simp
   ·have:=VZ.2 hl
    rw [Qu (by simp; omega)]
  have uJ:gP n=(nv g.words:Int)*(-(n':Int)):=by
   unfold gP; rw [Qu h,hn',Rd,Int.mul_neg]
  unfold rv;simp only;rw [hi,ht2,uJ,hd2,yq (by omega) (by omega)]
 ·refine ⟨⟨sZ.pos r1.wf r1.tp,t1,t2,by simp only; omega,by simp only; rw [r4,t4]; exact hco⟩,r3,t3,?_⟩
  have hi:gP (aC.mk false r.1.words)=(n':Int):=by
   rw [qy rfl]; simp only; rw [r4]
  have uJ:gP n=(nv g.words:Int)*(n':Int):=by
   rw [qy h,hn',Rd]
  unfold rv;simp only;rw [hi,ht2,uJ,hd2,yq (by omega) (by omega)]
theorem Fk {w:List bU} (h:decide ((w.length:Int)=1)=true):∃ x,w=[x]:=by
 have:=Qr h;exact VW.1 (by omega)
theorem Hs {x:bU} (hx:0<=x.n):nv [x]=1↔x.n=1:=by rw [Cf]; omega
theorem KC {n d:LI} (hn:sZ n) (hd:sZ d) (hdm:d.minus=false) (hd0:nv d.words≠0) (hzn:n.words.length<=900000) (hzd:d.words.length<=900000):
  Gd (nP d.minus d.words n.minus n.words) (λr=>pA r/\r.N.words.length<=n.words.length/\r.D.words.length<=d.words.length/\rv r=Rat.divInt (gP n) (gP d)):=by
 have self:Nat.gcd (nv n.words) (nv d.words)=1->Gd (some (aA.mk (aC.mk n.minus n.words) (aC.mk d.minus d.words))) (λr=>pA r/\r.N.words.length<=n.words.length/\r.D.words.length<=d.words.length/\rv r=Rat.divInt (gP n) (gP d)):=λhg=>
  Gd.ret ⟨⟨hn,hd,hdm,hd0,hg⟩,QI _,QI _,rfl⟩
 have part:Gd ((pR (aC.mk n.minus n.words) (aC.mk d.minus d.words)).bind λr135=>if decide ((r135.words.length:Int)=1) then (idx r135.words 0 λy160=>if decide (y160.n=1) then (some (aA.mk (aC.mk n.minus n.words) (aC.mk d.minus d.words))) else ((cR (aC.mk false n.words) r135).bind λr165=>(cR (aC.mk d.minus d.words) r135).bind λr173=>if n.minus then (some (aA.mk (aC.mk (decide (0<(r165.1.words.length:Int))) r165.1.words) r173.1)) else (some (aA.mk (aC.mk false r165.1.words) r173.1)))) else ((cR (aC.mk false n.words) r135).bind λr143=>(cR (aC.mk d.minus d.words) r135).bind λr151=>if n.minus then (some (aA.mk (aC.mk (decide (0<(r143.1.words.length:Int))) r143.1.words) r151.1)) else (some (aA.mk (aC.mk false r143.1.words) r151.1))))
   (λr=>pA r/\r.N.words.length<=n.words.length/\r.D.words.length<=d.words.length/\rv r=Rat.divInt (gP n) (gP d)):=by
  refine Gd.eQ (J2 (L:=900000) hn hd (by omega) hzn hzd) (λg hg=>?_)
  obtain ⟨g1,g2,g3,g4⟩:=hg;refine Gd.ite (λh=>?_) (λh=>OA hn hd g1 hdm hd0 g4 hzn hzd g3);obtain ⟨x,hx⟩:=Fk h;have hxw:=g1.wf x (by rw [hx]; simp)
  refine Gd.ix (y:=x) (by omega) (by rw [hx]; rfl) (Gd.ite (λh2=>self ?_) (λh2=>OA hn hd g1 hdm hd0 g4 hzn hzd g3))
  rw [<- g4,hx,Hs hxw.1]; exact Qr h2
 unfold nP;refine Gd.ite (λh=>?_) (λh=>part);obtain ⟨x,hx⟩:=Fk h;have hxw:=hd.wf x (by rw [hx]; simp)
 refine Gd.ix (y:=x) (by omega) (by rw [hx]; rfl) (Gd.ite (λh2=>self ?_) (λh2=>part))
 have:=(Hs hxw.1).2 (Qr h2);rw [hx,this,Nat.gcd_one_right]
theorem xM {n d:LI} (hn:sZ n) (hd:sZ d) (hd0:nv d.words≠0) (hzn:n.words.length<=900000) (hzd:d.words.length<=900000):
  Gd (nL n d) (λr=>pA r/\r.N.words.length<=n.words.length/\r.D.words.length<=d.words.length/\rv r=Rat.divInt (gP n) (gP d)):=by
 unfold nL;refine Gd.ite (λh=>?_) (λh=>KC hn hd h hd0 hzn hzd);refine Gd.eQ (D4 hn (by omega)) (λn' hn'=>Gd.eQ (D4 hd (by omega)) (λd' hd'=>?_))
 have e:nv d'.words=nv d.words:=by rw [<- kZ,hd'.2.2,Int.natAbs_neg,kZ]
 have hm:d'.minus=false:=by
  have h1:=hd'.2.2;unfold gP at h1;rw [Qu h] at h1;rcases VA d'.minus with h2 | h2
  ·rw [Qu h2] at h1; omega
  ·exact h2
 refine (KC hn'.1 hd'.1 hm (by rw [e]; exact hd0) (by omega) (by omega)).mono (λr hr=>⟨hr.1,by omega,by omega,?_⟩)
 rw [hr.2.2.2,hn'.2.2,hd'.2.2];rw [Rat.neg_divInt_neg]
theorem MQ {r:LR} (h:pA r):gP r.D≠0:=by rw [qy h.pos]; have:=h.nz; omega
theorem Gq {a b c:LI} (h:gP c=gP a*gP b) (ha:nv a.words≠0) (hb:nv b.words≠0):nv c.words≠0:=by
 rw [<- kZ,h,Int.natAbs_mul,kZ,kZ];exact Nat.mul_ne_zero ha hb
theorem wZ {a b:LR} (ha:pA a) (hb:pA b) {A B:Nat} (la:RL a A) (lb:RL b B) (hz:A+B<=800000):
  Gd (iQ a b) (λr=>pA r/\RL r (A+B+1)/\rv r=rv a+rv b):=by
 have:=la.1; have:=la.2; have:=lb.1; have:=lb.2
 unfold iQ;refine Gd.eQ (vR ha.n hb.d (by omega)) (λx hx=>Gd.eQ (vR hb.n ha.d (by omega)) (λy hy=>Gd.eQ (DU hx.1 hy.1 (by omega) (by omega)) (λs hs=>Gd.eQ (vR ha.d hb.d (by omega)) (λz hz'=>?_))))
 refine Gd.eQ (xM hs.1 hz'.1 (Gq hz'.2.2 ha.nz hb.nz) (by omega) (by omega)) (λr hr=>Gd.ret ⟨hr.1,⟨by omega,by omega⟩,?_⟩)
 rw [hr.2.2.2,hs.2.2,hx.2.2,hy.2.2,hz'.2.2];unfold rv;rw [Rat.divInt_add_divInt _ _ (MQ ha) (MQ hb)]
theorem HB {a:LR} (ha:pA a) {A:Nat} (la:RL a A) (hz:A<=800000):
  Gd (oI a) (λr=>pA r/\RL r A/\rv r = -rv a):=by
 have:=la.1; have:=la.2
 unfold oI;refine Gd.eQ (D4 ha.n (by omega)) (λx hx=>Gd.ret ⟨⟨hx.1,ha.d,ha.pos,ha.nz,?_⟩,⟨by simp only; omega,la.2⟩,?_⟩)
 ·have e:nv x.words=nv a.N.words:=by rw [<- kZ,hx.2.2,Int.natAbs_neg,kZ]
  simp only; rw [e]; exact ha.Pc
 ·unfold rv
  simp only;rw [hx.2.2,Rat.neg_divInt]
theorem ya {a b:LR} (ha:pA a) (hb:pA b) {A B:Nat} (la:RL a A) (lb:RL b B) (hz:A+B<=800000):
  Gd (jZ a b) (λr=>pA r/\RL r (A+B+1)/\rv r=rv a-rv b):=by
 unfold jZ;refine Gd.eQ (HB hb lb (by omega)) (λc hc=>Gd.eQ (wZ ha hc.1 la hc.2.1 hz) (λr hr=>Gd.ret ⟨hr.1,hr.2.1,?_⟩))
 rw [hr.2.2,hc.2.2,Rat.sub_eq_add_neg]
theorem zy {a b:LR} (ha:pA a) (hb:pA b) {A B:Nat} (la:RL a A) (lb:RL b B) (hz:A+B<=800000):
  Gd (lX a b) (λr=>pA r/\RL r (A+B)/\rv r=rv a*rv b):=by
 have:=la.1; have:=la.2; have:=lb.1; have:=lb.2
 unfold lX;refine Gd.eQ (vR ha.n hb.n (by omega)) (λx hx=>Gd.eQ (vR ha.d hb.d (by omega)) (λz hz'=>?_))
 refine Gd.eQ (xM hx.1 hz'.1 (Gq hz'.2.2 ha.nz hb.nz) (by omega) (by omega)) (λr hr=>Gd.ret ⟨hr.1,⟨by omega,by omega⟩,?_⟩)
 rw [hr.2.2.2,hx.2.2,hz'.2.2];unfold rv;rw [Rat.divInt_mul_divInt]
theorem HD {r:LR} (h:pA r):rv r=0↔nv r.N.words=0:=by
 have hn:=h.num;rw [<- kZ,Int.natAbs_eq_zero,<- hn,Rat.num_eq_zero]
theorem vm {n:Int} (h:-9223372036854775808<=n/\n<=9223372036854775807):Gd (kU n) (λr=>pA r/\RL r 2/\rv r=(n:Rat)):=by
 unfold kU;refine Gd.eQ (Ci h) (λx hx=>Gd.eQ (Ci (n:=1) (by omega)) (λy hy=>Gd.ret ?_))
 have hm:y.minus=false:=by
  have h1:=hy.2.2;unfold gP at h1;rcases VA y.minus with h2 | h2
  ·rw [Qu h2] at h1; omega
  ·exact h2
 have hv:nv y.words=1:=by rw [<- kZ,hy.2.2]; rfl
 refine ⟨⟨hx.1,hy.1,hm,by simp only; omega,by simp only; rw [hv]; exact Nat.coprime_one_right _⟩,⟨hx.2.1,hy.2.1⟩,?_⟩
 unfold rv;simp only;rw [hx.2.2,hy.2.2,Rat.divInt_eq_div,Rat.intCast_one]; grind
theorem G_ {n d:Int} (h:-9223372036854775808<=n/\n<=9223372036854775807) (k:-9223372036854775808<=d/\d<=9223372036854775807) (h0:d≠0):
  Gd (rp n d) (λr=>pA r/\RL r 2/\rv r=(n:Rat) / (d:Rat)):=by
 unfold rp;refine Gd.eQ (Ci h) (λx hx=>Gd.eQ (Ci k) (λy hy=>?_));have hv:nv y.words≠0:=by rw [<- kZ,hy.2.2]; omega
 refine Gd.eQ (xM hx.1 hy.1 hv (by omega) (by omega)) (λr hr=>Gd.ret ⟨hr.1,⟨by omega,by omega⟩,?_⟩)
 rw [hr.2.2.2,hx.2.2,hy.2.2,Rat.divInt_eq_div]
abbrev bl (s:Qi):List UInt8:=s.data.toList
def ba (l:List UInt8):Qi:=⟨l.toArray⟩
@[simp] theorem G4 (l:List UInt8):bl (ba l)=l:=rfl
@[simp] theorem Jv (s:Qi):ba (bl s)=s:=by
 show (⟨s.data.toList.toArray⟩:Qi)=s;rw [Array.toArray_toList]
theorem FT {a b:Qi} (h:bl a=bl b):a=b:=by rw [<- Jv a,h,Jv]
theorem DF (s:Qi):(bl s).length=s.size:=by show s.data.toList.length=s.data.size; exact Array.length_toList
theorem iU (l:List UInt8):(ba l).size=l.length:=(DF (ba l)).symm
theorem Jy (a b:Qi):bl (a++b)=bl a++bl b:=by show (a++b).data.toList=_; simp
theorem FQ (a b:List UInt8):ba a++ba b=ba (a++b):=FT (Jy _ _)
theorem xz {a b:List UInt8} (h:ba a=ba b):a=b:=by have:=Q6 bl h; simpa using this
theorem FR (s:Qi) (i j:Nat):bl (s.extract i j)=((bl s).take j).drop i:=by
 show (s.extract i j).data.toList=(s.data.toList.take j).drop i;simp [ByteArray.data_extract,Array.toList_extract,SW]
theorem sd (l:List UInt8) (i j:Nat):(ba l).extract i j=ba ((l.take j).drop i):=FT (by rw [FR,G4,G4])
theorem Cz (a b:Qi):(a++b).size=a.size+b.size:=by rw [<- DF,Jy,QE,DF,DF]
theorem tZ (c:UInt8):∀ (l:List UInt8),(c ∉ l/\Lib.indexByte l c = -1)\/∃ a b,l=a++c::b/\c ∉ a/\Lib.indexByte l c=a.length
 | []=>.inl ⟨by simp,rfl⟩
 | x::l=>by
  by_cases e:x=c
  ·subst e
   exact .inr ⟨[],l,rfl,by simp,by simp [Lib.indexByte]⟩
  ·have hb:(x == c)=false:=by simpa using e
   rcases tZ c l with ⟨h1,h2⟩ | ⟨a,b,rfl,h2,h3⟩
   ·refine .inl ⟨by simp [h1]; exact λh=>e h.symm,?_⟩
    simp [Lib.indexByte,hb,h2]
   ·refine .inr ⟨x::a,b,rfl,by simp [h2]; exact λh=>e h.symm,?_⟩
    simp only [Lib.indexByte,hb,h3];rw [Qs (by simp),Qs (by simp)]
    simp only [Qy]; omega
theorem FX (c:UInt8):kB (ba [c])=[⟨c.toNat⟩]:=by simp [kB,ba]
theorem E2 (s:Qi) (c:UInt8):iP s (ba [c])=some (Lib.indexByte (bl s) c):=by
 unfold iP fV
 by_cases e:ba [c]=s
 ·subst e
  rw [Qu (by simp)]
  simp [Lib.indexByte]
 ·rw [Qs (by simp [iU,e]),Qu (by simp [iU]),FX]
  simp [idx,Nl]
theorem HW (l:List UInt8):kB (ba l)=l.map λb=>(⟨b.toNat⟩:U8):=rfl
theorem EN (l:List UInt8):y_ (l.map λb=>(⟨b.toNat⟩:U8))=ba l:=by
 refine FT ?_;show (List.map _ (List.map _ l)).toArray.toList=l;rw [List.map_map,S5]
 conv=>rhs; rw [<- List.map_id l]
 refine List.map_congr_left λb _=>?_;simp
def CV (c:UInt8):Prop:=48<=c.toNat/\c.toNat<=57
instance (c:UInt8):Decidable (CV c):=by unfold CV; infer_instance
def JS (acc:Nat):List UInt8->Nat
 | []=>acc
 | c::r=>JS (acc*10+(c.toNat-48)) r
def dv (l:List UInt8):Nat:=JS 0 l
theorem DM:∀ (l:List UInt8) (acc:Nat),JS acc l=acc*10 ^ l.length+dv l
 | [],acc=>by
  rw [VY,Wq,S9]; rfl
 | c::r,acc=>by
  have h2:=DM r (0*10+(c.toNat-48));unfold dv JS;rw [DM r,h2,Qy,Wo];have:(acc*10+(c.toNat-48))*10 ^ r.length=acc*(10 ^ r.length*10)+(0*10+(c.toNat-48))*10 ^ r.length:=by
   rw [QK,RW,QL,Wb,Wc 10]
  rw [this,SS]
theorem BO (a b:List UInt8):dv (a++b)=dv a*10 ^ b.length+dv b:=by
 have key:∀ (a:List UInt8) (acc:Nat),JS acc (a++b)=JS (JS acc a) b:=by
  intro a
  induction a with
  | nil=>intro acc; rfl
  | cons c r ih=>intro acc; exact ih _
 unfold dv;rw [key,DM]; rfl
theorem F6 (c:UInt8):dv [c]=c.toNat-48:=by
 show 0*10+(c.toNat-48)=_;omega
theorem zg (c:UInt8) (r:List UInt8):dv (c::r)=(c.toNat-48)*10 ^ r.length+dv r:=by
 have:=BO [c] r;rw [F6] at this; simpa using this
theorem JU (n:Nat):dv (List.replicate n (48:UInt8))=0:=by
 induction n with
 | zero=>rfl
 | succ n ih=>rw [S4,zg,ih]; simp
theorem AE:∀ {l:List UInt8},(∀ c ∈ l,CV c)->dv l<10 ^ l.length
 | [],_=>by
  show 0<10 ^ 0
  decide
 | c::r,h=>by
  have h1:=AE (l:=r) (λz hz=>h z (Qw _ hz));have h2:=(h c (Qq ..)).2;rw [zg,Qy,Wo,Wc (10 ^ r.length) 10];have:(c.toNat-48)*10 ^ r.length<=9*10 ^ r.length:=QF _ (by omega)
  generalize 10 ^ r.length=P at *
  omega
theorem JT {c:UInt8}{r:List UInt8} (hc:CV c) (h0:c≠48):10 ^ r.length<=dv (c::r):=by
 have:1<=c.toNat-48:=by
  have:=hc.1;have hne:c.toNat≠48:=λe=>h0 (UInt8.toNat_inj.1 (by rw [e]; rfl))
  omega
 rw [zg];have:1*10 ^ r.length<=(c.toNat-48)*10 ^ r.length:=QF _ this;generalize 10 ^ r.length=P at *
 omega
structure FH (l:List UInt8):Prop where
 Er:∀ c ∈ l,CV c
 ne:l≠[]
 lead:l.head? = some 48->l=[48]
theorem BW {a b:List UInt8} (h:a≠[]):(a++b).head? = a.head? := by
 cases a with
 | nil=>exact absurd rfl h
 | cons x r=>rfl
theorem JM {u:Nat} (h:u<10):(UInt8.ofNat (48+u)).toNat=48+u:=by rw [UInt8.toNat_ofNat']; omega
theorem mb (u:Nat):FH (Lib.decDigits u)/\dv (Lib.decDigits u)=u:=by
 induction u using Nat.strongRecOn with
 | _ u ih=>
  by_cases h:u<10
  ·rw [VL h]
   have hd:=JM h;refine ⟨⟨λc hc=>?_,by simp,λhh=>?_⟩,by rw [F6,hd]; omega⟩
   ·rw [QZ] at hc; subst hc; unfold CV; omega
   ·simp only [VV,QH] at hh
    rw [hh]
  ·obtain ⟨h1,h2⟩:=ih (u / 10) (by omega)
   have e:Lib.decDigits u=Lib.decDigits (u / 10)++[UInt8.ofNat (48+u%10)]:=by rw [Lib.decDigits,dif_neg h]
   have hd:=JM (u:=u%10) (by omega)
   rw [e];refine ⟨⟨λc hc=>?_,by simp,λhh=>?_⟩,?_⟩
   ·rcases QC.1 hc with hc | hc
    ·exact h1.Er c hc
    ·rw [QZ] at hc; subst hc; unfold CV; omega
   ·rw [BW h1.ne] at hh
    have:=h1.lead hh;rw [this] at h2;have:dv [48]=0:=rfl;omega
   ·rw [BO,h2,F6,hd]
    simp only [Rk,Nat.pow_one]; omega
theorem Hn:∀ {a b:List UInt8},FH a->FH b->dv a=dv b->a=b:=by
 have zero:∀ {a:List UInt8},FH a->dv a=0->a=[48]:=by
  intro a ha h0;cases a with
  | nil=>exact absurd rfl ha.ne
  | cons c r=>
   by_cases hc:c=48
   ·exact ha.lead (by rw [hc]; rfl)
   ·have:=JT (r:=r) (ha.Er c (Qq ..)) hc
    have:0<10 ^ r.length:=Wn (by decide)
    omega
 have eqlen:∀ (a b:List UInt8),a.length=b.length->(∀ c ∈ a,CV c)->(∀ c ∈ b,CV c)->dv a=dv b->a=b:=by
  intro a
  induction a with
  | nil=>intro b hl _ _ _; cases b with | nil=>rfl | cons _ _=>simp at hl
  | cons c r ih=>
   intro b hl ha hb h;cases b with
   | nil=>simp at hl
   | cons d s=>
    have hl':r.length=s.length:=by simpa using hl
    have h1:=AE (l:=r) (λz hz=>ha z (Qw _ hz));have h2:=AE (l:=s) (λz hz=>hb z (Qw _ hz));have hc:=ha c (Qq ..);have hd:=hb d (Qq ..);rw [zg,zg,<- hl'] at h;rw [<- hl'] at h2;have hP:0<10 ^ r.length:=Wn (by decide)
    have e1:c.toNat-48=d.toNat-48:=by
     have q1:((c.toNat-48)*10 ^ r.length+dv r) / 10 ^ r.length=c.toNat-48:=by
      rw [S8,Nat.add_mul_div_right _ _ hP,V6 h1,QL]
     have q2:((d.toNat-48)*10 ^ r.length+dv s) / 10 ^ r.length=d.toNat-48:=by
      rw [S8,Nat.add_mul_div_right _ _ hP,V6 h2,QL]
     rw [<- q1,h,q2]
    have e2:c=d:=UInt8.toNat_inj.1 (by have:=hc.1; have:=hd.1; omega)
    rw [e1] at h;rw [e2,ih s hl' (λz hz=>ha z (Qw _ hz)) (λz hz=>hb z (Qw _ hz)) (by omega)]
 intro a b ha hb h
 by_cases h0:dv a=0
 ·rw [zero ha h0,zero hb (by omega)]
 ·have big:∀ {l:List UInt8},FH l->dv l≠0->∃ c r,l=c::r/\10 ^ r.length<=dv l:=by
   intro l hl hz;cases l with
   | nil=>exact absurd rfl hl.ne
   | cons c r=>
    refine ⟨c,r,rfl,JT (hl.Er c (Qq ..)) (λhc=>hz ?_)⟩;rw [hl.lead (by rw [hc]; rfl)]; rfl
  obtain ⟨c,r,rfl,h1⟩:=big ha h0;obtain ⟨d,s,rfl,h2⟩:=big hb (by omega)
  have h3:=AE ha.Er;have h4:=AE hb.Er;refine eqlen _ _ ?_ ha.Er hb.Er h;rw [h] at h1 h3;have l1:r.length<(d::s).length:=(Wl (by decide)).1 (Tu h1 h4)
  have l2:s.length<(c::r).length:=(Wl (by decide)).1 (Tu h2 h3)
  simp only [Qy] at l1 l2 ⊢; omega
theorem wL {l:List UInt8} (h:FH l):Lib.decDigits (dv l)=l:=Hn (mb _).1 h (mb _).2
theorem Dd {u k:Nat} (hk:1<=k) (h:u<10 ^ k):(Lib.decDigits u).length<=k:=by
 obtain ⟨h1,h2⟩:=mb u;cases hl:Lib.decDigits u with
 | nil=>simp
 | cons c r=>
  rw [hl] at h1 h2
  by_cases hc:c=48
  ·rw [h1.lead (by rw [hc]; rfl)]; simpa using hk
  ·have:=JT (r:=r) (h1.Er c (Qq ..)) hc
   rw [h2] at this;have:r.length<k:=(Wl (by decide)).1 (Tu this h)
   rw [Qy]; exact this
theorem B5 {u k:Nat} (h:(Lib.decDigits u).length<=k):u<10 ^ k:=by
 obtain ⟨h1,h2⟩:=mb u;have:=AE h1.Er;rw [h2] at this;exact Tf this (Wj (by decide) h)
def pad (k:Nat) (r:Nat):List UInt8:=List.replicate (k-(Lib.decDigits r).length) 48++Lib.decDigits r
theorem LS {k r:Nat} (hk:1<=k) (h:r<10 ^ k):(pad k r).length=k:=by
 have:=Dd hk h;unfold pad;rw [QE,RE]; omega
theorem LQ (k r:Nat):∀ c ∈ pad k r,CV c:=by
 intro c hc;rcases QC.1 hc with hc | hc
 ·rw [(V1.1 hc).2]; exact ⟨by decide,by decide⟩
 ·exact (mb r).1.Er c hc
theorem Na (k r:Nat):dv (pad k r)=r:=by
 unfold pad;rw [BO,JU,(mb r).2]; omega
theorem Lp {k q r:Nat} (hk:1<=k) (hq:0<q) (hr:r<10 ^ k):Lib.decDigits (q*10 ^ k+r)=Lib.decDigits q++pad k r:=by
 obtain ⟨h1,h2⟩:=mb q;refine Hn (mb _).1 ⟨λc hc=>?_,by simp [h1.ne],λhh=>?_⟩ ?_
 ·rcases QC.1 hc with hc | hc
  ·exact h1.Er c hc
  ·exact LQ _ _ c hc
 ·rw [BW h1.ne] at hh
  rw [h1.lead hh] at h2;have:dv [48]=0:=rfl;omega
 ·rw [(mb _).2,BO,h2,LS hk hr,Na]
theorem Kv {M:Nat} (hM:M<1844674407370955162):∀ (l:List UInt8) (acc:Nat),(∀ c ∈ l,CV c)->JS acc l<=M->acc<=M->Lib.parseUintM M acc l=.ok (JS acc l)
 | [],acc,_,_,_=>rfl
 | c::r,acc,h,hl,ha=>by
  have hc:=h c (Qq ..);have hle:acc*10+(c.toNat-48)<=M:=by
   have:=DM r (acc*10+(c.toNat-48));have h1:JS acc (c::r)=JS (acc*10+(c.toNat-48)) r:=rfl;have hP:1<=10 ^ r.length:=Wn (by decide)
   have:(acc*10+(c.toNat-48))*1<=(acc*10+(c.toNat-48))*10 ^ r.length:=Wd _ hP;generalize 10 ^ r.length=P at *
   omega
  rw [Lib.parseUintM,Qu (show 48<=c.toNat/\c.toNat<=57 from hc),Qs (by omega),Qs (by omega)]
  exact Kv hM r _ (λz hz=>h z (Qw _ hz)) hl hle
theorem LX {l:List UInt8} (h:∀ c ∈ l,CV c) (hl:l.length<=9):LW (ba l)=((dv l:Int),false):=by
 unfold LW;have h1:=AE h;have h2:10 ^ l.length<=10 ^ 9:=Wj (by decide) hl
 have e:=Kv (M:=4294967295) (by decide) l 0 h (by show dv l<=_; omega) (by omega)
 show (match Lib.parseUintM 4294967295 0 l with | .ok v=>((v:Int),false) | .range=>(4294967295,true) | _=>(0,true))=_
 rw [e]; rfl
theorem Di (l:List UInt8):eT (ba l) (⟨#[45]⟩)=some (decide (l.head? = some 45)):=by
 have h1:(⟨#[45]⟩:Qi).size=1:=rfl;unfold eT;rw [h1,iU];cases l with
 | nil=>rfl
 | cons c r=>
  rw [Qu (by simp; omega)]
  unfold cZ;rw [Qu (by simp only [Qy]; omega),show ((1:Nat):Int).toNat=1 from rfl,sd]
  congr 1
  have e:(ba (((c::r).take 1).drop 0)=(⟨#[45]⟩:Qi))↔((c::r).head? = some 45):=by
   rw [show (⟨#[45]⟩:Qi)=ba [45] from rfl];constructor
   ·intro h
    have:=xz h;simp at this;simp [this]
   ·intro h
    simp only [VV,QH] at h;rw [h]; rfl
  exact Xa.2 e
theorem Im (l:List UInt8):nE (ba l) (⟨#[45]⟩)=some (decide (l.head? = some 45)):=by
 unfold nE;rw [Di l]; rfl
theorem yU (l:List UInt8):lx (ba l) (⟨#[45]⟩)=some (ba (if l.head? = some 45 then l.tail else l)):=by
 have h1:(⟨#[45]⟩:Qi).size=1:=rfl;unfold lx iV;rw [Di l];simp only [Tc]
 by_cases h:l.head? = some 45
 ·rw [Qu (by simp [h]),Qu h,h1,iU]
  cases l with
  | nil=>cases h
  | cons c r=>
   unfold cZ;rw [Qu (by simp only [Qy]; omega),show ((1:Nat):Int).toNat=1 from rfl,sd]
   simp
 ·rw [Qs (by simp [h]),Qs h]; rfl
theorem sZ.plus {a:LI} (h:sZ a) (h0:0<=gP a):a.minus=false:=by
 cases hm:a.minus with
 | false=>rfl
 | true=>
  have hne:=h.sign hm;have:nv a.words≠0:=λe=>hne ((wW h.wf h.tp).1 e);unfold gP at h0;rw [Qu hm] at h0; omega
theorem Lj {n:Nat} (h:0<n) (h2:n<=100000):i64.wrap ((Int.tmod (i64.wrap ((n:Int)-1)) 9)+1)=(((n-1)%9+1:Nat):Int):=by
 rw [bV (n:=(n:Int)-1) ⟨by omega,by omega⟩]
 have:Int.tmod ((n:Int)-1) 9=(((n-1)%9:Nat):Int):=by
  rw [show (n:Int)-1=((n-1:Nat):Int) by omega]
  rw [Int.tmod_eq_emod_of_nonneg (by omega)]; rfl
 rw [this,bV ⟨by omega,by omega⟩]; omega
theorem IE {D n c v P:Nat} (h:D=0\/n=9) (hP:P=10 ^ n):D*10 ^ 9+c=D*P+c:=by
 rcases h with h | h
 ·rw [h,RW,RW]
 ·rw [hP,h]
theorem HA {ds:List UInt8} (h:∀ c ∈ ds,CV c) (hl:ds.length<=2000) (neg:Bool):
  Gd (lF (ba (if neg=true then 45::ds else ds))) (λa=>sZ a/\a.words.length<=10000/\gP a=if neg=true then -(dv ds:Int) else dv ds):=by
 unfold lF;have hll:(if neg=true then 45::ds else ds).length<=1000000:=by
  split
  ·simp only [Qy]; omega
  ·omega
 have hhd:(if neg=true then 45::ds else ds).head? = some 45↔neg=true:=by
  cases neg with
  | true=>simp
  | false=>
   simp only [Rx,R_,iff_false];intro hh;cases ds with
   | nil=>cases hh
   | cons c r=>
    simp only [VV,QH] at hh;have:=(h c (Qq ..)).1;rw [hh] at this; exact absurd this (by decide)
 have htr:(if (if neg=true then 45::ds else ds).head? = some 45 then (if neg=true then 45::ds else ds).tail else (if neg=true then 45::ds else ds))=ds:=by
  cases neg with
  | true=>simp
  | false=>rw [Qs (by rw [hhd]; simp)]; simp
 refine Gd.bind_eq (Im _) (Gd.bind_eq (yU _) ?_);rw [htr];have hdec:decide ((if neg=true then 45::ds else ds).head? = some 45)=neg:=by
  cases neg with
  | true=>simp
  | false=>rw [Xb (by rw [hhd]; simp)]
 rw [hdec];refine Gd.iN (λ(z:Qi×Bool×List bU)=>∃ pre suf:List UInt8,ds=pre++suf/\z.1=ba suf/\z.2.1=false/\sZ ⟨false,z.2.2⟩/\(nv z.2.2=dv pre)/\z.2.2.length<=5*pre.length/\(pre=[]\/suf.length%9=0))
  (λz=>z.1.size) ?_ fY _ ⟨[],ds,rfl,rfl,rfl,⟨Wf.nil,λy hy=>by simp at hy,λhh=>by simp at hh⟩,rfl,by simp,.inl rfl⟩ (by rw [iU]; simp only [fY]; omega)
 rintro ⟨s,c,w⟩ nx ⟨pre,suf,e1,e2,e3,e4,e5,e6,e7⟩ hnx;simp only at e2 e3 e4 e5 e6 e7 hnx ⊢;subst e2 e3;have hlen:pre.length+suf.length<=2000:=by rw [<- QE,<- e1]; exact hl
 unfold ub;rw [iU];refine Gd.ite (λh0=>?_) (λh0=>?_)
 ·have h0:0<suf.length:=by have:=Qr h0; omega
  rw [Lj h0 (by omega)]
  generalize hn:(suf.length-1)%9+1=n;have hn9:n<=9:=by omega
  have hns:n<=suf.length:=by have:=Nat.mod_le (suf.length-1) 9; omega
  rw [Qn,sd,sd,RI,QD (QI _),iU];have htl:(suf.take n).length=n:=by rw [QN]; omega
  have hdg:∀ x ∈ suf.take n,CV x:=λx hx=>h x (by rw [e1]; exact Rp _ (SX hx))
  have hpu:=LX hdg (by rw [htl]; exact hn9)
  have hdl:dv (suf.take n)<10 ^ 9:=Tf (AE hdg) (Wj (by decide) (by omega))
  rw [hpu,htl];refine Gd.nd ⟨by omega,by omega⟩ (Gd.nd ⟨by omega,by omega,rfl⟩ ?_)
  rw [bV (n:=(dv (suf.take n):Int)) ⟨by omega,by omega⟩]
  refine Gd.eQ (Ci (n:=1000000000) (by omega)) (λt ht=>Gd.eQ (vR e4 ht.1 (by simp only; omega)) (λm hm=>Gd.eQ (Ci (n:=(dv (suf.take n):Int)) (by omega)) (λu hu=>Gd.eQ (DU hm.1 hu.1 (by simp only at hm; omega) (by omega)) (λr hr=>Gd.nd ⟨by omega,by omega⟩ ?_))))
  have hiv:gP (⟨false,w⟩:LI)=(dv pre:Int):=by unfold gP; simp only [Rx,R_]; rw [e5]
  have hval:gP r=((dv (pre++suf.take n):Nat):Int):=by
   rw [hr.2.2,hm.2.2,ht.2.2,hu.2.2,hiv,BO,htl];have:=IE (D:=dv pre) (n:=n) (c:=dv (suf.take n)) (v:=0) (P:=10 ^ n) (by
    rcases e7 with e7 | e7
    ·left; rw [e7]; rfl
    ·right; omega) rfl
   rw [<- this];have e9:(10 ^ 9:Nat)=1000000000:=rfl;rw [e9];generalize dv pre=A;generalize dv (suf.take n)=C;omega
  have hrm:r.minus=false:=hr.1.plus (by rw [hval]; omega)
  refine hnx _ ⟨pre++suf.take n,suf.drop n,by rw [QR,RP]; exact e1,rfl,hrm,?_,?_,?_,?_⟩ ?_
  ·rw [<- hrm]; exact hr.1
  ·have:=hval
   unfold gP at this;rw [Qs (by rw [hrm]; simp)] at this
   simp only; omega
  ·simp only at hm ⊢
   rw [QE,htl]; omega
  ·right; rw [RX]; omega
  ·simp only [iU,RX]; omega
 ·have h0:¬ 0<suf.length:=by have:=QB h0; omega
  have hs0:suf=[]:=QU (by omega)
  subst hs0;rw [Q5] at e1;subst e1;unfold rY;have e4w:Wf w:=e4.wf;have e4t:vJ w:=e4.top;refine Gd.ite (λhneg=>Gd.ret ⟨⟨e4.wf,e4.top,λhm hw=>?_⟩,by simp only; omega,?_⟩) (λhneg=>Gd.ret ⟨e4,by simp only; omega,?_⟩)
  ·have hw:w=[]:=hw
   subst hw;simp at hm
  ·rw [Qu hneg]
   unfold gP;simp only [Q9]
   split
   ·rw [e5]
   ·rename_i hh
    have:w=[]:=QU (by omega)
    rw [this] at e5 ⊢;rw [<- e5]; rfl
  ·rw [Qs (by rw [hneg]; simp)]
   unfold gP;simp only [Rx,R_];rw [e5]
def pv:List bU->Nat
 | []=>0
 | y::l=>y.n.toNat+1000000000*pv l
theorem Hx:∀ (a:List bU) (y:bU),pv (a++[y])=pv a+1000000000 ^ a.length*y.n.toNat
 | [],y=>by
  show y.n.toNat+1000000000*0=0+1000000000 ^ 0*y.n.toNat;rw [Wq]; omega
 | x::a,y=>by
  rw [SL,pv,Hx a y,pv,Qy,Wo];rw [Wa,<- Wb,Wc (1000000000 ^ a.length) 1000000000,SS]
theorem LZ {l:List bU}{k:Nat}{y:bU} (h:l[k]? = some y):pv (l.drop k)=pv (l.drop (k+1))*1000000000+y.n.toNat:=by
 rw [rj h,pv]; omega
theorem Jw:(⟨#[48,48,48,48,48,48,48,48,48]⟩:Qi)=ba (List.replicate 9 48):=rfl
theorem tf (n:Nat):my (n:Int)=ba (Lib.decDigits n):=by unfold my; rw [Lib.itoa_nonneg]; rfl
theorem Is {n:Nat} (h:0<n):my (-(n:Int))=ba (45::Lib.decDigits n):=by
 unfold my Lib.itoa;rw [Qu (by omega),show (-(n:Int)).natAbs=n by omega]; rfl
def I0 (D:List UInt8):List U8:=D.map λb=>⟨b.toNat⟩
theorem xX (D:List UInt8):kB (ba D)=I0 D:=HW D
theorem KW (a b:List UInt8):I0 a++I0 b=I0 (a++b):=by unfold I0; rw [RM]
theorem DG (D:List UInt8):y_ (I0 D)=ba D:=EN D
theorem En (D:List UInt8):(I0 D).length=D.length:=Sj _
theorem ND (N:Nat) {Q:List bU} (hQ:∀ z ∈ Q,0<=z.n/\z.n<1000000000) (hl:Q.length<=N):pv Q<10 ^ (9*N):=by
 have key:∀ (Q:List bU),(∀ z ∈ Q,0<=z.n/\z.n<1000000000)->pv Q<1000000000 ^ Q.length:=by
  intro Q
  induction Q with
  | nil=>intro _; show 0<1000000000 ^ 0; decide
  | cons z Q ih=>
   intro hQ;have h1:=ih (λx hx=>hQ x (Qw _ hx));have h2:=hQ z (Qq ..);rw [pv,Qy,Wo,Wc];generalize 1000000000 ^ Q.length=X at *
   omega
 have h2:(1000000000:Nat) ^ Q.length<=1000000000 ^ N:=Wj (by decide) hl
 rw [Wm];exact Tf (key Q hQ) h2
theorem Mg (n a b:Nat) (h1:a<=3*n) (h2:10*n<=32*b):10 ^ a<=WB ^ b:=by
 have e1:(10:Nat) ^ a<=10 ^ (3*n):=Wj (by decide) h1
 have e2:((10:Nat) ^ 3) ^ n<=(2 ^ 10) ^ n:=Wh (by decide) n
 have e3:(2:Nat) ^ (10*n)<=2 ^ (32*b):=Wj (by decide) h2
 rw [<- Wm,<- Wm] at e2;rw [Br b];exact Ro e1 (Ro e2 e3)
theorem Hj (n a b:Nat) (h1:a<=3*n) (h2:10*n<=32*b) {w:List bU} (hw:Wf w) (ht:vJ w) (hl:b<w.length):¬ nv w<10 ^ a:=by
 have hne:w≠[]:=λe=>by rw [e] at hl; simp at hl
 have hge:=Fj hw ht hne;have hp:WB ^ b<=WB ^ (w.length-1):=Wj (by decide) (by omega)
 exact Nat.not_lt.2 (Ro (Mg n a b h1 h2) (Ro hp hge))
theorem KI (N K:Nat) {w:List bU} (hw:Wf w) (hl:w.length<=N) (hK:32*N<=K):nv w<2 ^ K:=by
 have h2:=sU hw;have h3:WB ^ w.length<=WB ^ N:=Wj (by decide) hl
 rw [Br N] at h3;have h4:(2:Nat) ^ (32*N)<=2 ^ K:=Wj (by decide) hK
 exact Tf h2 (Ro h3 h4)
theorem Ff {m:Nat} (h:m<=9):(⟨#[48,48,48,48,48,48,48,48,48]⟩:Qi).extract m ((⟨#[48,48,48,48,48,48,48,48,48]⟩:Qi).size)=ba (List.replicate (9-m) 48):=by
 rw [Jw,iU,sd,QD (QI _),List.drop_replicate]
theorem Lx {a:LI}{P:List bU}{V:Nat} (hP:∀ y ∈ P,0<=y.n/\y.n<1000000000) (hV:pv P=V) (hne:P≠[]) (htop:∀ y,P.getLast? = some y->y.n≠0) (hl:P.length<=1000) (ha:a.minus=true->V≠0):
  Gd (iN (λs300 n=>pH a P s300.1 s300.2 n) fY (i64.wrap ((P.length:Int)-1),([]:List U8)))
   (λr=>r.2=decide ((Lib.decDigits V).length<=2000)/\r.1=my (if a.minus=true then -(V:Int) else V)/\r.1.size<=10000):=by
 have hpos:0<P.length:=VZ.2 hne;have wl:i64.wrap ((P.length:Int)-1)=(P.length:Int)-1:=bV ⟨by omega,by omega⟩
 rw [wl];refine Gd.iN (λ(z:Int×List U8)=>-1<=z.1/\z.1<P.length/\(z.1=(P.length:Int)-1/\z.2=[]\/z.1<(P.length:Int)-1/\0<pv (P.drop (z.1+1).toNat)/\z.2=I0 (Lib.decDigits (pv (P.drop (z.1+1).toNat)))/\z.2.length<=9*1000))
  (λz=>(z.1+1).toNat) ?_ fY _ ⟨by simp only; omega,by simp only; omega,.inl ⟨rfl,rfl⟩⟩ (by simp only [fY]; omega)
 rintro ⟨n,l⟩ nx ⟨h1,h2,h3⟩ hnx;simp only at h1 h2 h3 hnx ⊢;unfold pH;refine Gd.ite (λhn=>?_) (λhn=>?_)
 ·have hn:0<=n:=Qr hn
  obtain ⟨k,rfl⟩:∃ k:Nat,n=k:=⟨n.toNat,by omega⟩
  obtain ⟨y,hy⟩:∃ y,P[k]? = some y:=⟨_,Ql (by omega)⟩
  have hyw:=hP y (Qz hy);obtain ⟨u,hu⟩:∃ u:Nat,y.n=u:=⟨y.n.toNat,by omega⟩
  have hu9:u<10 ^ 9:=by
   have:(10:Nat) ^ 9=1000000000:=rfl;omega
  have hkn:((k:Int)+1).toNat=k+1:=by omega
  have hkk:((k:Int)-1+1).toNat=k:=by omega
  refine Gd.ix (by omega) (by rw [Qn]; exact hy) ?_
  rw [hu,gX (n:=(u:Int)) (by omega),tf]
  refine Gd.nd ⟨by omega,by omega⟩ ?_
  rw [wl];have hlen:(Lib.decDigits u).length<=9:=Dd (by decide) hu9
  have hd:=LZ hy;have hun:y.n.toNat=u:=by omega
  rw [hun] at hd;have hwk:i64.wrap ((k:Int)-1)=(k:Int)-1:=bV ⟨by omega,by omega⟩
  refine Gd.ite (λhlt=>?_) (λhlt=>?_)
  ·have hlt:(k:Int)<(P.length:Int)-1:=Qr hlt
   rcases h3 with ⟨h3,_⟩ | ⟨_,h3,h4,h5⟩
   ·omega
   rw [hkn] at h3 h4;rw [iU,Qn,Ff hlen,xX];have hsz:(ba (List.replicate (9-(Lib.decDigits u).length) (48:UInt8))).size=9-(Lib.decDigits u).length:=by rw [iU,RE]
   rw [hsz];refine Gd.nd ⟨by omega,by show ((Lib.decDigits u).length:Int)<=((9:Nat):Int); omega⟩ (Gd.nd (by omega) ?_)
   unfold lO;rw [hu,gX (n:=(u:Int)) (by omega),tf,hwk,xX,iU]
   rw [QE,En,RE];refine Gd.nd (by omega) ?_
   have hfin:l++I0 (List.replicate (9-(Lib.decDigits u).length) (48:UInt8))++I0 (Lib.decDigits u)=I0 (Lib.decDigits (pv (P.drop k))):=by
    have hdp:=Lp (k:=9) (by decide) h3 hu9
    rw [show (10:Nat) ^ 9=1000000000 from rfl,<- hd] at hdp;rw [h4,QR,KW,KW,hdp]
    rfl
   rw [hfin];have hdl:=B5 (u:=pv (P.drop k)) (k:=(Lib.decDigits (pv (P.drop k))).length) (QI _);refine hnx _ ⟨by simp only; omega,by simp only; omega,.inr ⟨by simp only; omega,by simp only; rw [hkk,hd]; omega,by simp only; rw [hkk],?_⟩⟩ (by simp only; omega)
   simp only;rw [En];have hb:=ND 1000 (λz hz=>hP z (List.mem_of_mem_drop hz)) (show (P.drop k).length<=1000 by rw [RX]; omega)
   exact Dd (k:=9*1000) (by decide) hb
  ·have hlt:¬ (k:Int)<(P.length:Int)-1:=QB hlt
   rcases h3 with ⟨h3,h4⟩ | ⟨h3,_⟩
   ·unfold lO
    rw [hu,gX (n:=(u:Int)) (by omega),tf,hwk,xX,iU,h4]
    refine Gd.nd (by simp only [VY]; omega) ?_
    have hlast:P.drop (k+1)=[]:=VP (by omega)
    rw [hlast] at hd;have hd:pv (P.drop k)=u:=by rw [hd]; show 0*1000000000+u=u; omega
    have hu0:u≠0:=by
     have:=htop y (by rw [VU,show P.length-1=k by omega]; exact hy)
     omega
    rw [R2];refine hnx _ ⟨by simp only; omega,by simp only; omega,.inr ⟨by simp only; omega,by simp only; rw [hkk,hd]; omega,by simp only; rw [hkk,hd],?_⟩⟩ (by simp only; omega)
    simp only;rw [En]; omega
   ·omega
 ·have hn:¬ 0<=n:=QB hn
  rcases h3 with ⟨h3,_⟩ | ⟨_,h3,h4,h5⟩
  ·omega
  have hz:(n+1).toNat=0:=by omega
  rw [hz,RI,hV] at h3 h4;subst h4;rw [En] at h5 ⊢;have hne':(Lib.decDigits V)≠[]:=(mb V).1.ne;have hp:0<(Lib.decDigits V).length:=VZ.2 hne';have hsz:((ba (Lib.decDigits V)).size:Int)=((Lib.decDigits V).length:Int):=by rw [iU]
  have hdd:decide (((ba (Lib.decDigits V)).size:Int)<=2000)=decide ((Lib.decDigits V).length<=2000):=by
   rw [hsz]; exact Xa.2 (by omega)
  refine Gd.nd hp (Gd.ite (λhm=>Gd.nd ?_ ?_) (λhm=>?_))
  ·rw [DG,iU,show (⟨#[45]⟩:Qi).size=1 from rfl]
   unfold maxLen; omega
  ·unfold lP
   rw [DG];have hx:(⟨#[45]⟩:Qi)++ba (Lib.decDigits V)=ba (45::Lib.decDigits V):=by
    rw [show (⟨#[45]⟩:Qi)=ba [45] from rfl,FQ]; rfl
   refine Gd.ret ⟨hdd,?_,?_⟩
   ·rw [Qu hm,Is (by have:=ha hm; omega)]; exact hx
   ·simp only
    rw [hx,iU,Qy]; omega
  ·unfold lP
   rw [DG];refine Gd.ret ⟨hdd,?_,?_⟩
   ·rw [Qs (by rw [hm]; simp),tf]
   ·simp only
    rw [iU]; omega
theorem Gy (K N:Nat) {p n W:Nat} (h:1000000000 ^ p*n<=W) (hn:1<=n) (hW:W<2 ^ K) (hK:K<=29*N):p<N:=by
 rcases Sm p N with hp | hp
 ·exact hp
 ·exfalso
  have h1:((2:Nat) ^ 29) ^ N<=(1000000000:Nat) ^ N:=Wh (by decide) N
  have h2:(1000000000:Nat) ^ N<=1000000000 ^ p:=Wj (by decide) hp
  have h3:(1000000000:Nat) ^ p*1<=1000000000 ^ p*n:=Wd _ hn;have h4:(2:Nat) ^ K<=2 ^ (29*N):=Wj (by decide) hK
  rw [<- Wm] at h1;rw [S9] at h3;exact absurd hW (Nat.not_lt.2 (Ro h4 (Ro h1 (Ro h2 (Ro h3 h)))))
theorem IC {V A B n:Nat} (h:V=A+B*n):V=(A+B*(n%1000000000))+B*1000000000*(n / 1000000000):=by
 rw [Wb,SS,<- Wa,V_]; exact h
theorem BZ {a:LI} (h:sZ a):Gd (lg a) (λr=>r.2=decide ((Lib.decDigits (nv a.words)).length<=2000)/\(r.2=true->r.1=my (gP a))/\r.1.size<=10000):=by
 unfold lg;refine Gd.ite (λh0=>?_) (λh0=>?_)
 ·have h0:a.words=[]:=QU (by have:=Qr h0; omega)
  have hm:a.minus=false:=by
   cases hm:a.minus with
   | false=>rfl
   | true=>exact absurd h0 (h.sign hm)
  refine Gd.ret ⟨?_,λ_=>?_,by decide⟩
  ·rw [h0]
   have hx:(Lib.decDigits (nv [])).length<=2000:=by
    show (Lib.decDigits 0).length<=2000;rw [VL (by omega)]; simp
   rw [Xd hx]
  ·unfold gP
   rw [Qs (by rw [hm]; simp),h0]
   show (⟨#[48]⟩:Qi)=my ((0:Nat):Int);rw [tf,VL (by omega)]; rfl
 ·have h0:a.words.length≠0:=by have:=QB h0; omega
  have hne:a.words≠[]:=λe=>h0 (by rw [e]; rfl)
  refine Gd.ite (λh1=>?_) (λh1=>?_)
  ·have h1:210<a.words.length:=by have:=Qr h1; omega
   refine Gd.ret ⟨?_,λhh=>absurd hh (by simp),by decide⟩
   symm
   refine Xb λhle=>?_;exact Hj 667 2000 210 (by decide) (by decide) h.wf h.tp h1 (B5 (k:=2000) hle)
  ·have h1:a.words.length<=210:=by have:=QB h1; omega
   have hW:=KI 210 6720 h.wf h1 (by decide)
   have hnz:nv a.words≠0:=λe=>hne ((wW h.wf h.tp).1 e);refine Gd.iN (λ(z:List bU×List bU)=>(∀ y ∈ z.1,0<=y.n/\y.n<1000000000)/\Wf z.2/\vJ z.2/\z.2.length<=210/\nv a.words=pv z.1+1000000000 ^ z.1.length*nv z.2/\z.1.length<=300/\(nv z.2=0->z.1≠[]/\∀ y,z.1.getLast? = some y->y.n≠0))
    (λz=>301-z.1.length) ?_ fY _ ⟨by simp,h.wf,h.tp,h1,?_,by simp,λe=>absurd e hnz⟩ (by simp only [fY,VY]; omega)
   ·rintro ⟨P,w⟩ nx ⟨i1,i2,i3,i4,i5,i6,i7⟩ hnx
    simp only at i1 i2 i3 i4 i5 i6 i7 hnx ⊢;unfold rE;refine Gd.ite (λhw=>?_) (λhw=>?_)
    ·have hw:0<w.length:=by have:=Qr hw; omega
     have hwn:w≠[]:=λe=>by rw [e] at hw; simp at hw
     have hwz:nv w≠0:=λe=>hwn ((wW i2 i3).1 e);have hpl:=Gy 6720 300 (p:=P.length) (n:=nv w) (W:=nv a.words) (by rw [i5]; exact Nat.le_add_left _ _) (by omega) hW (by decide)
     refine Gd.eQ (Fy i2 (by omega) (d:=1000000000) (by omega)) (λr hr=>?_)
     have hdn:(1000000000:Int).toNat=1000000000:=rfl;rw [hdn] at hr;refine Gd.nd (by simp only [Rk]; omega) (Gd.eQ (tJ false r.1 hr.1 (by omega)) (λq hq=>?_))
     have hrn:0<=r.2/\r.2<1000000000/\r.2.toNat=nv w%1000000000:=by
      have:=Ts (nv w) (show 1000000000 > 0 by omega)
      rw [hr.2.2.2]; omega
     refine hnx _ ⟨?_,hq.1.wf,hq.1.tp,by simp only; omega,?_,by simp only [QE,Rk]; omega,λhz=>⟨by simp,λy hy=>?_⟩⟩ (by simp only [QE,Rk]; omega)
     ·intro y hy
      rcases QC.1 hy with hy | hy
      ·exact i1 y hy
      ·rw [QZ] at hy; subst hy; simp only; omega
     ·simp only
      rw [Hx,QE,Rk,Wo,hq.2.2.1,hr.2.2.1];simp only;rw [hrn.2.2];exact IC i5
     ·simp only at hz hy
      rw [List.getLast?_append,List.getLast?_singleton] at hy;simp only [Option.some_or,QH] at hy;subst hy;simp only;rw [hq.2.2.1,hr.2.2.1] at hz;have:nv w / 1000000000=0:=hz;omega
    ·have hw:w=[]:=QU (by have:=QB hw; omega)
     subst hw;obtain ⟨j1,j2⟩:=i7 rfl;have hVV:pv P=nv a.words:=by
      rw [i5];show pv P=pv P+1000000000 ^ P.length*0;rw [We]; rfl
     refine (Lx (a:=a) i1 hVV j1 j2 (by omega) (λ_=>hnz)).mono (λr hr=>⟨hr.1,λ_=>?_,hr.2.2⟩)
     rw [hr.2.1]; rfl
   ·show nv a.words=0+1000000000 ^ 0*nv a.words
    rw [Wq]; omega
def DH (q:Rat):List UInt8:=Lib.itoa q.num++(if q.den=1 then [] else 47::Lib.decDigits q.den)
def ctext (q:Rat):Qi:=ba (DH q)
def fits (q:Rat):Prop:=(Lib.decDigits q.num.natAbs).length<=2000/\(Lib.decDigits q.den).length<=2000
instance (q:Rat):Decidable (fits q):=by unfold fits; infer_instance
theorem Ce {l:List UInt8} (h:∀ c ∈ l,CV c):(47:UInt8) ∉ l:=λhm=>absurd (h 47 hm) (by unfold CV; decide)
theorem uz (n:Int):Lib.itoa n=if n<0 then 45::Lib.decDigits n.natAbs else Lib.decDigits n.natAbs:=by
 unfold Lib.itoa
 split
 ·rfl
 ·rw [show n.toNat=n.natAbs by omega]
theorem J5 (u:Nat):(Lib.decDigits u).head? ≠ some 45:=by
 obtain ⟨h,_⟩:=mb u;cases hl:Lib.decDigits u with
 | nil=>simp
 | cons c r=>
  rw [hl] at h;have:=h.Er c (Qq ..);simp only [VV,ne_eq,QH];rintro rfl;exact absurd this (by unfold CV; decide)
theorem G6 (q:Rat):(DH q).head? = some 45↔q.num<0:=by
 unfold DH;rw [uz]
 by_cases h:q.num<0
 ·rw [Qu h]; simp [h]
 ·rw [Qs h,BW (mb _).1.ne]
  simp only [h,iff_false];exact J5 _
theorem Ll (q:Rat):(if (DH q).head? = some 45 then (DH q).tail else DH q)=Lib.decDigits q.num.natAbs++(if q.den=1 then [] else 47::Lib.decDigits q.den):=by
 by_cases h:q.num<0
 ·rw [Qu ((G6 q).2 h)]
  unfold DH;rw [uz,Qu h]; rfl
 ·rw [Qs (λe=>h ((G6 q).1 e))]
  unfold DH;rw [uz,Qs h]
theorem Gf {c:UInt8}{l:List UInt8} (h:c ∉ l):Lib.indexByte l c = -1:=by
 rcases tZ c l with ⟨_,h2⟩ | ⟨a,b,rfl,_⟩
 ·exact h2
 ·exact absurd (by simp) h
theorem E1 {c:UInt8}{b:List UInt8}:∀ {a:List UInt8},c ∉ a->Lib.indexByte (a++c::b) c=a.length
 | [],_=>by simp [Lib.indexByte]
 | x::a,h=>by
  have hx:(x == c)=false:=by simp only [Q8,not_or] at h; simpa using λe=>h.1 e.symm
  have ih:=E1 (b:=b) (a:=a) (λhm=>h (Qw _ hm));rw [SL];simp only [Lib.indexByte,hx,ih];rw [Qs (by simp),Qs (by simp)]
  simp only [Qy]; omega
theorem BJ {l:List UInt8} (h:(47:UInt8) ∉ l):nN (ba l) (⟨#[47]⟩)=some (ba l,⟨#[]⟩,false):=by
 unfold nN jS;rw [show (⟨#[47]⟩:Qi)=ba [47] from rfl,E2,G4,Gf h]
 rfl
theorem BK {a b:List UInt8} (h:(47:UInt8) ∉ a) (hs:a.length+1+b.length<=maxLen):nN (ba (a++47::b)) (⟨#[47]⟩)=some (ba a,ba b,true):=by
 have hsz:(ba (a++47::b)).size=a.length+1+b.length:=by rw [iU]; simp; omega
 unfold maxLen at hs;unfold nN jS;rw [show (⟨#[47]⟩:Qi)=ba [47] from rfl,E2,G4,E1 h];simp only [Tc];rw [Qu (by simp),hsz,show (ba [47]).size=1 from rfl,bV ⟨by omega,by omega⟩]
 unfold cZ;rw [Qu ⟨by omega,by omega⟩,Qu ⟨by omega,by omega⟩,Qn,show ((a.length:Int)+((1:Nat):Int)).toNat=a.length+1 by omega,sd,sd]
 simp only [Tc,RI];rw [TI,QD (by simp; omega),show a++47::b=(a++[47])++b by simp,List.drop_left' (by simp)]
theorem tD (l:List UInt8) (hs:l.length<=maxLen):Gd (pS (ba l)) (λc=>c=0↔FH l/\l.length<=2000):=by
 unfold pS;refine Gd.nd (by rw [iU]; exact hs) ?_
 rw [xX];refine Gd.seen (λpre _=>∀ y ∈ pre,48<=y.n/\y.n<=57) ?_ ?_ () (λy hy=>by cases hy)
 ·rintro i y _ nx pre ⟨post,hl⟩ hI hnx
  have hy:y ∈ I0 l:=by rw [hl]; simp
  obtain ⟨c,hc,rfl⟩:=Ra.1 hy;unfold va;refine Gd.ite (λhb=>Gd.ret ?_) (λhb=>hnx () (λz hz=>?_))
  ·simp only [RZ,Q9] at hb
   constructor
   ·intro h; simp at h
   ·rintro ⟨h,_⟩
    have:=h.Er c hc;unfold CV at this; omega
  ·simp only [VC,Xc] at hb
   rcases QC.1 hz with hz | hz
   ·exact hI z hz
   ·rw [QZ] at hz; subst hz; simp only; omega
 ·intro _ hI
  have hd:∀ c ∈ l,CV c:=λc hc=>by
   have:=hI ⟨c.toNat⟩ (Ra.2 ⟨c,hc,rfl⟩);unfold CV; simp only at this; omega
  refine Gd.ite (λh=>Gd.ret ?_) (λh=>?_)
  ·have h:l=[]:=xz ((Qr h).trans rfl)
   constructor
   ·intro h; simp at h
   ·rintro ⟨hn,_⟩; exact absurd h hn.ne
  ·have hne:l≠[]:=λe=>absurd (QB h) (by rw [e]; simp [ba])
   have last:(l.head? = some 48->l=[48])->Gd (if decide (2000<((ba l).size:Int))=true then some (2:Int) else some 0) (λc=>c=0↔FH l/\l.length<=2000):=λhlead=>by
    rw [iU];refine Gd.ite (λh2=>Gd.ret ?_) (λh2=>Gd.ret ?_)
    ·have:=Qr h2
     constructor
     ·intro h; simp at h
     ·rintro ⟨_,h⟩; omega
    ·have:=QB h2
     exact ⟨λ_=>⟨⟨hd,hne,hlead⟩,by omega⟩,λ_=>rfl⟩
   refine Gd.ite (λh1=>?_) (λh1=>last (λhh=>?_))
   ·rw [iU] at h1
    have h1:=Qr h1;cases l with
    | nil=>exact absurd rfl hne
    | cons c r=>
     refine Gd.ix (y:=⟨c.toNat⟩) (by omega) rfl (Gd.ite (λh2=>Gd.ret ?_) (λh2=>last (λhh=>?_)))
     ·have h2:=Qr h2
      simp only at h2;constructor
      ·intro h; simp at h
      ·rintro ⟨hn,_⟩
       have hc:c=48:=UInt8.toNat_inj.1 (by show c.toNat=48; omega)
       have:=hn.lead (by rw [hc]; rfl)
       rw [this] at h1; simp at h1
     ·have h2:=QB h2
      simp only [VV,QH] at hh;subst hh;exact absurd rfl h2
   ·rw [iU] at h1
    have h1:=QB h1;cases l with
    | nil=>exact absurd rfl hne
    | cons c r=>
     have:r=[]:=QU (by simp only [Qy] at h1; omega)
     subst this;simp only [VV,QH] at hh;rw [hh]
theorem Cr {n:List UInt8} (hn:FH n) (l1:n.length<=2000):Gd (lF (ba n)) (λa=>sZ a/\a.words.length<=10000/\gP a=dv n):=by
 have:=HA hn.Er l1 false;simpa using this
theorem LO {n d:List UInt8} (hn:FH n) (hd:FH d) (l1:n.length<=2000) (l2:d.length<=2000):
  Gd (wu (ba n) (ba d)) (λr=>r.2.2=0/\(sZ r.1/\r.1.words.length<=10000/\gP r.1=dv n)/\(sZ r.2.1/\r.2.1.words.length<=10000/\gP r.2.1=dv d)):=by
 unfold wu;have N0:∀ {l:List UInt8},FH l->l.length<=2000->Gd (pS (ba l)) (λc=>c=0):=λh hl=>(tD _ (by unfold maxLen; omega)).mono (λc hc=>hc.2 ⟨h,hl⟩)
 refine Gd.kL (λm i _=>m+i=2) (λm i _ nx hI hnx=>?_) (λi _ _=>?_) _ 0 () rfl
 ·unfold wR
  have hi:i=0\/i=1:=by omega
  have hy:∃ l:List UInt8,([ba n,ba d]:List Qi)[i]? = some (ba l)/\FH l/\l.length<=2000:=by
   rcases hi with rfl | rfl
   ·exact ⟨n,rfl,hn,l1⟩
   ·exact ⟨d,rfl,hd,l2⟩
  obtain ⟨l,hl,h1,h2⟩:=hy;refine Gd.ix (by omega) (by rw [Qn]; exact hl) (Gd.eQ (N0 h1 h2) (λc hc=>?_))
  subst hc;exact hnx () (by omega)
 ·exact Gd.eQ (Cr hn l1) (λa ha=>Gd.eQ (Cr hd l2) (λb hb=>Gd.ret ⟨rfl,ha,hb⟩))
theorem vy:Lib.decDigits 1=[49]:=VL (by omega)
theorem zd:Lib.decDigits 0=[48]:=VL (by omega)
theorem zc {a b:Nat} (h:Lib.decDigits a=Lib.decDigits b):a=b:=by
 have h1:=(mb a).2;rw [h,(mb b).2] at h1; exact h1.symm
theorem Hm {n d:List UInt8} (hn:FH n) (hd:FH d) (l1:n.length<=2000) (l2:d.length<=2000):
  Gd (wm (ba n) (ba d)) (λr=>r.1=(⟨#[49]⟩:Qi)↔Nat.gcd (dv n) (dv d)=1):=by
 unfold wm;refine Gd.eQ (LO hn hd l1 l2) (λr hr=>?_);obtain ⟨h0,h1,h2⟩:=hr;rw [h0];refine Gd.eQ (J2 h1.1 h2.1 (L:=10000) (by omega) h1.2.1 h2.2.1) (λg hg=>?_)
 have e1:nv r.1.words=dv n:=by rw [<- kZ,h1.2.2]; rfl
 have e2:nv r.2.1.words=dv d:=by rw [<- kZ,h2.2.2]; rfl
 rw [e1,e2] at hg;unfold wQ;have hb:Gd ((lg g).bind λr102=>if (!r102.2)=true then some ((⟨#[]⟩:Qi),(2:Int)) else some (r102.1,0)) (λt=>t.1=(⟨#[49]⟩:Qi)↔Nat.gcd (dv n) (dv d)=1):=by
  refine Gd.eQ (BZ hg.1) (λt ht=>Gd.ite (λhf=>Gd.ret ?_) (λhf=>Gd.ret ?_))
  ·have hf:t.2=false:=by simpa using hf
   rw [hf,hg.2.2.2] at ht;constructor
   ·intro h; exact absurd h (by decide)
   ·intro h
    have:=ht.1;rw [h,vy] at this; simp at this
  ·have hf:t.2=true:=by simpa using hf
   have e3:=ht.2.1 hf;simp only;rw [e3,qy hg.2.1,tf,hg.2.2.2,show (⟨#[49]⟩:Qi)=ba [49] from rfl];constructor
   ·intro h
    exact zc ((xz h).trans vy.symm)
   ·intro h; rw [h,vy]
 exact Gd.eQ hb (λt ht=>Gd.ret ht)
theorem GB {q:Rat} (h:fits q):pT (ctext q)=some 0:=by
 refine Gd.eq.1 ?_;have hD:=(mb q.num.natAbs).1;have hE:=(mb q.den).1;unfold pT ctext;refine Gd.bind_eq (yU _) ?_;rw [Ll];have hz:q.num<0->Lib.decDigits q.num.natAbs≠[48]:=λhn e=>by
  rw [<- zd] at e;have:=zc e; omega
 by_cases hd:q.den=1
 ·rw [Qu hd,Q5]
  refine Gd.bind_eq (BJ (Ce hD.Er)) ?_;refine Gd.eQ (tD _ (by have:=h.1; unfold maxLen; omega)) (λc hc=>?_)
  have hc0:=hc.2 ⟨hD,h.1⟩;subst hc0;refine Gd.ite (λhx=>by simp at hx) (λ_=>?_)
  unfold mH;refine Gd.ite (λhx=>?_) (λ_=>Gd.ret rfl);exfalso;simp only [show decide ((0:Int)=5)=false from rfl,Bool.or_self,Bool.false_or,R6,Q9] at hx;have h1:Lib.decDigits q.num.natAbs=[48]:=xz (hx.1.trans rfl);have h2:=hx.2;rw [iU,iU] at h2;unfold DH at h2;rw [Qu hd,Q5,uz] at h2
  split at h2
  ·rename_i hn; exact hz hn h1
  ·omega
 ·rw [Qs hd]
  refine Gd.bind_eq (BK (Ce hD.Er) (by have:=h.1; have:=h.2; unfold maxLen; omega)) ?_
  refine Gd.eQ (tD _ (by have:=h.1; unfold maxLen; omega)) (λc hc=>?_)
  have hc0:=hc.2 ⟨hD,h.1⟩;subst hc0;refine Gd.ite (λ_=>?_) (λhx=>by simp at hx)
  refine Gd.eQ (tD _ (by have:=h.2; unfold maxLen; omega)) (λc hc=>?_)
  have hc0:=hc.2 ⟨hE,h.2⟩;subst hc0;unfold mH;refine Gd.ite (λhx=>?_) (λ_=>Gd.ite (λhx=>by simp at hx) (λ_=>Gd.ite (λ_=>?_) (λhx=>by simp at hx)))
  ·exfalso
   simp only [show decide ((0:Int)=5)=false from rfl,Bool.or_self,Bool.false_or,R6,Q9] at hx;have h1:Lib.decDigits q.num.natAbs=[48]:=xz (hx.1.trans rfl);have h2:=hx.2;rw [iU,iU] at h2;unfold DH at h2;rw [Qs hd,uz] at h2
   split at h2
   ·rename_i hn; exact hz hn h1
   ·omega
  ·refine Gd.eQ (Hm hD hE h.1 h.2) (λr hr=>?_)
   rw [(mb q.num.natAbs).2,(mb q.den).2] at hr;have hr1:=hr.2 q.reduced;refine Gd.ite (λhx=>?_) (λ_=>Gd.ret rfl);exfalso;simp only [hr1,decide_true,Bool.not_true,Bool.or_false,RZ,Q9] at hx;rcases hx with hx | hx
   ·have:=zc ((xz (hx.trans rfl):Lib.decDigits q.den=[48]).trans zd.symm)
    exact q.den_nz this
   ·have:=zc ((xz (hx.trans rfl):Lib.decDigits q.den=[49]).trans vy.symm)
    exact hd this
theorem MG {neg:Bool}{n:List UInt8}{m:Int} (hn:FH n) (h0:¬ (n=[48]/\neg=true)) (hm:m=if neg=true then -(dv n:Int) else dv n):
  Lib.itoa m=(if neg=true then 45::n else n)/\m.natAbs=dv n:=by
 have hz:dv n=0->n=[48]:=λh=>by
  have e:=wL hn;rw [h,zd] at e; exact e.symm
 rw [uz];cases neg with
 | false=>
  simp only [Rx,R_] at hm ⊢;rw [Qs (by omega),show m.natAbs=dv n by omega]
  exact ⟨wL hn,rfl⟩
 | true=>
  simp only [Uh] at hm ⊢;have hnz:dv n≠0:=λh=>h0 ⟨hz h,rfl⟩;rw [Qu (by omega),show m.natAbs=dv n by omega]
  exact ⟨by rw [wL hn],rfl⟩
theorem ID (s:Qi) (hs:s.size<=maxLen):Gd (pT s) (λc=>c=0↔∃ q,fits q/\s=ctext q):=by
 have sound:Gd (pT s) (λc=>c=0->∃ q,fits q/\s=ctext q):=by
  obtain ⟨l,rfl⟩:∃ l,s=ba l:=⟨bl s,(Jv s).symm⟩;rw [iU] at hs;unfold pT;refine Gd.bind_eq (yU l) ?_;obtain ⟨neg,hneg⟩:∃ neg:Bool,neg=decide (l.head? = some 45):=⟨_,rfl⟩;generalize ht:(if l.head? = some 45 then l.tail else l)=t
  have hl:l=if neg=true then 45::t else t:=by
   by_cases h:l.head? = some 45
   ·rw [Qu h] at ht
    rw [hneg,Xd h,Qu rfl,<- ht];cases l with
    | nil=>cases h
    | cons c r=>simp only [VV,QH] at h; rw [h]; rfl
   ·rw [Qs h] at ht
    rw [hneg,Xb h,Qs (by simp)]; exact ht
  have htl:t.length<=l.length:=by
   rw [hl]; split
   ·simp
   ·omega
  have hsz:neg=true->(ba t).size<(ba l).size:=λh=>by
   rw [iU,iU,hl,Qu h]; simp
  by_cases hsl:(47:UInt8) ∈ t
  ·obtain ⟨a,b,e,ha,_⟩:∃ a b,t=a++47::b/\(47:UInt8) ∉ a/\True:=by
    rcases tZ 47 t with ⟨h1,_⟩ | ⟨a,b,e,h2,_⟩
    ·exact absurd hsl h1
    ·exact ⟨a,b,e,h2,Qk⟩
   have hab:a.length+1+b.length=t.length:=by rw [e]; simp; omega
   rw [e];refine Gd.bind_eq (BK ha (by omega)) ?_
   refine Gd.eQ (tD a (by omega)) (λc1 hc1=>Gd.ite (λ_=>?_) (λhx=>by simp at hx))
   refine Gd.eQ (tD b (by omega)) (λc2 hc2=>?_)
   unfold mH;refine Gd.ite (λ_=>Gd.ret (λh=>by simp at h)) (λhA=>Gd.ite (λ_=>Gd.ret (λh=>by simp at h)) (λhB=>Gd.ite (λ_=>?_) (λhx=>by simp at hx)))
   simp only [VC,VB,Q9] at hB;obtain ⟨n1,n2⟩:=hc1.1 hB.1;obtain ⟨d1,d2⟩:=hc2.1 hB.2;have h0:¬ (a=[48]/\neg=true):=by
    rintro ⟨ea,en⟩;simp only [VC,Bool.and_eq_false_iff,Xc] at hA;rcases hA.2 with h | h
    ·exact h (by rw [ea]; rfl)
    ·have:=hsz en; rw [e] at this; omega
   refine Gd.eQ (Hm n1 d1 n2 d2) (λr hr=>Gd.ite (λ_=>Gd.ret (λh=>by simp at h)) (λhC=>Gd.ret (λ_=>?_)))
   simp only [VC,VB,Q9,Xc] at hC;have hg:=hr.1 hC.2;have hnz:dv b≠0:=λh=>hC.1.1 (by
    have:=wL d1;rw [h,zd] at this; rw [<- this]; rfl)
   have hn1:dv b≠1:=λh=>hC.1.2 (by
    have:=wL d1;rw [h,vy] at this; rw [<- this]; rfl)
   obtain ⟨e1,e2⟩:=MG (neg:=neg) n1 h0 rfl;refine ⟨Rat.mk' (if neg=true then -(dv a:Int) else dv a) (dv b) hnz (by rw [e2]; exact hg),⟨?_,?_⟩,?_⟩
   ·simp only; rw [e2,wL n1]; exact n2
   ·simp only; rw [wL d1]; exact d2
   ·unfold ctext DH
    simp only;rw [e1,Qs hn1,wL d1,hl,e]
    split <;> rfl
  ·refine Gd.bind_eq (BJ hsl) ?_
   refine Gd.eQ (tD t (by omega)) (λc1 hc1=>Gd.ite (λhx=>by simp at hx) (λ_=>?_))
   unfold mH;refine Gd.ite (λ_=>Gd.ret (λh=>by simp at h)) (λhA=>Gd.ite (λ_=>Gd.ret (λh=>by simp at h)) (λhB=>Gd.ite (λhx=>by simp at hx) (λ_=>Gd.ret (λ_=>?_))))
   simp only [VC,VB,Q9] at hB;obtain ⟨n1,n2⟩:=hc1.1 hB.1;have h0:¬ (t=[48]/\neg=true):=by
    rintro ⟨ea,en⟩;simp only [VC,Bool.and_eq_false_iff,Xc] at hA;rcases hA.2 with h | h
    ·exact h (by rw [ea]; rfl)
    ·have:=hsz en; omega
   obtain ⟨e1,e2⟩:=MG (neg:=neg) n1 h0 rfl;refine ⟨Rat.mk' (if neg=true then -(dv t:Int) else dv t) 1 (by decide) (by rw [e2]; exact Nat.coprime_one_right _),⟨?_,?_⟩,?_⟩
   ·simp only; rw [e2,wL n1]; exact n2
   ·simp only; rw [vy]; decide
   ·unfold ctext DH
    simp only;rw [e1,Qu Qk,Q5,<- hl]
 obtain ⟨c,e,h⟩:=sound;refine ⟨c,e,h,?_⟩;rintro ⟨q,hq,rfl⟩;rw [GB hq] at e;exact (Qp e).symm
theorem G8 {u k:Nat}{l:List bU} (hw:Wf l) (ht:vJ l) (hk:(Lib.decDigits (nv l)).length<=2000):l.length<=300:=by
 rcases Sm 300 l.length with h | h
 ·exact absurd (B5 (k:=2000) hk) (Hj 667 2000 300 (by decide) (by decide) hw ht h)
 ·exact h
theorem pA.small {a:LR} (h:pA a) (hf:fits (rv a)):RL a 300:=by
 obtain ⟨h1,h2⟩:=hf;rw [h.num,kZ] at h1;rw [h.den] at h2;exact ⟨G8 (u:=0) (k:=0) h.n.wf h.n.tp h1,G8 (u:=0) (k:=0) h.d.wf h.d.tp h2⟩
theorem KH {a:LR} (h:pA a):Gd (pL a) (λr=>(r.2=true↔fits (rv a))/\(r.2=true->r.1=ctext (rv a))):=by
 have e1:(rv a).num.natAbs=nv a.N.words:=by rw [h.num,kZ]
 have e2:(rv a).den=nv a.D.words:=h.den;unfold pL;refine Gd.eQ (BZ h.n) (λt ht=>Gd.ite (λhf=>Gd.ret ?_) (λhf=>?_))
 ·have hf:t.2=false:=by simpa using hf
  refine ⟨⟨λhh=>by simp at hh,λhh=>?_⟩,λhh=>by simp at hh⟩
  have h1:=ht.1;rw [hf] at h1;have:=hh.1;rw [e1] at this;exact absurd this (QB h1.symm)
 ·have hf:t.2=true:=by simpa using hf
  have hN:=ht.1;rw [hf] at hN;have hN:=Qr hN.symm;have hNt:=ht.2.1 hf;refine Gd.eQ (BZ h.d) (λu hu=>?_);have hval:gP a.D=((nv a.D.words:Nat):Int):=qy h.pos;have hiff:(u.2=true↔fits (rv a)):=by
   unfold fits;rw [e1,e2,hu.1,Q9];exact ⟨λx=>⟨hN,x⟩,λx=>x.2⟩
  have hut:u.2=true->u.1=ba (Lib.decDigits (rv a).den):=λx=>by rw [hu.2.1 x,hval,tf,e2]
  have hnt:t.1=ba (Lib.itoa (rv a).num):=by rw [hNt,h.num]; rfl
  refine Gd.ite (λh1=>Gd.ret ⟨hiff,λhh=>?_⟩) (λh1=>Gd.nd ?_ (Gd.nd ?_ (Gd.ret ⟨hiff,λhh=>?_⟩)))
  ·have h1:u.1=(⟨#[49]⟩:Qi):=Qr h1
   have:=hut hh;rw [h1] at this;have hd:(rv a).den=1:=zc ((xz (show ba [49]=_ from this)).symm.trans vy.symm);unfold ctext DH;rw [Qu hd,Q5]; exact hnt
  ·have:=ht.2.2
   show t.1.size+1<=maxLen;unfold maxLen; omega
  ·have:=ht.2.2
   have:=hu.2.2;rw [Cz];show t.1.size+1+u.1.size<=maxLen;unfold maxLen; omega
  ·have h1:u.1≠(⟨#[49]⟩:Qi):=QB h1
   have h2:=hut hh;have hd:(rv a).den≠1:=λe=>h1 (by rw [h2,e,vy]; rfl)
   unfold ctext DH;rw [Qs hd];simp only;rw [hnt,h2,show (⟨#[47]⟩:Qi)=ba [47] from rfl,FQ,FQ,QR]; rfl
theorem L1 {p q:Rat} (h1:p.num=q.num) (h2:p.den=q.den):p=q:=Rat.ext h1 h2
theorem Ar {n:Int} (h:(Lib.decDigits n.natAbs).length<=2000):Gd (lF (ba (Lib.itoa n))) (λa=>sZ a/\a.words.length<=10000/\gP a=n):=by
 have hD:=mb n.natAbs;have:=HA hD.1.Er h (decide (n<0));rw [uz];simp only [Q9] at this;refine this.mono (λa ha=>⟨ha.1,ha.2.1,?_⟩);rw [ha.2.2,hD.2]
 split <;> omega
theorem B1 (n:Int):(47:UInt8) ∉ Lib.itoa n:=by
 rw [uz];have:=Ce (mb n.natAbs).1.Er
 split
 ·simp only [Q8,not_or]; exact ⟨by decide,this⟩
 ·exact this
theorem Hc {n:Int} (h:(Lib.decDigits n.natAbs).length<=2000):(Lib.itoa n).length<=2001:=by
 rw [uz]
 split
 ·simp only [Qy]; omega
 ·omega
theorem Lr {q:Rat}{k:Nat} (hn:q.num.natAbs<10 ^ k) (hd:q.den<10 ^ k) (hk:1<=k) (hk2:k<=2000):fits q:=
 ⟨Ro (Dd hk hn) hk2,Ro (Dd hk hd) hk2⟩
theorem F2 {q:Rat} (h:fits q):(ctext q).size<=10000:=by
 unfold ctext DH;rw [iU,QE];have:=Hc h.1;have:=h.2
 split
 ·simp; omega
 ·simp only [Qy]; omega
theorem AD {l:List Qi} (hs:∀ s ∈ l,s.size<=maxLen):Gd (rf l) (λc=>c=0↔∀ s ∈ l,∃ q,fits q/\s=ctext q):=by
 unfold rf;refine Gd.seen (λpre _=>∀ s ∈ pre,∃ q,fits q/\s=ctext q) ?_ (λ_ hI=>Gd.ret ⟨λ_=>hI,λ_=>rfl⟩) () (λs hs=>by cases hs)
 rintro i y _ nx pre ⟨post,hl⟩ hI hnx;have hy:y ∈ l:=by rw [hl]; simp
 unfold sL;refine Gd.eQ (ID y (hs y hy)) (λc hc=>Gd.ite (λh=>Gd.ret ?_) (λh=>hnx () (λz hz=>?_)))
 ·have h:c≠0:=by simpa using h
  exact ⟨λe=>absurd e h,λe=>absurd (hc.2 (e y hy)) h⟩
 ·have h:c=0:=by simpa using h
  rcases QC.1 hz with hz | hz
  ·exact hI z hz
  ·rw [QZ] at hz; subst hz; exact hc.1 h
def RB (q:Rat) (L:Nat):Prop:=∃ r:LR,pA r/\RL r L/\rv r=q
theorem pA.rb {r:LR} (h:pA r) {L:Nat} (hb:RB (rv r) L):RL r L:=by
 obtain ⟨s,h1,h2,h3⟩:=hb;rw [h.ext' h1 h3.symm]; exact h2
theorem RB.mono {q:Rat}{L M:Nat} (h:RB q L) (hM:L<=M):RB q M:=by
 obtain ⟨s,h1,h2,h3⟩:=h;exact ⟨s,h1,h2.mono hM,h3⟩
theorem RB.add {p q:Rat}{A B:Nat} (h:RB p A) (k:RB q B) (hz:A+B<=800000):RB (p+q) (A+B+1):=by
 obtain ⟨a,h1,h2,h3⟩:=h; obtain ⟨b,k1,k2,k3⟩:=k
 obtain ⟨r,_,r1,r2,r3⟩:=wZ h1 k1 h2 k2 hz;exact ⟨r,r1,r2,by rw [r3,h3,k3]⟩
theorem RB.sub {p q:Rat}{A B:Nat} (h:RB p A) (k:RB q B) (hz:A+B<=800000):RB (p-q) (A+B+1):=by
 obtain ⟨a,h1,h2,h3⟩:=h; obtain ⟨b,k1,k2,k3⟩:=k
 obtain ⟨r,_,r1,r2,r3⟩:=ya h1 k1 h2 k2 hz;exact ⟨r,r1,r2,by rw [r3,h3,k3]⟩
theorem RB.mul {p q:Rat}{A B:Nat} (h:RB p A) (k:RB q B) (hz:A+B<=800000):RB (p*q) (A+B):=by
 obtain ⟨a,h1,h2,h3⟩:=h; obtain ⟨b,k1,k2,k3⟩:=k
 obtain ⟨r,_,r1,r2,r3⟩:=zy h1 k1 h2 k2 hz;exact ⟨r,r1,r2,by rw [r3,h3,k3]⟩
theorem Nt {w:List bU} (hw:Wf w) (ht:vJ w) {k:Nat} (h:nv w<WB ^ k):w.length<=k:=by
 rcases Sm k w.length with hl | hl
 ·exfalso
  have hne:w≠[]:=λe=>by rw [e] at hl; simp at hl
  have h1:=Fj hw ht hne;have h2:WB ^ k<=WB ^ (w.length-1):=Wj (by decide) (by omega)
  exact absurd h (Nat.not_lt.2 (Ro h2 h1))
 ·exact hl
theorem IV (k m:Nat) (h:32*k<=3*m):WB ^ k<=10 ^ m:=by
 have h3:(2:Nat) ^ (32*k)<=2 ^ (3*m):=Wj (by decide) h
 have h5:((2:Nat) ^ 3) ^ m<=10 ^ m:=Wh (by decide) m
 rw [<- Wm] at h5;rw [Br k];exact Ro h3 h5
theorem KY {k:Nat} (hk:k<=187):WB ^ k<=10 ^ 2000:=IV k 2000 (by omega)
theorem RB.fits {q:Rat}{L:Nat} (h:RB q L) (hL:L<=187):fits q:=by
 obtain ⟨r,h1,h2,rfl⟩:=h;have e:=KY hL;have key:∀ {w:List bU},Wf w->w.length<=L->nv w<10 ^ 2000:=λhw hl=>
  Tf (sU hw) (Ro (Wj (by decide) hl) e)
 refine Lr (k:=2000) ?_ ?_ (by decide) (QI _)
 ·rw [h1.num,kZ]; exact key h1.n.wf h2.1
 ·rw [h1.den]; exact key h1.d.wf h2.2
theorem ML {m:Int}{k:Nat} (h:m.natAbs<WB ^ k) (hk:k<=187):∃ a:LI,sZ a/\a.words.length<=k/\gP a=m:=by
 obtain ⟨a,_,h1,h2,h3⟩:=Ar (n:=m) (Dd (by decide) (Tf h (KY hk)))
 exact ⟨a,h1,Nt h1.wf h1.tp (by rw [<- kZ,h3]; exact h),h3⟩
theorem RB.ratio {m d:Int}{k:Nat} (h:m.natAbs<WB ^ k) (hd:d.natAbs<WB ^ k) (h0:d≠0) (hk:k<=187):RB ((m:Rat) / (d:Rat)) k:=by
 obtain ⟨a,a1,a2,a3⟩:=ML h hk;obtain ⟨b,b1,b2,b3⟩:=ML hd hk;obtain ⟨r,_,r1,r2,r3,r4⟩:=xM a1 b1 (by rw [<- kZ,b3]; omega) (by omega) (by omega)
 exact ⟨r,r1,⟨by omega,by omega⟩,by rw [r4,a3,b3,Rat.divInt_eq_div]⟩
theorem RB.int {m:Int}{k:Nat} (h:m.natAbs<WB ^ k) (h1:1<=k) (hk:k<=187):RB (m:Rat) k:=by
 have:=RB.ratio (m:=m) (d:=1) h (by
  have:WB ^ 1<=WB ^ k:=Wj (by decide) h1
  have:WB ^ 1=4294967296:=by decide
  show 1<WB ^ k;omega) (by decide) hk
 have e:(m:Rat) / ((1:Int):Rat)=(m:Rat):=by rw [Rat.intCast_one]; grind
 rwa [e] at this
theorem RB.small {m:Int} (h:m.natAbs<4294967296):RB (m:Rat) 1:=RB.int (k:=1) (by show m.natAbs<4294967296 ^ 1; omega) (by decide) (by decide)
theorem RB.Pf {m d:Int} (h:m.natAbs<4294967296) (hd:d.natAbs<4294967296) (h0:d≠0):RB ((m:Rat) / (d:Rat)) 1:=
 RB.ratio (k:=1) (by show m.natAbs<4294967296 ^ 1; omega) (by show d.natAbs<4294967296 ^ 1; omega) h0 (by decide)
theorem Fm {q:Rat} (h:fits q):Gd (qF (ctext q)) (λa=>pA a/\RL a 300/\rv a=q):=by
 have fin:∀ a:LR,sZ a.N->sZ a.D->gP a.N=q.num->gP a.D=(q.den:Int)->pA a/\RL a 300/\rv a=q:=λa h1 h2 h3 h4=>by
  have hp:a.D.minus=false:=h2.plus (by omega)
  have hd:nv a.D.words=q.den:=by
   have:=qy hp;omega
  have hok:pA a:=⟨h1,h2,hp,by rw [hd]; exact q.den_nz,by rw [hd,<- kZ,h3]; exact q.reduced⟩
  have hv:rv a=q:=L1 (by rw [hok.num,h3]) (by rw [hok.den,hd])
  exact ⟨hok,hok.small (by rw [hv]; exact h),hv⟩
 have hl:=Hc h.1;unfold qF ctext DH
 by_cases hd:q.den=1
 ·rw [Qu hd,Q5]
  refine Gd.bind_eq (BJ (B1 _)) (Gd.ite (λ_=>?_) (λhx=>by simp at hx))
  refine Gd.eQ (Ar h.1) (λa ha=>Gd.eQ (Ci (n:=1) (by omega)) (λb hb=>Gd.ret ?_))
  exact fin _ ha.1 hb.1 ha.2.2 (by rw [hb.2.2,hd]; rfl)
 ·rw [Qs hd]
  refine Gd.bind_eq (BK (B1 _) (by have:=h.2; unfold maxLen; omega)) (Gd.ite (λhx=>by simp at hx) (λ_=>?_))
  refine Gd.eQ (Ar h.1) (λa ha=>Gd.eQ (Cr (mb q.den).1 h.2) (λb hb=>Gd.ret ?_));exact fin _ ha.1 hb.1 ha.2.2 (by rw [hb.2.2,(mb q.den).2])
end Go.Sim
namespace Go.Sim
open _root_.Go.IntKind (i64 u64 u32 u8)
def sm:Nat->(Nat->Rat)->Rat
 | 0,_=>0
 | n+1,f=>sm n f+f n
def pr:Nat->(Nat->Rat)->Rat
 | 0,_=>1
 | n+1,f=>pr n f*f n
theorem px {f g:Nat->Rat}:∀ {n:Nat},(∀ i,i<n->f i=g i)->sm n f=sm n g
 | 0,_=>rfl
 | n+1,h=>by
  unfold sm;rw [px (λi hi=>h i (by omega)),h n (by omega)]
theorem wC {f g:Nat->Rat}:∀ {n:Nat},(∀ i,i<n->f i=g i)->pr n f=pr n g
 | 0,_=>rfl
 | n+1,h=>by
  unfold pr;rw [wC (λi hi=>h i (by omega)),h n (by omega)]
theorem vH {f:Nat->Rat}:∀ {n:Nat},(∀ i,i<n->f i=0)->sm n f=0
 | 0,_=>rfl
 | n+1,h=>by
  unfold sm;rw [vH (λi hi=>h i (by omega)),h n (by omega)]; grind
theorem w6 (f g:Nat->Rat):∀ n:Nat,sm n (λi=>f i+g i)=sm n f+sm n g
 | 0=>by unfold sm; grind
 | n+1=>by unfold sm; rw [w6 f g n]; grind
theorem rN (a:Rat) (f:Nat->Rat):∀ n:Nat,sm n (λi=>a*f i)=a*sm n f
 | 0=>by unfold sm; grind
 | n+1=>by unfold sm; rw [rN a f n]; grind
theorem CA {f:Nat->Rat}{p:Nat}:∀ {n:Nat},p<n->(∀ i,i<n->i≠p->f i=0)->sm n f=f p
 | 0,h,_=>by omega
 | n+1,h,hz=>by
  unfold sm
  by_cases e:p=n
  ·subst e
   rw [vH (λi hi=>hz i (by omega) (by omega))]; grind
  ·rw [CA (by omega) (λi hi hne=>hz i (by omega) hne),hz n (by omega) (λh=>e h.symm)]; grind
theorem KM {f:Nat->Rat}{p:Nat}:∀ {n:Nat},p+1<n->(∀ i,i<n->i≠p->i≠p+1->f i=0)->sm n f=f p+f (p+1)
 | 0,h,_=>by omega
 | n+1,h,hz=>by
  unfold sm
  by_cases e:p+1=n
  ·subst e
   rw [CA (p:=p) (by omega) (λi hi hne=>hz i (by omega) hne (by omega))]
  ·rw [KM (by omega) (λi hi h1 h2=>hz i (by omega) h1 h2),hz n (by omega) (by omega) (λh=>e h.symm)]; grind
theorem tE {f:Nat->Rat}:∀ {n:Nat},(∀ i,i<n->0<=f i)->0<=sm n f
 | 0,_=>W5
 | n+1,h=>by
  unfold sm;have h1:=tE (n:=n) (λi hi=>h i (by omega))
  have h2:=h n (by omega)
  grind
theorem KL {f g:Nat->Rat}:∀ {n:Nat},(∀ i,i<n->f i<=g i)->sm n f<=sm n g
 | 0,_=>W5
 | n+1,h=>by
  unfold sm;have h1:=KL (n:=n) (λi hi=>h i (by omega))
  have h2:=h n (by omega)
  grind
theorem mV {f:Nat->Rat}:∀ {n:Nat},(∀ i,i<n->0<=f i)->0<=pr n f
 | 0,_=>by unfold pr; decide
 | n+1,h=>by
  unfold pr;exact W9 (mV (n:=n) (λi hi=>h i (by omega))) (h n (by omega))
theorem qL {a b c d:Rat} (h1:a<=b) (h2:c<=d) (a0:0<=a) (c0:0<=c):a*c<=b*d:=by
 have x1:a*c<=b*c:=Rat.mul_le_mul_of_nonneg_right h1 c0;have x2:b*c<=b*d:=Rat.mul_le_mul_of_nonneg_left h2 (by grind)
 exact W6 x1 x2
theorem Hu {f g:Nat->Rat}:∀ {n:Nat},(∀ i,i<n->0<=f i)->(∀ i,i<n->f i<=g i)->pr n f<=pr n g
 | 0,_,_=>W5
 | n+1,h0,h=>by
  unfold pr;exact qL (Hu (λi hi=>h0 i (by omega)) (λi hi=>h i (by omega))) (h n (by omega)) (mV (λi hi=>h0 i (by omega))) (h0 n (by omega))
theorem Ea (f g:Nat->Rat):∀ n:Nat,pr n (λi=>f i*g i)=pr n f*pr n g
 | 0=>by unfold pr; grind
 | n+1=>by unfold pr; rw [Ea f g n]; grind
abbrev Mt:=Nat->Nat->Rat
def skip (p i:Nat):Nat:=if i<p then i else i+1
def minor (M:Mt) (p:Nat):Mt:=λr c=>M (skip p r) (c+1)
def sg (i:Nat):Rat:=if i%2=0 then 1 else -1
def qZ:Nat->Mt->Rat
 | 0,_=>1
 | n+1,M=>sm (n+1) (λi=>sg i*M i 0*qZ n (minor M i))
def row (M:Mt) (p:Nat) (x:Nat->Rat):Mt:=λr=>if r=p then x else M r
theorem xY:∀ {n:Nat}{M M':Mt},(∀ r c,r<n->c<n->M r c=M' r c)->qZ n M=qZ n M'
 | 0,_,_,_=>rfl
 | n+1,M,M',h=>by
  unfold qZ;refine px (λi hi=>?_);rw [h i 0 hi (by omega),xY (λr c hr hc=>?_)]
  unfold minor;exact h _ _ (by unfold skip; split <;> omega) (by omega)
theorem vf (M:Mt) (p:Nat) (x:Nat->Rat):minor (row M p x) p=minor M p:=by
 funext r c
 unfold minor row;rw [Qs (by unfold skip; split <;> omega)]
theorem wV (M:Mt) {p i:Nat} (h:p<i) (x:Nat->Rat):minor (row M p x) i=row (minor M i) p (λc=>x (c+1)):=by
 funext r c
 unfold minor row
 by_cases e:r=p
 ·subst e
  rw [Qu (by unfold skip; rw [Qu h]),Qu rfl]
 ·rw [Qs (by unfold skip; split <;> omega),Qs e]
theorem wU (M:Mt) {p i:Nat} (h:i<p) (x:Nat->Rat):minor (row M p x) i=row (minor M i) (p-1) (λc=>x (c+1)):=by
 funext r c
 unfold minor row
 by_cases e:r=p-1
 ·subst e
  rw [Qu (by unfold skip; split <;> omega),Qu rfl]
 ·rw [Qs (by unfold skip; split <;> omega),Qs e]
theorem zf:∀ {n:Nat} (M:Mt) {p:Nat} (hp:p<n) (a b:Rat) (x y:Nat->Rat),qZ n (row M p (λc=>a*x c+b*y c))=a*qZ n (row M p x)+b*qZ n (row M p y)
 | 0,_,_,h,_,_,_,_=>by omega
 | n+1,M,p,hp,a,b,x,y=>by
  unfold qZ;rw [<- rN,<- rN,<- w6];refine px (λi hi=>?_);rcases TD i p with h | h | h
  ·rw [wU M h,wU M h,wU M h,zf (minor M i) (by omega) a b (λc=>x (c+1)) (λc=>y (c+1))]
   unfold row;rw [Qs (by omega),Qs (by omega),Qs (by omega)]
   grind
  ·subst h
   rw [vf,vf,vf];unfold row;rw [Qu rfl,Qu rfl,Qu rfl]
   grind
  ·rw [wV M h,wV M h,wV M h,zf (minor M i) (by omega) a b (λc=>x (c+1)) (λc=>y (c+1))]
   unfold row;rw [Qs (by omega),Qs (by omega),Qs (by omega)]
   grind
theorem L9 (i:Nat):sg (i+1) = - sg i:=by
 unfold sg
 by_cases h:i%2=0
 ·rw [Qu h,Qs (by omega)]
 ·rw [if_neg h,if_pos (by omega)]; grind
theorem A4:∀ {n:Nat}{M:Mt}{p:Nat},p+1<n->(∀ c,c<n->M p c=M (p+1) c)->qZ n M=0
 | 0,_,_,h,_=>by omega
 | n+1,M,p,hp,he=>by
  unfold qZ;rw [KM (p:=p) hp (λi hi h1 h2=>?_)]
  ·have:qZ n (minor M p)=qZ n (minor M (p+1)):=xY (λr c hr hc=>by
    unfold minor skip
    by_cases e:r=p
    ·subst e
     rw [Qs (by omega),Qu (by omega)]
     exact (he (c+1) (by omega)).symm
    ·by_cases e2:r<p
     ·rw [Qu e2,Qu (by omega)]
     ·rw [Qs e2,Qs (by omega)])
   rw [this,L9,he 0 (by omega)]
   grind
  ·have:qZ n (minor M i)=0:=by
    rcases TD i p with h | h | h
    ·refine A4 (p:=p-1) (by omega) (λc hc=>?_)
     unfold minor skip;rw [Qs (by omega),Qs (by omega),show p-1+1=p by omega]
     exact he (c+1) (by omega)
    ·exact absurd h h1
    ·refine A4 (p:=p) (by omega) (λc hc=>?_)
     unfold minor skip;rw [Qu (by omega),Qu (by omega)]
     exact he (c+1) (by omega)
   rw [this]; grind
theorem Cv (M:Mt) (p:Nat):row M p (M p)=M:=by
 funext r
 unfold row
 by_cases e:r=p
 ·subst e; rw [Qu rfl]
 ·rw [Qs e]
theorem wD (M:Mt) {p q:Nat} (h:p≠q) (x y:Nat->Rat):row (row M p x) q y=row (row M q y) p x:=by
 funext r
 unfold row
 by_cases e:r=q
 ·subst e; rw [Qu rfl,Qs (λe=>h e.symm),Qu rfl]
 ·rw [Qs e]
  by_cases e2:r=p
  ·rw [Qu e2,Qu e2]
  ·rw [Qs e2,Qs e2,Qs e]
theorem BM {n:Nat} (M:Mt) {p:Nat} (hp:p<n) (x y:Nat->Rat):qZ n (row M p (λc=>x c+y c))=qZ n (row M p x)+qZ n (row M p y):=by
 have:=zf M hp 1 1 x y;simp only [Rat.one_mul] at this;exact this
theorem JL {n:Nat} (M:Mt) {p:Nat} (hp:p+1<n) (x y:Nat->Rat):qZ n (row (row M p x) (p+1) y) = - qZ n (row (row M p y) (p+1) x):=by
 have two:∀ u:Nat->Rat,qZ n (row (row M p u) (p+1) u)=0:=λu=>A4 hp (λc hc=>by
  unfold row;rw [Qs (by omega),Qu rfl,Qu rfl])
 have h:=two (λc=>x c+y c);have hne:p≠p+1:=by omega
 rw [BM _ hp,wD M hne,wD M hne,BM _ (by omega),BM _ (by omega),<- wD M hne,<- wD M hne,<- wD M hne,<- wD M hne,two x,two y] at h
 grind
theorem DJ:∀ (k:Nat) {n:Nat}{M:Mt}{p q:Nat},q=p+1+k->q<n->(∀ c,M p c=M q c)->qZ n M=0
 | 0,n,M,p,q,hq,hn,he=>by
  subst hq;exact A4 (by omega) (λc _=>he c)
 | k+1,n,M,p,q,hq,hn,he=>by
  have e1:qZ n M=qZ n (row (row M (q-1) (M (q-1))) (q-1+1) (M (q-1+1))):=by
   rw [Cv,Cv]
  rw [e1,JL M (by omega)]
  have:qZ n (row (row M (q-1) (M (q-1+1))) (q-1+1) (M (q-1)))=0:=by
   refine DJ k (p:=p) (q:=q-1) (by omega) (by omega) (λc=>?_)
   unfold row;rw [Qs (by omega),Qs (by omega),Qs (by omega),Qu rfl,show q-1+1=q by omega]
   exact he c
  rw [this]; grind
theorem JJ {n:Nat}{M:Mt}{p q:Nat} (hp:p<n) (hq:q<n) (hne:p≠q) (he:∀ c,M p c=M q c):qZ n M=0:=by
 rcases Sm p q with h | h
 ·exact DJ (q-p-1) (p:=p) (q:=q) (by omega) hq he
 ·exact DJ (p-q-1) (p:=q) (q:=p) (by omega) hp (λc=>(he c).symm)
theorem DL {n:Nat} (M:Mt) {p:Nat} (hp:p<n):qZ n (row M p (λ_=>0))=0:=by
 have:=zf M hp 0 0 (λ_=>0) (λ_=>0);have e:(λc:Nat=>(0:Rat)*(λ_:Nat=>(0:Rat)) c+0*(λ_:Nat=>(0:Rat)) c)=λ_=>0:=by funext c; grind
 rw [e] at this;rw [this]; grind
theorem BN {n:Nat} (M:Mt) {p:Nat} (hp:p<n) (x:Nat->Rat) (Y:Mt):∀ k:Nat,qZ n (row M p (λc=>sm k (λj=>x j*Y j c)))=sm k (λj=>x j*qZ n (row M p (Y j)))
 | 0=>DL M hp
 | k+1=>by
  have e:(λc=>sm (k+1) (λj=>x j*Y j c))=λc=>1*sm k (λj=>x j*Y j c)+x k*Y k c:=by
   funext c
   show sm k (λj=>x j*Y j c)+x k*Y k c=_;rw [Rat.one_mul]
  rw [e,zf M hp 1 (x k) (λc=>sm k (λj=>x j*Y j c)) (Y k),BN M hp x Y k];show _=sm k _+_
  grind
theorem ES {n:Nat} (M:Mt) {p:Nat} (hp:p<n) (x:Nat->Rat):qZ n (row M p (λc=>sm n (λj=>x j*M j c)))=x p*qZ n M:=by
 rw [BN M hp,CA hp (λj hj hne=>?_),Cv];have:qZ n (row M p (M j))=0:=JJ hp hj (λe=>hne e.symm) (λc=>by
  unfold row;rw [Qu rfl,Qs hne])
 rw [this]; grind
theorem JG {n:Nat}{M:Mt}{x b:Nat->Rat} (h:∀ c,c<n->sm n (λj=>x j*M j c)=b c) {p:Nat} (hp:p<n):qZ n (row M p b)=x p*qZ n M:=by
 rw [<- ES M hp];refine xY (λr c hr hc=>?_);unfold row
 by_cases e:r=p
 ·rw [Qu e,Qu e]; exact (h c hc).symm
 ·rw [Qs e,Qs e]
theorem ET:∀ {n:Nat}{M:Mt},(∀ c,c<n->M n c=0)->qZ (n+1) M=M n n*qZ n M
 | 0,M,_=>by
  show (0:Rat)+sg 0*M 0 0*1=M 0 0*1;have:sg 0=1:=rfl;rw [this]; grind
 | n+1,M,h=>by
  have e1:qZ (n+1+1) M=sm (n+1) (λi=>sg i*M i 0*qZ (n+1) (minor M i))+sg (n+1)*M (n+1) 0*qZ (n+1) (minor M (n+1)):=rfl;have e2:qZ (n+1) M=sm (n+1) (λi=>sg i*M i 0*qZ n (minor M i)):=rfl;rw [e1,e2,h 0 (by omega),<- rN]
  have:sm (n+1) (λi=>sg i*M i 0*qZ (n+1) (minor M i))=sm (n+1) (λi=>M (n+1) (n+1)*(sg i*M i 0*qZ n (minor M i))):=by
   refine px (λi hi=>?_);have hs:skip i n=n+1:=by unfold skip; rw [Qs (by omega)]
   have hl:qZ (n+1) (minor M i)=minor M i n n*qZ n (minor M i):=ET (λc hc=>by
    unfold minor;rw [hs];exact h (c+1) (by omega))
   have hm:minor M i n n=M (n+1) (n+1):=by unfold minor; rw [hs]
   rw [hl,hm]; grind
  rw [this]; grind
def uy (q:Rat):Prop:=∃ z:Int,q=(z:Rat)
theorem zj {a b:Rat} (h:uy a) (k:uy b):uy (a+b):=by
 obtain ⟨x,rfl⟩:=h; obtain ⟨y,rfl⟩:=k
 exact ⟨x+y,(Rat.intCast_add x y).symm⟩
theorem sE {a b:Rat} (h:uy a) (k:uy b):uy (a*b):=by
 obtain ⟨x,rfl⟩:=h; obtain ⟨y,rfl⟩:=k
 exact ⟨x*y,(W3 x y).symm⟩
theorem Nn (i:Nat):uy (sg i):=by
 unfold sg
 split
 ·exact ⟨1,rfl⟩
 ·exact ⟨-1,rfl⟩
theorem Gh {f:Nat->Rat}:∀ {n:Nat},(∀ i,i<n->uy (f i))->uy (sm n f)
 | 0,_=>⟨0,rfl⟩
 | n+1,h=>by unfold sm; exact zj (Gh (λi hi=>h i (by omega))) (h n (by omega))
theorem DK:∀ {n:Nat}{M:Mt},(∀ r c,r<n->c<n->uy (M r c))->uy (qZ n M)
 | 0,_,_=>⟨1,rfl⟩
 | n+1,M,h=>by
  unfold qZ;exact Gh (λi hi=>sE (sE (Nn i) (h i 0 hi (by omega))) (DK (λr c hr hc=>h _ _ (by unfold skip; split <;> omega) (by omega))))
theorem Hw (v w:Nat->Rat) (hv:∀ i,0<=v i) (hw:∀ i,0<=w i):∀ n:Nat,sm (n+1) (λi=>v i*pr n (λr=>w (skip i r)))+pr (n+1) w<=pr (n+1) (λr=>v r+w r)
 | 0=>by
  show 0+v 0*1+1*w 0<=1*(v 0+w 0)
  grind
 | n+1=>by
  have ih:=Hw v w hv hw n;have e1:sm (n+1+1) (λi=>v i*pr (n+1) (λr=>w (skip i r)))=sm (n+1) (λi=>v i*pr (n+1) (λr=>w (skip i r)))+v (n+1)*pr (n+1) (λr=>w (skip (n+1) r)):=rfl;have e2:sm (n+1) (λi=>v i*pr (n+1) (λr=>w (skip i r)))=w (n+1)*sm (n+1) (λi=>v i*pr n (λr=>w (skip i r))):=by
   rw [<- rN];refine px (λi hi=>?_);have:pr (n+1) (λr=>w (skip i r))=pr n (λr=>w (skip i r))*w (n+1):=by
    show pr n _*w (skip i n)=_;rw [show skip i n=n+1 by unfold skip; rw [Qs (by omega)]]
   rw [this]; grind
  have e3:pr (n+1) (λr=>w (skip (n+1) r))=pr (n+1) w:=wC (λr hr=>by unfold skip; rw [Qu hr])
  have e4:pr (n+1+1) w=pr (n+1) w*w (n+1):=rfl;have e5:pr (n+1+1) (λr=>v r+w r)=pr (n+1) (λr=>v r+w r)*(v (n+1)+w (n+1)):=rfl;rw [e1,e2,e3,e4,e5];have s0:0<=sm (n+1) (λi=>v i*pr n (λr=>w (skip i r))):=tE (λi _=>Rat.mul_nonneg (hv i) (mV (λr _=>hw _)));have m1:=Rat.mul_le_mul_of_nonneg_right ih (show (0:Rat)<=v (n+1)+w (n+1) by have:=hv (n+1); have:=hw (n+1); grind)
  have m2:=W9 s0 (hv (n+1))
  grind
theorem F4:∀ {n:Nat}{M A:Mt},(∀ r c,0<=A r c)->(∀ r c,r<n->c<n->-A r c<=M r c/\M r c<=A r c)->-pr n (λr=>sm n (A r))<=qZ n M/\qZ n M<=pr n (λr=>sm n (A r))
 | 0,_,_,_,_=>by unfold qZ pr; exact ⟨by decide,by decide⟩
 | n+1,M,A,h0,h=>by
  have hsplit:∀ r,sm (n+1) (A r)=A r 0+sm n (λc=>A r (c+1)):=λr=>by
   have:∀ k,sm (k+1) (A r)=A r 0+sm k (λc=>A r (c+1)):=λk=>by
    induction k with
    | zero=>show 0+A r 0=A r 0+0; grind
    | succ k ih=>
     have e1:sm (k+1+1) (A r)=sm (k+1) (A r)+A r (k+1):=rfl;have e2:sm (k+1) (λc=>A r (c+1))=sm k (λc=>A r (c+1))+A r (k+1):=rfl;rw [e1,e2,ih]; grind
   exact this n
  have hw:∀ r,0<=sm n (λc=>A r (c+1)):=λr=>tE (λc _=>h0 r (c+1));have hp:=Hw (λr=>A r 0) (λr=>sm n (λc=>A r (c+1))) (λr=>h0 r 0) hw n;have hP:pr (n+1) (λr=>sm (n+1) (A r))=pr (n+1) (λr=>A r 0+sm n (λc=>A r (c+1))):=wC (λr _=>hsplit r);have hw1:=mV (n:=n+1) (f:=λr=>sm n (λc=>A r (c+1))) (λr _=>hw r);have term:∀ i,i<n+1->-(A i 0*pr n (λr=>sm n (λc=>A (skip i r) (c+1))))<=sg i*M i 0*qZ n (minor M i)/\sg i*M i 0*qZ n (minor M i)<=A i 0*pr n (λr=>sm n (λc=>A (skip i r) (c+1))):=λi hi=>by
   obtain ⟨d1,d2⟩:=F4 (n:=n) (M:=minor M i) (A:=λr c=>A (skip i r) (c+1)) (λr c=>h0 _ _) (λr c hr hc=>h _ _ (by unfold skip; split <;> omega) (by omega))
   obtain ⟨m1,m2⟩:=h i 0 hi (by omega)
   have key:∀ a b x y:Rat,-a<=x->x<=a->-b<=y->y<=b->-(a*b)<=x*y/\x*y<=a*b:=λa b x y h1 h2 h3 h4=>by
    have t1:=Rat.mul_nonneg (show (0:Rat)<=a-x by grind) (show (0:Rat)<=b-y by grind)
    have t2:=Rat.mul_nonneg (show (0:Rat)<=a+x by grind) (show (0:Rat)<=b+y by grind)
    have t3:=Rat.mul_nonneg (show (0:Rat)<=a-x by grind) (show (0:Rat)<=b+y by grind)
    have t4:=Rat.mul_nonneg (show (0:Rat)<=a+x by grind) (show (0:Rat)<=b-y by grind)
    constructor <;> grind
   obtain ⟨k1,k2⟩:=key _ _ _ _ m1 m2 d1 d2;unfold sg
   split
   ·constructor <;> grind
   ·constructor <;> grind
  rw [hP];have hle:sm (n+1) (λi=>A i 0*pr n (λr=>sm n (λc=>A (skip i r) (c+1))))<=pr (n+1) (λr=>A r 0+sm n (λc=>A r (c+1))):=by grind
  have up:qZ (n+1) M<=sm (n+1) (λi=>A i 0*pr n (λr=>sm n (λc=>A (skip i r) (c+1)))):=KL (λi hi=>(term i hi).2);have lo:sm (n+1) (λi=>(-1)*(A i 0*pr n (λr=>sm n (λc=>A (skip i r) (c+1)))))<=qZ (n+1) M:=KL (λi hi=>by have:=(term i hi).1; grind)
  rw [rN] at lo;constructor <;> grind
theorem JK {k:Nat}{M:Mt}{x:Nat->Rat} (hx:x k=1) (h0:∀ c,c<k->sm (k+1) (λj=>x j*M j c)=0):qZ (k+1) M=sm (k+1) (λj=>x j*M j k)*qZ k M:=by
 have h1:=ES M (Sd k) x;rw [hx,Rat.one_mul] at h1;rw [<- h1];have h2:qZ (k+1) (row M k (λc=>sm (k+1) (λj=>x j*M j c)))=(row M k (λc=>sm (k+1) (λj=>x j*M j c))) k k*qZ k (row M k (λc=>sm (k+1) (λj=>x j*M j c))):=ET (λc hc=>by
  unfold row;rw [Qu rfl];exact h0 c hc)
 rw [h2];have h3:qZ k (row M k (λc=>sm (k+1) (λj=>x j*M j c)))=qZ k M:=xY (λr c hr hc=>by
  unfold row;rw [Qs (by omega)])
 rw [h3];unfold row;rw [Qu rfl]
theorem F1 {k:Nat}{M:Mt}{x b:Nat->Rat} (hM:∀ r c,r<k->c<k->uy (M r c)) (hb:∀ c,c<k->uy (b c)) (h:∀ c,c<k->sm k (λj=>x j*M j c)=b c) {p:Nat} (hp:p<k):uy (x p*qZ k M):=by
 rw [<- JG h hp];refine DK (λr c hr hc=>?_);unfold row
 by_cases e:r=p
 ·rw [Qu e]; exact hb c hc
 ·rw [Qs e]; exact hM r c hr hc
theorem Eb {f:Nat->Rat}:∀ {n:Nat},(∀ i,i<n->1<=f i)->1<=pr n f
 | 0,_=>by unfold pr; decide
 | n+1,h=>by
  unfold pr;have h1:=Eb (n:=n) (λi hi=>h i (by omega))
  have h2:=h n (by omega)
  have:=qL h1 h2 (by decide) (by decide)
  grind
theorem Kx {f:Nat->Rat}{s:Rat} (hs:0<=s) {p:Nat}:∀ {n:Nat},p<n->(∀ i,i<n->1<=f i)->pr n (λr=>if r=p then s else f r)<=pr n f*s
 | 0,h,_=>by omega
 | n+1,h,h1=>by
  have hf:∀ i,i<n+1->0<=f i:=λi hi=>by have:=h1 i hi; grind
  have hp0:=mV (n:=n) (f:=f) (λi hi=>hf i (by omega))
  by_cases e:p=n
  ·subst e
   show pr p (λr=>if r=p then s else f r)*(if p=p then s else f p)<=pr p f*f p*s
   rw [Qu rfl];have e2:pr p (λr=>if r=p then s else f r)=pr p f:=wC (λi hi=>Qs (by omega))
   rw [e2];have hps:=W9 hp0 hs;have:=qL (W5 (a:=pr p f*s)) (h1 p (by omega)) hps (by decide)
   grind
  ·show pr n (λr=>if r=p then s else f r)*(if n=p then s else f n)<=pr n f*f n*s
   rw [Qs (λe2:n=p=>e e2.symm)];have hpn:p<n:=by omega
   have ih:=Kx (f:=f) hs hpn (λi hi=>h1 i (Nat.lt_succ_of_lt hi));have:=Rat.mul_le_mul_of_nonneg_right ih (hf n (by omega))
   grind
theorem Ib {k:Nat}{M A:Mt}{x b a:Nat->Rat}{S:Rat} (hA0:∀ r c,0<=A r c) (ha0:∀ c,0<=a c) (hM:∀ r c,r<k->c<k->-A r c<=M r c/\M r c<=A r c) (hb:∀ c,c<k->-a c<=b c/\b c<=a c)
  (h1:∀ r,r<k->1<=sm k (A r)) (hS:sm k a<=S) (h:∀ c,c<k->sm k (λj=>x j*M j c)=b c) {p:Nat} (hp:p<k):-(pr k (λr=>sm k (A r))*S)<=x p*qZ k M/\x p*qZ k M<=pr k (λr=>sm k (A r))*S:=by
 rw [<- JG h hp];obtain ⟨d1,d2⟩:=F4 (n:=k) (M:=row M p b) (A:=row A p a) (λr c=>by
  unfold row
  by_cases e:r=p
  ·rw [Qu e]; exact ha0 c
  ·rw [Qs e]; exact hA0 r c) (λr c hr hc=>by
  unfold row
  by_cases e:r=p
  ·rw [Qu e,Qu e]; exact hb c hc
  ·rw [Qs e,Qs e]; exact hM r c hr hc)
 have hs0:0<=sm k a:=tE (λc _=>ha0 c);have e1:pr k (λr=>sm k (row A p a r))=pr k (λr=>if r=p then sm k a else sm k (A r)):=wC (λr _=>by
  unfold row
  by_cases e:r=p
  ·rw [Qu e,Qu e]
  ·rw [Qs e,Qs e])
 rw [e1] at d1 d2;have h2:=Kx hs0 (p:=p) (n:=k) (f:=λr=>sm k (A r)) hp h1;have h3:=Rat.mul_le_mul_of_nonneg_left hS (mV (n:=k) (f:=λr=>sm k (A r)) (λr hr=>by have:=h1 r hr; grind))
 have h4:=Rat.le_trans h2 h3;constructor <;> grind
def dl (i j:Nat):Rat:=if i=j then 1 else 0
theorem ri (i:Nat):dl i i=1:=Qu rfl
theorem qx {i j:Nat} (h:i≠j):dl i j=0:=Qs h
structure Gj (n:Nat) (A:Mt) (k:Nat) (m:Mt):Prop where
 comb:∀ i c,i<n->c<n->m i c=sm n (λj=>m i (n+j)*A j c)
 right:∀ i j,i<n->j<n->k<=j->m i (n+j)=dl i j
 left:∀ i c,i<n->c<n->c<k->m i c=dl i c
def uV (k:Nat) (m:Mt):Mt:=λi c=>if i=k then m k c / m k k else m i c-m i k*(m k c / m k k)
theorem Gj.step {n:Nat}{A m:Mt}{k:Nat} (h:Gj n A k m) (hk:k<n) (hd:m k k≠0):Gj n A (k+1) (uV k m):=by
 have hk0:∀ c,c<k->m k c=0:=λc hc=>by rw [h.left k c hk (by omega) hc,qx (by omega)]
 have hkr:∀ j,j<n->k+1<=j->m k (n+j)=0:=λj hj hkj=>by rw [h.right k j hk hj (by omega),qx (by omega)]
 have hdiv:m k k / m k k=1:=by rw [W1]; exact W8 _ hd
 refine ⟨λi c hi hc=>?_,λi j hi hj hkj=>?_,λi c hi hc hck=>?_⟩
 ·have e1:=h.comb i c hi hc
  have e2:=h.comb k c hk hc;unfold uV
  by_cases e:i=k
  ·subst e
   simp only [if_true];have:(λj=>m i (n+j) / m i i*A j c)=λj=>(m i i)⁻¹*(m i (n+j)*A j c):=by funext j; rw [Rat.div_def]; grind
   rw [this,rN,<- e2,Rat.div_def]; grind
  ·simp only [Qs e]
   have:(λj=>(m i (n+j)-m i k*(m k (n+j) / m k k))*A j c)=λj=>m i (n+j)*A j c+(-(m i k*(m k k)⁻¹))*(m k (n+j)*A j c):=by funext j; rw [Rat.div_def]; grind
   rw [this,w6,rN,<- e1,<- e2,Rat.div_def]; grind
 ·unfold uV
  have e1:=hkr j hj hkj
  by_cases e:i=k
  ·subst e
   rw [if_pos rfl,e1,qx (by omega),Rat.div_def]; grind
  ·rw [if_neg e,e1,h.right i j hi hj (by omega),Rat.div_def]; grind
 ·unfold uV
  by_cases e:i=k
  ·subst e
   rw [Qu rfl]
   by_cases e2:c=i
   ·subst e2; rw [hdiv,ri]
   ·rw [hk0 c (by omega),qx (λe3=>e2 e3.symm),Rat.div_def]; grind
  ·rw [Qs e]
   by_cases e2:c=k
   ·subst e2; rw [hdiv,qx e]; grind
   ·rw [hk0 c (by omega),h.left i c hi hc (by omega),Rat.div_def]; grind
def Pd (n:Nat) (A:Mt):Prop:=∀ x:Nat->Rat,sm n (λc=>x c*sm n (λj=>x j*A j c))=0->∀ i,i<n->x i=0
theorem Gj.MN {n:Nat}{A m:Mt}{k:Nat} (h:Gj n A k m) (hp:Pd n A) (hk:k<n):m k k≠0:=by
 intro h0;have h1:=hp (λj=>m k (n+j)) (vH (λc hc=>by
  have e1:=(h.comb k c hk hc).symm;show m k (n+c)*sm n (λj=>m k (n+j)*A j c)=0;rw [e1];rcases TD c k with hck | hck | hck
  ·rw [h.left k c hk hc hck,qx (by omega)]; grind
  ·subst hck; rw [h0]; grind
  ·rw [h.right k c hk hc (by omega),qx (by omega)]; grind)) k hk
 have h2:=h.right k k hk hk (QI k);have h3:m k (n+k)=0:=h1;rw [h2,ri] at h3;exact absurd h3 (by decide)
theorem Gj.M8 {n:Nat}{A m:Mt}{k:Nat} (h:Gj n A k m) (hk:k<=n) {i:Nat} (hi:i<n) {c:Nat} (hc:c<n):m i c=sm k (λj=>m i (n+j)*A j c)+(if k<=i then A i c else 0):=by
 have key:∀ q,k<=q->q<=n->sm q (λj=>m i (n+j)*A j c)=sm k (λj=>m i (n+j)*A j c)+(if k<=i/\i<q then A i c else 0):=by
  intro q hq
  induction q with
  | zero=>
   intro _;obtain rfl:k=0:=by omega
   rw [if_neg (by omega)]; grind
  | succ q ih=>
   intro hqn
   by_cases e:k=q+1
   ·rw [<- e,if_neg (by omega)]; grind
   ·have e1:sm (q+1) (λj=>m i (n+j)*A j c)=sm q (λj=>m i (n+j)*A j c)+m i (n+q)*A q c:=rfl
    rw [e1,ih (by omega) (by omega),h.right i q hi (by omega) (by omega)]
    by_cases e2:i=q
    ·subst e2
     rw [ri,if_neg (by omega),if_pos ⟨by omega,by omega⟩]; grind
    ·rw [qx e2]
     by_cases e3:k<=i/\i<q
     ·rw [if_pos e3,if_pos ⟨e3.1,by omega⟩]; grind
     ·rw [if_neg e3,if_neg (by omega)]; grind
 rw [h.comb i c hi hc,key n hk (QI n)]
 by_cases e:k<=i
 ·rw [Qu ⟨e,hi⟩,Qu e]
 ·rw [Qs (λe2=>e e2.1),Qs e]
theorem Gj.qZ {n:Nat}{A m:Mt}{k:Nat} (h:Gj n A k m) (hk:k<n) {L:Nat->Rat} (hL:∀ i,i<n->L i≠0):Sim.qZ (k+1) (λr c=>L r*A r c)=L k*m k k*Sim.qZ k (λr c=>L r*A r c):=by
 have hc:∀ c,c<n->sm (k+1) (λj=>(L k*m k (n+j) / L j)*(L j*A j c))=L k*m k c:=λc hc=>by
  have e1:=h.M8 (Nat.le_of_lt hk) hk hc;rw [Qu (QI k)] at e1;have e2:sm (k+1) (λj=>(L k*m k (n+j) / L j)*(L j*A j c))=sm (k+1) (λj=>L k*(m k (n+j)*A j c)):=px (λj hj=>by
   have:=W8 (L j) (hL j (by omega))
   rw [Rat.div_def]; grind)
  rw [e2,rN];have e3:sm (k+1) (λj=>m k (n+j)*A j c)=sm k (λj=>m k (n+j)*A j c)+m k (n+k)*A k c:=rfl;rw [e3,h.right k k hk hk (Nat.le_refl k),ri,e1]; grind
 have h1:=JK (k:=k) (M:=λr c=>L r*A r c) (x:=λj=>L k*m k (n+j) / L j) (by
  rw [h.right k k hk hk (QI k),ri,Rat.mul_one,W1];exact W8 _ (hL k hk)) (λc hck=>by
  rw [hc c (by omega),h.left k c hk (by omega) hck,qx (by omega)]; grind)
 rw [h1,hc k hk]
structure Jc (n:Nat) (A:Mt) (L:Nat->Rat) (B:Mt) (R:Nat->Rat):Prop where
 li:∀ i,i<n->uy (L i)
 l1:∀ i,i<n->1<=L i
 ai:∀ i c,i<n->c<n->uy (L i*A i c)
 b0:∀ i c,0<=B i c
 b1:∀ i,i<n->1<=B i i
 ab:∀ i c,i<n->c<n->-B i c<=L i*A i c/\L i*A i c<=B i c
 rs:∀ i,i<n->sm n (B i)<=R i
theorem A9 {f:Nat->Rat} (h:∀ i,0<=f i) {k:Nat}:∀ {n:Nat},k<=n->sm k f<=sm n f
 | 0,hk=>by
  obtain rfl:k=0:=by omega
  exact W5
 | n+1,hk=>by
  by_cases e:k=n+1
  ·subst e; exact W5
  ·have h1:=A9 h (k:=k) (n:=n) (by omega)
   have h2:=h n;have h3:sm (n+1) f=sm n f+f n:=rfl;rw [h3]
   grind
theorem MS {f:Nat->Rat} (h:∀ i,0<=f i) {k p:Nat} (hp:p<k):f p<=sm k f:=by
 have h1:=A9 h (k:=p+1) (n:=k) (by omega)
 have h2:=tE (n:=p) (f:=f) (λi _=>h i);have h3:sm (p+1) f=sm p f+f p:=rfl
 grind
theorem Jc.NG {n:Nat}{A B:Mt}{L R:Nat->Rat} (h:Jc n A L B R) {k r:Nat} (hr:r<k) (hk:k<=n):1<=sm k (B r):=by
 have h1:=MS (h.b0 r) hr;have h2:=h.b1 r (by omega)
 grind
theorem Jc.R1 {n:Nat}{A B:Mt}{L R:Nat->Rat} (h:Jc n A L B R) {r:Nat} (hr:r<n):1<=R r:=by
 have h1:=h.NG hr (QI n);have h2:=h.rs r hr
 grind
theorem Hv {f:Nat->Rat}{k:Nat}:∀ {n:Nat},k<=n->(∀ i,i<n->1<=f i)->pr k f<=pr n f
 | 0,hk,_=>by
  obtain rfl:k=0:=by omega
  exact W5
 | n+1,hk,h=>by
  by_cases e:k=n+1
  ·subst e; exact W5
  ·have h1:=Hv (k:=k) (n:=n) (by omega) (λi hi=>h i (by omega))
   have h2:=qL (Rat.le_refl (a:=pr n f)) (h n (by omega)) (mV (λi hi=>by have:=h i (by omega); grind)) (by decide)
   have h3:pr (n+1) f=pr n f*f n:=rfl;rw [h3]
   grind
theorem Jc.prod {n:Nat}{A B:Mt}{L R:Nat->Rat} (h:Jc n A L B R) {k:Nat} (hk:k<=n):pr k (λr=>sm k (B r))<=pr n R:=by
 have h1:pr k (λr=>sm k (B r))<=pr k R:=Hu (λr hr=>by have:=h.NG hr hk; grind) (λr hr=>Rat.le_trans (A9 (h.b0 r) hk) (h.rs r (by omega)))
 exact W6 h1 (Hv hk (λi hi=>h.R1 hi))
theorem Jc.qZ {n:Nat}{A B:Mt}{L R:Nat->Rat} (h:Jc n A L B R) {k:Nat} (hk:k<=n):uy (Sim.qZ k (λr c=>L r*A r c))/\-pr n R<=Sim.qZ k (λr c=>L r*A r c)/\Sim.qZ k (λr c=>L r*A r c)<=pr n R:=by
 refine ⟨DK (λr c hr hc=>h.ai r c (by omega) (by omega)),?_⟩
 obtain ⟨d1,d2⟩:=F4 (n:=k) (M:=λr c=>L r*A r c) (A:=B) h.b0 (λr c hr hc=>h.ab r c (by omega) (by omega))
 have:=h.prod hk;constructor <;> grind
theorem Gj.num {n:Nat}{A B m:Mt}{L R:Nat->Rat}{k:Nat} (h:Gj n A k m) (s:Jc n A L B R) (hk:k<=n) {i p:Nat} (hi:i<n) (hp:p<k):
  ∃ N:Rat,uy N/\-(pr n R*R i)<=N/\N<=pr n R*R i/\(if k<=i then L i else 1)*m i (n+p)*Sim.qZ k (λr c=>L r*A r c)=N*L p:=by
 have hL:∀ j,j<n->L j≠0:=λj hj e=>by have:=s.l1 j hj; rw [e] at this; exact absurd this (by decide)
 have hx:∀ c,c<k->sm k (λj=>((if k<=i then L i else 1)*m i (n+j) / L j)*((λr c=>L r*A r c) j c))=if k<=i then -(L i*A i c) else dl i c:=λc hc=>by
  have e1:=h.M8 hk hi (c:=c) (by omega)
  have e2:sm k (λj=>((if k<=i then L i else 1)*m i (n+j) / L j)*((λr c=>L r*A r c) j c))=sm k (λj=>(if k<=i then L i else 1)*(m i (n+j)*A j c)):=px (λj hj=>by
   have:=W8 (L j) (hL j (by omega))
   simp only [W1]
   grind)
  rw [e2,rN];have e3:=h.left i c hi (by omega) hc
  by_cases e:k<=i
  ·rw [Qu e,Qu e]
   rw [Qu e,e3,qx (by omega)] at e1
   grind
  ·rw [Qs e,Qs e]
   rw [Qs e,e3] at e1
   grind
 have hb:∀ c,c<k->uy (if k<=i then -(L i*A i c) else dl i c):=λc hc=>by
  by_cases e:k<=i
  ·rw [Qu e]
   obtain ⟨z,hz⟩:=s.ai i c hi (by omega)
   exact ⟨-z,by rw [hz,W4]⟩
  ·rw [Qs e]
   unfold dl
   split
   ·exact ⟨1,rfl⟩
   ·exact ⟨0,rfl⟩
 have hB:∀ c,c<k->-(B i c)<=(if k<=i then -(L i*A i c) else dl i c)/\(if k<=i then -(L i*A i c) else dl i c)<=B i c:=λc hc=>by
  have h1:=s.ab i c hi (by omega)
  have h2:=s.b0 i c
  by_cases e:k<=i
  ·rw [Qu e]
   constructor <;> grind
  ·rw [Qs e]
   unfold dl
   split
   ·rename_i e2
    subst e2;have:=s.b1 i hi;constructor <;> grind
   ·constructor <;> grind
 have c1:=F1 (k:=k) (M:=λr c=>L r*A r c) (λr c hr hc=>s.ai r c (by omega) (by omega)) hb hx hp
 obtain ⟨c2,c3⟩:=Ib (k:=k) (M:=λr c=>L r*A r c) (A:=B) (a:=B i) (S:=R i) s.b0 (s.b0 i) (λr c hr hc=>s.ab r c (by omega) (by omega)) hB (λr hr=>s.NG hr hk) (W6 (A9 (s.b0 i) hk) (s.rs i hi)) hx hp
 have hP:=Rat.mul_le_mul_of_nonneg_right (s.prod hk) (show (0:Rat)<=R i by have:=s.R1 hi; grind)
 refine ⟨_,c1,by grind,by grind,?_⟩
 have:=W8 (L p) (hL p (by omega))
 rw [W1]
 grind
def qf (n:Nat) (x:Nat->Rat) (A:Mt):Rat:=sm n (λc=>x c*sm n (λj=>x j*A j c))
theorem KA (n:Nat) (x:Nat->Rat) (A A':Mt):qf n x (λj c=>A j c+A' j c)=qf n x A+qf n x A':=by
 unfold qf;rw [<- w6];refine px (λc _=>?_);have:sm n (λj=>x j*(A j c+A' j c))=sm n (λj=>x j*A j c)+sm n (λj=>x j*A' j c):=by
  rw [<- w6];exact px (λj _=>by grind)
 rw [this]; grind
theorem KB (n:Nat) (x e:Nat->Rat) (b:Rat):qf n x (λj c=>b*e j*e c)=b*(sm n (λj=>x j*e j)*sm n (λj=>x j*e j)):=by
 unfold qf;have h1:sm n (λc=>x c*sm n (λj=>x j*(b*e j*e c)))=sm n (λc=>(b*sm n (λj=>x j*e j))*(x c*e c)):=px (λc _=>by
  have:sm n (λj=>x j*(b*e j*e c))=sm n (λj=>(b*e c)*(x j*e j)):=px (λj _=>by grind)
  rw [this,rN]; grind)
 rw [h1,rN]; grind
def iK:List (Rat×(Nat->Rat))->Mt
 | []=>λ_ _=>0
 | be::l=>λj c=>be.1*be.2 j*be.2 c+iK l j c
theorem sq_nonneg (a:Rat):0<=a*a:=by
 rcases (Rat.le_total:(0:Rat)<=a\/a<=0) with h | h
 ·exact W9 h h
 ·have:=Rat.mul_nonneg (show (0:Rat)<=-a by grind) (show (0:Rat)<=-a by grind)
  grind
theorem B2 (n:Nat) (x:Nat->Rat):∀ (l:List (Rat×(Nat->Rat))),(∀ be ∈ l,0<be.1)->0<=qf n x (iK l)
 | [],_=>by
  have:qf n x (iK [])=0:=vH (λc _=>by
   rw [vH (λj _=>by show x j*0=0; grind)]; grind)
  rw [this]; exact W5
 | be::l,h=>by
  have h1:=B2 n x l (λb hb=>h b (Qw _ hb));have h2:=h be (Qq ..);have e:qf n x (iK (be::l))=be.1*(sm n (λj=>x j*be.2 j)*sm n (λj=>x j*be.2 j))+qf n x (iK l):=by
   rw [<- KB,<- KA]; rfl
  rw [e];have h3:=W9 (Rat.le_of_lt h2) (sq_nonneg (sm n (λj=>x j*be.2 j)))
  grind
theorem E4 (n:Nat) (x:Nat->Rat):∀ (l:List (Rat×(Nat->Rat))),(∀ be ∈ l,0<be.1)->qf n x (iK l)=0->∀ be ∈ l,sm n (λj=>x j*be.2 j)=0
 | [],_,_,be,hb=>by simp at hb
 | be::l,h,h0,b,hb=>by
  have h1:=B2 n x l (λb hb=>h b (Qw _ hb));have h2:=h be (Qq ..);have e:qf n x (iK (be::l))=be.1*(sm n (λj=>x j*be.2 j)*sm n (λj=>x j*be.2 j))+qf n x (iK l):=by
   rw [<- KB,<- KA]; rfl
  rw [e] at h0;have h3:=Rat.mul_nonneg (Rat.le_of_lt h2) (sq_nonneg (sm n (λj=>x j*be.2 j)));have h4:qf n x (iK l)=0:=by grind
  have h5:be.1*(sm n (λj=>x j*be.2 j)*sm n (λj=>x j*be.2 j))=0:=by grind
  rcases Q8.1 hb with rfl | hb
  ·rcases W7.1 h5 with h6 | h6
   ·rw [h6] at h2; exact absurd h2 (Rat.lt_irrefl)
   ·rcases W7.1 h6 with h7 | h7 <;> exact h7
  ·exact E4 n x l (λb hb=>h b (Qw _ hb)) h4 b hb
inductive Lk (l:List (Rat×Nat×Nat)) (u:Nat):Nat->Prop
 | refl:Lk l u u
 | step {b:Rat}{v w:Nat}:Lk l u v->((b,v,w) ∈ l\/(b,w,v) ∈ l)->Lk l u w
def nF (F:Nat->Nat) (e:Rat×Nat×Nat):Rat×(Nat->Rat):=(e.1,λj=>dl (F j) e.2.1-dl (F j) e.2.2)
theorem Oz {n:Nat}{F:Nat->Nat}{l:List (Rat×Nat×Nat)} (hb:∀ e ∈ l,0<e.1) (hF:∀ i j,i<n->j<n->F i=F j->i=j)
  (hr:∀ i,i<n->∃ r,(∀ j,j<n->F j≠r)/\Lk l (F i) r):Pd n (iK (l.map (nF F))):=by
 intro x h0 i hi;have hz:=E4 n x (l.map (nF F)) (λbe hbe=>by
  obtain ⟨e,he,rfl⟩:=Ra.1 hbe;exact hb e he) h0
 have hd:∀ p q:Nat,sm n (λj=>x j*(dl (F j) p-dl (F j) q))=sm n (λj=>x j*dl (F j) p)-sm n (λj=>x j*dl (F j) q):=λp q=>by
  have h1:sm n (λj=>x j*(dl (F j) p-dl (F j) q))=sm n (λj=>x j*dl (F j) p+(-1)*(x j*dl (F j) q)):=px (λj _=>by grind)
  rw [h1,w6,rN]; grind
 have he:∀ (b:Rat) (p q:Nat),(b,p,q) ∈ l->sm n (λj=>x j*dl (F j) p)=sm n (λj=>x j*dl (F j) q):=λb p q h=>by
  have h1:sm n (λj=>x j*(dl (F j) p-dl (F j) q))=0:=hz (nF F (b,p,q)) (Ra.2 ⟨_,h,rfl⟩);have h2:=hd p q
  grind
 have hl:∀ u v,Lk l u v->sm n (λj=>x j*dl (F j) u)=sm n (λj=>x j*dl (F j) v):=λu v h=>by
  induction h with
  | refl=>rfl
  | step _ h ih=>
   rcases h with h | h
   ·rw [ih]; exact he _ _ _ h
   ·rw [ih]; exact (he _ _ _ h).symm
 obtain ⟨r,hr1,hr2⟩:=hr i hi;have h1:=hl _ _ hr2;have h2:sm n (λj=>x j*dl (F j) r)=0:=vH (λj hj=>by rw [qx (hr1 j hj)]; grind)
 have h3:sm n (λj=>x j*dl (F j) (F i))=x i*dl (F i) (F i):=CA hi (λj hj hne=>by rw [qx (λe=>hne (hF j i hj hi e))]; grind)
 rw [h2,h3,ri] at h1
 grind
def uk (u:Nat):List (Rat×Nat×Nat)->Rat
 | []=>1
 | e::l=>(if e.2.1=u\/e.2.2=u then e.1 else 1)*uk u l
def v_:List (Rat×Nat×Nat)->Rat
 | []=>1
 | e::l=>e.1*v_ l
theorem A7 {u:Nat}:∀ {l:List (Rat×Nat×Nat)},(∀ e ∈ l,uy e.1)->uy (uk u l)
 | [],_=>⟨1,rfl⟩
 | e::l,h=>by
  unfold uk;refine sE ?_ (A7 (λe he=>h e (Qw _ he)))
  split
  ·exact h e (Qq ..)
  ·exact ⟨1,rfl⟩
theorem zA {u:Nat}:∀ {l:List (Rat×Nat×Nat)},(∀ e ∈ l,1<=e.1)->1<=uk u l
 | [],_=>W5
 | e::l,h=>by
  unfold uk;have h1:=zA (u:=u) (l:=l) (λe he=>h e (Qw _ he));have h2:=h e (Qq ..)
  split
  ·have:=qL h2 h1 (by decide) (by decide)
   grind
  ·grind
theorem BD:∀ {l:List (Rat×Nat×Nat)},(∀ e ∈ l,1<=e.1)->1<=v_ l
 | [],_=>W5
 | e::l,h=>by
  unfold v_;have h1:=BD (l:=l) (λe he=>h e (Qw _ he));have h2:=h e (Qq ..);have:=qL h2 h1 (by decide) (by decide)
  grind
theorem Eg {u:Nat}:∀ {l:List (Rat×Nat×Nat)},(∀ e ∈ l,uy e.1/\1<=e.1)->∀ e ∈ l,(e.2.1=u\/e.2.2=u)->∀ t:Rat,uy t->uy (uk u l*(t / e.1))
 | [],_,e,he,_,_,_=>by simp at he
 | d::l,h,e,he,hu,t,ht=>by
  have hl:∀ e ∈ l,uy e.1/\1<=e.1:=λe he=>h e (Qw _ he);unfold uk;rcases Q8.1 he with rfl | he
  ·rw [Qu hu]
   have hne:e.1≠0:=λe0=>by have:=(h e (Qq ..)).2; rw [e0] at this; exact absurd this (by decide)
   have:=Rat.mul_inv_cancel e.1 hne;have h1:e.1*uk u l*(t / e.1)=uk u l*t:=by rw [Rat.div_def]; grind
   rw [h1];exact sE (A7 (λe he=>(hl e he).1)) ht
  ·have h1:=Eg hl e he hu t ht
   have h2:(if d.2.1=u\/d.2.2=u then d.1 else 1)*uk u l*(t / e.1)=(if d.2.1=u\/d.2.2=u then d.1 else 1)*(uk u l*(t / e.1)):=Rat.mul_assoc ..
   rw [h2];refine sE ?_ h1
   split
   ·exact (h d (Qq ..)).1
   ·exact ⟨1,rfl⟩
theorem Aq {F:Nat->Nat}{q:Rat} (hq:1<=q) {p:Nat}:∀ {n:Nat},(∀ i j,i<n->j<n->F i=F j->i=j)->pr n (λi=>if F i=p then q else 1)<=q
 | 0,_=>hq
 | n+1,h=>by
  have ih:=Aq hq (p:=p) (n:=n) (λi j hi hj e=>h i j (by omega) (by omega) e)
  show pr n (λi=>if F i=p then q else 1)*(if F n=p then q else 1)<=q
  by_cases e:F n=p
  ·rw [Qu e]
   have:pr n (λi=>if F i=p then q else 1)=pr n (λ_=>1):=wC (λi hi=>Qs (λe2=>by
    have:=h i n (by omega) (by omega) (e2.trans e.symm)
    omega))
   rw [this];have h1:∀ k,pr k (λ_=>(1:Rat))=1:=λk=>by
    induction k with
    | zero=>rfl
    | succ k ih=>show pr k (λ_=>(1:Rat))*1=1; rw [ih]; grind
   rw [h1]; grind
  ·rw [if_neg e]; grind
theorem Fv {n:Nat}{F:Nat->Nat} (hF:∀ i j,i<n->j<n->F i=F j->i=j):∀ {l:List (Rat×Nat×Nat)},(∀ e ∈ l,1<=e.1)->pr n (λi=>uk (F i) l)<=v_ l*v_ l
 | [],_=>by
  have h1:∀ k,pr k (λ_=>(1:Rat))=1:=λk=>by
   induction k with
   | zero=>rfl
   | succ k ih=>show pr k (λ_=>(1:Rat))*1=1; rw [ih]; grind
  show pr n (λ_=>(1:Rat))<=1*1;rw [h1,Rat.one_mul]; exact W5
 | e::l,h=>by
  have hl:∀ e ∈ l,1<=e.1:=λe he=>h e (Qw _ he);have hq:=h e (Qq ..);have ih:=Fv hF hl;have e1:pr n (λi=>uk (F i) (e::l))=pr n (λi=>if e.2.1=F i\/e.2.2=F i then e.1 else 1)*pr n (λi=>uk (F i) l):=by rw [<- Ea]; rfl
  have e2:pr n (λi=>if e.2.1=F i\/e.2.2=F i then e.1 else 1)<=pr n (λi=>(if F i=e.2.1 then e.1 else 1)*(if F i=e.2.2 then e.1 else 1)):=Hu (λi _=>by split <;> grind) (λi _=>by
   have:=qL hq hq (by decide) (by decide)
   by_cases a:F i=e.2.1
   ·by_cases b:F i=e.2.2
    ·rw [Qu (.inl a.symm),Qu a,Qu b]
     have:=Rat.mul_le_mul_of_nonneg_left hq (show (0:Rat)<=e.1 by grind)
     grind
    ·rw [if_pos (.inl a.symm),if_pos a,if_neg b]; grind
   ·by_cases b:F i=e.2.2
    ·rw [if_pos (.inr b.symm),if_neg a,if_pos b]; grind
    ·rw [if_neg (λh=>h.elim (λh=>a h.symm) (λh=>b h.symm)),if_neg a,if_neg b]; grind)
  rw [Ea] at e2;have s1:=Aq (F:=F) hq (p:=e.2.1) hF;have s2:=Aq (F:=F) hq (p:=e.2.2) hF;have n1:0<=pr n (λi=>if F i=e.2.1 then e.1 else 1):=mV (λi _=>by split <;> grind)
  have n2:0<=pr n (λi=>if F i=e.2.2 then e.1 else 1):=mV (λi _=>by split <;> grind)
  have m1:=qL s1 s2 n1 n2;have n3:0<=pr n (λi=>if e.2.1=F i\/e.2.2=F i then e.1 else 1):=mV (λi _=>by split <;> grind)
  have n4:0<=pr n (λi=>uk (F i) l):=mV (λi _=>by have:=zA (u:=F i) hl; grind)
  have m2:=qL (W6 e2 m1) ih n3 n4;rw [e1];have e3:v_ (e::l)=e.1*v_ l:=rfl;rw [e3]
  grind
def yo (t:Rat) (e:Rat×Nat×Nat):Rat×Nat×Nat:=(t / e.1,e.2)
def pF (F:Nat->Nat) (e:Rat×Nat×Nat):Rat×(Nat->Rat):=(e.1,λj=>dl (F j) e.2.1+dl (F j) e.2.2)
theorem w9 (i j:Nat):dl i j=0\/dl i j=1:=by
 unfold dl
 split
 ·exact .inr rfl
 ·exact .inl rfl
theorem Hf (F:Nat->Nat) (i c:Nat):∀ {l:List (Rat×Nat×Nat)},(∀ e ∈ l,0<e.1)->-iK (l.map (pF F)) i c<=iK (l.map (nF F)) i c/\iK (l.map (nF F)) i c<=iK (l.map (pF F)) i c
 | [],_=>by
  show -(0:Rat)<=0/\(0:Rat)<=0;constructor <;> decide
 | e::l,h=>by
  obtain ⟨h1,h2⟩:=Hf F i c (l:=l) (λe he=>h e (List.mem_cons_of_mem _ he));have h3:=h e (List.mem_cons_self ..);have e1:iK ((e::l).map (nF F)) i c=e.1*(dl (F i) e.2.1-dl (F i) e.2.2)*(dl (F c) e.2.1-dl (F c) e.2.2)+iK (l.map (nF F)) i c:=rfl;have e2:iK ((e::l).map (pF F)) i c=e.1*(dl (F i) e.2.1+dl (F i) e.2.2)*(dl (F c) e.2.1+dl (F c) e.2.2)+iK (l.map (pF F)) i c:=rfl;rw [e1,e2];rcases w9 (F i) e.2.1 with a | a <;> rcases w9 (F i) e.2.2 with b | b <;> rcases w9 (F c) e.2.1 with u | u <;> rcases w9 (F c) e.2.2 with v | v <;> rw [a,b,u,v] <;> constructor <;> grind
theorem xv (F:Nat->Nat) (i c:Nat):∀ {l:List (Rat×Nat×Nat)},(∀ e ∈ l,0<e.1)->0<=iK (l.map (pF F)) i c
 | [],_=>W5
 | e::l,h=>by
  have h1:=xv F i c (l:=l) (λe he=>h e (List.mem_cons_of_mem _ he));have h3:=h e (List.mem_cons_self ..);have e2:iK ((e::l).map (pF F)) i c=e.1*(dl (F i) e.2.1+dl (F i) e.2.2)*(dl (F c) e.2.1+dl (F c) e.2.2)+iK (l.map (pF F)) i c:=rfl;rw [e2];rcases w9 (F i) e.2.1 with a | a <;> rcases w9 (F i) e.2.2 with b | b <;> rcases w9 (F c) e.2.1 with u | u <;> rcases w9 (F c) e.2.2 with v | v <;> rw [a,b,u,v] <;> grind
theorem Hg {F:Nat->Nat}{t:Rat} (ht:uy t) {l:List (Rat×Nat×Nat)} (hq:∀ e ∈ l,uy e.1/\1<=e.1) (i c:Nat):∀ {l':List (Rat×Nat×Nat)},(∀ e ∈ l',e ∈ l)->uy (uk (F i) l*iK ((l'.map (yo t)).map (nF F)) i c)
 | [],_=>by
  have:uk (F i) l*iK ((([]:List (Rat×Nat×Nat)).map (yo t)).map (nF F)) i c=0:=by show uk (F i) l*0=0; grind
  rw [this]; exact ⟨0,rfl⟩
 | e::l',h=>by
  have h1:=Hg (F:=F) ht hq i c (l':=l') (λe he=>h e (Qw _ he));have h2:=h e (Qq ..);have e1:iK (((e::l').map (yo t)).map (nF F)) i c=(t / e.1)*(dl (F i) e.2.1-dl (F i) e.2.2)*(dl (F c) e.2.1-dl (F c) e.2.2)+iK ((l'.map (yo t)).map (nF F)) i c:=rfl;have hI:∀ p q:Nat,uy (dl p q):=λp q=>by
   rcases w9 p q with a | a <;> rw [a]
   ·exact ⟨0,rfl⟩
   ·exact ⟨1,rfl⟩
  have hS:∀ {a b:Rat},uy a->uy b->uy (a-b):=λ{a b} ⟨x,hx⟩ ⟨y,hy⟩=>⟨x-y,by rw [hx,hy,Rat.intCast_sub]⟩
  have e2:uk (F i) l*((t / e.1)*(dl (F i) e.2.1-dl (F i) e.2.2)*(dl (F c) e.2.1-dl (F c) e.2.2)+iK ((l'.map (yo t)).map (nF F)) i c)=(uk (F i) l*(t / e.1))*(dl (F i) e.2.1-dl (F i) e.2.2)*(dl (F c) e.2.1-dl (F c) e.2.2)+uk (F i) l*iK ((l'.map (yo t)).map (nF F)) i c:=by grind
  rw [e1,e2];refine zj ?_ h1
  by_cases hu:e.2.1=F i\/e.2.2=F i
  ·exact sE (sE (Eg hq e h2 hu t ht) (hS (hI _ _) (hI _ _))) (hS (hI _ _) (hI _ _))
  ·have a:dl (F i) e.2.1=0:=qx (λe0=>hu (.inl e0.symm))
   have b:dl (F i) e.2.2=0:=qx (λe0=>hu (.inr e0.symm));rw [a,b];have:uk (F i) l*(t / e.1)*(0-0)*(dl (F c) e.2.1-dl (F c) e.2.2)=0:=by grind
   rw [this]; exact ⟨0,rfl⟩
def CD:List (Rat×Nat×Nat)->Rat
 | []=>0
 | e::l=>e.1+CD l
theorem uI (i j:Nat):0<=dl i j:=by rcases w9 i j with h | h <;> rw [h] <;> decide
theorem JQ (i j:Nat):dl i j<=1:=by rcases w9 i j with h | h <;> rw [h] <;> decide
theorem HF {F:Nat->Nat}{p:Nat}:∀ {n:Nat},(∀ i j,i<n->j<n->F i=F j->i=j)->sm n (λc=>dl (F c) p)<=1
 | 0,_=>by unfold sm; decide
 | n+1,h=>by
  have ih:=HF (F:=F) (p:=p) (n:=n) (λi j hi hj e=>h i j (by omega) (by omega) e)
  show sm n (λc=>dl (F c) p)+dl (F n) p<=1
  by_cases e:F n=p
  ·have:sm n (λc=>dl (F c) p)=0:=vH (λi hi=>qx (λe2=>by
    have:=h i n (by omega) (by omega) (e2.trans e.symm)
    omega))
   rw [this];have:=JQ (F n) p
   grind
  ·rw [qx e]; grind
theorem G0 {n:Nat}{F:Nat->Nat} (hF:∀ i j,i<n->j<n->F i=F j->i=j) (i:Nat):∀ {l:List (Rat×Nat×Nat)},(∀ e ∈ l,0<e.1)->sm n (iK (l.map (pF F)) i)<=4*CD l
 | [],_=>by
  have:sm n (iK (([]:List (Rat×Nat×Nat)).map (pF F)) i)=0:=vH (λ_ _=>rfl);rw [this];show (0:Rat)<=4*0
  grind
 | e::l,h=>by
  have ih:=G0 hF i (l:=l) (λe he=>h e (Qw _ he));have h3:=h e (Qq ..);have e1:sm n (iK ((e::l).map (pF F)) i)=(e.1*(dl (F i) e.2.1+dl (F i) e.2.2))*(sm n (λc=>dl (F c) e.2.1)+sm n (λc=>dl (F c) e.2.2))+sm n (iK (l.map (pF F)) i):=by
   rw [<- w6,<- rN,<- w6]; rfl
  have e2:CD (e::l)=e.1+CD l:=rfl;rw [e1,e2];have s1:=HF (F:=F) (p:=e.2.1) hF;have s2:=HF (F:=F) (p:=e.2.2) hF;have n1:=tE (n:=n) (f:=λc=>dl (F c) e.2.1) (λc _=>uI _ _);have n2:=tE (n:=n) (f:=λc=>dl (F c) e.2.2) (λc _=>uI _ _);have d1:=JQ (F i) e.2.1;have d2:=JQ (F i) e.2.2;have d3:=uI (F i) e.2.1;have d4:=uI (F i) e.2.2;have m0:e.1*(dl (F i) e.2.1+dl (F i) e.2.2)<=e.1*2:=Rat.mul_le_mul_of_nonneg_left (by grind) (Rat.le_of_lt h3)
  have m1:0<=e.1*(dl (F i) e.2.1+dl (F i) e.2.2):=Rat.mul_nonneg (Rat.le_of_lt h3) (by grind)
  have m2:=qL m0 (show sm n (λc=>dl (F c) e.2.1)+sm n (λc=>dl (F c) e.2.2)<=2 by grind) m1 (by grind)
  grind
theorem LN {n:Nat}{F:Nat->Nat}{l:List (Rat×Nat×Nat)}{t:Rat} (hF:∀ i j,i<n->j<n->F i=F j->i=j) (ht:uy t) (t0:0<t) (hq:∀ e ∈ l,uy e.1/\1<=e.1):
  Jc n (iK ((l.map (yo t)).map (nF F))) (λi=>uk (F i) l) (λi c=>uk (F i) l*iK ((l.map (yo t)).map (pF F)) i c+dl i c) (λi=>uk (F i) l*(4*CD (l.map (yo t)))+1):=by
 have hw:∀ e ∈ l.map (yo t),0<e.1:=λe he=>by
  obtain ⟨d,hd,rfl⟩:=List.mem_map.1 he;have h1:=(hq d hd).2;show 0<t / d.1;rw [Rat.div_def];exact Rat.mul_pos t0 (Rat.inv_pos.2 (by grind))
 have hs1:∀ i,1<=uk (F i) l:=λi=>zA (λe he=>(hq e he).2);have ha0:∀ i c,0<=uk (F i) l*iK ((l.map (yo t)).map (pF F)) i c:=λi c=>Rat.mul_nonneg (by have:=hs1 i; grind) (xv F i c hw)
 refine ⟨λi _=>A7 (λe he=>(hq e he).1),λi _=>hs1 i,λi c _ _=>Hg ht hq i c (λe he=>he),λi c=>?_,λi _=>?_,λi c _ _=>?_,λi hi=>?_⟩
 ·have:=ha0 i c
  have:=uI i c
  grind
 ·have:=ha0 i i
  rw [ri]; grind
 ·obtain ⟨h1,h2⟩:=Hf F i c hw
  have h3:0<=uk (F i) l:=by have:=hs1 i; grind
  have m1:=Rat.mul_le_mul_of_nonneg_left h1 h3;have m2:=Rat.mul_le_mul_of_nonneg_left h2 h3;have:=uI i c;constructor <;> grind
 ·rw [w6,rN]
  have h1:=G0 hF i hw;have h3:0<=uk (F i) l:=by have:=hs1 i; grind
  have m1:=Rat.mul_le_mul_of_nonneg_left h1 h3;have h2:sm n (λc=>dl i c)<=1:=by
   have e:sm n (λc=>dl i c)=sm n (λc=>dl ((λx:Nat=>x) c) i):=px (λc _=>by
    unfold dl
    by_cases a:i=c
    ·subst a; rfl
    ·rw [Qs a,Qs (λb=>a b.symm)])
   rw [e];exact HF (λi j _ _ e=>e)
  have e2:sm n (λc=>iK ((l.map (yo t)).map (pF F)) i c)=sm n (iK ((l.map (yo t)).map (pF F)) i):=rfl;rw [e2]
  grind
theorem G2 {q:Rat}:∀ {l:List (Rat×Nat×Nat)},(∀ e ∈ l,1<=e.1/\e.1<=q)->v_ l<=pr l.length (λ_=>q)
 | [],_=>W5
 | e::l,h=>by
  have h1:=G2 (q:=q) (l:=l) (λe he=>h e (List.mem_cons_of_mem _ he));have h2:=h e (List.mem_cons_self ..);have h3:=BD (l:=l) (λe he=>(h e (List.mem_cons_of_mem _ he)).1);have h4:=qL h1 h2.2 (by grind) (by grind)
  have e1:v_ (e::l)=e.1*v_ l:=rfl;have e2:pr (e::l).length (λ_=>q)=pr l.length (λ_=>q)*q:=rfl;rw [e1,e2]; grind
theorem Oy {n:Nat}{F:Nat->Nat}{l:List (Rat×Nat×Nat)}{s w:Rat} (hF:∀ i j,i<n->j<n->F i=F j->i=j) (hq:∀ e ∈ l,1<=e.1) (s0:0<=s) (hs:s<=w):
  pr n (λi=>uk (F i) l*s+1)<=v_ l*v_ l*pr n (λ_=>w+1):=by
 have h1:∀ i,1<=uk (F i) l:=λi=>zA hq;have p1:pr n (λi=>uk (F i) l*s+1)<=pr n (λi=>uk (F i) l*(w+1)):=Hu (λi _=>by
  have:=Rat.mul_nonneg (show (0:Rat)<=uk (F i) l by have:=h1 i; grind) s0
  grind) (λi _=>by
  have:=Rat.mul_le_mul_of_nonneg_left hs (show (0:Rat)<=uk (F i) l by have:=h1 i; grind)
  have:=h1 i
  grind)
 rw [Ea] at p1;have p2:=Fv hF hq;have n1:0<=pr n (λi=>uk (F i) l):=mV (λi _=>by have:=h1 i; grind)
 have n2:0<=pr n (λ_:Nat=>w+1):=mV (λi _=>by grind)
 exact W6 p1 (qL p2 W5 n1 n2)
def yw (n:Nat):List Nat:=(List.range n).map (·+1)
theorem w5 (n:Nat):(yw n).length=n:=by simp [yw]
theorem Eh {n i:Nat} (hi:i<n):(yw n)[i]? = some (i+1):=by simp [yw,hi]
theorem Cw {α:Type}{l:List α}{i:Nat}{a:α} (h:l[i]? = some a):l.set i a=l:=by
 apply R8;intro j
 by_cases e:i=j
 ·subst e
  rw [QQ (Qo.1 h).1,h]
 ·rw [QM e]
theorem A8 {n i:Nat} (hi:i<n):(yw n).set i (i+1)=yw n:=Cw (Eh hi)
theorem Fx {n i:Nat} (hi:i<n):((yw n).set ((i:Int)).toNat (i+1)).set ((i:Int)).toNat (i+1)=yw n:=by
 rw [Qn,A8 hi,A8 hi]
structure uF (rows:List (List LR)) (n w W:Nat) (m:Mt):Prop where
 len:rows.length=n
 row:∀ i,i<n->∃ l,rows[i]? = some l/\l.length=w/\∀ c,c<w->∃ y,l[c]? = some y/\pA y/\RL y W/\rv y=m i c
theorem uF.congr {rows:List (List LR)}{n w W:Nat}{m m':Mt} (h:uF rows n w W m) (e:∀ i c,i<n->c<w->m i c=m' i c):uF rows n w W m':=by
 refine ⟨h.len,λi hi=>?_⟩;obtain ⟨l,h1,h2,h3⟩:=h.row i hi;refine ⟨l,h1,h2,λc hc=>?_⟩;obtain ⟨y,y1,y2,y3,y4⟩:=h3 c hc;exact ⟨y,y1,y2,y3,by rw [y4,e i c hi hc]⟩
theorem uF.mono {rows:List (List LR)}{n w W W':Nat}{m:Mt} (h:uF rows n w W m) (e:W<=W'):uF rows n w W' m:=by
 refine ⟨h.len,λi hi=>?_⟩;obtain ⟨l,h1,h2,h3⟩:=h.row i hi;refine ⟨l,h1,h2,λc hc=>?_⟩;obtain ⟨y,y1,y2,y3,y4⟩:=h3 c hc;exact ⟨y,y1,y2,y3.mono e,y4⟩
theorem uF.set {rows:List (List LR)}{n w W:Nat}{m:Mt} (h:uF rows n w W m) {i c:Nat} (hi:i<n) (hc:c<w) {e:LR} (he:pA e) (hW:RL e W):
  uF (rows.set i (((rows[i]?).getD []).set c e)) n w W (λi' c'=>if i'=i/\c'=c then rv e else m i' c'):=by
 refine ⟨by rw [RH]; exact h.len,λi' hi'=>?_⟩
 obtain ⟨l,h1,h2,h3⟩:=h.row i' hi'
 by_cases e1:i=i'
 ·subst e1
  refine ⟨l.set c e,by rw [h1,QQ (by rw [h.len]; exact hi)]; rfl,by rw [RH]; exact h2,λc' hc'=>?_⟩
  by_cases e2:c=c'
  ·subst e2
   exact ⟨e,by rw [QQ (by omega)],he,hW,by rw [Qu ⟨rfl,rfl⟩]⟩
  ·obtain ⟨y,y1,y2,y3,y4⟩:=h3 c' hc'
   exact ⟨y,by rw [QM e2]; exact y1,y2,y3,by rw [Qs (λhh=>e2 hh.2.symm)]; exact y4⟩
 ·refine ⟨l,by rw [QM e1]; exact h1,h2,λc' hc'=>?_⟩
  obtain ⟨y,y1,y2,y3,y4⟩:=h3 c' hc';exact ⟨y,y1,y2,y3,by rw [Qs (λhh=>e1 hh.1.symm)]; exact y4⟩
theorem Hk (rows:List (List LR)) (i:Nat):((([]::rows:List (List LR))[i+1]?).getD [])=(rows[i]?).getD []:=rfl
theorem Nw (rows:List (List LR)) (i:Nat) (l:List LR):([]::rows:List (List LR)).set (i+1) l=[]::rows.set i l:=rfl
theorem uF.KG {rows:List (List LR)}{n w W:Nat}{m:Mt} (h:uF rows n w W m) {i:Nat} (hi:i<n):((([]::rows:List (List LR))[i+1]?).getD []).length=w:=by
 obtain ⟨l,h1,h2,_⟩:=h.row i hi;rw [Hk,h1]; exact h2
theorem pQ {R:Type}{Q:R->Prop}{n i:Nat} (hi:i<n) {f:Nat->Option R} (h:Gd (f (i+1)) Q):Gd (idx (yw n) (i:Int) f) Q:=
 Gd.ix (by omega) (by rw [Qn]; exact Eh hi) h
theorem s6 {R:Type}{Q:R->Prop}{rows:List (List LR)}{n w W:Nat}{m:Mt} (h:uF rows n w W m) {i c:Nat} (hi:i<n) (hc:c<w) {f:LR->Option R}
  (hk:∀ y,pA y->RL y W->rv y=m i c->Gd (f y) Q):Gd (idx ((([]::rows:List (List LR))[i+1]?).getD []) (c:Int) f) Q:=by
 obtain ⟨l,h1,h2,h3⟩:=h.row i hi;obtain ⟨y,y1,y2,y3,y4⟩:=h3 c hc;refine Gd.ix (y:=y) (by omega) ?_ (hk y y2 y3 y4)
 rw [Hk,h1,Qn]; exact y1
theorem xQ {r:LR} (h:pA r):decide (cX r=0)=decide (rv r=0):=by
 unfold cX;rw [Xa,sign_zero h.n,HD h]
theorem L5 {a b:LR} (ha:pA a) (hb:pA b) (h0:rv b≠0) {A B:Nat} (la:RL a A) (lb:RL b B) (hz:A+B<=800000):
  Gd (qz a b) (λr=>pA r/\RL r (A+B)/\rv r=rv a / rv b):=by
 have:=la.1; have:=la.2; have:=lb.1; have:=lb.2
 have hb0:nv b.N.words≠0:=λe=>h0 ((HD hb).2 e);unfold qz;refine Gd.eQ (vR ha.n hb.d (by omega)) (λx hx=>Gd.eQ (vR ha.d hb.n (by omega)) (λz hz'=>?_))
 refine Gd.eQ (xM hx.1 hz'.1 (Gq hz'.2.2 ha.nz hb0) (by omega) (by omega)) (λr hr=>Gd.ret ⟨hr.1,⟨by omega,by omega⟩,?_⟩)
 rw [hr.2.2.2,hx.2.2,hz'.2.2];unfold rv;rw [W1,Rat.inv_divInt,Rat.divInt_mul_divInt]
end Go.Sim
namespace Go.Sim
open Go
open _root_.Go.IntKind (i64 u64 u32 u8)
theorem Fz {a:LI} (h:sZ a):(0<fD a↔0<gP a)/\(fD a<0↔gP a<0):=by
 have hz:=wW h.wf h.tp;unfold fD gP
 by_cases h1:a.words=[]
 ·have h0:nv a.words=0:=hz.2 h1
  have hm:a.minus=false:=by
   cases hm:a.minus
   ·rfl
   ·exact absurd h1 (h.sign hm)
  simp [h1,hm,nv]
 ·have h0:nv a.words≠0:=λe=>h1 (hz.1 e)
  have hl:a.words.length≠0:=λe=>h1 (QU e);rw [Qs (by simp; exact h1)]
  cases hm:a.minus
  ·simp; omega
  ·simp; omega
theorem C2 {a b c d:Int} (hb:0<b) (hd:0<d):Rat.divInt a b<Rat.divInt c d↔a*d<c*b:=by
 rw [<- Rat.not_le,<- Int.not_le];refine not_congr ?_;have e:=Rat.divInt_sub_divInt a c (d₁:=b) (d₂:=d) (by omega) (by omega)
 have k:=W0 (a:=a*d-c*b) (b:=b*d) (Int.mul_pos hb hd);rw [<- e] at k;constructor
 ·intro h
  have:0<=Rat.divInt a b-Rat.divInt c d:=by grind
  have:=k.1 this;omega
 ·intro h
  have:0<=Rat.divInt a b-Rat.divInt c d:=k.2 (by omega)
  grind
theorem pA.JR {a:LR} (h:pA a):0<gP a.D:=by
 rw [qy h.pos];have:=h.nz;omega
theorem Ec {a b:LR} (ha:pA a) (hb:pA b) {A B:Nat} (la:RL a A) (lb:RL b B) (hz:A+B<=800000):
  Gd (mZ a b) (λr=>(0<r↔rv b<rv a)/\(r<0↔rv a<rv b)):=by
 have:=la.1; have:=la.2; have:=lb.1; have:=lb.2
 unfold mZ rW;refine Gd.eQ (vR ha.n hb.d (by omega)) (λx hx=>Gd.eQ (vR hb.n ha.d (by omega)) (λy hy=>?_))
 refine Gd.eQ (P:=λr=>(0<r↔rv b<rv a)/\(r<0↔rv a<rv b)) (Gd.eQ (Lw hx.1 hy.1 (by omega) (by omega)) (λz hz'=>Gd.ret ?_)) (λr hr=>Gd.ret hr)
 have s:=Fz hz'.1;rw [hz'.2.2,hx.2.2,hy.2.2] at s;unfold rv;rw [C2 hb.JR ha.JR,C2 ha.JR hb.JR];exact ⟨s.1.trans ⟨λh=>by omega,λh=>by omega⟩,s.2.trans ⟨λh=>by omega,λh=>by omega⟩⟩
theorem Dl {a:LR} (h:pA a):cX a<0↔rv a<0:=by
 have k:=W0 (a:=gP a.N) (b:=gP a.D) h.JR;unfold cX rv;rw [(Fz h.n).2,<- Rat.not_le,k];omega
def NF (q:Rat):Rat:=if q<0 then -q else q
theorem Hz {a:LR} (ha:pA a) {A:Nat} (la:RL a A) (hz:A<=800000):Gd (oH a) (λr=>pA r/\RL r A/\rv r=NF (rv a)):=by
 unfold oH NF;refine Gd.ite (λh=>?_) (λh=>?_)
 ·have h:rv a<0:=(Dl ha).1 (Qr h)
  refine Gd.eQ (HB ha la hz) (λr hr=>Gd.ret ?_);rw [Qu h]; exact hr
 ·have h:¬ rv a<0:=λe=>QB h ((Dl ha).2 e)
  rw [Qs h];exact Gd.ret ⟨ha,la,rfl⟩
abbrev EB:=(List Nat×List (List LR))×List Int
theorem yc {j w:Nat} (hj:j<=w) (hw:w<=1000):i64.wrap ((j:Int)+1)=((j+1:Nat):Int):=by
 rw [bV ⟨by omega,by omega⟩]; omega
theorem Pp {n w W k i:Nat}{l:List Int}{sg:List Nat}{p:Int}{k1 k2:Nat}{nxO:List (List LR)->Option EB}{f:LR}{rows:List (List LR)}{m:Mt}{F:Rat}{Q:EB->Prop}
  (hSG:(sg.set ((l.length:Int):Int).toNat k1).set (p:Int).toNat k2=yw n) (hl:l.length=k) (hk:k<n) (hi:i<n) (hw:w<=1000) (hkw:k<=w) (hW:W<=100000) (hik:i≠k)
  (hf:pA f) (hfl:RL f W) (fv:rv f=F) (hM:uF rows n w W m) (hb:∀ c,k<=c->c<w->RB (m i c-F*m k c) W)
  (hnx:∀ rows',uF rows' n w W (λi' c=>if i'=i/\k<=c then m i c-F*m k c else m i' c)->Gd (nxO ([]::rows')) Q):
  Gd (iN (λs n'=>oX l sg p k1 k2 nxO i f s.1 s.2 n') fY ((k:Int),[]::rows)) Q:=by
 refine Gd.iN (λs=>∃ (j:Nat) (rows':List (List LR)),s=((j:Int),[]::rows')/\k<=j/\j<=w/\uF rows' n w W (λi' c=>if i'=i/\k<=c/\c<j then m i c-F*m k c else m i' c)) (λs=>((w:Int)-s.1).toNat) ?_ fY _
  ⟨k,rows,rfl,QI _,hkw,hM.congr (λi' c _ _=>by rw [Qs (by omega)])⟩ (by simp only [fY]; omega)
 rintro _ nx ⟨j,rows',rfl,hkj,hjw,hM'⟩ hnext;show Gd (oX l sg p k1 k2 nxO i f (j:Int) ([]::rows') nx) Q;unfold oX;simp only [hSG];refine pQ hi ?_;rw [hM'.KG hi]
 by_cases hj:j<w
 ·refine Gd.ite (λ_=>?_) (λh=>absurd (Xc.1 h) (by simp; omega))
  rw [hl];refine pQ hk (s6 hM' hk hj (λy hy hyl hyv=>?_));rw [Qs (by omega)] at hyv
  refine Gd.ite (λhs=>?_) (λhs=>?_)
  ·refine pQ hi (pQ hi (s6 hM' hi hj (λyi gi gil giv=>pQ hk (s6 hM' hk hj (λyr gr grl grv=>?_)))))
   rw [Qs (by omega)] at giv grv
   refine Gd.eQ (zy hf gr hfl grl (by omega)) (λmm hmm=>Gd.eQ (ya gi hmm.1 gil hmm.2.1 (by omega)) (λr hr=>s6 hM' hi hj (λ_ _ _ _=>?_)))
   have hv:rv r=m i j-F*m k j:=by rw [hr.2.2,hmm.2.2,giv,grv,fv]
   have hrl:RL r W:=hr.1.rb (by rw [hv]; exact hb j hkj hj)
   unfold mT;rw [yc hjw hw];have h2:=hM'.set hi hj hr.1 hrl;refine hnext _ ⟨j+1,_,rfl,by omega,by omega,h2.congr (λi' c _ _=>?_)⟩ (by simp only; omega)
   by_cases e:i'=i/\c=j
   ·obtain ⟨rfl,rfl⟩:=e
    rw [Qu ⟨rfl,rfl⟩,Qu (by omega),hv]
   ·rw [Qs e]
    by_cases e2:i'=i/\k<=c/\c<j
    ·rw [Qu e2,Qu (by omega)]
    ·rw [Qs e2,Qs (by omega)]
  ·have h0:m k j=0:=by
    have:=xQ hy;rw [hyv] at this;have hs2:decide (cX y=0)=true:=by simpa using hs
    rw [this] at hs2;exact Qr hs2
   unfold mT;rw [yc hjw hw];refine hnext _ ⟨j+1,rows',rfl,by omega,by omega,hM'.congr (λi' c _ _=>?_)⟩ (by simp only; omega)
   by_cases e:i'=i/\c=j
   ·obtain ⟨rfl,rfl⟩:=e
    rw [if_neg (by omega),if_pos (by omega),h0]; grind
   ·by_cases e2:i'=i/\k<=c/\c<j
    ·rw [Qu e2,Qu (by omega)]
    ·rw [Qs e2,Qs (by omega)]
 ·refine Gd.ite (λh=>absurd (Qr h) (by omega)) (λ_=>?_)
  unfold kJ;refine hnx rows' (hM'.congr (λi' c _ hc=>?_))
  by_cases e:i'=i/\k<=c
  ·rw [Qu e,Qu (by omega)]
  ·rw [Qs e,Qs (by omega)]
theorem Po {n w W k:Nat}{l:List Int}{sg:List Nat}{p:Int}{k1 k2:Nat}{K:List (List LR)->Option EB}{rows:List (List LR)}{m:Mt}{Q:EB->Prop}
  (hSG:(sg.set ((l.length:Int):Int).toNat k1).set (p:Int).toNat k2=yw n) (hl:l.length=k) (hk:k<n) (hw:w<=1000) (hkw:k<w) (hW:W<=100000)
  (hM:uF rows n w W m) (hz:∀ c,c<k->m k c=0) (hb:∀ i c,i<n->i≠k->k<=c->c<w->RB (m i c-m i k*m k c) W)
  (hK:∀ rows',uF rows' n w W (λi c=>if i=k then m k c else m i c-m i k*m k c)->Gd (K ([]::rows')) Q):
  Gd (kL (λkk s n'=>qU l (k:Int) sg p k1 k2 kk s n') K n 0 ([]::rows)) Q:=by
 refine Gd.kL (λM i s=>i+M=n/\∃ rows':List (List LR),s=[]::rows'/\uF rows' n w W (λi' c=>if i'<i/\i'≠k then m i' c-m i' k*m k c else m i' c)) ?_ ?_ n 0 _
  ⟨by omega,rows,rfl,hM.congr (λi' c _ _=>by rw [Qs (by omega)])⟩
 ·rintro M i _ nx ⟨hiM,rows',rfl,hM'⟩ hnx
  have hi:i<n:=by omega
  unfold qU;simp only [hSG];rw [hl];refine Gd.ite (λh=>?_) (λh=>?_)
  ·have e:i=k:=by have:=Qr h; omega
   subst e;unfold kJ;refine hnx _ ⟨by omega,rows',rfl,hM'.congr (λi' c _ _=>?_)⟩
   by_cases e:i'<i/\i'≠i
   ·rw [Qu e,Qu (by omega)]
   ·rw [Qs e,Qs (by omega)]
  ·have hik:i≠k:=λe=>by rw [e] at h; simp at h
   refine pQ hi (s6 hM' hi hkw (λy hy hyl hyv=>?_));rw [Qs (by omega)] at hyv
   refine Gd.ite (λhs=>?_) (λhs=>?_)
   ·have h0:m i k=0:=by
     have:=xQ hy;rw [hyv] at this;rw [this] at hs;exact Qr hs
    unfold kJ;refine hnx _ ⟨by omega,rows',rfl,hM'.congr (λi' c _ _=>?_)⟩
    by_cases e:i'=i
    ·subst e
     rw [if_neg (by omega),if_pos ⟨by omega,hik⟩,h0]; grind
    ·by_cases e2:i'<i/\i'≠k
     ·rw [Qu e2,Qu (by omega)]
     ·rw [Qs e2,Qs (by omega)]
   ·refine pQ hi (s6 hM' hi hkw (λf hf hfl hfv=>?_))
    rw [Qs (by omega)] at hfv
    refine Pp (m:=λi' c=>if i'<i/\i'≠k then m i' c-m i' k*m k c else m i' c) hSG hl hk hi hw (by omega) hW hik hf hfl hfv hM' (λc h1 h2=>?_) (λrows'' hM''=>?_)
    ·rw [Qs (by omega),Qs (by omega)]
     exact hb i c hi hik h1 h2
    ·refine hnx _ ⟨by omega,rows'',rfl,hM''.congr (λi' c _ _=>?_)⟩
     by_cases e:i'=i
     ·subst e
      rw [Qu (show i'<i'+1/\i'≠k from ⟨by omega,hik⟩),Qs (show ¬ (i'<i'/\i'≠k) by omega),Qs (show ¬ (k<i'/\k≠k) by omega)]
      by_cases e3:k<=c
      ·rw [Qu ⟨rfl,e3⟩]
      ·rw [if_neg (by omega),hz c (by omega)]; grind
     ·rw [Qs (show ¬ (i'=i/\k<=c) from λhh=>e hh.1)]
      by_cases e2:i'<i/\i'≠k
      ·rw [Qu e2,Qu (by omega)]
      ·rw [Qs e2,Qs (by omega)]
 ·rintro i _ ⟨hi,rows',rfl,hM'⟩
  refine hK rows' (hM'.congr (λi' c hi' _=>?_))
  by_cases e:i'=k
  ·subst e; rw [Qs (by omega),Qu rfl]
  ·rw [Qu ⟨by omega,e⟩,Qs e]
end Go.Sim
